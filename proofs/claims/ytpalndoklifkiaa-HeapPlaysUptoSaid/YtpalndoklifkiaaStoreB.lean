/-
  The walks of the document's heap, second part: Free, NewStore, Led.
-/
import Derived.Test.YtpalndoklifkiaaStoreA
namespace Go.Proofs.Ytpalndoklifkiaa
open Go.RowKit

theorem snew_bad (n : Int) (w : World) (h : n < 0 ∨ 4000 < n) : Calls Try.prog 5 #[.int .i64 n] w fun e w' => e = .returned (.tuple #[.pointer none, .int .i64 14]) ∧ w = w' := by
  rcases h with h | h
  · go_enter Try.func5, Try.ntmps5
    go_wp2_with fail
    go_ret2
    exact ⟨rfl, rfl⟩
  · have h' : ¬ n < 0 := by omega
    go_enter Try.func5, Try.ntmps5
    go_wp2_with fail
    go_ret2
    exact ⟨rfl, rfl⟩

theorem snew_any (n : Nat) (w : World) (hn : n ≤ 4000) : Calls Try.prog 5 #[.int .i64 n] w fun e w' => e = .returned (.tuple #[.pointer (some ⟨w.heap.size, 0, none⟩), .int .i64 0]) ∧ Touch [] w w' ∧ SRep w' w.heap.size n (.slice none 0 0) [] [] := by
  go_enter Try.func5, Try.ntmps5
  go_wp2_with fail
  go_ret2
  refine ⟨rfl, (by repeat (first | exact Touch.refl _ _ | exact Touch.nil (by assumption) | assumption | refine Touch.drew ?_ | refine Touch.drewN ?_ _ | refine Touch.alloc ?_ _ | (refine Touch.setNew _ ?_ ?_; rotate_left; focus (simp; done)) | (refine Touch.setCell ?_ ?_ _; rotate_left; focus (simp; done)) | (refine Touch.setRow ?_ ?_ _; rotate_left; focus (simp; done)))), ⟨(by repeat (first | assumption | (refine blk.newAt _ _ _ ?_; (simp; done)) | refine blk.drew ?_ | refine blk.drewN ?_ _ | refine blk.alloc ?_ _ | (refine blk.setNe ?_ ?_ _; rotate_left; focus (simp; done)))), World.ownsRow_nil _ _ _ _, trivial, by simp, by simp, by simp, by simp⟩⟩

/-- How many cells the blocks take. -/
def sused (bl : List BlkM) : Nat := (bl.map fun b => b.cells.length + 1).sum

theorem sfree_nil (w : World) : Calls Try.prog 10 #[.pointer none] w fun e w' => e = .returned (.int .i64 0) ∧ w = w' := by
  go_enter Try.func10, Try.ntmps10
  go_wp2_with fail
  go_ret
  exact ⟨rfl, rfl⟩

theorem sused_take (bl : List BlkM) (k : Nat) (hk : k < bl.length) : sused (bl.take (k + 1)) = sused (bl.take k) + ((blkAt bl k).cells.length + 1) := by
  unfold sused
  rw [List.take_succ_eq_append_getElem hk, List.map_append, List.sum_append, ← blkAt_get _ _ hk]; simp

theorem sused_le (bl : List BlkM) (hs : ∀ b, b ∈ bl → b.cells.length ≤ 300) : sused bl ≤ bl.length * 301 := by
  induction bl with
  | nil => simp [sused]
  | cons b bl ih =>
    have h1 := ih (fun x hx => hs x (by simp [hx]))
    have h2 := hs b (by simp)
    simp only [sused, List.map_cons, List.sum_cons, List.length_cons] at *
    omega

def SFreeRel (w : World) (room n : Nat) (bl : List BlkM) (v i : Value) (wr : World) : Prop :=
  ∃ k : Nat, k ≤ n ∧ i = .int .i64 k ∧ v = .int .i64 ((room : Int) - (sused (bl.take k) : Nat)) ∧ Touch [] w wr

set_option maxHeartbeats 400000 in
theorem sfree_any {w : World} {sp room : Nat} {sv : Value} {hs : List Hdr} {bl : List BlkM} (H : SRep w sp room sv hs bl) (hroom : room ≤ 4000) :
    Calls Try.prog 10 #[.pointer (some ⟨sp, 0, none⟩)] w fun e w' => e = .returned (.int .i64 ((room : Int) - (sused bl : Nat))) ∧ Touch [] w w' := by
  have h0 := H.h0
  have h1 := H.h1
  rcases H.form with ⟨rfl, rfl, rfl⟩ | ⟨g, cap, rfl⟩
  · clear H
    go_enter Try.func10, Try.ntmps10
    go_wp2_with fail
    refine wp_loop_rounds 1 ?_
    rw [rounds_succ]
    go_wp2_with fail
    go_ret
    exact ⟨by simp [sused], Touch.refl _ _⟩
  · have HH := Lib.hid H
    have hfew := H.few
    have HL := Lib.hid H.tell.length
    clear H
    generalize hn : hs.length = n at *
    have HN := Lib.hid hn
    clear hn
    go_enter Try.func10, Try.ntmps10
    go_wp2_with fail
    go_loopw [3, 17] (fun v i wr => SFreeRel w room n bl v i wr) (fun _ i _ => n - (intOf i).toNat)
    case atStart => exact ⟨0, by omega, rfl, by simp [sused], Touch.refl _ _⟩
    case round =>
      obtain ⟨k, hk, rfl, rfl, hT⟩ := hrel
      have HT := Lib.hid hT
      have hlb := HL.out
      by_cases hlt : k < n
      · obtain ⟨g', cap', gk, ck, e1, _, c0, c1, _, c2, _, hg, _⟩ := HH.out.at k (by have := HN.out; omega)
        have hm := HH.out.le k (by have := HN.out; omega)
        simp only [Value.slice.injEq, Option.some.injEq, Addr.mk.injEq, and_true] at e1
        obtain ⟨rfl, _⟩ := e1
        have d0 := hT.cell c0 (by simp)
        have d1 := hT.cell c1 (by simp)
        have d2 := hT.cell c2 (by simp)
        have hu := sused_le (bl.take k) (fun b hb => HH.out.small b (List.mem_of_mem_take hb))
        have hu2 : sused (bl.take k) ≤ 4000 * 301 := Nat.le_trans hu (Nat.mul_le_mul_right _ (by rw [List.length_take]; omega))
        have HE := Lib.hid (sused_take bl k (by omega))
        clear hT c0 c1 c2 hu
        generalize blkAt bl k = B at *
        obtain ⟨Ba, Bs, Bc⟩ := B
        simp only at *
        generalize Bc.length = m at *
        generalize sused (bl.take k) = q at *
        go_wp2_with fail
        go_roundw
        case rel =>
          refine ⟨k + 1, by omega, by go_num, ?_, ?_⟩
          · rw [HE.out]; congr 1; omega
          · have := HT.out
            exact (by repeat (first | exact Touch.refl _ _ | exact Touch.nil (by assumption) | assumption | refine Touch.drew ?_ | refine Touch.drewN ?_ _ | refine Touch.alloc ?_ _ | (refine Touch.setNew _ ?_ ?_; rotate_left; focus (simp; done)) | (refine Touch.setCell ?_ ?_ _; rotate_left; focus (simp; done)) | (refine Touch.setRow ?_ ?_ _; rotate_left; focus (simp; done))))
        case measure => simp [intOf] <;> omega
      · go_wp2_with fail
        go_ret
        have hn := HN.out
        refine ⟨?_, HT.out⟩
        rw [List.take_of_length_le (by omega)]; rfl

/-- Does one of the cells name the place a? -/
def namesB (l : List Pair) (a : Int) : Bool := l.any fun c => c.1 == 6 && c.2 == a
theorem namesB_true (l : List Pair) (a : Int) (k : Nat) (hk : k < l.length) (h1 : (pairAt l k).1 = 6) (h2 : (pairAt l k).2 = a) : namesB l a = true := by
  rw [pairAt_get _ _ hk] at h1 h2
  simp only [namesB, List.any_eq_true]
  exact ⟨l[k], List.getElem_mem hk, by simp [h1, h2]⟩
theorem namesB_false (l : List Pair) (a : Int) (h : ∀ k, k < l.length → ¬ ((pairAt l k).1 = 6 ∧ (pairAt l k).2 = a)) : namesB l a = false := by
  simp only [namesB, List.any_eq_false]
  intro x hx
  obtain ⟨j, hj, rfl⟩ := List.mem_iff_getElem.1 hx
  have := h j hj
  rw [pairAt_get _ _ hj] at this
  simpa using this

theorem lies_fst {w : World} {b o : Nat} {l : List Pair} (h : lies w ⟨b, o, none⟩ (pairs l)) (k : Nat) (hk : k < l.length) : w.cell? ⟨b, o + k * 2, none⟩ = some (.int .i64 (pairAt l k).1) := by
  rw [← addr_add]
  exact h _ _ (by rw [pairs_fst _ _ hk, pairAt_get _ _ hk])
theorem lies_snd {w : World} {b o : Nat} {l : List Pair} (h : lies w ⟨b, o, none⟩ (pairs l)) (k : Nat) (hk : k < l.length) : w.cell? ⟨b, o + k * 2 + 1, none⟩ = some (.int .i64 (pairAt l k).2) := by
  rw [show o + k * 2 + 1 = o + (k * 2 + 1) from by omega, ← addr_add]
  exact h _ _ (by rw [pairs_snd _ _ hk, pairAt_get _ _ hk])

theorem names_nil (a : Int) (w : World) : Calls Try.prog 30 #[.slice none 0 0, .int .i64 a] w fun e w' => e = .returned (.bool false) ∧ w = w' := by
  go_enter Try.func30, Try.ntmps30
  go_wp2_with fail
  refine wp_loop_rounds 1 ?_
  rw [rounds_succ]
  go_wp2_with fail
  go_ret
  exact ⟨rfl, rfl⟩

def NamesRel (w : World) (l : List Pair) (a : Int) (m : Nat) (i : Value) (wr : World) : Prop :=
  ∃ k : Nat, k ≤ m ∧ i = .int .i64 k ∧ (∀ j, j < k → ¬ ((pairAt l j).1 = 6 ∧ (pairAt l j).2 = a)) ∧ Touch [] w wr

set_option maxHeartbeats 400000 in
theorem names_row {w : World} {b o m c : Nat} {l : List Pair} (h : lies w ⟨b, o, none⟩ (pairs l)) (hm : l.length = m) (hmax : m ≤ 4611686018427387904) (a : Int) :
    Calls Try.prog 30 #[.slice (some ⟨b, o, none⟩) m c, .int .i64 a] w fun e w' => e = .returned (.bool (namesB l a)) ∧ Touch [] w w' := by
  have HL := Lib.hid h
  have HM := Lib.hid hm
  clear h hm
  go_enter Try.func30, Try.ntmps30
  go_wp2_with fail
  go_loopw [9] (fun i wr => NamesRel w l a m i wr) (fun i _ => m - (intOf i).toNat)
  case atStart => exact ⟨0, by omega, rfl, by intro j hj; omega, Touch.refl _ _⟩
  case round =>
    obtain ⟨k, hk, rfl, hJ, hT⟩ := hrel
    have HT := Lib.hid hT
    have HJ := Lib.hid hJ
    clear hJ
    by_cases hlt : k < m
    · have c0 := hT.cell (lies_fst HL.out k (by have := HM.out; omega)) (by simp)
      have c1 := hT.cell (lies_snd HL.out k (by have := HM.out; omega)) (by simp)
      have HN1 : Hid ((pairAt l k).1 = 6 → (pairAt l k).2 = a → namesB l a = true) := namesB_true l a k (by have := HM.out; omega)
      have HJ2 : Hid (¬ ((pairAt l k).1 = 6 ∧ (pairAt l k).2 = a) → NamesRel w l a m (.int .i64 ((k : Int) + 1)) (wr.alloc (.cells #[.int .i64 (pairAt l k).1, .int .i64 (pairAt l k).2] 36))) := by
        intro hn
        refine ⟨k + 1, by omega, by go_num, ?_, HT.out.alloc _⟩
        intro j hj
        by_cases hjk : j = k
        · subst hjk; exact hn
        · exact HJ.out j (by omega)
      clear hT
      generalize pairAt l k = P at *
      obtain ⟨t, x⟩ := P
      simp only at *
      by_cases ht : t = 6
      · subst ht
        by_cases hx : x = a
        · subst hx
          have hxx : (x == x) = true := by simp
          go_wp2_with fail
          go_ret
          refine ⟨?_, ?_⟩
          · rw [HN1.out (by simp) (by simp)]; rfl
          · have := HT.out
            exact (by repeat (first | exact Touch.refl _ _ | exact Touch.nil (by assumption) | assumption | refine Touch.drew ?_ | refine Touch.drewN ?_ _ | refine Touch.alloc ?_ _ | (refine Touch.setNew _ ?_ ?_; rotate_left; focus (simp; done)) | (refine Touch.setCell ?_ ?_ _; rotate_left; focus (simp; done)) | (refine Touch.setRow ?_ ?_ _; rotate_left; focus (simp; done))))
        · have hxx : (x == a) = false := by simpa using hx
          have HY := Lib.hid (HJ2.out (by simp [hx]))
          clear hx
          go_wp2_with fail
          go_roundw
          case rel => exact HY.out
          case measure => simp [intOf] <;> omega
      · have htt : (t == 6) = false := by simpa using ht
        have HY := Lib.hid (HJ2.out (by simp [ht]))
        clear ht
        go_wp2_with fail
        go_roundw
        case rel => exact HY.out
        case measure => simp [intOf] <;> omega
    · go_wp2_with fail
      go_ret
      have hm := HM.out
      refine ⟨?_, HT.out⟩
      rw [namesB_false l a (fun j hj => HJ.out j (by omega))]; rfl
end Go.Proofs.Ytpalndoklifkiaa
