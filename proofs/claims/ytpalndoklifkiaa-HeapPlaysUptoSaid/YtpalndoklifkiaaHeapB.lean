/-
  The walks of package heap, second part: Alloc.
-/
import Derived.Test.YtpalndoklifkiaaHeapA
namespace Go.Proofs.Ytpalndoklifkiaa
open Go.RowKit

theorem run_clear_row {P : Program} (w : World) (t e ty : TypeId) (z : Value) (ht : P.underlying t = some (.slice e)) (hv : ∀ w, (zeroValue e).run P w = .ok z w) (b o n c : Nat) (hn : 0 < n) (zs cur : List Value)
    (hz : (Builtin.zeroCells z.cells n).toList = zs) (h1 : ∀ v ∈ zs, v.oneCell' = true) (hg : blk w b cur e) (hfit : o + zs.length ≤ cur.length) :
    (Builtin.clear_ #[t] ty #[.slice (some ⟨b, o, none⟩) n c]).run P w = .ok (.tuple #[]) (w.setRow b (cur.take o ++ zs ++ cur.drop (o + zs.length)).toArray) := by
  have hst := run_storeCells_at P b o e zs 0 cur.toArray w hg (by simpa using hfit) h1
  simp only [Nat.add_zero] at hst
  obtain ⟨m, rfl⟩ : ∃ m, n = m + 1 := ⟨n - 1, by omega⟩
  simp [Builtin.clear_, run_underlying ht, hv, hz, hst]

theorem zeroCells_pair (n : Nat) : (Builtin.zeroCells #[.int .i64 0, .int .i64 0] n).toList = pairs (List.replicate n (0, 0)) := by
  apply List.ext_getElem?
  intro j
  by_cases hj : j < n * 2
  · have h2 : j % 2 = 0 ∨ j % 2 = 1 := by omega
    have hl : (pairs (List.replicate n ((0 : Int), (0 : Int))))[j]? = some (.int .i64 0) := by
      rcases h2 with h | h
      · obtain ⟨k, rfl⟩ : ∃ k, j = k * 2 := ⟨j / 2, by omega⟩
        rw [pairs_fst _ k (by simp; omega)]; simp
      · obtain ⟨k, rfl⟩ : ∃ k, j = k * 2 + 1 := ⟨j / 2, by omega⟩
        rw [pairs_snd _ k (by simp; omega)]; simp
    rw [hl]
    simp [Builtin.zeroCells, hj]
    rcases h2 with h | h <;> simp [h]
  · rw [List.getElem?_eq_none (by simp [Builtin.zeroCells]; omega), List.getElem?_eq_none (by simp; omega)]

theorem pairs_one (cs : List Pair) : ∀ v ∈ pairs cs, v.oneCell' = true := by
  induction cs with
  | nil => simp
  | cons c cs ih => intro v hv; simp only [pairs_cons, List.mem_cons] at hv; rcases hv with rfl | rfl | hv <;> first | rfl | exact ih v hv

/-- The cells behind an Alloc at f. -/
def cleared (cs : List Pair) (f n : Nat) : List Pair := cs.take f ++ List.replicate n (0, 0) ++ cs.drop (f + n)

theorem findGo_fits (sz : List Nat) (room n fr at_ : Nat) (hf : fr ≤ at_) : ∀ f, findGo sz room n fr at_ = some f → f + n ≤ room := by
  induction fr, at_ using findGo.induct sz room n with
  | case1 fr a hlt hs ih =>
    intro f h; rw [findGo, if_pos hlt, if_pos hs] at h
    exact ih (Nat.le_refl _) f h
  | case2 fr a hlt hs he =>
    intro f h; rw [findGo, if_pos hlt, if_neg hs, if_pos he] at h
    simp at h; omega
  | case3 fr a hlt hs he ih =>
    intro f h; rw [findGo, if_pos hlt, if_neg hs, if_neg he] at h
    exact ih (by omega) f h
  | case4 fr a hlt => intro f h; rw [findGo, if_neg hlt] at h; simp at h

theorem alloc_nil (shape n : Int) (w : World) : Calls Try.prog 13 #[.pointer none, .int .i64 shape, .int .i64 n] w fun e w' => e = .returned (.tuple #[.int .i64 0, .int .i64 17]) ∧ w = w' := by
  go_enter Try.func13, Try.ntmps13
  go_wp2_with fail
  go_ret2
  exact ⟨rfl, rfl⟩

set_option maxHeartbeats 400000 in
theorem alloc_kind (bh : Nat) (shape n : Int) (w : World) (hs : shape < 1 ∨ 4 < shape) : Calls Try.prog 13 #[.pointer (some ⟨bh, 0, none⟩), .int .i64 shape, .int .i64 n] w fun e w' => e = .returned (.tuple #[.int .i64 0, .int .i64 13]) ∧ w = w' := by
  rcases hs with hs | hs
  · go_enter Try.func13, Try.ntmps13
    go_wp2_with fail
    go_ret2
    exact ⟨rfl, rfl⟩
  · have hs' : ¬ shape < 1 := by omega
    go_enter Try.func13, Try.ntmps13
    go_wp2_with fail
    go_ret2
    exact ⟨rfl, rfl⟩

set_option maxHeartbeats 400000 in
theorem alloc_range (bh : Nat) (shape n : Int) (w : World) (h1 : 1 ≤ shape) (h2 : shape ≤ 4) (hs : n < 0 ∨ 300 < n) : Calls Try.prog 13 #[.pointer (some ⟨bh, 0, none⟩), .int .i64 shape, .int .i64 n] w fun e w' => e = .returned (.tuple #[.int .i64 0, .int .i64 14]) ∧ w = w' := by
  rcases hs with hs | hs
  · go_enter Try.func13, Try.ntmps13
    go_wp2_with fail
    go_ret2
    exact ⟨rfl, rfl⟩
  · have hs' : ¬ n < 0 := by omega
    go_enter Try.func13, Try.ntmps13
    go_wp2_with fail
    go_ret2
    exact ⟨rfl, rfl⟩

set_option maxHeartbeats 400000 in
theorem alloc_full {w : World} {bh bc bs bp room : Nat} {cs : List Pair} {sz : List Nat} {sh : List Int} (H : HRep w bh bc bs bp room cs sz sh) (shape : Int) (n : Nat) (h1 : 1 ≤ shape) (h2 : shape ≤ 4) (hn : n ≤ 300)
    (hfit : ∀ k, k < room → k + natAt sz k ≤ room) (hf : findGo sz room (n + 1) 0 0 = none) :
    Calls Try.prog 13 #[.pointer (some ⟨bh, 0, none⟩), .int .i64 shape, .int .i64 n] w fun e w' => e = .returned (.tuple #[.int .i64 0, .int .i64 15]) ∧ w = w' := by
  have HP := find_any H (n + 1) (by omega) hfit
  rw [hf] at HP
  have HP' := Lib.hid HP
  clear HP hf hfit H
  go_enter Try.func13, Try.ntmps13
  go_wp2_with (go_at_call 24; refine HP'.out.mono ?_; rintro e w' ⟨rfl, rfl⟩; unfold found)
  go_ret2
  exact ⟨rfl, rfl⟩

set_option maxHeartbeats 400000 in
theorem alloc_some {w : World} {bh bc bs bp room : Nat} {cs : List Pair} {sz : List Nat} {sh : List Int} (H : HRep w bh bc bs bp room cs sz sh) (shape : Int) (n f : Nat) (h1 : 1 ≤ shape) (h2 : shape ≤ 4) (hn : n ≤ 300)
    (hfit : ∀ k, k < room → k + natAt sz k ≤ room) (hf : findGo sz room (n + 1) 0 0 = some f) :
    Calls Try.prog 13 #[.pointer (some ⟨bh, 0, none⟩), .int .i64 shape, .int .i64 n] w fun e w' => e = .returned (.tuple #[.int .i64 f, .int .i64 0]) ∧ Touch [bc, bs, bp] w w' ∧
      HRep w' bh bc bs bp room (cleared cs f (n + 1)) (sz.set f (n + 1)) (sh.set f shape) := by
  have HP := find_any H (n + 1) (by omega) hfit
  have hff := findGo_fits sz room (n + 1) 0 0 (by omega) f hf
  rw [hf] at HP
  have HP' := Lib.hid HP
  have hroom := H.le
  have h0 := H.h0
  have lc := H.lc
  obtain ⟨W1, hcl, T1, H1⟩ : ∃ W1, (∀ ty, (Builtin.clear_ #[37] ty #[.slice (some ⟨bc, f * 2, none⟩) (f + n + 1 - f) (room - f)]).run Try.prog w = .ok (.tuple #[]) W1) ∧ Touch [bc] w W1 ∧ HRep W1 bh bc bs bp room (cleared cs f (n + 1)) sz sh := by
    have e : (pairs cs).take (f * 2) ++ pairs (List.replicate (n + 1) (0, 0)) ++ (pairs cs).drop (f * 2 + (pairs (List.replicate (n + 1) (0, 0))).length) = pairs (cleared cs f (n + 1)) := by
      rw [pairs_length, List.length_replicate, ← Nat.add_mul, pairs_take, pairs_drop, cleared, pairs_append, pairs_append]
    refine ⟨w.setRow bc (pairs (cleared cs f (n + 1))).toArray, fun ty => ?_, ?_, ?_⟩
    · rw [show f + n + 1 - f = n + 1 from by omega, ← e]
      exact run_clear_row w _ _ ty (.agg #[.int .i64 0, .int .i64 0]) Try.underlying37 (fun w => by kernel_rfl) bc (f * 2) (n + 1) _ (by omega) _ _ (zeroCells_pair _) (pairs_one _) H.cells (by simp; omega)
    · exact (Touch.refl _ _).setRow (by simp) _
    · exact ⟨H.head.setRowNe H.ne1 _, H.cells.setRow _, H.sizes.setRowNe (Ne.symm H.ne4) _, H.shapes.setRowNe (Ne.symm H.ne5) _, by simp [cleared]; omega, H.ls, H.lp, H.le, H.ne1, H.ne2, H.ne3, H.ne4, H.ne5, H.ne6⟩
  have h1 := H1.h1
  have h2 := H1.h2
  have h3 := H1.size f (by omega)
  have h4 := H1.shape f (by omega)
  have f3 : W1.frozen? ⟨bs, f, none⟩ = false := H1.sizes.frozen _
  have f4 : W1.frozen? ⟨bp, f, none⟩ = false := H1.shapes.frozen _
  have n1 := H.ne2
  have n2 := H.ne3
  have n3 := H.ne6
  have HH := Lib.hid H1
  clear HP hf hfit H lc H1
  go_enter Try.func13, Try.ntmps13
  go_wp2_with (go_at_call 24; refine HP'.out.mono ?_; rintro e w' ⟨rfl, rfl⟩; unfold found)
  go_region
  go_wp2
  go_ret2
  have T2 : Touch [bc, bs, bp] w W1 := T1.mono (by simp)
  refine ⟨rfl, T2.trans ?_, ?_⟩
  · exact (by repeat (first | exact Touch.refl _ _ | exact Touch.nil (by assumption) | assumption | refine Touch.drew ?_ | refine Touch.drewN ?_ _ | refine Touch.alloc ?_ _ | (refine Touch.setNew _ ?_ ?_; rotate_left; focus (simp; done)) | (refine Touch.setCell ?_ ?_ _; rotate_left; focus (simp; done)) | (refine Touch.setRow ?_ ?_ _; rotate_left; focus (simp; done))))
  · have hm := (HH.out.mark f (n + 1) shape)
    rw [Int.natCast_add] at hm
    exact hm.touch (F := []) (by repeat (first | exact Touch.refl _ _ | exact Touch.nil (by assumption) | assumption | refine Touch.drew ?_ | refine Touch.drewN ?_ _ | refine Touch.alloc ?_ _ | (refine Touch.setNew _ ?_ ?_; rotate_left; focus (simp; done)) | (refine Touch.setCell ?_ ?_ _; rotate_left; focus (simp; done)) | (refine Touch.setRow ?_ ?_ _; rotate_left; focus (simp; done)))) (by simp) (by simp) (by simp) (by simp)

theorem free_nil (w : World) : Calls Try.prog 9 #[.pointer none] w fun e w' => e = .returned (.int .i64 0) ∧ w = w' := by
  go_enter Try.func9, Try.ntmps9
  go_wp2_with fail
  go_ret
  exact ⟨rfl, rfl⟩

theorem sum_take_le (sz : List Nat) (room : Nat) (hl : sz.length = room) (hfit : ∀ k, k < room → k + natAt sz k ≤ room) (k : Nat) (hk : k ≤ room) : (sz.take k).sum ≤ k * room := by
  induction k with
  | zero => simp
  | succ k ih =>
    have h1 := ih (by omega)
    have h2 := hfit k (by omega)
    rw [List.take_succ_eq_append_getElem (by omega), List.sum_append, ← natAt_get _ _ (by omega)]
    simp only [List.sum_cons, List.sum_nil]
    have : (k + 1) * room = k * room + room := by rw [Nat.add_mul]; omega
    omega

set_option maxHeartbeats 400000 in
theorem free_any {w : World} {bh bc bs bp room : Nat} {cs : List Pair} {sz : List Nat} {sh : List Int} (H : HRep w bh bc bs bp room cs sz sh)
    (hfit : ∀ k, k < room → k + natAt sz k ≤ room) :
    Calls Try.prog 9 #[.pointer (some ⟨bh, 0, none⟩)] w fun e w' => e = .returned (.int .i64 ((room : Int) - (sz.sum : Nat))) ∧ w = w' := by
  have h0 := H.h0
  have h1 := H.h1
  have hroom := H.le
  have HH := Lib.hid H
  have HF := Lib.hid hfit
  clear H hfit
  go_enter Try.func9, Try.ntmps9
  go_wp2_with fail
  go_loop [3, 18] (fun n i => ∃ k : Nat, k ≤ room ∧ i = .int .i64 k ∧ n = .int .i64 ((room : Int) - ((sz.take k).sum : Nat))) (fun _ i => room - (intOf i).toNat)
  case atStart => exact ⟨0, by omega, rfl, by simp⟩
  case round =>
    obtain ⟨k, hk, rfl, rfl⟩ := hrel
    by_cases hlt : k < room
    · have hc := HH.out.size k hlt
      have hb := HF.out k hlt
      have hs := sum_take_le sz room HH.out.ls HF.out k (by omega)
      have hs2 : k * room ≤ 4000 * 4000 := Nat.mul_le_mul (by omega) (by omega)
      have e : (sz.take (k + 1)).sum = (sz.take k).sum + natAt sz k := by
        have hl := HH.out.ls
        rw [List.take_succ_eq_append_getElem (by omega), List.sum_append, ← natAt_get _ _ (by omega)]; simp
      have HE := Lib.hid e
      clear e
      generalize hq : (sz.take k).sum = q at *
      have HQ := Lib.hid hq
      clear hq
      generalize hm : natAt sz k = m at *
      have HM := Lib.hid hm
      clear hm
      have hq2 : q ≤ 16000000 := by omega
      clear hs hs2
      go_wp2_with fail
      go_round
      case rel => exact ⟨k + 1, by omega, by go_num, by rw [HE.out]; congr 1; omega⟩
      case measure => simp [intOf]; omega
    · go_wp2_with fail
      go_ret
      have hl := HH.out.ls
      refine ⟨?_, rfl⟩
      rw [List.take_of_length_le (by omega)]; rfl
end Go.Proofs.Ytpalndoklifkiaa
