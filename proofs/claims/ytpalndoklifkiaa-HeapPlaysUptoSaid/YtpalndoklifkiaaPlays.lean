/-
  HeapPlays: the walk.
-/
import Derived.Test.YtpalndoklifkiaaAskE
namespace Go.Proofs.Ytpalndoklifkiaa
open Go.RowKit

/-- The roots of a question, in memory. -/
def rootsIn (w : World) (rv : Value) (R : List Pair) : Prop :=
  (∃ ra rc, rv = .slice ra 0 rc ∧ R = []) ∨ ∃ b o c, rv = .slice (some ⟨b, o, none⟩) R.length c ∧ lies w ⟨b, o, none⟩ (pairs R)

theorem asked_any {w : World} {B bh sp pp room c : Nat} (S : SInv w B bh sp pp room c) (hc : c ≤ 1000) (k A Bn at_ ct cx : Int) (rv : Value) (R : List Pair) (hR : rootsIn w rv R) (hm : R.length ≤ 1048576) :
    Calls Try.prog 6 #[.pointer (some ⟨bh, 0, none⟩), .pointer (some ⟨sp, 0, none⟩), .pointer (some ⟨pp, 0, none⟩), .agg #[.int .i64 k, .int .i64 A, .int .i64 Bn, .int .i64 at_, .int .i64 ct, .int .i64 cx, rv]] w (AskPost w B bh sp pp room (c + 1)) := by
  have hrv : ∃ a l c, rv = .slice a l c := by
    rcases hR with ⟨_, _, rfl, _⟩ | ⟨_, _, _, rfl, _⟩ <;> exact ⟨_, _, _, rfl⟩
  by_cases h1 : k = 1
  · subst h1; exact asked_alloc S hc A Bn at_ ct cx rv hrv
  by_cases h2 : k = 2
  · subst h2; exact asked_store S A Bn at_ ct cx rv hrv
  by_cases h3 : k = 3
  · subst h3; exact asked_load S A Bn at_ ct cx rv hrv
  by_cases h4 : k = 4
  · subst h4; exact asked_look S A Bn at_ ct cx rv hrv
  by_cases h5 : k = 5
  · subst h5
    rcases hR with ⟨ra, rc, rfl, _⟩ | ⟨b, o, rc, rfl, hl⟩
    · exact asked_collect_nil S A Bn at_ ct cx ra rc
    · exact asked_collect_row S A Bn at_ ct cx R b o _ rc rfl hm hl
  by_cases h6 : k = 6
  · subst h6; exact asked_free S A Bn at_ ct cx rv hrv
  exact asked_other S k A Bn at_ ct cx rv hrv (by simpa using h1) (by simpa using h2) (by simpa using h3) (by simpa using h4) (by simpa using h5) (by simpa using h6)

/-- A question that lies in memory. -/
def AskIn (w : World) (b o : Nat) : Prop :=
  ∃ (k A Bn at_ ct cx : Int) (rv : Value) (R : List Pair), lies w ⟨b, o, none⟩ [.int .i64 k, .int .i64 A, .int .i64 Bn, .int .i64 at_, .int .i64 ct, .int .i64 cx, rv] ∧ rootsIn w rv R ∧ R.length ≤ 1048576

theorem lies.below {w w' : World} {a : Addr} {xs : List Value} (h : lies w a xs) (hB : Below w.heap.size w w') : lies w' a xs := fun j u hu => by
  have h1 := h j u hu
  exact (hB.cell (World.block_lt_of_cell? w _ h1)).trans h1
theorem rootsIn.below {w w' : World} {v : Value} {l : List Pair} (h : rootsIn w v l) (hB : Below w.heap.size w w') : rootsIn w' v l := by
  rcases h with h | ⟨b, o, c, e, hl⟩
  · exact .inl h
  · exact .inr ⟨b, o, c, e, hl.below hB⟩

theorem plays_bad (w : World) (n : Int) (lv : Value) (h : n < 0 ∨ 4000 < n) :
    Calls Try.prog 3 #[.int .i64 n, lv] w fun e w' => e = .returned (.bool true) ∧ Below w.heap.size w w' := by
  have C1 := Lib.hid (new_bad n w h)
  have C2 := Lib.hid (snew_bad n w h)
  clear h
  go_enter Try.func3, Try.ntmps3
  go_wp2_with (first | (go_at_call 4; (with_reducible refine C1.out.mono ?_); rintro e w3 ⟨rfl, rfl⟩) | (go_at_call 5; (with_reducible refine C2.out.mono ?_); rintro e w3 ⟨rfl, rfl⟩) | fail)
  go_ret
  exact ⟨rfl, Below.refl _ _⟩

theorem full_start {w w1 w2 : World} {n bh bc bs bp : Nat} (hn : n ≤ 4000) (T1 : Touch [] w w1) (H : HRep w1 bh bc bs bp n (List.replicate n (0, 0)) (List.replicate n 0) (List.replicate n 0)) (h1 : w.heap.size ≤ bh) (h2 : w.heap.size ≤ bc) (h3 : w.heap.size ≤ bs) (h4 : w.heap.size ≤ bp)
    (T2 : Touch [] w1 w2) (S : SRep w2 w1.heap.size n (.slice none 0 0) [] []) :
    SInv (w2.alloc (.cells #[.slice none 0 0] 33)) w.heap.size bh w1.heap.size w2.heap.size n 0 := by
  have Ta : Touch [] w1 (w2.alloc (.cells #[.slice none 0 0] 33)) := T2.alloc _
  have hsz := T1.size
  have hsz2 := T2.size
  have hlt : ∀ x, x ∈ hfoot bh bc bs bp → x < w1.heap.size := by
    intro x hx
    simp only [hfoot, List.mem_cons, List.not_mem_nil, or_false] at hx
    rcases hx with rfl | rfl | rfl | rfl
    · exact H.head.lt
    · exact H.cells.lt
    · exact H.sizes.lt
    · exact H.shapes.lt
  have hsl := S.head.lt
  refine ⟨bc, bs, bp, _, _, _, .slice none 0 0, [], .slice none 0 0, [], ⟨H.touch Ta (by simp) (by simp) (by simp) (by simp), Arr.start n, ?_, blk.new _ _ _, World.ownsRow_nil _ _ _ _, ?_, ?_, by omega, ?_, ?_, ?_, by simp [Value.ownBlock]⟩, by simp⟩
  · rw [blocks_start]; exact S.touch ((Touch.refl [] w2).alloc _) (by simp)
  · intro x hx
    simp only [hfoot, List.mem_cons, List.not_mem_nil, or_false] at hx
    omega
  · intro x hx; simp [sfoot, Value.ownBlock] at hx; omega
  · intro x hx hh; simp [sfoot, Value.ownBlock] at hh; have := hlt x hx; omega
  · intro hx; have := hlt _ hx; omega
  · intro hh; simp [sfoot, Value.ownBlock] at hh; omega

set_option maxRecDepth 100000 in
set_option maxHeartbeats 4000000 in
theorem plays_good (w : World) (n : Nat) (hn : n ≤ 4000) (la : Option Addr) (ln lc : Nat) (hl : ∀ k, k < ln → ∃ lb lo, la = some ⟨lb, lo, none⟩ ∧ AskIn w lb (lo + k * 7)) (hln : ln ≤ 1048576) :
    Calls Try.prog 3 #[.int .i64 n, .slice la ln lc] w fun e w' => e = .returned (.bool true) ∧ Below w.heap.size w w' := by
  have C1 := Lib.hid (new_any n w hn)
  have HL := Lib.hid hl
  clear hl
  go_enter Try.func3, Try.ntmps3
  go_wp2_with (first
    | (go_at_call 4; (with_reducible refine C1.out.mono ?_); rintro e w1 ⟨bh, bc, bs, bp, rfl, T1, H1, b1, b2, b3, b4⟩; have C2 := Lib.hid (snew_any n w1 hn))
    | (go_at_call 5; (with_reducible refine C2.out.mono ?_); rintro e w2 ⟨rfl, T2, S2⟩)
    | fail)
  have HS0 := Lib.hid (full_start hn T1 H1 b1 b2 b3 b4 T2 S2)
  have HB0 : Hid (Below w.heap.size w (w2.alloc (.cells #[.slice none 0 0] 33))) := ((T1.trans T2).alloc _).belowB (Nat.le_refl _) (by simp)
  clear T1 H1 b1 b2 b3 b4 T2 S2 C1 C2
  generalize w1.heap.size = sp at *
  generalize w2.heap.size = pp at *
  generalize w2.alloc (.cells #[.slice none 0 0] 33) = wa at *
  go_loopw [10] (fun i wr => ∃ k : Nat, k ≤ ln ∧ k ≤ 120 ∧ i = .int .i64 (k : Nat) ∧ SInv wr w.heap.size bh sp pp n k ∧ Below w.heap.size w wr) (fun i _ => ln - (intOf i).toNat)
  case atStart => exact ⟨0, by omega, by omega, rfl, HS0.out, HB0.out⟩
  case round =>
    obtain ⟨k, hk, hk2, rfl, S, HBw⟩ := hrel
    have HSI := Lib.hid S
    have HBL := Lib.hid HBw
    clear S HBw HS0 HB0
    by_cases hlt : k < ln ∧ k < 120
    · obtain ⟨hlt, hlt2⟩ := hlt
      obtain ⟨lb, lo, rfl, kk, A, Bn, at_, ct, cx, rv, R, hcell, hR, hRm⟩ := HL.out k hlt
      have hc2 := hcell.below HBL.out
      have c0 := hc2 0 _ rfl
      have c1 := hc2 1 _ rfl
      have c2 := hc2 2 _ rfl
      have c3 := hc2 3 _ rfl
      have c4 := hc2 4 _ rfl
      have c5 := hc2 5 _ rfl
      have c6 := hc2 6 _ rfl
      rw [addr_add, Nat.add_zero] at c0
      rw [addr_add] at c1 c2 c3 c4 c5 c6
      have HA := Lib.hid (asked_any HSI.out (by omega) kk A Bn at_ ct cx rv R (hR.below HBL.out) hRm)
      clear hcell hc2 hR hRm
      go_wp2_with (first
        | (go_at_call 6; (with_reducible refine HA.out.mono ?_); rintro e w3 ⟨rfl, S3, B3⟩; have HS3 := Lib.hid S3; have HB3 := Lib.hid B3; clear S3 B3)
        | fail)
      go_roundw
      case rel => exact ⟨k + 1, by omega, by omega, by go_num, HS3.out, HBL.out.trans HB3.out⟩
      case measure => simp [intOf] <;> omega
    · obtain ⟨bc, bs, bp, cs, sz, sh, sv, hs, pv, pl, F, hpl⟩ := HSI.out
      obtain ⟨va, vn, vc, rfl⟩ := row_slice F.S.row
      have p3 : wr.cell? ⟨sp, 1, none⟩ = some (.slice va vn vc) := F.S.h1
      have hsp : sp < wr.heap.size := F.S.head.lt
      have hBw : w.heap.size ≤ wr.heap.size := HBL.out.size
      have HF2 := Lib.hid F
      have HBK : Hid (∀ w', Touch [] wr w' → Calls Try.prog 8 #[.pointer (some ⟨bh, 0, none⟩)] w' (BlocksPost w' (blocksTo cs sz sh n))) := Lib.hid fun w' ht => blocks_any (HF2.out.touch ht).H HF2.out.A.fit
      have HSB : Hid (∀ w' v w'' hs', Touch [] wr w' → Touch [] w' w'' → w''.ownsRow w'.heap.size 60 3 v hs'.length (hdrs hs') → blocksIn w'' w'.heap.size hs' (blocksTo cs sz sh n) → (∀ h, h ∈ hs' → h.2.2 ≠ .slice none 0 0) →
          Calls Try.prog 7 #[v, .slice va vn vc] w'' fun e w3 => e = .returned (.bool true) ∧ Touch [] w'' w3) := by
        refine Lib.hid fun w' v w'' hs' t1 t2 k1 k2 k3 => ?_
        have S2 := (HF2.out.touch (t1.trans t2)).S
        refine same_any ⟨ownsRow_base k1 (Nat.zero_le _), blocksIn.base (Nat.zero_le _) k2, k3⟩ ⟨S2.row, S2.tell, S2.full⟩ ?_ ?_
        · have := blocksIn.length S2.tell; have := S2.few; omega
        · intro b hb; have := S2.small b hb; omega
      have HFR : Hid (∀ w', Touch [] wr w' → Calls Try.prog 9 #[.pointer (some ⟨bh, 0, none⟩)] w' fun e w'' => e = .returned (.int .i64 ((n : Int) - (sused (blocksTo cs sz sh n) : Nat))) ∧ w' = w'') := by
        refine Lib.hid fun w' ht => ?_
        rw [← free_law (cs := cs) (sh := sh) HF2.out.A HF2.out.H.lc]
        exact free_any (HF2.out.touch ht).H HF2.out.A.fit
      have HSF : Hid (∀ w', Touch [] wr w' → Calls Try.prog 10 #[.pointer (some ⟨sp, 0, none⟩)] w' fun e w'' => e = .returned (.int .i64 ((n : Int) - (sused (blocksTo cs sz sh n) : Nat))) ∧ Touch [] w' w'') :=
        Lib.hid fun w' ht => sfree_any (HF2.out.touch ht).S HF2.out.H.le
      generalize sused (blocksTo cs sz sh n) = su at *
      clear F hpl HSI
      have hcase : k = ln ∨ (k < ln ∧ ¬ k < 120) := by omega
      clear hlt
      rcases hcase with rfl | ⟨hlt, h120⟩
      all_goals (
        go_wp2_with fail
        go_region_held3 (fun w' => w'.cell? ⟨sp, 1, none⟩ = some (.slice va vn vc))
          (first | (exact T5.cell (T4.cell (T3.cell p3 List.not_mem_nil) List.not_mem_nil) List.not_mem_nil) | (exact T4.cell (T3.cell p3 List.not_mem_nil) List.not_mem_nil) | (exact T3.cell p3 List.not_mem_nil) | go_keep | fail)
          (first
            | (go_at_call 8; (with_reducible refine (HBK.out _ ((Touch.refl _ _).drew)).mono ?_); rintro e w3 ⟨v3, hs3, rfl, o3, b3, T3, f3⟩)
            | (go_at_call 7; (with_reducible refine (HSB.out _ _ _ _ ((Touch.refl _ _).drew) T3 o3 b3 f3).mono ?_); rintro e w4 ⟨rfl, T4⟩)
            | (go_at_call 9; (with_reducible refine (HFR.out _ (T3.undrew.trans T4)).mono ?_); rintro e w5 ⟨rfl, rfl⟩)
            | (go_at_call 10; (with_reducible refine (HSF.out _ (T3.undrew.trans T4)).mono ?_); rintro e w5 ⟨rfl, T5⟩)
            | fail)
        all_goals go_wp2_with fail
        all_goals go_ret
        all_goals exact ⟨rfl, HBL.out.trans (((T3.undrew.trans T4).trans T5).belowB hBw (by simp))⟩)
end Go.Proofs.Ytpalndoklifkiaa
