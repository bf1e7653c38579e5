/-
  The walks of package heap, first part: what 'is', 'place', 'Look', 'Load', 'Store' and 'find' do to a heap that lies in memory as 'HRep' says.
-/
import Derived.Test.YtpalndoklifkiaaProg
import Derived.Test.YtpalndoklifkiaaHeapP
import Derived.BigQuiet
import Derived.Deep.QuietTactic
namespace Go.Proofs.Ytpalndoklifkiaa
open Go.RowKit

/-- A heap in memory: its struct in block bh; the cells, sizes and shapes in bc, bs, bp. -/
structure HRep (w : World) (bh bc bs bp room : Nat) (cs : List Pair) (sz : List Nat) (sh : List Int) : Prop where
  head : blk w bh [.slice (some ⟨bc, 0, none⟩) room room, .slice (some ⟨bs, 0, none⟩) room room, .slice (some ⟨bp, 0, none⟩) room room] 48
  cells : blk w bc (pairs cs) 36
  sizes : blk w bs (ints (sz.map fun n : Nat => (n : Int))) 3
  shapes : blk w bp (ints sh) 3
  lc : cs.length = room
  ls : sz.length = room
  lp : sh.length = room
  le : room ≤ 4000
  ne1 : bh ≠ bc
  ne2 : bh ≠ bs
  ne3 : bh ≠ bp
  ne4 : bc ≠ bs
  ne5 : bc ≠ bp
  ne6 : bs ≠ bp

section
variable {w : World} {bh bc bs bp room : Nat} {cs : List Pair} {sz : List Nat} {sh : List Int}
theorem HRep.h0 (H : HRep w bh bc bs bp room cs sz sh) : w.cell? ⟨bh, 0, none⟩ = some (.slice (some ⟨bc, 0, none⟩) room room) := by rw [H.head.cell]; rfl
theorem HRep.h1 (H : HRep w bh bc bs bp room cs sz sh) : w.cell? ⟨bh, 1, none⟩ = some (.slice (some ⟨bs, 0, none⟩) room room) := by rw [H.head.cell]; rfl
theorem HRep.h2 (H : HRep w bh bc bs bp room cs sz sh) : w.cell? ⟨bh, 2, none⟩ = some (.slice (some ⟨bp, 0, none⟩) room room) := by rw [H.head.cell]; rfl
theorem HRep.size (H : HRep w bh bc bs bp room cs sz sh) (k : Nat) (h : k < room) : w.cell? ⟨bs, k, none⟩ = some (.int .i64 (natAt sz k : Nat)) := by
  have := H.ls
  rw [H.sizes.cell, ints_get _ _ (by simpa using (by omega : k < sz.length)), natAt_get _ _ (by omega)]
  simp
theorem HRep.shape (H : HRep w bh bc bs bp room cs sz sh) (k : Nat) (h : k < room) : w.cell? ⟨bp, k, none⟩ = some (.int .i64 (intAt sh k)) := by
  have := H.lp
  rw [H.shapes.cell, ints_get _ _ (by omega), intAt_get _ _ (by omega)]
theorem HRep.fst (H : HRep w bh bc bs bp room cs sz sh) (k : Nat) (h : k < room) : w.cell? ⟨bc, k * 2, none⟩ = some (.int .i64 (pairAt cs k).1) := by
  have := H.lc
  rw [H.cells.cell, pairs_fst _ _ (by omega), pairAt_get _ _ (by omega)]
theorem HRep.snd (H : HRep w bh bc bs bp room cs sz sh) (k : Nat) (h : k < room) : w.cell? ⟨bc, k * 2 + 1, none⟩ = some (.int .i64 (pairAt cs k).2) := by
  have := H.lc
  rw [H.cells.cell, pairs_snd _ _ (by omega), pairAt_get _ _ (by omega)]
theorem HRep.touch {w' : World} {F : List Nat} (H : HRep w bh bc bs bp room cs sz sh) (h : Touch F w w') (n1 : bh ∉ F) (n2 : bc ∉ F) (n3 : bs ∉ F) (n4 : bp ∉ F) : HRep w' bh bc bs bp room cs sz sh :=
  ⟨H.head.touch h n1, H.cells.touch h n2, H.sizes.touch h n3, H.shapes.touch h n4, H.lc, H.ls, H.lp, H.le, H.ne1, H.ne2, H.ne3, H.ne4, H.ne5, H.ne6⟩
end

theorem HRep.store {w : World} {bh bc bs bp room : Nat} {cs : List Pair} {sz : List Nat} {sh : List Int} (H : HRep w bh bc bs bp room cs sz sh) (k : Nat) (hk : k < room) (x y : Int) :
    HRep ((w.setCell ⟨bc, k * 2, none⟩ (.int .i64 x)).setCell ⟨bc, k * 2 + 1, none⟩ (.int .i64 y)) bh bc bs bp room (cs.set k (x, y)) sz sh := by
  have hl := H.lc
  refine ⟨(H.head.setNe H.ne1 _).setNe H.ne1 _, ?_, (H.sizes.setNe (Ne.symm H.ne4) _).setNe (Ne.symm H.ne4) _, (H.shapes.setNe (Ne.symm H.ne5) _).setNe (Ne.symm H.ne5) _, by simpa using hl, H.ls, H.lp, H.le, H.ne1, H.ne2, H.ne3, H.ne4, H.ne5, H.ne6⟩
  rw [← pairs_set cs k (x, y) (by omega)]
  exact (H.cells.set _ _).set _ _

theorem HRep.mark {w : World} {bh bc bs bp room : Nat} {cs : List Pair} {sz : List Nat} {sh : List Int} (H : HRep w bh bc bs bp room cs sz sh) (k n : Nat) (s : Int) :
    HRep ((w.setCell ⟨bs, k, none⟩ (.int .i64 (n : Nat))).setCell ⟨bp, k, none⟩ (.int .i64 s)) bh bc bs bp room cs (sz.set k n) (sh.set k s) := by
  refine ⟨(H.head.setNe H.ne2 _).setNe H.ne3 _, (H.cells.setNe H.ne4 _).setNe H.ne5 _, ?_, ?_, H.lc, by simpa using H.ls, by simpa using H.lp, H.le, H.ne1, H.ne2, H.ne3, H.ne4, H.ne5, H.ne6⟩
  · rw [List.map_set, ← ints_set]
    exact (H.sizes.set _ _).setNe H.ne6 _
  · rw [← ints_set]
    exact (H.shapes.setNe (Ne.symm H.ne6) _).set _ _


theorem is_nil (a : Int) (w : World) : Calls Try.prog 27 #[.pointer none, .int .i64 a] w fun e w' => e = .returned (.bool false) ∧ w = w' := by
  go_enter Try.func27, Try.ntmps27
  go_wp2_with fail
  go_ret
  exact ⟨rfl, rfl⟩

theorem is_any {w : World} {bh bc bs bp room : Nat} {cs : List Pair} {sz : List Nat} {sh : List Int} (H : HRep w bh bc bs bp room cs sz sh) (a : Int) (b : Bool) (hb : isAt sz a = b) :
    Calls Try.prog 27 #[.pointer (some ⟨bh, 0, none⟩), .int .i64 a] w fun e w' => e = .returned (.bool b) ∧ w = w' := by
  have h0 := H.h0
  have h1 := H.h1
  have hle := H.le
  have hls := Lib.hid H.ls
  unfold isAt at hb
  by_cases c0 : 0 ≤ a
  · obtain ⟨k, rfl⟩ := Int.eq_ofNat_of_zero_le c0
    by_cases c1 : k < room
    · have h2 := H.size k c1
      have HB := Lib.hid hb
      clear hb H
      go_enter Try.func27, Try.ntmps27
      go_wp2_with fail
      all_goals go_ret
      refine ⟨?_, rfl⟩
      have := HB.out; have := hls.out
      subst b; congr 2; simp; omega
    · have : b = false := by subst hb; have := hls.out; simp; omega
      subst this; clear hb H
      go_enter Try.func27, Try.ntmps27
      go_wp2_with fail
      all_goals go_ret
      exact ⟨rfl, rfl⟩
  · have : b = false := by subst hb; simp; omega
    subst this; clear hb H
    go_enter Try.func27, Try.ntmps27
    go_wp2_with fail
    all_goals go_ret
    exact ⟨rfl, rfl⟩

/-- Where the cell i of a block stands. -/
def placeOf (sz : List Nat) (a i : Int) : Int × Int :=
  if isAt sz a = true then (if 0 ≤ i ∧ i < natAt sz a.toNat - 1 then (a + 1 + i, 0) else (0, 14)) else (0, 16)

theorem place_any {w : World} {bh bc bs bp room : Nat} {cs : List Pair} {sz : List Nat} {sh : List Int} (H : HRep w bh bc bs bp room cs sz sh) (a i : Int)
    (hfit : ∀ k, k < room → k + natAt sz k ≤ room) :
    Calls Try.prog 25 #[.pointer (some ⟨bh, 0, none⟩), .int .i64 a, .int .i64 i] w fun e w' => e = .returned (.tuple #[.int .i64 (placeOf sz a i).1, .int .i64 (placeOf sz a i).2]) ∧ w = w' := by
  have HH := Lib.hid H
  cases hb : isAt sz a
  · have HB := Lib.hid hb
    clear hb H hfit
    go_enter Try.func25, Try.ntmps25
    go_wp2_with (go_at_call 27; refine (is_any HH.out _ false HB.out).mono ?_; rintro e w' ⟨rfl, rfl⟩)
    go_ret2
    refine ⟨?_, rfl⟩
    simp [placeOf, HB.out]
  · have HB := Lib.hid hb
    have hb' := hb
    simp only [isAt, decide_eq_true_eq] at hb'
    obtain ⟨c0, c1, c2⟩ := hb'
    obtain ⟨k, rfl⟩ := Int.eq_ofNat_of_zero_le c0
    simp only [Int.toNat_natCast] at *
    have hls := H.ls
    have hk : k < room := by omega
    have h1 := H.h1
    have h2 := H.size k hk
    have hle := H.le
    have hf := hfit k hk
    clear hls hb H hfit
    go_enter Try.func25, Try.ntmps25
    go_wp2_with (go_at_call 27; refine (is_any HH.out _ true HB.out).mono ?_; rintro e w' ⟨rfl, rfl⟩)
    all_goals go_ret2
    all_goals refine ⟨?_, rfl⟩
    all_goals simp only [placeOf, HB.out, if_true, Int.toNat_natCast]
    all_goals first | (rw [if_pos (by omega)]; rfl) | (rw [if_neg (by omega)]; rfl)

theorem place_nil (a i : Int) (w : World) : Calls Try.prog 25 #[.pointer none, .int .i64 a, .int .i64 i] w fun e w' => e = .returned (.tuple #[.int .i64 0, .int .i64 16]) ∧ w = w' := by
  go_enter Try.func25, Try.ntmps25
  go_wp2_with (go_at_call 27; refine (is_nil _ _).mono ?_; rintro e w' ⟨rfl, rfl⟩)
  go_ret2
  exact ⟨rfl, rfl⟩

/-- What Look answers. -/
def lookOf (sz : List Nat) (sh : List Int) (a : Int) : Int × Int × Int :=
  if isAt sz a = true then (intAt sh a.toNat, natAt sz a.toNat - 1, 0) else (0, 0, 16)

theorem look_any {w : World} {bh bc bs bp room : Nat} {cs : List Pair} {sz : List Nat} {sh : List Int} (H : HRep w bh bc bs bp room cs sz sh) (a : Int)
    (hfit : ∀ k, k < room → k + natAt sz k ≤ room) :
    Calls Try.prog 19 #[.pointer (some ⟨bh, 0, none⟩), .int .i64 a] w fun e w' => e = .returned (.tuple #[.int .i64 (lookOf sz sh a).1, .int .i64 (lookOf sz sh a).2.1, .int .i64 (lookOf sz sh a).2.2]) ∧ Touch [] w w' := by
  have HH := Lib.hid H
  cases hb : isAt sz a
  · have HB := Lib.hid hb
    clear hb H hfit
    go_enter Try.func19, Try.ntmps19
    go_wp2_with (go_at_call 27; refine (is_any HH.out _ false HB.out).mono ?_; rintro e w' ⟨rfl, rfl⟩)
    go_ret3
    exact ⟨by simp [lookOf, HB.out], Touch.refl _ _⟩
  · have HB := Lib.hid hb
    have hb' := hb
    simp only [isAt, decide_eq_true_eq] at hb'
    obtain ⟨c0, c1, c2⟩ := hb'
    obtain ⟨k, rfl⟩ := Int.eq_ofNat_of_zero_le c0
    simp only [Int.toNat_natCast] at *
    have hls := H.ls
    have hk : k < room := by omega
    have h1 := H.h1
    have h2 := H.h2
    have h3 := H.size k hk
    have h4 := H.shape k hk
    have hle := H.le
    have hf := hfit k hk
    clear hls hb H hfit
    go_enter Try.func19, Try.ntmps19
    go_wp2_with (go_at_call 27; refine (is_any HH.out _ true HB.out).mono ?_; rintro e w' ⟨rfl, rfl⟩)
    go_quiet (fail)
    go_wp2
    go_ret3
    exact ⟨by simp [lookOf, HB.out], (Touch.refl _ _).drewN _⟩

/-- What Load answers. -/
def loadOf (cs : List Pair) (sz : List Nat) (a i : Int) : Pair × Int :=
  if (placeOf sz a i).2 = 0 then (pairAt cs (placeOf sz a i).1.toNat, 0) else ((0, 0), (placeOf sz a i).2)

theorem placeOf_in {sz : List Nat} {a i : Int} (room : Nat) (hl : sz.length = room) (hfit : ∀ k, k < room → k + natAt sz k ≤ room) (h : (placeOf sz a i).2 = 0) : ∃ k : Nat, (placeOf sz a i).1 = k ∧ k < room := by
  unfold placeOf at *
  split at h
  · rename_i hb
    simp only [isAt, decide_eq_true_eq] at hb
    split at h
    · rename_i hi
      have := hfit a.toNat (by omega)
      refine ⟨(a + 1 + i).toNat, ?_, ?_⟩
      · rw [if_pos (by simp only [isAt, decide_eq_true_eq]; exact hb), if_pos hi]; simp only []; omega
      · omega
    · simp at h
  · simp at h

set_option maxHeartbeats 400000 in
theorem load_any {w : World} {bh bc bs bp room : Nat} {cs : List Pair} {sz : List Nat} {sh : List Int} (H : HRep w bh bc bs bp room cs sz sh) (a i : Int)
    (hfit : ∀ k, k < room → k + natAt sz k ≤ room) :
    Calls Try.prog 17 #[.pointer (some ⟨bh, 0, none⟩), .int .i64 a, .int .i64 i] w fun e w' => e = .returned (.tuple #[.agg #[.int .i64 (loadOf cs sz a i).1.1, .int .i64 (loadOf cs sz a i).1.2], .int .i64 (loadOf cs sz a i).2]) ∧ Touch [] w w' := by
  have HF := Lib.hid hfit
  generalize hp : placeOf sz a i = p
  obtain ⟨x, y⟩ := p
  by_cases hy : y = 0
  · subst hy
    obtain ⟨k, hk, hkr⟩ := placeOf_in (a := a) (i := i) room H.ls hfit (by rw [hp])
    rw [hp] at hk
    simp only at hk
    subst hk
    have h0 := H.h0
    have h1 := H.fst k hkr
    have h2 := H.snd k hkr
    have hle := H.le
    have H' : HRep (w.alloc (.cells #[.int .i64 0, .int .i64 0] 36)) bh bc bs bp room cs sz sh := H.touch ((Touch.refl [] _).alloc _) (by simp) (by simp) (by simp) (by simp)
    have HP := place_any H' a i hfit
    rw [hp] at HP
    have HP' := Lib.hid HP
    have b0 := H.head.lt
    have b1 := H.cells.lt
    have hp' := Lib.hid hp
    clear HP hp H' H hfit
    go_enter Try.func17, Try.ntmps17
    go_wp2_with (go_at_call 25; refine HP'.out.mono ?_; rintro e w' ⟨rfl, rfl⟩)
    refine bodyPost_ret (v := .tuple #[.agg #[.int .i64 (pairAt cs k).1, .int .i64 (pairAt cs k).2], .int .i64 0]) (by simp [results, Try.results17, go_sem]) rfl ⟨?_, ?_⟩
    · have := hp'.out
      simp [loadOf, this]
    · exact (by repeat (first | exact Touch.refl _ _ | exact Touch.nil (by assumption) | assumption | refine Touch.drew ?_ | refine Touch.drewN ?_ _ | refine Touch.alloc ?_ _ | (refine Touch.setNew _ ?_ ?_; rotate_left; focus (simp; done)) | (refine Touch.setCell ?_ ?_ _; rotate_left; focus (simp; done)) | (refine Touch.setRow ?_ ?_ _; rotate_left; focus (simp; done))))
  · have H' : HRep (w.alloc (.cells #[.int .i64 0, .int .i64 0] 36)) bh bc bs bp room cs sz sh := H.touch ((Touch.refl [] _).alloc _) (by simp) (by simp) (by simp) (by simp)
    have HP := place_any H' a i hfit
    rw [hp] at HP
    have HP' := Lib.hid HP
    have hp' := Lib.hid hp
    clear HP hp H' H hfit
    go_enter Try.func17, Try.ntmps17
    go_wp2_with (go_at_call 25; refine HP'.out.mono ?_; rintro e w' ⟨rfl, rfl⟩)
    refine bodyPost_ret (v := .tuple #[.agg #[.int .i64 0, .int .i64 0], .int .i64 y]) (by simp [results, Try.results17, go_sem]) rfl ⟨?_, ?_⟩
    · have := hp'.out
      simp [loadOf, this, hy]
    · exact (by repeat (first | exact Touch.refl _ _ | exact Touch.nil (by assumption) | assumption | refine Touch.drew ?_ | refine Touch.drewN ?_ _ | refine Touch.alloc ?_ _ | (refine Touch.setNew _ ?_ ?_; rotate_left; focus (simp; done)) | (refine Touch.setCell ?_ ?_ _; rotate_left; focus (simp; done)) | (refine Touch.setRow ?_ ?_ _; rotate_left; focus (simp; done))))

/-- What Store answers, and what the cells are behind it. -/
def storeOf (sz : List Nat) (a i : Int) (c : Pair) : Int :=
  if (placeOf sz a i).2 = 0 then (if 0 ≤ c.1 ∧ c.1 ≤ 7 then 0 else 13) else (placeOf sz a i).2
def storedOf (cs : List Pair) (sz : List Nat) (a i : Int) (c : Pair) : List Pair :=
  if storeOf sz a i c = 0 then cs.set (placeOf sz a i).1.toNat c else cs

set_option maxHeartbeats 400000 in
theorem store_any {w : World} {bh bc bs bp room : Nat} {cs : List Pair} {sz : List Nat} {sh : List Int} (H : HRep w bh bc bs bp room cs sz sh) (a i : Int) (c : Pair)
    (hfit : ∀ k, k < room → k + natAt sz k ≤ room) :
    Calls Try.prog 15 #[.pointer (some ⟨bh, 0, none⟩), .int .i64 a, .int .i64 i, .agg #[.int .i64 c.1, .int .i64 c.2]] w fun e w' => e = .returned (.int .i64 (storeOf sz a i c)) ∧ Touch [bc] w w' ∧ HRep w' bh bc bs bp room (storedOf cs sz a i c) sz sh := by
  have HF := Lib.hid hfit
  generalize hp : placeOf sz a i = p
  obtain ⟨x, y⟩ := p
  obtain ⟨t, n⟩ := c
  have H' : HRep (w.alloc (.cells #[.int .i64 t, .int .i64 n] 36)) bh bc bs bp room cs sz sh := H.touch ((Touch.refl [] _).alloc _) (by simp) (by simp) (by simp) (by simp)
  have HP := place_any H' a i hfit
  rw [hp] at HP
  have HP' := Lib.hid HP
  have HH := Lib.hid H
  have HA := Lib.hid H'
  have hp' := Lib.hid hp
  by_cases hy : y = 0
  · subst hy
    obtain ⟨k, hk, hkr⟩ := placeOf_in (a := a) (i := i) room H.ls hfit (by rw [hp])
    rw [hp] at hk
    simp only at hk
    subst hk
    have h0 := H.h0
    have h1 := H.fst k hkr
    have h2 := H.snd k hkr
    have hle := H.le
    have b0 := H.head.lt
    have b1 := H.cells.lt
    have f1 : w.frozen? ⟨bc, k * 2, none⟩ = false := H.cells.frozen _
    have f2 : w.frozen? ⟨bc, k * 2 + 1, none⟩ = false := H.cells.frozen _
    by_cases ht : 0 ≤ t ∧ t ≤ 7
    · obtain ⟨ht1, ht2⟩ := ht
      clear HP hp H' H hfit
      go_enter Try.func15, Try.ntmps15
      go_wp2_with (go_at_call 25; refine HP'.out.mono ?_; rintro e w' ⟨rfl, rfl⟩)
      go_region
      go_wp2
      go_ret
      have hs : storeOf sz a i (t, n) = 0 := by have := hp'.out; simp [storeOf, this, ht1, ht2]
      have hs2 : storedOf cs sz a i (t, n) = cs.set k (t, n) := by have := hp'.out; simp [storedOf, hs, this]
      rw [hs, hs2]
      refine ⟨rfl, (by repeat (first | exact Touch.refl _ _ | exact Touch.nil (by assumption) | assumption | refine Touch.drew ?_ | refine Touch.drewN ?_ _ | refine Touch.alloc ?_ _ | (refine Touch.setNew _ ?_ ?_; rotate_left; focus (simp; done)) | (refine Touch.setCell ?_ ?_ _; rotate_left; focus (simp; done)) | (refine Touch.setRow ?_ ?_ _; rotate_left; focus (simp; done)))), ?_⟩
      exact (HRep.store HH.out k hkr t n).touch (F := []) (by repeat (first | exact Touch.refl _ _ | exact Touch.nil (by assumption) | assumption | refine Touch.drew ?_ | refine Touch.drewN ?_ _ | refine Touch.alloc ?_ _ | (refine Touch.setNew _ ?_ ?_; rotate_left; focus (simp; done)) | (refine Touch.setCell ?_ ?_ _; rotate_left; focus (simp; done)) | (refine Touch.setRow ?_ ?_ _; rotate_left; focus (simp; done)))) (by simp) (by simp) (by simp) (by simp)
    · have hs : storeOf sz a i (t, n) = 13 := by simp [storeOf, hp, ht]
      have hs2 : storedOf cs sz a i (t, n) = cs := by simp [storedOf, hs]
      have HS := Lib.hid hs
      have HS2 := Lib.hid hs2
      by_cases ht0 : 0 ≤ t
      · have ht7 : 7 < t := by omega
        clear HP hp H' H hfit hs hs2 ht
        go_enter Try.func15, Try.ntmps15
        go_wp2_with (go_at_call 25; refine HP'.out.mono ?_; rintro e w' ⟨rfl, rfl⟩)
        go_ret
        rw [HS.out, HS2.out]
        exact ⟨rfl, (by repeat (first | exact Touch.refl _ _ | exact Touch.nil (by assumption) | assumption | refine Touch.drew ?_ | refine Touch.drewN ?_ _ | refine Touch.alloc ?_ _ | (refine Touch.setNew _ ?_ ?_; rotate_left; focus (simp; done)) | (refine Touch.setCell ?_ ?_ _; rotate_left; focus (simp; done)) | (refine Touch.setRow ?_ ?_ _; rotate_left; focus (simp; done)))), HA.out⟩
      · clear HP hp H' H hfit hs hs2 ht
        go_enter Try.func15, Try.ntmps15
        go_wp2_with (go_at_call 25; refine HP'.out.mono ?_; rintro e w' ⟨rfl, rfl⟩)
        go_ret
        rw [HS.out, HS2.out]
        exact ⟨rfl, (by repeat (first | exact Touch.refl _ _ | exact Touch.nil (by assumption) | assumption | refine Touch.drew ?_ | refine Touch.drewN ?_ _ | refine Touch.alloc ?_ _ | (refine Touch.setNew _ ?_ ?_; rotate_left; focus (simp; done)) | (refine Touch.setCell ?_ ?_ _; rotate_left; focus (simp; done)) | (refine Touch.setRow ?_ ?_ _; rotate_left; focus (simp; done)))), HA.out⟩
  · have hs : storeOf sz a i (t, n) = y := by simp [storeOf, hp, hy]
    have hs2 : storedOf cs sz a i (t, n) = cs := by simp [storedOf, hs, hy]
    have HS := Lib.hid hs
    have HS2 := Lib.hid hs2
    clear HP hp H' H hfit hs hs2
    go_enter Try.func15, Try.ntmps15
    go_wp2_with (go_at_call 25; refine HP'.out.mono ?_; rintro e w' ⟨rfl, rfl⟩)
    go_ret
    rw [HS.out, HS2.out]
    exact ⟨rfl, (by repeat (first | exact Touch.refl _ _ | exact Touch.nil (by assumption) | assumption | refine Touch.drew ?_ | refine Touch.drewN ?_ _ | refine Touch.alloc ?_ _ | (refine Touch.setNew _ ?_ ?_; rotate_left; focus (simp; done)) | (refine Touch.setCell ?_ ?_ _; rotate_left; focus (simp; done)) | (refine Touch.setRow ?_ ?_ _; rotate_left; focus (simp; done)))), HA.out⟩

/-- The first place at which n cells stand free. -/
def findGo (sz : List Nat) (room n : Nat) (fr at_ : Nat) : Option Nat :=
  if at_ < room then
    if 0 < natAt sz at_ then findGo sz room n (at_ + natAt sz at_) (at_ + natAt sz at_)
    else if at_ + 1 - fr = n then some fr else findGo sz room n fr (at_ + 1)
  else none
termination_by room - at_

def found : Option Nat → Value
  | some f => .tuple #[.int .i64 f, .bool true]
  | none => .tuple #[.int .i64 0, .bool false]

set_option maxHeartbeats 400000 in
theorem find_any {w : World} {bh bc bs bp room : Nat} {cs : List Pair} {sz : List Nat} {sh : List Int} (H : HRep w bh bc bs bp room cs sz sh) (n : Nat) (hn : n ≤ 301)
    (hfit : ∀ k, k < room → k + natAt sz k ≤ room) :
    Calls Try.prog 24 #[.pointer (some ⟨bh, 0, none⟩), .int .i64 n] w fun e w' => e = .returned (found (findGo sz room n 0 0)) ∧ w = w' := by
  have h0 := H.h0
  have h1 := H.h1
  have hroom := H.le
  have HH := Lib.hid H
  have HF := Lib.hid hfit
  clear H hfit
  go_enter Try.func24, Try.ntmps24
  go_wp2_with fail
  go_loop [6, 7] (fun fr at_ => ∃ f a : Nat, f ≤ a ∧ a ≤ room ∧ fr = .int .i64 f ∧ at_ = .int .i64 a ∧ Hid (findGo sz room n 0 0 = findGo sz room n f a)) (fun _ a => room - (intOf a).toNat)
  case atStart => exact ⟨0, 0, by omega, by omega, rfl, rfl, rfl⟩
  case round =>
    obtain ⟨f, a, hfa, har, rfl, rfl, HG⟩ := hrel
    by_cases hlt : a < room
    · have hk := HH.out.size a hlt
      have hb := HF.out a hlt
      have HG' := HG.out
      rw [findGo.eq_1 sz room n f a, if_pos hlt] at HG'
      replace HG' := Lib.hid HG'
      go_wp2_with fail
      · have hp : 0 < natAt sz a := by assumption
        have HF2 := HG'.out
        rw [if_pos hp] at HF2
        exact ⟨⟨a + natAt sz a, a + natAt sz a, by omega, by omega, by go_num, by go_num, HF2⟩, by simp [intOf]; omega⟩
      · have hp : ¬ 0 < natAt sz a := by assumption
        have hq : (((a : Int) + 1 - f == (n : Int)) = true) := by assumption
        have HF2 := HG'.out
        rw [if_neg hp, if_pos (by have := beq_iff_eq.1 hq; omega)] at HF2
        go_ret2
        exact ⟨by rw [HF2]; rfl, rfl⟩
      · have hp : ¬ 0 < natAt sz a := by assumption
        have hq : (((a : Int) + 1 - f == (n : Int)) = false) := by assumption
        have HF2 := HG'.out
        rw [if_neg hp, if_neg (by have := beq_eq_false_iff_ne.1 hq; omega)] at HF2
        exact ⟨⟨f, a + 1, by omega, by omega, rfl, by go_num, HF2⟩, by simp [intOf]; omega⟩
    · go_wp2_with fail
      go_ret2
      refine ⟨?_, rfl⟩
      rw [HG.out, findGo.eq_1 sz room n f a, if_neg hlt]; rfl
end Go.Proofs.Ytpalndoklifkiaa
