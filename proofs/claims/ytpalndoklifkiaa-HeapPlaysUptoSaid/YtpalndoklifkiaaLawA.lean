/-
  The walks of the law's own helpers: places.of, places.cell.
-/
import Derived.Test.YtpalndoklifkiaaSameA
namespace Go.Proofs.Ytpalndoklifkiaa
open Go.RowKit

def ofP (pl : List Int) (n : Int) : Int := if 0 ≤ n ∧ n < pl.length then intAt pl n.toNat else n
def cellP (pl : List Int) (c : Pair) : Pair := if c.1 = 6 then (c.1, ofP pl c.2) else c

theorem int_row {w : World} {base g n c : Nat} {pl : List Int} (h : w.ownsRow base 3 1 (.slice (some ⟨g, 0, none⟩) n c) n (ints pl)) (k : Nat) (hk : k < n) : w.cell? ⟨g, k, none⟩ = some (.int .i64 (intAt pl k)) := by
  have hl := h.1
  rw [ints_length] at hl
  rw [h.cellAt _ (by omega), ints_get _ _ (by omega), intAt_get _ _ (by omega)]

set_option maxHeartbeats 400000 in
theorem of_any {w : World} {base : Nat} {pv : Value} {pl : List Int} (h : w.ownsRow base 3 1 pv pl.length (ints pl)) (n : Int) :
    Calls Try.prog 11 #[.agg #[pv], .int .i64 n] w fun e w' => e = .returned (.int .i64 (ofP pl n)) ∧ Touch [] w w' := by
  by_cases hn : 0 ≤ n
  · obtain ⟨k, rfl⟩ := Int.eq_ofNat_of_zero_le hn
    rcases h.2 with ⟨rfl, h0⟩ | ⟨g, cap, cur, rfl, _, hg, _⟩
    · have e : ofP pl k = k := by unfold ofP; rw [if_neg (by omega)]
      rw [e]
      clear h
      go_enter Try.func11, Try.ntmps11
      go_wp2_with fail
      go_ret
      exact ⟨rfl, (by repeat (first | exact Touch.refl _ _ | exact Touch.nil (by assumption) | assumption | refine Touch.drew ?_ | refine Touch.drewN ?_ _ | refine Touch.alloc ?_ _ | (refine Touch.setNew _ ?_ ?_; rotate_left; focus (first | (simp; done) | (simp only []; omega) | (simp; omega))) | (refine Touch.setCell ?_ ?_ _; rotate_left; focus (simp; done)) | (refine Touch.setRow ?_ ?_ _; rotate_left; focus (simp; done))))⟩
    · have hglt : g < w.heap.size := (Array.getElem?_eq_some_iff.1 hg).1
      by_cases hk : k < pl.length
      · have c0 := int_row h k hk
        have e : ofP pl k = intAt pl k := by unfold ofP; rw [if_pos (by omega)]; simp
        rw [e]
        clear h hg e
        generalize intAt pl k = q at *
        generalize pl.length = m at *
        go_enter Try.func11, Try.ntmps11
        go_wp2_with fail
        go_ret
        exact ⟨rfl, (by repeat (first | exact Touch.refl _ _ | exact Touch.nil (by assumption) | assumption | refine Touch.drew ?_ | refine Touch.drewN ?_ _ | refine Touch.alloc ?_ _ | (refine Touch.setNew _ ?_ ?_; rotate_left; focus (first | (simp; done) | (simp only []; omega) | (simp; omega))) | (refine Touch.setCell ?_ ?_ _; rotate_left; focus (simp; done)) | (refine Touch.setRow ?_ ?_ _; rotate_left; focus (simp; done))))⟩
      · have e : ofP pl k = k := by unfold ofP; rw [if_neg (by omega)]
        rw [e]
        clear h hg e
        generalize pl.length = m at *
        go_enter Try.func11, Try.ntmps11
        go_wp2_with fail
        go_ret
        exact ⟨rfl, (by repeat (first | exact Touch.refl _ _ | exact Touch.nil (by assumption) | assumption | refine Touch.drew ?_ | refine Touch.drewN ?_ _ | refine Touch.alloc ?_ _ | (refine Touch.setNew _ ?_ ?_; rotate_left; focus (first | (simp; done) | (simp only []; omega) | (simp; omega))) | (refine Touch.setCell ?_ ?_ _; rotate_left; focus (simp; done)) | (refine Touch.setRow ?_ ?_ _; rotate_left; focus (simp; done))))⟩
  · have e : ofP pl n = n := by unfold ofP; rw [if_neg (by omega)]
    rw [e]
    have hs : ∃ a l c, pv = .slice a l c := by
      rcases h.2 with ⟨rfl, h0⟩ | ⟨g, cap, cur, rfl, _⟩ <;> exact ⟨_, _, _, rfl⟩
    obtain ⟨a, l, c, rfl⟩ := hs
    clear h e
    go_enter Try.func11, Try.ntmps11
    go_wp2_with fail
    go_ret
    exact ⟨rfl, (by repeat (first | exact Touch.refl _ _ | exact Touch.nil (by assumption) | assumption | refine Touch.drew ?_ | refine Touch.drewN ?_ _ | refine Touch.alloc ?_ _ | (refine Touch.setNew _ ?_ ?_; rotate_left; focus (first | (simp; done) | (simp only []; omega) | (simp; omega))) | (refine Touch.setCell ?_ ?_ _; rotate_left; focus (simp; done)) | (refine Touch.setRow ?_ ?_ _; rotate_left; focus (simp; done))))⟩

set_option maxHeartbeats 400000 in
theorem cell_any {w : World} {base : Nat} {pv : Value} {pl : List Int} (h : w.ownsRow base 3 1 pv pl.length (ints pl)) (t x : Int) :
    Calls Try.prog 12 #[.agg #[pv], .agg #[.int .i64 t, .int .i64 x]] w fun e w' => e = .returned (.agg #[.int .i64 (cellP pl (t, x)).1, .int .i64 (cellP pl (t, x)).2]) ∧ Touch [] w w' := by
  have hs : ∃ a l c, pv = .slice a l c := by
    rcases h.2 with ⟨rfl, h0⟩ | ⟨g, cap, cur, rfl, _⟩ <;> exact ⟨_, _, _, rfl⟩
  have HOF : Hid (∀ w', Touch [] w w' → Calls Try.prog 11 #[.agg #[pv], .int .i64 x] w' fun e w'' => e = .returned (.int .i64 (ofP pl x)) ∧ Touch [] w' w'') :=
    fun w' ht => of_any (ownsRow_touch h ht (by simp)) x
  obtain ⟨a, l, c, rfl⟩ := hs
  by_cases ht : t = 6
  · subst ht
    have e : cellP pl (6, x) = (6, ofP pl x) := by simp [cellP]
    rw [e]
    clear h e
    generalize ofP pl x = y at *
    go_enter Try.func12, Try.ntmps12
    go_wp2_with fail
    refine (HOF.out _ ((((Touch.refl [] _).alloc _).alloc _).alloc _)).mono ?_
    rintro e w1 ⟨rfl, T1⟩
    have hx0 : blk (((w.alloc (.cells #[.slice a l c] 33)).alloc (.cells #[.int .i64 6, .int .i64 x] 36)).alloc (.cells #[.int .i64 0, .int .i64 0] 36)) (w.heap.size + 1) [.int .i64 6, .int .i64 x] 36 := (blk.newAt _ _ _ (by simp)).alloc _
    have hx1 := hx0.touch T1 List.not_mem_nil
    have q0 : w1.cell? ⟨w.heap.size + 1, 0, none⟩ = some (.int .i64 6) := hx1.cell 0
    have q1 : w1.cell? ⟨w.heap.size + 1, 1, none⟩ = some (.int .i64 x) := hx1.cell 1
    have f0 : w1.frozen? ⟨w.heap.size + 1, 1, none⟩ = false := hx1.frozen 1
    have HT := Lib.hid T1
    have hb0 : blk (((w.alloc (.cells #[.slice a l c] 33)).alloc (.cells #[.int .i64 6, .int .i64 x] 36)).alloc (.cells #[.int .i64 0, .int .i64 0] 36)) (w.heap.size + 1 + 1) [.int .i64 0, .int .i64 0] 36 := blk.newAt _ _ _ (by simp)
    have hb1 := hb0.touch T1 List.not_mem_nil
    have q2 : w1.cell? ⟨w.heap.size + 1 + 1, 0, none⟩ = some (.int .i64 0) := hb1.cell 0
    have q3 : w1.cell? ⟨w.heap.size + 1 + 1, 1, none⟩ = some (.int .i64 0) := hb1.cell 1
    have f1 : w1.frozen? ⟨w.heap.size + 1 + 1, 0, none⟩ = false := hb1.frozen 0
    have f2 : w1.frozen? ⟨w.heap.size + 1 + 1, 1, none⟩ = false := hb1.frozen 1
    have hb2 := (((hb1.setNe (a := ⟨w.heap.size + 1, 1, none⟩) (by simp) (.int .i64 y)).set 0 (.int .i64 6)).set 1 (.int .i64 y))
    have r0 := hb2.cell 0
    have r1 := hb2.cell 1
    simp only [List.set_cons_zero, List.set_cons_succ, List.getElem?_cons_zero, List.getElem?_cons_succ] at r0 r1
    have HR0 := Lib.hid r0
    have HR1 := Lib.hid r1
    clear T1 hb0 hb1 hb2 r0 r1 hx0 hx1
    go_wp2_with fail
    have r0 := HR0.out
    have r1 := HR1.out
    refine bodyPost_ret (v := .agg #[.int .i64 6, .int .i64 y]) (by simp [results, Try.results12, go_sem, r0, r1]) rfl ⟨rfl, ?_⟩
    have T0 : Touch [] w w1 := ((((Touch.refl [] w).alloc _).alloc _).alloc _).trans HT.out
    exact (by repeat (first | exact Touch.refl _ _ | exact Touch.nil (by assumption) | assumption | refine Touch.drew ?_ | refine Touch.drewN ?_ _ | refine Touch.alloc ?_ _ | (refine Touch.setNew _ ?_ ?_; rotate_left; focus (first | (simp; done) | (simp only []; omega) | (simp; omega))) | (refine Touch.setCell ?_ ?_ _; rotate_left; focus (simp; done)) | (refine Touch.setRow ?_ ?_ _; rotate_left; focus (simp; done))))
  · have e : cellP pl (t, x) = (t, x) := by simp [cellP, ht]
    rw [e]
    have htt : (t == 6) = false := by simpa using ht
    clear h e ht
    go_enter Try.func12, Try.ntmps12
    go_wp2_with fail
    refine bodyPost_ret (v := .agg #[.int .i64 t, .int .i64 x]) (by simp [results, Try.results12, go_sem]) rfl ⟨rfl, (by repeat (first | exact Touch.refl _ _ | exact Touch.nil (by assumption) | assumption | refine Touch.drew ?_ | refine Touch.drewN ?_ _ | refine Touch.alloc ?_ _ | (refine Touch.setNew _ ?_ ?_; rotate_left; focus (first | (simp; done) | (simp only []; omega) | (simp; omega))) | (refine Touch.setCell ?_ ?_ _; rotate_left; focus (simp; done)) | (refine Touch.setRow ?_ ?_ _; rotate_left; focus (simp; done))))⟩
end Go.Proofs.Ytpalndoklifkiaa
