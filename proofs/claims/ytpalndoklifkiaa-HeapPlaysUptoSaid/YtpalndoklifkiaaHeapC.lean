/-
  The walks of package heap, third part: New.
-/
import Derived.Test.YtpalndoklifkiaaHeapB
namespace Go.Proofs.Ytpalndoklifkiaa
open Go.RowKit

theorem info_cell : (Try.prog.info? 36).map (fun i => (i.zero, i.size, i.bytes)) = some (some (.agg #[.int .i64 0, .int .i64 0]), 2, 16) := by kernel_rfl
theorem info_int : (Try.prog.info? 3).map (fun i => (i.zero, i.size, i.bytes)) = some (some (.int .i64 0), 1, 8) := by kernel_rfl

theorem made_pairs (n : Nat) : madeCells #[.int .i64 0, .int .i64 0] (n * 2) = (pairs (List.replicate n (0, 0))).toArray := by
  have e : madeCells #[.int .i64 0, .int .i64 0] (n * 2) = Builtin.zeroCells #[.int .i64 0, .int .i64 0] n := rfl
  rw [e]
  apply Array.ext'
  exact zeroCells_pair n
theorem made_ints (n : Nat) : madeCells #[.int .i64 0] n = (ints (List.replicate n 0)).toArray := by
  apply Array.ext'
  rw [toList_madeCells_one]
  simp [ints]

theorem new_bad (n : Int) (w : World) (h : n < 0 ∨ 4000 < n) : Calls Try.prog 4 #[.int .i64 n] w fun e w' => e = .returned (.tuple #[.pointer none, .int .i64 14]) ∧ w = w' := by
  rcases h with h | h
  · go_enter Try.func4, Try.ntmps4
    go_wp2_with fail
    go_ret2
    exact ⟨rfl, rfl⟩
  · have h' : ¬ n < 0 := by omega
    go_enter Try.func4, Try.ntmps4
    go_wp2_with fail
    go_ret2
    exact ⟨rfl, rfl⟩

def NewPost (w : World) (n : Nat) (e : Ending) (w' : World) : Prop :=
  ∃ bh bc bs bp, e = .returned (.tuple #[.pointer (some ⟨bh, 0, none⟩), .int .i64 0]) ∧ Touch [] w w' ∧ HRep w' bh bc bs bp n (List.replicate n (0, 0)) (List.replicate n 0) (List.replicate n 0) ∧ w.heap.size ≤ bh ∧ w.heap.size ≤ bc ∧ w.heap.size ≤ bs ∧ w.heap.size ≤ bp

set_option maxHeartbeats 400000 in
theorem new_any (n : Nat) (w : World) (hn : n ≤ 4000) : Calls Try.prog 4 #[.int .i64 n] w (NewPost w n) := by
  obtain ⟨ic, hic, hc0, hc1, hc2⟩ := info_parts info_cell
  obtain ⟨ii, hii, hi0, hi1, hi2⟩ := info_parts info_int
  have m1 : ∀ W, (Instr.makeSlice 37 (.int .i64 n) (.int .i64 n)).run Try.prog W = .ok (.slice (some ⟨W.heap.size, 0, none⟩) n n) (W.alloc (.cells (pairs (List.replicate n (0, 0))).toArray 36)) := fun W => by
    have := run_make (P := Try.prog) W 37 36 ic _ Try.underlying37 hic hc0 .i64 .i64 n n (by omega) (by omega) (by rw [hc2]; omega) (by omega)
    rw [this, hc1]
    simp only [Int.toNat_natCast, Value.cells, made_pairs]
  have m2 : ∀ W, (Instr.makeSlice 31 (.int .i64 n) (.int .i64 n)).run Try.prog W = .ok (.slice (some ⟨W.heap.size, 0, none⟩) n n) (W.alloc (.cells (ints (List.replicate n 0)).toArray 3)) := fun W => by
    have := run_make (P := Try.prog) W 31 3 ii _ Try.underlying31 hii hi0 .i64 .i64 n n (by omega) (by omega) (by rw [hi2]; omega) (by omega)
    rw [this, hi1]
    simp only [Int.toNat_natCast, Value.cells, Nat.mul_one, made_ints]
  clear hic hc0 hc1 hc2 hii hi0 hi1 hi2
  go_enter Try.func4, Try.ntmps4
  go_wp2_with fail
  go_region
  all_goals go_wp2
  all_goals go_ret2
  all_goals refine ⟨_, _, _, _, rfl, (by repeat (first | exact Touch.refl _ _ | exact Touch.nil (by assumption) | assumption | refine Touch.drew ?_ | refine Touch.drewN ?_ _ | refine Touch.alloc ?_ _ | (refine Touch.setNew _ ?_ ?_; rotate_left; focus (simp; done)) | (refine Touch.setCell ?_ ?_ _; rotate_left; focus (simp; done)) | (refine Touch.setRow ?_ ?_ _; rotate_left; focus (simp; done)))), ⟨(by repeat (first | assumption | (refine blk.newAt _ _ _ ?_; (simp; done)) | refine blk.drew ?_ | refine blk.drewN ?_ _ | refine blk.alloc ?_ _ | (refine blk.setNe ?_ ?_ _; rotate_left; focus (simp; done)))), (by repeat (first | assumption | (refine blk.newAt _ _ _ ?_; (simp; done)) | refine blk.drew ?_ | refine blk.drewN ?_ _ | refine blk.alloc ?_ _ | (refine blk.setNe ?_ ?_ _; rotate_left; focus (simp; done)))), by (rw [List.map_replicate]; exact (by repeat (first | assumption | (refine blk.newAt _ _ _ ?_; (simp; done)) | refine blk.drew ?_ | refine blk.drewN ?_ _ | refine blk.alloc ?_ _ | (refine blk.setNe ?_ ?_ _; rotate_left; focus (simp; done))))), (by repeat (first | assumption | (refine blk.newAt _ _ _ ?_; (simp; done)) | refine blk.drew ?_ | refine blk.drewN ?_ _ | refine blk.alloc ?_ _ | (refine blk.setNe ?_ ?_ _; rotate_left; focus (simp; done)))), by simp, by simp, by simp, hn, by omega, by omega, by omega, by omega, by omega, by omega⟩, by omega, by omega, by omega, by omega⟩
end Go.Proofs.Ytpalndoklifkiaa
