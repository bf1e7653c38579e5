/-
  The questions: asked, kind by kind.
-/
import Derived.Test.YtpalndoklifkiaaLawB
namespace Go.Proofs.Ytpalndoklifkiaa
open Go.RowKit

theorem row_slice {w : World} {base : Nat} {e : TypeId} {size : Nat} {v : Value} {n : Nat} {xs : List Value} (h : w.ownsRow base e size v n xs) : ∃ a l c, v = .slice a l c := by
  rcases h.2 with ⟨rfl, h0⟩ | ⟨g, cap, cur, rfl, _⟩ <;> exact ⟨_, _, _, rfl⟩

theorem ask_quiet {w w' : World} {B bh bc bs bp sp pp room c : Nat} {cs : List Pair} {sz : List Nat} {sh : List Int} {sv : Value} {hs : List Hdr} {pv : Value} {pl : List Int} (F : Full w B bh bc bs bp sp pp room cs sz sh sv hs pv pl) (hpl : pl.length ≤ c) (T : Touch [] w w') :
    AskPost w B bh sp pp room (c + 1) (.returned (.bool true)) w' :=
  ⟨rfl, ⟨_, _, _, _, _, _, _, _, _, _, F.touch T, by omega⟩, T.belowB (by have := F.b3; have := F.P.lt; omega) (by simp)⟩

theorem zero_kept (w1 w2 : World) (T : Touch [] (w1.alloc (.cells #[.int .i64 0, .int .i64 0] 36)).drew w2) :
    w2.frozen? ⟨w1.heap.size, 0, none⟩ = false ∧ w2.frozen? ⟨w1.heap.size, 1, none⟩ = false ∧ w2.cell? ⟨w1.heap.size, 0, none⟩ = some (.int .i64 0) ∧ w2.cell? ⟨w1.heap.size, 1, none⟩ = some (.int .i64 0) ∧ blk w2 w1.heap.size [.int .i64 0, .int .i64 0] 36 := by
  have hz : blk w2 w1.heap.size [.int .i64 0, .int .i64 0] 36 := (blk.newAt w1 [.int .i64 0, .int .i64 0] 36 rfl).drew.touch T List.not_mem_nil
  exact ⟨hz.frozen 0, hz.frozen 1, hz.cell 0, hz.cell 1, hz⟩

set_option maxRecDepth 100000 in
set_option maxHeartbeats 2000000 in
theorem asked_free {w : World} {B bh sp pp room c : Nat} (S : SInv w B bh sp pp room c) (A Bn at_ ct cx : Int) (rv : Value) (hrv : ∃ a l c, rv = .slice a l c) :
    Calls Try.prog 6 #[.pointer (some ⟨bh, 0, none⟩), .pointer (some ⟨sp, 0, none⟩), .pointer (some ⟨pp, 0, none⟩), .agg #[.int .i64 6, .int .i64 A, .int .i64 Bn, .int .i64 at_, .int .i64 ct, .int .i64 cx, rv]] w (AskPost w B bh sp pp room (c + 1)) := by
  obtain ⟨bc, bs, bp, cs, sz, sh, sv, hs, pv, pl, F, hpl⟩ := S
  obtain ⟨ra, rl, rc, rfl⟩ := hrv
  obtain ⟨pa, pn, pc, rfl⟩ := row_slice F.Q
  have p0 : w.cell? ⟨pp, 0, none⟩ = some (.slice pa pn pc) := F.P.cell 0
  have HOF : Hid (∀ w', Touch [] w w' → Calls Try.prog 11 #[.agg #[.slice pa pn pc], .int .i64 at_] w' fun e w'' => e = .returned (.int .i64 (ofP pl at_)) ∧ Touch [] w' w'') := Lib.hid fun w' ht => of_any (ownsRow_touch F.Q ht (by simp)) at_
  have HOC : Hid (∀ w', Touch [] w w' → Calls Try.prog 12 #[.agg #[.slice pa pn pc], .agg #[.int .i64 ct, .int .i64 cx]] w' fun e w'' => e = .returned (.agg #[.int .i64 (cellP pl (ct, cx)).1, .int .i64 (cellP pl (ct, cx)).2]) ∧ Touch [] w' w'') := Lib.hid fun w' ht => cell_any (ownsRow_touch F.Q ht (by simp)) ct cx
  have hpp : pp < w.heap.size := F.P.lt
  have HF := Lib.hid F
  have HPL := Lib.hid hpl
  clear F hpl
  generalize ofP pl at_ = atv at *
  generalize cellP pl (ct, cx) = cv at *
  obtain ⟨cv1, cv2⟩ := cv
  go_enter Try.func6, Try.ntmps6
  go_wp2_with fail
  go_region_held3 (fun w' => w'.cell? ⟨pp, 0, none⟩ = some (.slice pa pn pc) ∧ w'.cell? ⟨w.heap.size, 3, none⟩ = some (.int .i64 at_))
    (first | (exact ⟨T1.cell pc1 List.not_mem_nil, T1.cell pc2 List.not_mem_nil⟩) | go_keep | fail)
    (first | (go_at_call 11; (with_reducible refine (HOF.out _ (((Touch.refl [] _).alloc _).drew)).mono ?_); rintro e w1 ⟨rfl, T1⟩
              have pc1 : (w.alloc (.cells #[.int .i64 6, .int .i64 A, .int .i64 Bn, .int .i64 at_, .int .i64 ct, .int .i64 cx, .slice ra rl rc] 39)).drew.cell? ⟨pp, 0, none⟩ = some (.slice pa pn pc) := ((Touch.refl [] _).alloc _).drew.cell p0 List.not_mem_nil
              have pc2 : (w.alloc (.cells #[.int .i64 6, .int .i64 A, .int .i64 Bn, .int .i64 at_, .int .i64 ct, .int .i64 cx, .slice ra rl rc] 39)).drew.cell? ⟨w.heap.size, 3, none⟩ = some (.int .i64 at_) := (blk.newAt w [.int .i64 6, .int .i64 A, .int .i64 Bn, .int .i64 at_, .int .i64 ct, .int .i64 cx, .slice ra rl rc] 39 rfl).drew.cell 3) | fail)
  have T01 : Touch [] w w1 := ((Touch.refl [] _).alloc _).drew.trans T1
  have hb1 : blk w1 w.heap.size [.int .i64 6, .int .i64 A, .int .i64 Bn, .int .i64 at_, .int .i64 ct, .int .i64 cx, .slice ra rl rc] 39 := (blk.newAt w [.int .i64 6, .int .i64 A, .int .i64 Bn, .int .i64 at_, .int .i64 ct, .int .i64 cx, .slice ra rl rc] 39 rfl).drew.touch T1 List.not_mem_nil
  have q0 : w1.cell? ⟨pp, 0, none⟩ = some (.slice pa pn pc) := T01.cell p0 List.not_mem_nil
  have q4 : w1.cell? ⟨w.heap.size, 4, none⟩ = some (.int .i64 ct) := hb1.cell 4
  have q5 : w1.cell? ⟨w.heap.size, 5, none⟩ = some (.int .i64 cx) := hb1.cell 5
  have HT01 := Lib.hid T01
  have hpp1 : pp < w1.heap.size := Nat.lt_of_lt_of_le hpp T01.size
  have hbx1 : w.heap.size < w1.heap.size := hb1.lt
  have HB1 := Lib.hid hb1
  have HOC1 : Hid (∀ w', Touch [] w1 w' → Calls Try.prog 12 #[.agg #[.slice pa pn pc], .agg #[.int .i64 ct, .int .i64 cx]] w' fun e w'' => e = .returned (.agg #[.int .i64 cv1, .int .i64 cv2]) ∧ Touch [] w' w'' ∧ pp < w''.heap.size ∧ w.heap.size < w''.heap.size ∧ w1.heap.size ≤ w''.heap.size) := Lib.hid fun w' ht => (HOC.out w' (T01.trans ht)).mono (fun e w'' h => ⟨h.1, h.2, Nat.lt_of_lt_of_le hpp1 (ht.trans h.2).size, Nat.lt_of_lt_of_le hbx1 (ht.trans h.2).size, (ht.trans h.2).size⟩)
  clear T01 hb1 T1 p0 HOF HOC
  go_upto_region 2 with fail
  go_cut [10] (fun s10 wx => AskCut w1 (cv1, cv2) s10 wx)
  case first =>
    go_region_held3 (fun w' => w'.cell? ⟨pp, 0, none⟩ = some (.slice pa pn pc) ∧ w'.cell? ⟨w.heap.size, 4, none⟩ = some (.int .i64 ct) ∧ w'.cell? ⟨w.heap.size, 5, none⟩ = some (.int .i64 cx))
      (first | (refine ⟨Touch.cell (w := w1) (F := []) ?_ q0 List.not_mem_nil, Touch.cell (w := w1) (F := []) ?_ q4 List.not_mem_nil, Touch.cell (w := w1) (F := []) ?_ q5 List.not_mem_nil⟩ <;> exact (by repeat (first | exact Touch.refl _ _ | refine Touch.trans ?_ T2 | refine Touch.drew ?_ | refine Touch.drewN ?_ _ | refine Touch.alloc ?_ _ | (refine Touch.setNew _ ?_ ?_; rotate_left; focus (first | (simp; done) | (simp only []; omega) | (simp; omega)))))) | fail)
      (first | (go_at_call 12
                (with_reducible refine (HOC1.out _ (by repeat (first | exact Touch.refl _ _ | exact Touch.nil (by assumption) | assumption | refine Touch.drew ?_ | refine Touch.drewN ?_ _ | refine Touch.alloc ?_ _ | (refine Touch.setNew _ ?_ ?_; rotate_left; focus (first | (simp; done) | (simp only []; omega) | (simp; omega))) | (refine Touch.setCell ?_ ?_ _; rotate_left; focus (simp; done)) | (refine Touch.setRow ?_ ?_ _; rotate_left; focus (simp; done))))).mono ?_); rintro e w2 ⟨rfl, T2, l1, l2, l3⟩
                first | (have zz := zero_kept w1 w2 (by with_reducible assumption); obtain ⟨z0, z1, z2, z3, z4⟩ := zz; have z5 := Lib.hid z4; clear z4) | skip | fail) | fail)
    all_goals (go_wp2_with fail; go_meet; case rel => first | exact ⟨_, rfl, (by repeat (first | exact Touch.refl _ _ | refine Touch.trans ?_ T2 | refine Touch.drew ?_ | refine Touch.drewN ?_ _ | refine Touch.alloc ?_ _ | (refine Touch.setNew _ ?_ ?_; rotate_left; focus (first | (simp; done) | (simp only []; omega) | (simp; omega))))), blk.newAt _ [.int .i64 cv1, .int .i64 cv2] _ rfl, l3⟩ | exact ⟨_, rfl, (by repeat (first | exact Touch.refl _ _ | refine Touch.trans ?_ T2 | refine Touch.drew ?_ | refine Touch.drewN ?_ _ | refine Touch.alloc ?_ _ | (refine Touch.setNew _ ?_ ?_; rotate_left; focus (first | (simp; done) | (simp only []; omega) | (simp; omega))))), (z5.out.set 0 (.int .i64 cv1)).set 1 (.int .i64 cv2), Nat.le_refl _⟩ | fail)
  case rest =>
  obtain ⟨gc, rfl, T02, hb2, hg2⟩ := hcut
  have HC2 := Lib.hid hb2
  have hB2 := HB1.out.touch T02 List.not_mem_nil
  have HB2 := Lib.hid hB2
  have hgn : gc ≠ pp ∧ gc ≠ w.heap.size ∧ ¬ gc < w.heap.size := by omega
  have q0 : wc.cell? ⟨w.heap.size, 0, none⟩ = some (.int .i64 6) := hB2.cell 0
  have T2 : Touch [] w wc := HT01.out.trans T02
  have hpp2 : pp < wc.heap.size := Nat.lt_of_lt_of_le hpp T2.size
  have HT2 := Lib.hid T2
  have HF2 := Lib.hid (HF.out.touch T2)
  clear hb2 T02 T2 hg2 HOC1 HT01 HB1 hpp1 hbx1 q4 q5 pc1 pc2
  have HFR := Lib.hid (free_any HF2.out.H HF2.out.A.fit)
  have HSF := Lib.hid (sfree_any HF2.out.S HF2.out.H.le)
  have HL := free_law (cs := cs) (sh := sh) HF2.out.A HF2.out.H.lc
  rw [HL] at HFR
  generalize sused (blocksTo cs sz sh room) = su at *
  clear hB2 HL
  go_wp2_with (first | (go_at_call 9; (with_reducible refine HFR.out.mono ?_); rintro e w3 ⟨rfl, rfl⟩) | (go_at_call 10; (with_reducible refine HSF.out.mono ?_); rintro e w3 ⟨rfl, T3⟩) | fail)
  go_ret
  exact ask_quiet HF.out HPL.out (HT2.out.trans T3)

set_option maxRecDepth 100000 in
set_option maxHeartbeats 2000000 in
theorem asked_look {w : World} {B bh sp pp room c : Nat} (S : SInv w B bh sp pp room c) (A Bn at_ ct cx : Int) (rv : Value) (hrv : ∃ a l c, rv = .slice a l c) :
    Calls Try.prog 6 #[.pointer (some ⟨bh, 0, none⟩), .pointer (some ⟨sp, 0, none⟩), .pointer (some ⟨pp, 0, none⟩), .agg #[.int .i64 4, .int .i64 A, .int .i64 Bn, .int .i64 at_, .int .i64 ct, .int .i64 cx, rv]] w (AskPost w B bh sp pp room (c + 1)) := by
  obtain ⟨bc, bs, bp, cs, sz, sh, sv, hs, pv, pl, F, hpl⟩ := S
  obtain ⟨ra, rl, rc, rfl⟩ := hrv
  obtain ⟨pa, pn, pc, rfl⟩ := row_slice F.Q
  have p0 : w.cell? ⟨pp, 0, none⟩ = some (.slice pa pn pc) := F.P.cell 0
  have HOF : Hid (∀ w', Touch [] w w' → Calls Try.prog 11 #[.agg #[.slice pa pn pc], .int .i64 at_] w' fun e w'' => e = .returned (.int .i64 (ofP pl at_)) ∧ Touch [] w' w'') := Lib.hid fun w' ht => of_any (ownsRow_touch F.Q ht (by simp)) at_
  have HOC : Hid (∀ w', Touch [] w w' → Calls Try.prog 12 #[.agg #[.slice pa pn pc], .agg #[.int .i64 ct, .int .i64 cx]] w' fun e w'' => e = .returned (.agg #[.int .i64 (cellP pl (ct, cx)).1, .int .i64 (cellP pl (ct, cx)).2]) ∧ Touch [] w' w'') := Lib.hid fun w' ht => cell_any (ownsRow_touch F.Q ht (by simp)) ct cx
  have hpp : pp < w.heap.size := F.P.lt
  have HF := Lib.hid F
  have HPL := Lib.hid hpl
  clear F hpl
  generalize ofP pl at_ = atv at *
  generalize cellP pl (ct, cx) = cv at *
  obtain ⟨cv1, cv2⟩ := cv
  go_enter Try.func6, Try.ntmps6
  go_wp2_with fail
  go_region_held3 (fun w' => w'.cell? ⟨pp, 0, none⟩ = some (.slice pa pn pc) ∧ w'.cell? ⟨w.heap.size, 3, none⟩ = some (.int .i64 at_))
    (first | (exact ⟨T1.cell pc1 List.not_mem_nil, T1.cell pc2 List.not_mem_nil⟩) | go_keep | fail)
    (first | (go_at_call 11; (with_reducible refine (HOF.out _ (((Touch.refl [] _).alloc _).drew)).mono ?_); rintro e w1 ⟨rfl, T1⟩
              have pc1 : (w.alloc (.cells #[.int .i64 4, .int .i64 A, .int .i64 Bn, .int .i64 at_, .int .i64 ct, .int .i64 cx, .slice ra rl rc] 39)).drew.cell? ⟨pp, 0, none⟩ = some (.slice pa pn pc) := ((Touch.refl [] _).alloc _).drew.cell p0 List.not_mem_nil
              have pc2 : (w.alloc (.cells #[.int .i64 4, .int .i64 A, .int .i64 Bn, .int .i64 at_, .int .i64 ct, .int .i64 cx, .slice ra rl rc] 39)).drew.cell? ⟨w.heap.size, 3, none⟩ = some (.int .i64 at_) := (blk.newAt w [.int .i64 4, .int .i64 A, .int .i64 Bn, .int .i64 at_, .int .i64 ct, .int .i64 cx, .slice ra rl rc] 39 rfl).drew.cell 3) | fail)
  have T01 : Touch [] w w1 := ((Touch.refl [] _).alloc _).drew.trans T1
  have hb1 : blk w1 w.heap.size [.int .i64 4, .int .i64 A, .int .i64 Bn, .int .i64 at_, .int .i64 ct, .int .i64 cx, .slice ra rl rc] 39 := (blk.newAt w [.int .i64 4, .int .i64 A, .int .i64 Bn, .int .i64 at_, .int .i64 ct, .int .i64 cx, .slice ra rl rc] 39 rfl).drew.touch T1 List.not_mem_nil
  have q0 : w1.cell? ⟨pp, 0, none⟩ = some (.slice pa pn pc) := T01.cell p0 List.not_mem_nil
  have q4 : w1.cell? ⟨w.heap.size, 4, none⟩ = some (.int .i64 ct) := hb1.cell 4
  have q5 : w1.cell? ⟨w.heap.size, 5, none⟩ = some (.int .i64 cx) := hb1.cell 5
  have HT01 := Lib.hid T01
  have hpp1 : pp < w1.heap.size := Nat.lt_of_lt_of_le hpp T01.size
  have hbx1 : w.heap.size < w1.heap.size := hb1.lt
  have HB1 := Lib.hid hb1
  have HOC1 : Hid (∀ w', Touch [] w1 w' → Calls Try.prog 12 #[.agg #[.slice pa pn pc], .agg #[.int .i64 ct, .int .i64 cx]] w' fun e w'' => e = .returned (.agg #[.int .i64 cv1, .int .i64 cv2]) ∧ Touch [] w' w'' ∧ pp < w''.heap.size ∧ w.heap.size < w''.heap.size ∧ w1.heap.size ≤ w''.heap.size) := Lib.hid fun w' ht => (HOC.out w' (T01.trans ht)).mono (fun e w'' h => ⟨h.1, h.2, Nat.lt_of_lt_of_le hpp1 (ht.trans h.2).size, Nat.lt_of_lt_of_le hbx1 (ht.trans h.2).size, (ht.trans h.2).size⟩)
  clear T01 hb1 T1 p0 HOF HOC
  go_upto_region 2 with fail
  go_cut [10] (fun s10 wx => AskCut w1 (cv1, cv2) s10 wx)
  case first =>
    go_region_held3 (fun w' => w'.cell? ⟨pp, 0, none⟩ = some (.slice pa pn pc) ∧ w'.cell? ⟨w.heap.size, 4, none⟩ = some (.int .i64 ct) ∧ w'.cell? ⟨w.heap.size, 5, none⟩ = some (.int .i64 cx))
      (first | (refine ⟨Touch.cell (w := w1) (F := []) ?_ q0 List.not_mem_nil, Touch.cell (w := w1) (F := []) ?_ q4 List.not_mem_nil, Touch.cell (w := w1) (F := []) ?_ q5 List.not_mem_nil⟩ <;> exact (by repeat (first | exact Touch.refl _ _ | refine Touch.trans ?_ T2 | refine Touch.drew ?_ | refine Touch.drewN ?_ _ | refine Touch.alloc ?_ _ | (refine Touch.setNew _ ?_ ?_; rotate_left; focus (first | (simp; done) | (simp only []; omega) | (simp; omega)))))) | fail)
      (first | (go_at_call 12
                (with_reducible refine (HOC1.out _ (by repeat (first | exact Touch.refl _ _ | exact Touch.nil (by assumption) | assumption | refine Touch.drew ?_ | refine Touch.drewN ?_ _ | refine Touch.alloc ?_ _ | (refine Touch.setNew _ ?_ ?_; rotate_left; focus (first | (simp; done) | (simp only []; omega) | (simp; omega))) | (refine Touch.setCell ?_ ?_ _; rotate_left; focus (simp; done)) | (refine Touch.setRow ?_ ?_ _; rotate_left; focus (simp; done))))).mono ?_); rintro e w2 ⟨rfl, T2, l1, l2, l3⟩
                first | (have zz := zero_kept w1 w2 (by with_reducible assumption); obtain ⟨z0, z1, z2, z3, z4⟩ := zz; have z5 := Lib.hid z4; clear z4) | skip | fail) | fail)
    all_goals (go_wp2_with fail; go_meet; case rel => first | exact ⟨_, rfl, (by repeat (first | exact Touch.refl _ _ | refine Touch.trans ?_ T2 | refine Touch.drew ?_ | refine Touch.drewN ?_ _ | refine Touch.alloc ?_ _ | (refine Touch.setNew _ ?_ ?_; rotate_left; focus (first | (simp; done) | (simp only []; omega) | (simp; omega))))), blk.newAt _ [.int .i64 cv1, .int .i64 cv2] _ rfl, l3⟩ | exact ⟨_, rfl, (by repeat (first | exact Touch.refl _ _ | refine Touch.trans ?_ T2 | refine Touch.drew ?_ | refine Touch.drewN ?_ _ | refine Touch.alloc ?_ _ | (refine Touch.setNew _ ?_ ?_; rotate_left; focus (first | (simp; done) | (simp only []; omega) | (simp; omega))))), (z5.out.set 0 (.int .i64 cv1)).set 1 (.int .i64 cv2), Nat.le_refl _⟩ | fail)
  case rest =>
  obtain ⟨gc, rfl, T02, hb2, hg2⟩ := hcut
  have HC2 := Lib.hid hb2
  have hB2 := HB1.out.touch T02 List.not_mem_nil
  have HB2 := Lib.hid hB2
  have hgn : gc ≠ pp ∧ gc ≠ w.heap.size ∧ ¬ gc < w.heap.size := by omega
  have q0 : wc.cell? ⟨w.heap.size, 0, none⟩ = some (.int .i64 4) := hB2.cell 0
  have T2 : Touch [] w wc := HT01.out.trans T02
  have hpp2 : pp < wc.heap.size := Nat.lt_of_lt_of_le hpp T2.size
  have HT2 := Lib.hid T2
  have HF2 := Lib.hid (HF.out.touch T2)
  clear hb2 T02 T2 hg2 HOC1 HT01 HB1 hpp1 hbx1 q4 q5 pc1 pc2
  have HLK := look_any HF2.out.H atv HF2.out.A.fit
  have HSK : ∀ w', Touch [] wc w' → Calls Try.prog 20 #[.pointer (some ⟨sp, 0, none⟩), .int .i64 atv] w' fun e w'' => e = .returned (.tuple #[.int .i64 (slookOf (blocksTo cs sz sh room) atv).1, .int .i64 (slookOf (blocksTo cs sz sh room) atv).2.1, .int .i64 (slookOf (blocksTo cs sz sh room) atv).2.2]) ∧ Touch [] w' w'' := fun w' ht => slook_any (HF2.out.touch ht).S atv
  have HL := look_law (sh := sh) HF2.out.A HF2.out.H.lc atv
  rw [← HL] at HSK
  clear HL hB2
  generalize lookOf sz sh atv = lk at *
  obtain ⟨l1, l2, l3⟩ := lk
  have HLK := Lib.hid HLK
  have HSK := Lib.hid HSK
  go_wp2_with (first | (go_at_call 19; (with_reducible refine HLK.out.mono ?_); rintro e w3 ⟨rfl, T3⟩; have HT3 := Lib.hid T3) | (go_at_call 20; (with_reducible refine (HSK.out _ HT3.out).mono ?_); rintro e w4 ⟨rfl, T4⟩) | fail)
  go_ret
  exact ask_quiet HF.out HPL.out ((HT2.out.trans HT3.out).trans T4)

set_option maxRecDepth 100000 in
set_option maxHeartbeats 2000000 in
theorem asked_load {w : World} {B bh sp pp room c : Nat} (S : SInv w B bh sp pp room c) (A Bn at_ ct cx : Int) (rv : Value) (hrv : ∃ a l c, rv = .slice a l c) :
    Calls Try.prog 6 #[.pointer (some ⟨bh, 0, none⟩), .pointer (some ⟨sp, 0, none⟩), .pointer (some ⟨pp, 0, none⟩), .agg #[.int .i64 3, .int .i64 A, .int .i64 Bn, .int .i64 at_, .int .i64 ct, .int .i64 cx, rv]] w (AskPost w B bh sp pp room (c + 1)) := by
  obtain ⟨bc, bs, bp, cs, sz, sh, sv, hs, pv, pl, F, hpl⟩ := S
  obtain ⟨ra, rl, rc, rfl⟩ := hrv
  obtain ⟨pa, pn, pc, rfl⟩ := row_slice F.Q
  have p0 : w.cell? ⟨pp, 0, none⟩ = some (.slice pa pn pc) := F.P.cell 0
  have HOF : Hid (∀ w', Touch [] w w' → Calls Try.prog 11 #[.agg #[.slice pa pn pc], .int .i64 at_] w' fun e w'' => e = .returned (.int .i64 (ofP pl at_)) ∧ Touch [] w' w'') := Lib.hid fun w' ht => of_any (ownsRow_touch F.Q ht (by simp)) at_
  have HOC : Hid (∀ w', Touch [] w w' → Calls Try.prog 12 #[.agg #[.slice pa pn pc], .agg #[.int .i64 ct, .int .i64 cx]] w' fun e w'' => e = .returned (.agg #[.int .i64 (cellP pl (ct, cx)).1, .int .i64 (cellP pl (ct, cx)).2]) ∧ Touch [] w' w'') := Lib.hid fun w' ht => cell_any (ownsRow_touch F.Q ht (by simp)) ct cx
  have hpp : pp < w.heap.size := F.P.lt
  have HF := Lib.hid F
  have HPL := Lib.hid hpl
  clear F hpl
  generalize ofP pl at_ = atv at *
  generalize cellP pl (ct, cx) = cv at *
  obtain ⟨cv1, cv2⟩ := cv
  go_enter Try.func6, Try.ntmps6
  go_wp2_with fail
  go_region_held3 (fun w' => w'.cell? ⟨pp, 0, none⟩ = some (.slice pa pn pc) ∧ w'.cell? ⟨w.heap.size, 3, none⟩ = some (.int .i64 at_))
    (first | (exact ⟨T1.cell pc1 List.not_mem_nil, T1.cell pc2 List.not_mem_nil⟩) | go_keep | fail)
    (first | (go_at_call 11; (with_reducible refine (HOF.out _ (((Touch.refl [] _).alloc _).drew)).mono ?_); rintro e w1 ⟨rfl, T1⟩
              have pc1 : (w.alloc (.cells #[.int .i64 3, .int .i64 A, .int .i64 Bn, .int .i64 at_, .int .i64 ct, .int .i64 cx, .slice ra rl rc] 39)).drew.cell? ⟨pp, 0, none⟩ = some (.slice pa pn pc) := ((Touch.refl [] _).alloc _).drew.cell p0 List.not_mem_nil
              have pc2 : (w.alloc (.cells #[.int .i64 3, .int .i64 A, .int .i64 Bn, .int .i64 at_, .int .i64 ct, .int .i64 cx, .slice ra rl rc] 39)).drew.cell? ⟨w.heap.size, 3, none⟩ = some (.int .i64 at_) := (blk.newAt w [.int .i64 3, .int .i64 A, .int .i64 Bn, .int .i64 at_, .int .i64 ct, .int .i64 cx, .slice ra rl rc] 39 rfl).drew.cell 3) | fail)
  have T01 : Touch [] w w1 := ((Touch.refl [] _).alloc _).drew.trans T1
  have hb1 : blk w1 w.heap.size [.int .i64 3, .int .i64 A, .int .i64 Bn, .int .i64 at_, .int .i64 ct, .int .i64 cx, .slice ra rl rc] 39 := (blk.newAt w [.int .i64 3, .int .i64 A, .int .i64 Bn, .int .i64 at_, .int .i64 ct, .int .i64 cx, .slice ra rl rc] 39 rfl).drew.touch T1 List.not_mem_nil
  have q0 : w1.cell? ⟨pp, 0, none⟩ = some (.slice pa pn pc) := T01.cell p0 List.not_mem_nil
  have q4 : w1.cell? ⟨w.heap.size, 4, none⟩ = some (.int .i64 ct) := hb1.cell 4
  have q5 : w1.cell? ⟨w.heap.size, 5, none⟩ = some (.int .i64 cx) := hb1.cell 5
  have HT01 := Lib.hid T01
  have hpp1 : pp < w1.heap.size := Nat.lt_of_lt_of_le hpp T01.size
  have hbx1 : w.heap.size < w1.heap.size := hb1.lt
  have HB1 := Lib.hid hb1
  have HOC1 : Hid (∀ w', Touch [] w1 w' → Calls Try.prog 12 #[.agg #[.slice pa pn pc], .agg #[.int .i64 ct, .int .i64 cx]] w' fun e w'' => e = .returned (.agg #[.int .i64 cv1, .int .i64 cv2]) ∧ Touch [] w' w'' ∧ pp < w''.heap.size ∧ w.heap.size < w''.heap.size ∧ w1.heap.size ≤ w''.heap.size) := Lib.hid fun w' ht => (HOC.out w' (T01.trans ht)).mono (fun e w'' h => ⟨h.1, h.2, Nat.lt_of_lt_of_le hpp1 (ht.trans h.2).size, Nat.lt_of_lt_of_le hbx1 (ht.trans h.2).size, (ht.trans h.2).size⟩)
  clear T01 hb1 T1 p0 HOF HOC
  go_upto_region 2 with fail
  go_cut [10] (fun s10 wx => AskCut w1 (cv1, cv2) s10 wx)
  case first =>
    go_region_held3 (fun w' => w'.cell? ⟨pp, 0, none⟩ = some (.slice pa pn pc) ∧ w'.cell? ⟨w.heap.size, 4, none⟩ = some (.int .i64 ct) ∧ w'.cell? ⟨w.heap.size, 5, none⟩ = some (.int .i64 cx))
      (first | (refine ⟨Touch.cell (w := w1) (F := []) ?_ q0 List.not_mem_nil, Touch.cell (w := w1) (F := []) ?_ q4 List.not_mem_nil, Touch.cell (w := w1) (F := []) ?_ q5 List.not_mem_nil⟩ <;> exact (by repeat (first | exact Touch.refl _ _ | refine Touch.trans ?_ T2 | refine Touch.drew ?_ | refine Touch.drewN ?_ _ | refine Touch.alloc ?_ _ | (refine Touch.setNew _ ?_ ?_; rotate_left; focus (first | (simp; done) | (simp only []; omega) | (simp; omega)))))) | fail)
      (first | (go_at_call 12
                (with_reducible refine (HOC1.out _ (by repeat (first | exact Touch.refl _ _ | exact Touch.nil (by assumption) | assumption | refine Touch.drew ?_ | refine Touch.drewN ?_ _ | refine Touch.alloc ?_ _ | (refine Touch.setNew _ ?_ ?_; rotate_left; focus (first | (simp; done) | (simp only []; omega) | (simp; omega))) | (refine Touch.setCell ?_ ?_ _; rotate_left; focus (simp; done)) | (refine Touch.setRow ?_ ?_ _; rotate_left; focus (simp; done))))).mono ?_); rintro e w2 ⟨rfl, T2, l1, l2, l3⟩
                first | (have zz := zero_kept w1 w2 (by with_reducible assumption); obtain ⟨z0, z1, z2, z3, z4⟩ := zz; have z5 := Lib.hid z4; clear z4) | skip | fail) | fail)
    all_goals (go_wp2_with fail; go_meet; case rel => first | exact ⟨_, rfl, (by repeat (first | exact Touch.refl _ _ | refine Touch.trans ?_ T2 | refine Touch.drew ?_ | refine Touch.drewN ?_ _ | refine Touch.alloc ?_ _ | (refine Touch.setNew _ ?_ ?_; rotate_left; focus (first | (simp; done) | (simp only []; omega) | (simp; omega))))), blk.newAt _ [.int .i64 cv1, .int .i64 cv2] _ rfl, l3⟩ | exact ⟨_, rfl, (by repeat (first | exact Touch.refl _ _ | refine Touch.trans ?_ T2 | refine Touch.drew ?_ | refine Touch.drewN ?_ _ | refine Touch.alloc ?_ _ | (refine Touch.setNew _ ?_ ?_; rotate_left; focus (first | (simp; done) | (simp only []; omega) | (simp; omega))))), (z5.out.set 0 (.int .i64 cv1)).set 1 (.int .i64 cv2), Nat.le_refl _⟩ | fail)
  case rest =>
  obtain ⟨gc, rfl, T02, hb2, hg2⟩ := hcut
  have HC2 := Lib.hid hb2
  have hB2 := HB1.out.touch T02 List.not_mem_nil
  have HB2 := Lib.hid hB2
  have hgn : gc ≠ pp ∧ gc ≠ w.heap.size ∧ ¬ gc < w.heap.size := by omega
  have q0 : wc.cell? ⟨w.heap.size, 0, none⟩ = some (.int .i64 3) := hB2.cell 0
  have T2 : Touch [] w wc := HT01.out.trans T02
  have hpp2 : pp < wc.heap.size := Nat.lt_of_lt_of_le hpp T2.size
  have HT2 := Lib.hid T2
  have HF2 := Lib.hid (HF.out.touch T2)
  clear hb2 T02 T2 hg2 HOC1 HT01 HB1 hpp1 hbx1 q4 q5 pc1 pc2
  have p2 : wc.cell? ⟨w.heap.size, 2, none⟩ = some (.int .i64 Bn) := hB2.cell 2
  have HLK := load_any HF2.out.H atv Bn HF2.out.A.fit
  have HSK : ∀ w', Touch [] wc w' → Calls Try.prog 18 #[.pointer (some ⟨sp, 0, none⟩), .int .i64 atv, .int .i64 Bn] w' fun e w'' => e = .returned (.tuple #[.agg #[.int .i64 (sloadOf (blocksTo cs sz sh room) atv Bn).1.1, .int .i64 (sloadOf (blocksTo cs sz sh room) atv Bn).1.2], .int .i64 (sloadOf (blocksTo cs sz sh room) atv Bn).2]) ∧ Touch [] w' w'' := fun w' ht => sload_any (HF2.out.touch ht).S atv Bn
  have HL := load_law (sh := sh) HF2.out.A HF2.out.H.lc atv Bn
  rw [← HL] at HSK
  clear HL
  generalize loadOf cs sz atv Bn = lk at *
  obtain ⟨⟨l1, l2⟩, lr⟩ := lk
  have HLK := Lib.hid HLK
  have HSK := Lib.hid HSK
  have he := eql_cells l1 l2 l1 l2
  go_wp2_with (first | (go_at_call 17; (with_reducible refine HLK.out.mono ?_); rintro e w3 ⟨rfl, T3⟩; have p3 : w3.cell? ⟨w.heap.size, 2, none⟩ = some (.int .i64 Bn) := T3.cell p2 List.not_mem_nil; have l3 : w.heap.size < w3.heap.size := Nat.lt_of_lt_of_le hB2.lt T3.size; have HT3 := Lib.hid T3; clear T3)
                      | (go_at_call 18; (with_reducible refine (HSK.out _ (HT3.out.alloc _)).mono ?_); rintro e w4 ⟨rfl, T4⟩
                         have hb4 : blk w4 w3.heap.size [.int .i64 l1, .int .i64 l2] 36 := (blk.new w3 [.int .i64 l1, .int .i64 l2] 36).touch T4 List.not_mem_nil
                         have p4 : w4.cell? ⟨w3.heap.size, 0, none⟩ = some (.int .i64 l1) := hb4.cell 0
                         have p5 : w4.cell? ⟨w3.heap.size, 1, none⟩ = some (.int .i64 l2) := hb4.cell 1
                         have l4 := hb4.lt
                         have HT4 := Lib.hid (T4)
                         clear hb4 T4) | fail)
  go_ret
  exact ask_quiet HF.out HPL.out (((HT2.out.trans (HT3.out.alloc _)).trans HT4.out).alloc _)
end Go.Proofs.Ytpalndoklifkiaa
