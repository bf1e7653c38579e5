/-
  The questions: asked, kinds 2 and the others.
-/
import Derived.Test.YtpalndoklifkiaaAskA
namespace Go.Proofs.Ytpalndoklifkiaa
open Go.RowKit

theorem blocksIn.lt {w : World} {base : Nat} : ∀ {hs : List Hdr} {bl : List BlkM}, blocksIn w base hs bl → ∀ h, h ∈ hs → ∀ x, h.2.2.ownBlock = some x → x < w.heap.size
  | [], [], _, h, hh, _, _ => by simp at hh
  | h0 :: _, _ :: _, k, h, hh, x, hx => by
    rcases List.mem_cons.1 hh with rfl | hh
    · exact (k.1.2.2.lt x hx).2
    · exact blocksIn.lt k.2 h hh x hx

theorem sfoot_lt {w : World} {sp room : Nat} {sv : Value} {hs : List Hdr} {bl : List BlkM} (H : SRep w sp room sv hs bl) : ∀ x, x ∈ sfoot sp sv hs → x < w.heap.size := by
  intro x hx
  simp only [sfoot, List.mem_cons, List.mem_append, Option.mem_toList, List.mem_filterMap] at hx
  rcases hx with rfl | hx | ⟨h, hh, hx⟩
  · exact H.head.lt
  · exact (H.row.lt x (by simpa using hx)).2
  · exact blocksIn.lt H.tell h hh x hx

theorem ask_both {w wc w3 w4 : World} {B bh bc bs bp sp pp room c : Nat} {cs cs' : List Pair} {sz sz' : List Nat} {sh sh' : List Int} {sv sv' : Value} {hs hs' : List Hdr} {pv : Value} {pl : List Int}
    (F : Full wc B bh bc bs bp sp pp room cs sz sh sv hs pv pl) (T0 : Touch [] w wc) (hB : B ≤ w.heap.size) (hpl : pl.length ≤ c) (T : Touch (hfoot bh bc bs bp) wc w3) (H' : HRep w3 bh bc bs bp room cs' sz' sh') (A' : Arr room sz')
    (T2 : Touch (sfoot sp sv hs) w3 w4) (S' : SRep w4 sp room sv' hs' (blocksTo cs' sz' sh' room)) (hf : ∀ x, x ∈ sfoot sp sv' hs' → x ∈ sfoot sp sv hs ∨ w3.heap.size ≤ x) :
    AskPost w B bh sp pp room (c + 1) (.returned (.bool true)) w4 := by
  have TT : Touch (hfoot bh bc bs bp ++ sfoot sp sv hs) w w4 :=
    ((T0.nil (F := hfoot bh bc bs bp ++ sfoot sp sv hs)).trans (T.mono (fun x hx _ => List.mem_append_left _ hx))).trans (T2.mono (fun x hx _ => List.mem_append_right _ hx))
  refine ⟨rfl, ⟨_, _, _, _, _, _, _, _, _, _, F.both T H' A' T2 S' hf, by omega⟩, TT.belowB hB ?_⟩
  intro x hx
  rcases List.mem_append.1 hx with h | h
  · exact F.b1 x h
  · exact F.b2 x h

set_option maxRecDepth 100000 in
set_option maxHeartbeats 2000000 in
theorem asked_store {w : World} {B bh sp pp room c : Nat} (S : SInv w B bh sp pp room c) (A Bn at_ ct cx : Int) (rv : Value) (hrv : ∃ a l c, rv = .slice a l c) :
    Calls Try.prog 6 #[.pointer (some ⟨bh, 0, none⟩), .pointer (some ⟨sp, 0, none⟩), .pointer (some ⟨pp, 0, none⟩), .agg #[.int .i64 2, .int .i64 A, .int .i64 Bn, .int .i64 at_, .int .i64 ct, .int .i64 cx, rv]] w (AskPost w B bh sp pp room (c + 1)) := by
  obtain ⟨bc, bs, bp, cs, sz, sh, sv, hs, pv, pl, F, hpl⟩ := S
  obtain ⟨ra, rl, rc, rfl⟩ := hrv
  obtain ⟨pa, pn, pc, rfl⟩ := row_slice F.Q
  have p0 : w.cell? ⟨pp, 0, none⟩ = some (.slice pa pn pc) := F.P.cell 0
  have HOF : Hid (∀ w', Touch [] w w' → Calls Try.prog 11 #[.agg #[.slice pa pn pc], .int .i64 at_] w' fun e w'' => e = .returned (.int .i64 (ofP pl at_)) ∧ Touch [] w' w'') := Lib.hid fun w' ht => of_any (ownsRow_touch F.Q ht (by simp)) at_
  have HOC : Hid (∀ w', Touch [] w w' → Calls Try.prog 12 #[.agg #[.slice pa pn pc], .agg #[.int .i64 ct, .int .i64 cx]] w' fun e w'' => e = .returned (.agg #[.int .i64 (cellP pl (ct, cx)).1, .int .i64 (cellP pl (ct, cx)).2]) ∧ Touch [] w' w'') := Lib.hid fun w' ht => cell_any (ownsRow_touch F.Q ht (by simp)) ct cx
  have hpp : pp < w.heap.size := F.P.lt
  have HF := Lib.hid F
  have HPL := Lib.hid hpl
  clear F hpl
  generalize ofP pl at_ = atv at *
  generalize cellP pl (ct, cx) = cv at *
  obtain ⟨cv1, cv2⟩ := cv
  go_enter Try.func6, Try.ntmps6
  go_wp2_with fail
  go_region_held3 (fun w' => w'.cell? ⟨pp, 0, none⟩ = some (.slice pa pn pc) ∧ w'.cell? ⟨w.heap.size, 3, none⟩ = some (.int .i64 at_))
    (first | (exact ⟨T1.cell pc1 List.not_mem_nil, T1.cell pc2 List.not_mem_nil⟩) | go_keep | fail)
    (first | (go_at_call 11; (with_reducible refine (HOF.out _ (((Touch.refl [] _).alloc _).drew)).mono ?_); rintro e w1 ⟨rfl, T1⟩
              have pc1 : (w.alloc (.cells #[.int .i64 2, .int .i64 A, .int .i64 Bn, .int .i64 at_, .int .i64 ct, .int .i64 cx, .slice ra rl rc] 39)).drew.cell? ⟨pp, 0, none⟩ = some (.slice pa pn pc) := ((Touch.refl [] _).alloc _).drew.cell p0 List.not_mem_nil
              have pc2 : (w.alloc (.cells #[.int .i64 2, .int .i64 A, .int .i64 Bn, .int .i64 at_, .int .i64 ct, .int .i64 cx, .slice ra rl rc] 39)).drew.cell? ⟨w.heap.size, 3, none⟩ = some (.int .i64 at_) := (blk.newAt w [.int .i64 2, .int .i64 A, .int .i64 Bn, .int .i64 at_, .int .i64 ct, .int .i64 cx, .slice ra rl rc] 39 rfl).drew.cell 3) | fail)
  have T01 : Touch [] w w1 := ((Touch.refl [] _).alloc _).drew.trans T1
  have hb1 : blk w1 w.heap.size [.int .i64 2, .int .i64 A, .int .i64 Bn, .int .i64 at_, .int .i64 ct, .int .i64 cx, .slice ra rl rc] 39 := (blk.newAt w [.int .i64 2, .int .i64 A, .int .i64 Bn, .int .i64 at_, .int .i64 ct, .int .i64 cx, .slice ra rl rc] 39 rfl).drew.touch T1 List.not_mem_nil
  have q0 : w1.cell? ⟨pp, 0, none⟩ = some (.slice pa pn pc) := T01.cell p0 List.not_mem_nil
  have q4 : w1.cell? ⟨w.heap.size, 4, none⟩ = some (.int .i64 ct) := hb1.cell 4
  have q5 : w1.cell? ⟨w.heap.size, 5, none⟩ = some (.int .i64 cx) := hb1.cell 5
  have HT01 := Lib.hid T01
  have hpp1 : pp < w1.heap.size := Nat.lt_of_lt_of_le hpp T01.size
  have hbx1 : w.heap.size < w1.heap.size := hb1.lt
  have HB1 := Lib.hid hb1
  have HOC1 : Hid (∀ w', Touch [] w1 w' → Calls Try.prog 12 #[.agg #[.slice pa pn pc], .agg #[.int .i64 ct, .int .i64 cx]] w' fun e w'' => e = .returned (.agg #[.int .i64 cv1, .int .i64 cv2]) ∧ Touch [] w' w'' ∧ pp < w''.heap.size ∧ w.heap.size < w''.heap.size ∧ w1.heap.size ≤ w''.heap.size) := Lib.hid fun w' ht => (HOC.out w' (T01.trans ht)).mono (fun e w'' h => ⟨h.1, h.2, Nat.lt_of_lt_of_le hpp1 (ht.trans h.2).size, Nat.lt_of_lt_of_le hbx1 (ht.trans h.2).size, (ht.trans h.2).size⟩)
  clear T01 hb1 T1 p0 HOF HOC
  go_upto_region 2 with fail
  go_cut [10] (fun s10 wx => AskCut w1 (cv1, cv2) s10 wx)
  case first =>
    go_region_held3 (fun w' => w'.cell? ⟨pp, 0, none⟩ = some (.slice pa pn pc) ∧ w'.cell? ⟨w.heap.size, 4, none⟩ = some (.int .i64 ct) ∧ w'.cell? ⟨w.heap.size, 5, none⟩ = some (.int .i64 cx))
      (first | (refine ⟨Touch.cell (w := w1) (F := []) ?_ q0 List.not_mem_nil, Touch.cell (w := w1) (F := []) ?_ q4 List.not_mem_nil, Touch.cell (w := w1) (F := []) ?_ q5 List.not_mem_nil⟩ <;> exact (by repeat (first | exact Touch.refl _ _ | refine Touch.trans ?_ T2 | refine Touch.drew ?_ | refine Touch.drewN ?_ _ | refine Touch.alloc ?_ _ | (refine Touch.setNew _ ?_ ?_; rotate_left; focus (first | (simp; done) | (simp only []; omega) | (simp; omega)))))) | fail)
      (first | (go_at_call 12
                (with_reducible refine (HOC1.out _ (by repeat (first | exact Touch.refl _ _ | exact Touch.nil (by assumption) | assumption | refine Touch.drew ?_ | refine Touch.drewN ?_ _ | refine Touch.alloc ?_ _ | (refine Touch.setNew _ ?_ ?_; rotate_left; focus (first | (simp; done) | (simp only []; omega) | (simp; omega))) | (refine Touch.setCell ?_ ?_ _; rotate_left; focus (simp; done)) | (refine Touch.setRow ?_ ?_ _; rotate_left; focus (simp; done))))).mono ?_); rintro e w2 ⟨rfl, T2, l1, l2, l3⟩
                first | (have zz := zero_kept w1 w2 (by with_reducible assumption); obtain ⟨z0, z1, z2, z3, z4⟩ := zz; have z5 := Lib.hid z4; clear z4) | skip | fail) | fail)
    all_goals (go_wp2_with fail; go_meet; case rel => first | exact ⟨_, rfl, (by repeat (first | exact Touch.refl _ _ | refine Touch.trans ?_ T2 | refine Touch.drew ?_ | refine Touch.drewN ?_ _ | refine Touch.alloc ?_ _ | (refine Touch.setNew _ ?_ ?_; rotate_left; focus (first | (simp; done) | (simp only []; omega) | (simp; omega))))), blk.newAt _ [.int .i64 cv1, .int .i64 cv2] _ rfl, l3⟩ | exact ⟨_, rfl, (by repeat (first | exact Touch.refl _ _ | refine Touch.trans ?_ T2 | refine Touch.drew ?_ | refine Touch.drewN ?_ _ | refine Touch.alloc ?_ _ | (refine Touch.setNew _ ?_ ?_; rotate_left; focus (first | (simp; done) | (simp only []; omega) | (simp; omega))))), (z5.out.set 0 (.int .i64 cv1)).set 1 (.int .i64 cv2), Nat.le_refl _⟩ | fail)
  case rest =>
  obtain ⟨gc, rfl, T02, hb2, hg2⟩ := hcut
  have HC2 := Lib.hid hb2
  have hB2 := HB1.out.touch T02 List.not_mem_nil
  have HB2 := Lib.hid hB2
  have hgn : gc ≠ pp ∧ gc ≠ w.heap.size ∧ ¬ gc < w.heap.size := by omega
  have q0 : wc.cell? ⟨w.heap.size, 0, none⟩ = some (.int .i64 2) := hB2.cell 0
  have T2 : Touch [] w wc := HT01.out.trans T02
  have hpp2 : pp < wc.heap.size := Nat.lt_of_lt_of_le hpp T2.size
  have HT2 := Lib.hid T2
  have HF2 := Lib.hid (HF.out.touch T2)
  clear hb2 T02 T2 hg2 HOC1 HT01 HB1 hpp1 hbx1 q4 q5 pc1 pc2
  have p2 : wc.cell? ⟨w.heap.size, 2, none⟩ = some (.int .i64 Bn) := hB2.cell 2
  have p3 : wc.cell? ⟨gc, 0, none⟩ = some (.int .i64 cv1) := HC2.out.cell 0
  have p4 : wc.cell? ⟨gc, 1, none⟩ = some (.int .i64 cv2) := HC2.out.cell 1
  have HST : Hid (∀ w', Touch [] wc w' → Calls Try.prog 15 #[.pointer (some ⟨bh, 0, none⟩), .int .i64 atv, .int .i64 Bn, .agg #[.int .i64 cv1, .int .i64 cv2]] w' fun e w'' => e = .returned (.int .i64 (storeOf sz atv Bn (cv1, cv2))) ∧ Touch [bc] w' w'' ∧ HRep w'' bh bc bs bp room (storedOf cs sz atv Bn (cv1, cv2)) sz sh) :=
    Lib.hid fun w' ht => store_any (HF2.out.touch ht).H atv Bn (cv1, cv2) HF2.out.A.fit
  have HSP : Hid (∀ w', Touch [bc] wc w' → Calls Try.prog 16 #[.pointer (some ⟨sp, 0, none⟩), .int .i64 atv, .int .i64 Bn, .agg #[.int .i64 cv1, .int .i64 cv2]] w' fun e w'' => e = .returned (.int .i64 (storeOf sz atv Bn (cv1, cv2))) ∧ Touch (sfoot sp sv hs) w' w'' ∧ SRep w'' sp room sv hs (blocksTo (storedOf cs sz atv Bn (cv1, cv2)) sz sh room)) := by
    refine Lib.hid fun w' ht => ?_
    rw [store_law (sh := sh) HF2.out.A HF2.out.H.lc atv Bn (cv1, cv2), stored_law (sh := sh) HF2.out.A HF2.out.H.lc atv Bn (cv1, cv2)]
    exact sput_any (HF2.out.heap (ht.mono (by simp [hfoot]))).1 atv Bn (cv1, cv2)
  have n1 : w.heap.size ∉ [bc] := by have := HF.out.H.cells.lt; simp; omega
  have n2 : gc ∉ [bc] := by have := HF.out.H.cells.lt; simp; omega
  have n3 : w.heap.size ∉ sfoot sp sv hs := fun h => by have := sfoot_lt HF.out.S _ h; omega
  have n4 : gc ∉ sfoot sp sv hs := fun h => by have := sfoot_lt HF.out.S _ h; omega
  generalize storeOf sz atv Bn (cv1, cv2) = r at *
  generalize storedOf cs sz atv Bn (cv1, cv2) = cs2 at *
  clear hB2
  go_wp2_with fail
  go_region_held3 (fun w' => w'.cell? ⟨w.heap.size, 2, none⟩ = some (.int .i64 Bn) ∧ w'.cell? ⟨gc, 0, none⟩ = some (.int .i64 cv1) ∧ w'.cell? ⟨gc, 1, none⟩ = some (.int .i64 cv2))
    (first | (exact ⟨T4.cell r2 n3, T4.cell r3 n4, T4.cell r4 n4⟩) | (exact ⟨r2, r3, r4⟩) | go_keep | fail)
    (first
      | (go_at_call 15; (with_reducible refine (HST.out _ ((Touch.refl _ _).drew)).mono ?_); rintro e w3 ⟨rfl, T3, H3⟩
         have r2 := T3.cell (p := ⟨w.heap.size, 2, none⟩) p2 n1
         have r3 := T3.cell (p := ⟨gc, 0, none⟩) p3 n2
         have r4 := T3.cell (p := ⟨gc, 1, none⟩) p4 n2)
      | (go_at_call 16; (with_reducible refine (HSP.out _ T3.undrew).mono ?_); rintro e w4 ⟨rfl, T4, S4⟩)
      | fail)
  go_wp2_with fail
  go_ret
  exact ask_both HF2.out HT2.out (Nat.le_trans HF.out.b3 (Nat.le_of_lt hpp)) HPL.out (T3.undrew.mono (by simp [hfoot])) H3 HF2.out.A T4 S4 (fun x h => .inl h)

set_option maxRecDepth 100000 in
set_option maxHeartbeats 2000000 in
theorem asked_other {w : World} {B bh sp pp room c : Nat} (S : SInv w B bh sp pp room c) (k A Bn at_ ct cx : Int) (rv : Value) (hrv : ∃ a l c, rv = .slice a l c)
    (h1 : (k == 1) = false) (h2 : (k == 2) = false) (h3 : (k == 3) = false) (h4 : (k == 4) = false) (h5 : (k == 5) = false) (h6 : (k == 6) = false) :
    Calls Try.prog 6 #[.pointer (some ⟨bh, 0, none⟩), .pointer (some ⟨sp, 0, none⟩), .pointer (some ⟨pp, 0, none⟩), .agg #[.int .i64 k, .int .i64 A, .int .i64 Bn, .int .i64 at_, .int .i64 ct, .int .i64 cx, rv]] w (AskPost w B bh sp pp room (c + 1)) := by
  obtain ⟨bc, bs, bp, cs, sz, sh, sv, hs, pv, pl, F, hpl⟩ := S
  obtain ⟨ra, rl, rc, rfl⟩ := hrv
  obtain ⟨pa, pn, pc, rfl⟩ := row_slice F.Q
  have p0 : w.cell? ⟨pp, 0, none⟩ = some (.slice pa pn pc) := F.P.cell 0
  have HOF : Hid (∀ w', Touch [] w w' → Calls Try.prog 11 #[.agg #[.slice pa pn pc], .int .i64 at_] w' fun e w'' => e = .returned (.int .i64 (ofP pl at_)) ∧ Touch [] w' w'') := Lib.hid fun w' ht => of_any (ownsRow_touch F.Q ht (by simp)) at_
  have HOC : Hid (∀ w', Touch [] w w' → Calls Try.prog 12 #[.agg #[.slice pa pn pc], .agg #[.int .i64 ct, .int .i64 cx]] w' fun e w'' => e = .returned (.agg #[.int .i64 (cellP pl (ct, cx)).1, .int .i64 (cellP pl (ct, cx)).2]) ∧ Touch [] w' w'') := Lib.hid fun w' ht => cell_any (ownsRow_touch F.Q ht (by simp)) ct cx
  have hpp : pp < w.heap.size := F.P.lt
  have HF := Lib.hid F
  have HPL := Lib.hid hpl
  clear F hpl
  generalize ofP pl at_ = atv at *
  generalize cellP pl (ct, cx) = cv at *
  obtain ⟨cv1, cv2⟩ := cv
  go_enter Try.func6, Try.ntmps6
  go_wp2_with fail
  go_region_held3 (fun w' => w'.cell? ⟨pp, 0, none⟩ = some (.slice pa pn pc) ∧ w'.cell? ⟨w.heap.size, 3, none⟩ = some (.int .i64 at_))
    (first | (exact ⟨T1.cell pc1 List.not_mem_nil, T1.cell pc2 List.not_mem_nil⟩) | go_keep | fail)
    (first | (go_at_call 11; (with_reducible refine (HOF.out _ (((Touch.refl [] _).alloc _).drew)).mono ?_); rintro e w1 ⟨rfl, T1⟩
              have pc1 : (w.alloc (.cells #[.int .i64 k, .int .i64 A, .int .i64 Bn, .int .i64 at_, .int .i64 ct, .int .i64 cx, .slice ra rl rc] 39)).drew.cell? ⟨pp, 0, none⟩ = some (.slice pa pn pc) := ((Touch.refl [] _).alloc _).drew.cell p0 List.not_mem_nil
              have pc2 : (w.alloc (.cells #[.int .i64 k, .int .i64 A, .int .i64 Bn, .int .i64 at_, .int .i64 ct, .int .i64 cx, .slice ra rl rc] 39)).drew.cell? ⟨w.heap.size, 3, none⟩ = some (.int .i64 at_) := (blk.newAt w [.int .i64 k, .int .i64 A, .int .i64 Bn, .int .i64 at_, .int .i64 ct, .int .i64 cx, .slice ra rl rc] 39 rfl).drew.cell 3) | fail)
  have T01 : Touch [] w w1 := ((Touch.refl [] _).alloc _).drew.trans T1
  have hb1 : blk w1 w.heap.size [.int .i64 k, .int .i64 A, .int .i64 Bn, .int .i64 at_, .int .i64 ct, .int .i64 cx, .slice ra rl rc] 39 := (blk.newAt w [.int .i64 k, .int .i64 A, .int .i64 Bn, .int .i64 at_, .int .i64 ct, .int .i64 cx, .slice ra rl rc] 39 rfl).drew.touch T1 List.not_mem_nil
  have q0 : w1.cell? ⟨pp, 0, none⟩ = some (.slice pa pn pc) := T01.cell p0 List.not_mem_nil
  have q4 : w1.cell? ⟨w.heap.size, 4, none⟩ = some (.int .i64 ct) := hb1.cell 4
  have q5 : w1.cell? ⟨w.heap.size, 5, none⟩ = some (.int .i64 cx) := hb1.cell 5
  have HT01 := Lib.hid T01
  have hpp1 : pp < w1.heap.size := Nat.lt_of_lt_of_le hpp T01.size
  have hbx1 : w.heap.size < w1.heap.size := hb1.lt
  have HB1 := Lib.hid hb1
  have HOC1 : Hid (∀ w', Touch [] w1 w' → Calls Try.prog 12 #[.agg #[.slice pa pn pc], .agg #[.int .i64 ct, .int .i64 cx]] w' fun e w'' => e = .returned (.agg #[.int .i64 cv1, .int .i64 cv2]) ∧ Touch [] w' w'' ∧ pp < w''.heap.size ∧ w.heap.size < w''.heap.size ∧ w1.heap.size ≤ w''.heap.size) := Lib.hid fun w' ht => (HOC.out w' (T01.trans ht)).mono (fun e w'' h => ⟨h.1, h.2, Nat.lt_of_lt_of_le hpp1 (ht.trans h.2).size, Nat.lt_of_lt_of_le hbx1 (ht.trans h.2).size, (ht.trans h.2).size⟩)
  clear T01 hb1 T1 p0 HOF HOC
  go_upto_region 2 with fail
  go_cut [10] (fun s10 wx => AskCut w1 (cv1, cv2) s10 wx)
  case first =>
    go_region_held3 (fun w' => w'.cell? ⟨pp, 0, none⟩ = some (.slice pa pn pc) ∧ w'.cell? ⟨w.heap.size, 4, none⟩ = some (.int .i64 ct) ∧ w'.cell? ⟨w.heap.size, 5, none⟩ = some (.int .i64 cx))
      (first | (refine ⟨Touch.cell (w := w1) (F := []) ?_ q0 List.not_mem_nil, Touch.cell (w := w1) (F := []) ?_ q4 List.not_mem_nil, Touch.cell (w := w1) (F := []) ?_ q5 List.not_mem_nil⟩ <;> exact (by repeat (first | exact Touch.refl _ _ | refine Touch.trans ?_ T2 | refine Touch.drew ?_ | refine Touch.drewN ?_ _ | refine Touch.alloc ?_ _ | (refine Touch.setNew _ ?_ ?_; rotate_left; focus (first | (simp; done) | (simp only []; omega) | (simp; omega)))))) | fail)
      (first | (go_at_call 12
                (with_reducible refine (HOC1.out _ (by repeat (first | exact Touch.refl _ _ | exact Touch.nil (by assumption) | assumption | refine Touch.drew ?_ | refine Touch.drewN ?_ _ | refine Touch.alloc ?_ _ | (refine Touch.setNew _ ?_ ?_; rotate_left; focus (first | (simp; done) | (simp only []; omega) | (simp; omega))) | (refine Touch.setCell ?_ ?_ _; rotate_left; focus (simp; done)) | (refine Touch.setRow ?_ ?_ _; rotate_left; focus (simp; done))))).mono ?_); rintro e w2 ⟨rfl, T2, l1, l2, l3⟩
                first | (have zz := zero_kept w1 w2 (by with_reducible assumption); obtain ⟨z0, z1, z2, z3, z4⟩ := zz; have z5 := Lib.hid z4; clear z4) | skip | fail) | fail)
    all_goals (go_wp2_with fail; go_meet; case rel => first | exact ⟨_, rfl, (by repeat (first | exact Touch.refl _ _ | refine Touch.trans ?_ T2 | refine Touch.drew ?_ | refine Touch.drewN ?_ _ | refine Touch.alloc ?_ _ | (refine Touch.setNew _ ?_ ?_; rotate_left; focus (first | (simp; done) | (simp only []; omega) | (simp; omega))))), blk.newAt _ [.int .i64 cv1, .int .i64 cv2] _ rfl, l3⟩ | exact ⟨_, rfl, (by repeat (first | exact Touch.refl _ _ | refine Touch.trans ?_ T2 | refine Touch.drew ?_ | refine Touch.drewN ?_ _ | refine Touch.alloc ?_ _ | (refine Touch.setNew _ ?_ ?_; rotate_left; focus (first | (simp; done) | (simp only []; omega) | (simp; omega))))), (z5.out.set 0 (.int .i64 cv1)).set 1 (.int .i64 cv2), Nat.le_refl _⟩ | fail)
  case rest =>
  obtain ⟨gc, rfl, T02, hb2, hg2⟩ := hcut
  have HC2 := Lib.hid hb2
  have hB2 := HB1.out.touch T02 List.not_mem_nil
  have HB2 := Lib.hid hB2
  have hgn : gc ≠ pp ∧ gc ≠ w.heap.size ∧ ¬ gc < w.heap.size := by omega
  have q0 : wc.cell? ⟨w.heap.size, 0, none⟩ = some (.int .i64 k) := hB2.cell 0
  have T2 : Touch [] w wc := HT01.out.trans T02
  have hpp2 : pp < wc.heap.size := Nat.lt_of_lt_of_le hpp T2.size
  have HT2 := Lib.hid T2
  have HF2 := Lib.hid (HF.out.touch T2)
  clear hb2 T02 T2 hg2 HOC1 HT01 HB1 hpp1 hbx1 q4 q5 pc1 pc2
  obtain ⟨va, vn, vc, rfl⟩ := row_slice HF.out.S.row
  have p3 : wc.cell? ⟨sp, 1, none⟩ = some (.slice va vn vc) := HF2.out.S.h1
  have hsp : sp < wc.heap.size := HF2.out.S.head.lt
  have HBL : Hid (∀ w', Touch [] wc w' → Calls Try.prog 8 #[.pointer (some ⟨bh, 0, none⟩)] w' (BlocksPost w' (blocksTo cs sz sh room))) := Lib.hid fun w' ht => blocks_any (HF2.out.touch ht).H HF2.out.A.fit
  have HSB : Hid (∀ w' v w'' hs', Touch [] wc w' → Touch [] w' w'' → w''.ownsRow w'.heap.size 60 3 v hs'.length (hdrs hs') → blocksIn w'' w'.heap.size hs' (blocksTo cs sz sh room) → (∀ h, h ∈ hs' → h.2.2 ≠ .slice none 0 0) →
      Calls Try.prog 7 #[v, .slice va vn vc] w'' fun e w3 => e = .returned (.bool true) ∧ Touch [] w'' w3) := by
    refine Lib.hid fun w' v w'' hs' t1 t2 k1 k2 k3 => ?_
    have S2 := (HF2.out.touch (t1.trans t2)).S
    refine same_any ⟨ownsRow_base k1 (Nat.zero_le _), blocksIn.base (Nat.zero_le _) k2, k3⟩ ⟨S2.row, S2.tell, S2.full⟩ ?_ ?_
    · have := blocksIn.length S2.tell; have := S2.few; omega
    · intro b hb; have := S2.small b hb; omega
  clear hB2
  go_wp2_with fail
  go_region_held3 (fun w' => w'.cell? ⟨sp, 1, none⟩ = some (.slice va vn vc))
    (first | (exact T4.cell (T3.cell p3 List.not_mem_nil) List.not_mem_nil) | (exact T3.cell p3 List.not_mem_nil) | go_keep | fail)
    (first
      | (go_at_call 8; (with_reducible refine (HBL.out _ ((Touch.refl _ _).drew)).mono ?_); rintro e w3 ⟨v3, hs3, rfl, o3, b3, T3, f3⟩)
      | (go_at_call 7; (with_reducible refine (HSB.out _ _ _ _ ((Touch.refl _ _).drew) T3 o3 b3 f3).mono ?_); rintro e w4 ⟨rfl, T4⟩)
      | fail)
  all_goals go_wp2_with fail
  all_goals go_ret
  all_goals exact ask_quiet HF.out HPL.out ((HT2.out.trans T3.undrew).trans T4)
end Go.Proofs.Ytpalndoklifkiaa
