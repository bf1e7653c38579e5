/-
  The questions: asked, kind 5.
-/
import Derived.Test.YtpalndoklifkiaaAskC
namespace Go.Proofs.Ytpalndoklifkiaa
open Go.RowKit

theorem collect_both {w : World} {B bh bc bs bp sp pp room : Nat} {cs : List Pair} {sz : List Nat} {sh : List Int} {sv : Value} {hs : List Hdr} {pv : Value} {pl : List Int} (F : Full w B bh bc bs bp sp pp room cs sz sh sv hs pv pl) (R : List Pair) (v v' : Value)
    (hm : R.length ≤ 1048576) (hv : pairsIn w v R) (hv' : pairsIn w v' R) (hno : ∀ b o n c, v' = .slice (some ⟨b, o, none⟩) n c → b ∉ [bs, bp]) :
    Calls Try.prog 21 #[.pointer (some ⟨bh, 0, none⟩), v] w (fun e w' => ∃ (n : Int) (cs' : List Pair) (sz' : List Nat) (sh' : List Int), e = .returned (.int .i64 n) ∧ Arr room sz' ∧ HRep w' bh bc bs bp room cs' sz' sh' ∧ Touch (hfoot bh bc bs bp) w w' ∧
      Calls Try.prog 22 #[.pointer (some ⟨sp, 0, none⟩), v'] w' (fun e w'' => e = .returned (.int .i64 n) ∧
        ∃ sv' hs', SRep w'' sp room sv' hs' (blocksTo cs' sz' sh' room) ∧ Touch (sfoot sp sv hs) w' w'' ∧ ∀ x, x ∈ sfoot sp sv' hs' → x ∈ sfoot sp sv hs ∨ w'.heap.size ≤ x)) := by
  have hmark : Calls Try.prog 28 #[.pointer (some ⟨bh, 0, none⟩), v] w (MarkPost w cs sz R) := by
    rcases hv with ⟨rfl, rfl⟩ | ⟨b, o, c, rfl, hl⟩
    · exact mark_nil w bh cs sz
    · exact mark_any F.H F.A.fit R b o _ c rfl hl hm
  refine (collect_any F.H F.A.fit R v hmark).mono ?_
  rintro e w' ⟨S, hS, rfl, H', T⟩
  have T' : Touch (hfoot bh bc bs bp) w w' := T.mono (by intro x hx _; simp only [hfoot, List.mem_cons, List.not_mem_nil, or_false] at hx ⊢; exact .inr (.inr hx))
  refine ⟨_, cs, keptSz S sz room, keptSh S sz sh room, rfl, F.A.collect S, H', T', ?_⟩
  have hN : NamesOf w' v' R := by
    rcases hv' with ⟨rfl, rfl⟩ | ⟨b, o, c, rfl, hl⟩
    · exact namesOf_nil w'
    · exact namesOf_lies (hl.touch T (hno b o _ c rfl)) rfl (by omega)
  refine (scollect_any (F.heap T').1 hN).mono ?_
  rintro e w'' ⟨f, sv', hs', hf, rfl, S', T2, hfo⟩
  obtain ⟨c1, c2⟩ := collect_law F.A F.H.lc F.H.lp hS hf room (Nat.le_refl _)
  exact ⟨by rw [c1], sv', hs', c2 ▸ S', T2, hfo⟩

theorem nil_append {P : Program} {t ty e : TypeId} (ht : P.underlying t = some (.slice e)) {i : TypeInfo} (hi : P.info? e = some i) (W : World) :
    (Builtin.append_ #[t, t] ty #[.slice none 0 0, .slice none 0 0]).run P W = .ok (.slice none 0 0) W :=
  run_append_owned_none W 0 t ty e i 2 ht hi _ 0 [] (World.ownsRow_nil _ _ _ _)

set_option maxRecDepth 100000 in
set_option maxHeartbeats 2000000 in
theorem asked_collect_nil {w : World} {B bh sp pp room c : Nat} (S : SInv w B bh sp pp room c) (A Bn at_ ct cx : Int) (ra : Option Addr) (rc : Nat) :
    Calls Try.prog 6 #[.pointer (some ⟨bh, 0, none⟩), .pointer (some ⟨sp, 0, none⟩), .pointer (some ⟨pp, 0, none⟩), .agg #[.int .i64 5, .int .i64 A, .int .i64 Bn, .int .i64 at_, .int .i64 ct, .int .i64 cx, .slice ra 0 rc]] w (AskPost w B bh sp pp room (c + 1)) := by
  obtain ⟨bc, bs, bp, cs, sz, sh, sv, hs, pv, pl, F, hpl⟩ := S
  obtain ⟨pa, pn, pc, rfl⟩ := row_slice F.Q
  have p0 : w.cell? ⟨pp, 0, none⟩ = some (.slice pa pn pc) := F.P.cell 0
  have HOF : Hid (∀ w', Touch [] w w' → Calls Try.prog 11 #[.agg #[.slice pa pn pc], .int .i64 at_] w' fun e w'' => e = .returned (.int .i64 (ofP pl at_)) ∧ Touch [] w' w'') := Lib.hid fun w' ht => of_any (ownsRow_touch F.Q ht (by simp)) at_
  have HOC : Hid (∀ w', Touch [] w w' → Calls Try.prog 12 #[.agg #[.slice pa pn pc], .agg #[.int .i64 ct, .int .i64 cx]] w' fun e w'' => e = .returned (.agg #[.int .i64 (cellP pl (ct, cx)).1, .int .i64 (cellP pl (ct, cx)).2]) ∧ Touch [] w' w'') := Lib.hid fun w' ht => cell_any (ownsRow_touch F.Q ht (by simp)) ct cx
  have hpp : pp < w.heap.size := F.P.lt
  have HF := Lib.hid F
  have HPL := Lib.hid hpl
  clear F hpl
  generalize ofP pl at_ = atv at *
  generalize cellP pl (ct, cx) = cv at *
  obtain ⟨cv1, cv2⟩ := cv
  go_enter Try.func6, Try.ntmps6
  go_wp2_with fail
  go_region_held3 (fun w' => w'.cell? ⟨pp, 0, none⟩ = some (.slice pa pn pc) ∧ w'.cell? ⟨w.heap.size, 3, none⟩ = some (.int .i64 at_))
    (first | (exact ⟨T1.cell pc1 List.not_mem_nil, T1.cell pc2 List.not_mem_nil⟩) | go_keep | fail)
    (first | (go_at_call 11; (with_reducible refine (HOF.out _ (((Touch.refl [] _).alloc _).drew)).mono ?_); rintro e w1 ⟨rfl, T1⟩
              have pc1 : (w.alloc (.cells #[.int .i64 5, .int .i64 A, .int .i64 Bn, .int .i64 at_, .int .i64 ct, .int .i64 cx, .slice ra 0 rc] 39)).drew.cell? ⟨pp, 0, none⟩ = some (.slice pa pn pc) := ((Touch.refl [] _).alloc _).drew.cell p0 List.not_mem_nil
              have pc2 : (w.alloc (.cells #[.int .i64 5, .int .i64 A, .int .i64 Bn, .int .i64 at_, .int .i64 ct, .int .i64 cx, .slice ra 0 rc] 39)).drew.cell? ⟨w.heap.size, 3, none⟩ = some (.int .i64 at_) := (blk.newAt w [.int .i64 5, .int .i64 A, .int .i64 Bn, .int .i64 at_, .int .i64 ct, .int .i64 cx, .slice ra 0 rc] 39 rfl).drew.cell 3) | fail)
  have T01 : Touch [] w w1 := ((Touch.refl [] _).alloc _).drew.trans T1
  have hb1 : blk w1 w.heap.size [.int .i64 5, .int .i64 A, .int .i64 Bn, .int .i64 at_, .int .i64 ct, .int .i64 cx, .slice ra 0 rc] 39 := (blk.newAt w [.int .i64 5, .int .i64 A, .int .i64 Bn, .int .i64 at_, .int .i64 ct, .int .i64 cx, .slice ra 0 rc] 39 rfl).drew.touch T1 List.not_mem_nil
  have q0 : w1.cell? ⟨pp, 0, none⟩ = some (.slice pa pn pc) := T01.cell p0 List.not_mem_nil
  have q4 : w1.cell? ⟨w.heap.size, 4, none⟩ = some (.int .i64 ct) := hb1.cell 4
  have q5 : w1.cell? ⟨w.heap.size, 5, none⟩ = some (.int .i64 cx) := hb1.cell 5
  have HT01 := Lib.hid T01
  have hpp1 : pp < w1.heap.size := Nat.lt_of_lt_of_le hpp T01.size
  have hbx1 : w.heap.size < w1.heap.size := hb1.lt
  have HB1 := Lib.hid hb1
  have HOC1 : Hid (∀ w', Touch [] w1 w' → Calls Try.prog 12 #[.agg #[.slice pa pn pc], .agg #[.int .i64 ct, .int .i64 cx]] w' fun e w'' => e = .returned (.agg #[.int .i64 cv1, .int .i64 cv2]) ∧ Touch [] w' w'' ∧ pp < w''.heap.size ∧ w.heap.size < w''.heap.size ∧ w1.heap.size ≤ w''.heap.size) := Lib.hid fun w' ht => (HOC.out w' (T01.trans ht)).mono (fun e w'' h => ⟨h.1, h.2, Nat.lt_of_lt_of_le hpp1 (ht.trans h.2).size, Nat.lt_of_lt_of_le hbx1 (ht.trans h.2).size, (ht.trans h.2).size⟩)
  clear T01 hb1 T1 p0 HOF HOC
  go_upto_region 2 with fail
  go_cut [10] (fun s10 wx => AskCut w1 (cv1, cv2) s10 wx)
  case first =>
    go_region_held3 (fun w' => w'.cell? ⟨pp, 0, none⟩ = some (.slice pa pn pc) ∧ w'.cell? ⟨w.heap.size, 4, none⟩ = some (.int .i64 ct) ∧ w'.cell? ⟨w.heap.size, 5, none⟩ = some (.int .i64 cx))
      (first | (refine ⟨Touch.cell (w := w1) (F := []) ?_ q0 List.not_mem_nil, Touch.cell (w := w1) (F := []) ?_ q4 List.not_mem_nil, Touch.cell (w := w1) (F := []) ?_ q5 List.not_mem_nil⟩ <;> exact (by repeat (first | exact Touch.refl _ _ | refine Touch.trans ?_ T2 | refine Touch.drew ?_ | refine Touch.drewN ?_ _ | refine Touch.alloc ?_ _ | (refine Touch.setNew _ ?_ ?_; rotate_left; focus (first | (simp; done) | (simp only []; omega) | (simp; omega)))))) | fail)
      (first | (go_at_call 12
                (with_reducible refine (HOC1.out _ (by repeat (first | exact Touch.refl _ _ | exact Touch.nil (by assumption) | assumption | refine Touch.drew ?_ | refine Touch.drewN ?_ _ | refine Touch.alloc ?_ _ | (refine Touch.setNew _ ?_ ?_; rotate_left; focus (first | (simp; done) | (simp only []; omega) | (simp; omega))) | (refine Touch.setCell ?_ ?_ _; rotate_left; focus (simp; done)) | (refine Touch.setRow ?_ ?_ _; rotate_left; focus (simp; done))))).mono ?_); rintro e w2 ⟨rfl, T2, l1, l2, l3⟩
                first | (have zz := zero_kept w1 w2 (by with_reducible assumption); obtain ⟨z0, z1, z2, z3, z4⟩ := zz; have z5 := Lib.hid z4; clear z4) | skip | fail) | fail)
    all_goals (go_wp2_with fail; go_meet; case rel => first | exact ⟨_, rfl, (by repeat (first | exact Touch.refl _ _ | refine Touch.trans ?_ T2 | refine Touch.drew ?_ | refine Touch.drewN ?_ _ | refine Touch.alloc ?_ _ | (refine Touch.setNew _ ?_ ?_; rotate_left; focus (first | (simp; done) | (simp only []; omega) | (simp; omega))))), blk.newAt _ [.int .i64 cv1, .int .i64 cv2] _ rfl, l3⟩ | exact ⟨_, rfl, (by repeat (first | exact Touch.refl _ _ | refine Touch.trans ?_ T2 | refine Touch.drew ?_ | refine Touch.drewN ?_ _ | refine Touch.alloc ?_ _ | (refine Touch.setNew _ ?_ ?_; rotate_left; focus (first | (simp; done) | (simp only []; omega) | (simp; omega))))), (z5.out.set 0 (.int .i64 cv1)).set 1 (.int .i64 cv2), Nat.le_refl _⟩ | fail)
  case rest =>
  obtain ⟨gc, rfl, T02, hb2, hg2⟩ := hcut
  have HC2 := Lib.hid hb2
  have hB2 := HB1.out.touch T02 List.not_mem_nil
  have HB2 := Lib.hid hB2
  have hgn : gc ≠ pp ∧ gc ≠ w.heap.size ∧ ¬ gc < w.heap.size := by omega
  have q0 : wc.cell? ⟨w.heap.size, 0, none⟩ = some (.int .i64 5) := hB2.cell 0
  have T2 : Touch [] w wc := HT01.out.trans T02
  have hpp2 : pp < wc.heap.size := Nat.lt_of_lt_of_le hpp T2.size
  have HT2 := Lib.hid T2
  have HF2 := Lib.hid (HF.out.touch T2)
  clear hb2 T02 T2 hg2 HOC1 HT01 HB1 hpp1 hbx1 q4 q5 pc1 pc2
  have p6 : wc.cell? ⟨w.heap.size, 6, none⟩ = some (.slice ra 0 rc) := hB2.cell 6
  have HB := Lib.hid (Nat.le_trans HF.out.b3 (Nat.le_of_lt hpp))
  have HC := Lib.hid (collect_both HF2.out [] (.slice none 0 0) (.slice none 0 0) (by simp) (.inl ⟨rfl, rfl⟩) (.inl ⟨rfl, rfl⟩) (by simp))
  obtain ⟨i0, hi, hz0, hz1, hz2⟩ := info_parts info_cell
  have hnn : ∀ W, (Builtin.append_ #[37, 37] 37 #[.slice none 0 0, .slice none 0 0]).run Try.prog W = .ok (.slice none 0 0) W := fun W => nil_append Try.underlying37 hi W
  clear hB2
  go_wp2_with fail
  refine wp_loop_rounds 1 ?_
  rw [rounds_succ]
  go_wp2_with (first
    | (go_at_call 21; (with_reducible refine HC.out.mono ?_); rintro e w3 ⟨n, cs', sz', sh', rfl, A', H3, T3, C2⟩)
    | (go_at_call 22; (with_reducible refine C2.mono ?_); rintro e w4 ⟨rfl, sv', hs', S4, T4, hf4⟩)
    | fail)
  go_ret
  exact ask_both HF2.out HT2.out HB.out HPL.out T3 H3 A' T4 S4 hf4
end Go.Proofs.Ytpalndoklifkiaa
