/-
  The questions: asked, kind 5 with roots.
-/
import Derived.Test.YtpalndoklifkiaaAskD
namespace Go.Proofs.Ytpalndoklifkiaa
open Go.RowKit

/-- What the loop has built. -/
def RootsRel (w : World) (R : List Pair) (v i : Value) (wr : World) : Prop :=
  ∃ k : Nat, k ≤ R.length ∧ i = .int .i64 (k : Nat) ∧ wr.ownsRow w.heap.size 36 2 v k (pairs (R.take k)) ∧ Touch [] w wr ∧ (k = 0 → v = .slice none 0 0) ∧ (0 < k → ∃ g c, v = .slice (some ⟨g, 0, none⟩) k c)

theorem roots_add {w wr w1 w2 : World} {R : List Pair} {v : Value} {k g c : Nat} {x y : Int} {o : Obj} (hk : k < R.length) (hx : pairAt R k = (x, y)) (T : Touch [] w wr) (own : wr.ownsRow w.heap.size 36 2 v k (pairs (R.take k)))
    (T1 : Touch [] wr w1) (own2 : w2.ownsRow w.heap.size 36 2 (.slice (some ⟨g, 0, none⟩) (k + 1) c) (k + 1) (pairs (R.take k) ++ [.int .i64 x, .int .i64 y])) (gr : (w1.alloc o).grownBy w2 v.ownBlock) :
    RootsRel w R (.slice (some ⟨g, 0, none⟩) (k + 1) c) (.int .i64 ((k : Int) + 1)) w2 := by
  refine ⟨k + 1, by omega, by go_num, ?_, ?_, by omega, fun _ => ⟨g, c, rfl⟩⟩
  · have e : R.take (k + 1) = R.take k ++ [(x, y)] := by
      rw [← hx, pairAt_get _ _ hk, List.take_append_getElem hk]
    rw [e, pairs_append]
    exact own2
  · have T2 : Touch v.ownBlock.toList wr w2 := ((T1.nil (F := v.ownBlock.toList)).alloc o).grown gr (by intro j hj _; simp [hj])
    refine T.comp T2 (by simp) ?_
    intro x hx hl
    have := (own.lt x (by simpa using hx)).1
    omega

theorem rowLies {w : World} {base : Nat} {e : TypeId} {g n c size : Nat} {xs : List Value} (h : w.ownsRow base e size (.slice (some ⟨g, 0, none⟩) n c) n xs) : lies w ⟨g, 0, none⟩ xs := by
  intro j u hu
  have hj : j < xs.length := (List.getElem?_eq_some_iff.1 hu).1
  rw [addr_add, Nat.zero_add, h.cellAt j (by have := h.1; omega)]
  exact hu

set_option maxRecDepth 100000 in
set_option maxHeartbeats 4000000 in
theorem asked_collect_row {w : World} {B bh sp pp room c : Nat} (S : SInv w B bh sp pp room c) (A Bn at_ ct cx : Int) (R : List Pair) (rb ro rm rc : Nat) (hrm : R.length = rm) (hmax : rm ≤ 1048576) (hl : lies w ⟨rb, ro, none⟩ (pairs R)) :
    Calls Try.prog 6 #[.pointer (some ⟨bh, 0, none⟩), .pointer (some ⟨sp, 0, none⟩), .pointer (some ⟨pp, 0, none⟩), .agg #[.int .i64 5, .int .i64 A, .int .i64 Bn, .int .i64 at_, .int .i64 ct, .int .i64 cx, .slice (some ⟨rb, ro, none⟩) rm rc]] w (AskPost w B bh sp pp room (c + 1)) := by
  have HLR := Lib.hid hl
  have HRM := Lib.hid hrm
  clear hl hrm
  obtain ⟨bc, bs, bp, cs, sz, sh, sv, hs, pv, pl, F, hpl⟩ := S
  obtain ⟨pa, pn, pc, rfl⟩ := row_slice F.Q
  have p0 : w.cell? ⟨pp, 0, none⟩ = some (.slice pa pn pc) := F.P.cell 0
  have HOF : Hid (∀ w', Touch [] w w' → Calls Try.prog 11 #[.agg #[.slice pa pn pc], .int .i64 at_] w' fun e w'' => e = .returned (.int .i64 (ofP pl at_)) ∧ Touch [] w' w'') := Lib.hid fun w' ht => of_any (ownsRow_touch F.Q ht (by simp)) at_
  have HOC : Hid (∀ w', Touch [] w w' → Calls Try.prog 12 #[.agg #[.slice pa pn pc], .agg #[.int .i64 ct, .int .i64 cx]] w' fun e w'' => e = .returned (.agg #[.int .i64 (cellP pl (ct, cx)).1, .int .i64 (cellP pl (ct, cx)).2]) ∧ Touch [] w' w'') := Lib.hid fun w' ht => cell_any (ownsRow_touch F.Q ht (by simp)) ct cx
  have hpp : pp < w.heap.size := F.P.lt
  have HF := Lib.hid F
  have HPL := Lib.hid hpl
  clear F hpl
  generalize ofP pl at_ = atv at *
  generalize cellP pl (ct, cx) = cv at *
  obtain ⟨cv1, cv2⟩ := cv
  go_enter Try.func6, Try.ntmps6
  go_wp2_with fail
  go_region_held3 (fun w' => w'.cell? ⟨pp, 0, none⟩ = some (.slice pa pn pc) ∧ w'.cell? ⟨w.heap.size, 3, none⟩ = some (.int .i64 at_))
    (first | (exact ⟨T1.cell pc1 List.not_mem_nil, T1.cell pc2 List.not_mem_nil⟩) | go_keep | fail)
    (first | (go_at_call 11; (with_reducible refine (HOF.out _ (((Touch.refl [] _).alloc _).drew)).mono ?_); rintro e w1 ⟨rfl, T1⟩
              have pc1 : (w.alloc (.cells #[.int .i64 5, .int .i64 A, .int .i64 Bn, .int .i64 at_, .int .i64 ct, .int .i64 cx, .slice (some ⟨rb, ro, none⟩) rm rc] 39)).drew.cell? ⟨pp, 0, none⟩ = some (.slice pa pn pc) := ((Touch.refl [] _).alloc _).drew.cell p0 List.not_mem_nil
              have pc2 : (w.alloc (.cells #[.int .i64 5, .int .i64 A, .int .i64 Bn, .int .i64 at_, .int .i64 ct, .int .i64 cx, .slice (some ⟨rb, ro, none⟩) rm rc] 39)).drew.cell? ⟨w.heap.size, 3, none⟩ = some (.int .i64 at_) := (blk.newAt w [.int .i64 5, .int .i64 A, .int .i64 Bn, .int .i64 at_, .int .i64 ct, .int .i64 cx, .slice (some ⟨rb, ro, none⟩) rm rc] 39 rfl).drew.cell 3) | fail)
  have T01 : Touch [] w w1 := ((Touch.refl [] _).alloc _).drew.trans T1
  have hb1 : blk w1 w.heap.size [.int .i64 5, .int .i64 A, .int .i64 Bn, .int .i64 at_, .int .i64 ct, .int .i64 cx, .slice (some ⟨rb, ro, none⟩) rm rc] 39 := (blk.newAt w [.int .i64 5, .int .i64 A, .int .i64 Bn, .int .i64 at_, .int .i64 ct, .int .i64 cx, .slice (some ⟨rb, ro, none⟩) rm rc] 39 rfl).drew.touch T1 List.not_mem_nil
  have q0 : w1.cell? ⟨pp, 0, none⟩ = some (.slice pa pn pc) := T01.cell p0 List.not_mem_nil
  have q4 : w1.cell? ⟨w.heap.size, 4, none⟩ = some (.int .i64 ct) := hb1.cell 4
  have q5 : w1.cell? ⟨w.heap.size, 5, none⟩ = some (.int .i64 cx) := hb1.cell 5
  have HT01 := Lib.hid T01
  have hpp1 : pp < w1.heap.size := Nat.lt_of_lt_of_le hpp T01.size
  have hbx1 : w.heap.size < w1.heap.size := hb1.lt
  have HB1 := Lib.hid hb1
  have HOC1 : Hid (∀ w', Touch [] w1 w' → Calls Try.prog 12 #[.agg #[.slice pa pn pc], .agg #[.int .i64 ct, .int .i64 cx]] w' fun e w'' => e = .returned (.agg #[.int .i64 cv1, .int .i64 cv2]) ∧ Touch [] w' w'' ∧ pp < w''.heap.size ∧ w.heap.size < w''.heap.size ∧ w1.heap.size ≤ w''.heap.size) := Lib.hid fun w' ht => (HOC.out w' (T01.trans ht)).mono (fun e w'' h => ⟨h.1, h.2, Nat.lt_of_lt_of_le hpp1 (ht.trans h.2).size, Nat.lt_of_lt_of_le hbx1 (ht.trans h.2).size, (ht.trans h.2).size⟩)
  clear T01 hb1 T1 p0 HOF HOC
  go_upto_region 2 with fail
  go_cut [10] (fun s10 wx => AskCut w1 (cv1, cv2) s10 wx)
  case first =>
    go_region_held3 (fun w' => w'.cell? ⟨pp, 0, none⟩ = some (.slice pa pn pc) ∧ w'.cell? ⟨w.heap.size, 4, none⟩ = some (.int .i64 ct) ∧ w'.cell? ⟨w.heap.size, 5, none⟩ = some (.int .i64 cx))
      (first | (refine ⟨Touch.cell (w := w1) (F := []) ?_ q0 List.not_mem_nil, Touch.cell (w := w1) (F := []) ?_ q4 List.not_mem_nil, Touch.cell (w := w1) (F := []) ?_ q5 List.not_mem_nil⟩ <;> exact (by repeat (first | exact Touch.refl _ _ | refine Touch.trans ?_ T2 | refine Touch.drew ?_ | refine Touch.drewN ?_ _ | refine Touch.alloc ?_ _ | (refine Touch.setNew _ ?_ ?_; rotate_left; focus (first | (simp; done) | (simp only []; omega) | (simp; omega)))))) | fail)
      (first | (go_at_call 12
                (with_reducible refine (HOC1.out _ (by repeat (first | exact Touch.refl _ _ | exact Touch.nil (by assumption) | assumption | refine Touch.drew ?_ | refine Touch.drewN ?_ _ | refine Touch.alloc ?_ _ | (refine Touch.setNew _ ?_ ?_; rotate_left; focus (first | (simp; done) | (simp only []; omega) | (simp; omega))) | (refine Touch.setCell ?_ ?_ _; rotate_left; focus (simp; done)) | (refine Touch.setRow ?_ ?_ _; rotate_left; focus (simp; done))))).mono ?_); rintro e w2 ⟨rfl, T2, l1, l2, l3⟩
                first | (have zz := zero_kept w1 w2 (by with_reducible assumption); obtain ⟨z0, z1, z2, z3, z4⟩ := zz; have z5 := Lib.hid z4; clear z4) | skip | fail) | fail)
    all_goals (go_wp2_with fail; go_meet; case rel => first | exact ⟨_, rfl, (by repeat (first | exact Touch.refl _ _ | refine Touch.trans ?_ T2 | refine Touch.drew ?_ | refine Touch.drewN ?_ _ | refine Touch.alloc ?_ _ | (refine Touch.setNew _ ?_ ?_; rotate_left; focus (first | (simp; done) | (simp only []; omega) | (simp; omega))))), blk.newAt _ [.int .i64 cv1, .int .i64 cv2] _ rfl, l3⟩ | exact ⟨_, rfl, (by repeat (first | exact Touch.refl _ _ | refine Touch.trans ?_ T2 | refine Touch.drew ?_ | refine Touch.drewN ?_ _ | refine Touch.alloc ?_ _ | (refine Touch.setNew _ ?_ ?_; rotate_left; focus (first | (simp; done) | (simp only []; omega) | (simp; omega))))), (z5.out.set 0 (.int .i64 cv1)).set 1 (.int .i64 cv2), Nat.le_refl _⟩ | fail)
  case rest =>
  obtain ⟨gc, rfl, T02, hb2, hg2⟩ := hcut
  have HC2 := Lib.hid hb2
  have hB2 := HB1.out.touch T02 List.not_mem_nil
  have HB2 := Lib.hid hB2
  have hgn : gc ≠ pp ∧ gc ≠ w.heap.size ∧ ¬ gc < w.heap.size := by omega
  have q0 : wc.cell? ⟨w.heap.size, 0, none⟩ = some (.int .i64 5) := hB2.cell 0
  have T2 : Touch [] w wc := HT01.out.trans T02
  have hpp2 : pp < wc.heap.size := Nat.lt_of_lt_of_le hpp T2.size
  have HT2 := Lib.hid T2
  have HF2 := Lib.hid (HF.out.touch T2)
  clear hb2 T02 T2 hg2 HOC1 HT01 HB1 hpp1 hbx1 q4 q5 pc1 pc2
  have p6 : wc.cell? ⟨w.heap.size, 6, none⟩ = some (.slice (some ⟨rb, ro, none⟩) rm rc) := hB2.cell 6
  have HB := Lib.hid (Nat.le_trans HF.out.b3 (Nat.le_of_lt hpp))
  have HPP : Hid (wc.cell? ⟨pp, 0, none⟩ = some (.slice pa pn pc)) := HF2.out.P.cell 0
  have HCELL : Hid (∀ (w' : World) (t x : Int), Touch [] wc w' → Calls Try.prog 12 #[.agg #[.slice pa pn pc], .agg #[.int .i64 t, .int .i64 x]] w' fun e w'' => e = .returned (.agg #[.int .i64 (cellP pl (t, x)).1, .int .i64 (cellP pl (t, x)).2]) ∧ Touch [] w' w'') :=
    Lib.hid fun w' t x ht => cell_any (ownsRow_touch HF2.out.Q ht (by simp)) t x
  have HMLEN : Hid ((R.map (cellP pl)).length = rm) := by show _ = _; rw [List.length_map]; exact HRM.out
  have HMAT : Hid (∀ k, k < rm → pairAt (R.map (cellP pl)) k = cellP pl (pairAt R k)) := by
    intro k hk
    have := HRM.out
    rw [pairAt_get _ _ (by simp; omega), pairAt_get _ _ (by omega), List.getElem_map]
  generalize R.map (cellP pl) = R2 at *
  obtain ⟨i0, hi, hz0, hz1, hz2⟩ := info_parts info_cell
  have HI := Lib.hid (And.intro hi (And.intro hz0 (And.intro hz1 hz2)))
  clear hB2 hi hz0 hz1 hz2
  go_wp2_with fail
  go_loopw [25, 26] (fun v i wr => RootsRel wc R2 v i wr) (fun _ i _ => rm - (intOf i).toNat)
  case atStart => exact ⟨0, by omega, rfl, World.ownsRow_nil _ _ _ _, Touch.refl _ _, fun _ => rfl, by omega⟩
  case round =>
    obtain ⟨k, hk, rfl, own, T, hk0, hk1⟩ := hrel
    have hk : k ≤ rm := by have := HMLEN.out; omega
    have g6 := T.cell p6 List.not_mem_nil
    by_cases hlt : k < rm
    · have HT := Lib.hid T
      have HOWN := Lib.hid own
      have hrow := HRM.out
      have m1 : (pairs R)[k * 2]? = some (.int .i64 (pairAt R k).1) := by rw [pairs_fst _ _ (by omega), pairAt_get _ _ (by omega)]
      have m2 : (pairs R)[k * 2 + 1]? = some (.int .i64 (pairAt R k).2) := by rw [pairs_snd _ _ (by omega), pairAt_get _ _ (by omega)]
      have a1 := HLR.out _ _ m1
      have a2 := HLR.out _ _ m2
      rw [addr_add] at a1
      rw [addr_add, ← Nat.add_assoc] at a2
      have lrb : rb < wc.heap.size := Nat.lt_of_lt_of_le (World.block_lt_of_cell? w _ a1) HT2.out.size
      have gx : wr.cell? ⟨rb, ro + k * 2, none⟩ = some (.int .i64 (pairAt R k).1) := T.cell (HT2.out.cell a1 List.not_mem_nil) List.not_mem_nil
      have gy : wr.cell? ⟨rb, ro + k * 2 + 1, none⟩ = some (.int .i64 (pairAt R k).2) := T.cell (HT2.out.cell a2 List.not_mem_nil) List.not_mem_nil
      have hno : ∀ b, b < wc.heap.size → b ∉ u25.ownBlock.toList := fun b hb hm => by have := (own.lt b (by simpa using hm)).1; omega
      have nb1 := hno pp hpp2
      have nb2 := hno w.heap.size (Nat.lt_of_lt_of_le (by have := HB2.out.lt; omega) (Nat.le_refl _))
      have nb3 := hno rb lrb
      clear a1 a2 hno
      have gp := T.cell HPP.out List.not_mem_nil
      have HAT := Lib.hid (HMAT.out k hlt)
      have HC2 : Hid (Calls Try.prog 12 #[.agg #[.slice pa pn pc], .agg #[.int .i64 (pairAt R k).1, .int .i64 (pairAt R k).2]] wr.drew fun e w'' => e = .returned (.agg #[.int .i64 (cellP pl (pairAt R k)).1, .int .i64 (cellP pl (pairAt R k)).2]) ∧ Touch [] wr.drew w'') := HCELL.out _ _ _ T.drew
      generalize cellP pl (pairAt R k) = y at *
      obtain ⟨y1, y2⟩ := y
      generalize (pairAt R k).1 = x1 at *
      generalize (pairAt R k).2 = x2 at *
      have hB : wc.heap.size ≤ wr.heap.size := T.size
      have hlen := HMLEN.out
      have hone : ∀ u ∈ [Value.int .i64 y1, Value.int .i64 y2], u.oneCell' = true := by intro u hu; simp at hu; rcases hu with rfl | rfl <;> rfl
      have hmx : k + 1 ≤ maxLen := by unfold maxLen; omega
      have hby : (k + 1) * 16 ≤ 140737488355328 := by omega
      obtain ⟨hi, hz0, hz1, hz2⟩ := HI.out
      clear T own m1 m2 hk0 hk1
      go_wp2_with fail
      go_region_held3 (fun w' => w'.cell? ⟨pp, 0, none⟩ = some (.slice pa pn pc) ∧ w'.cell? ⟨w.heap.size, 6, none⟩ = some (.slice (some ⟨rb, ro, none⟩) rm rc) ∧ w'.cell? ⟨rb, ro + k * 2, none⟩ = some (.int .i64 x1) ∧ w'.cell? ⟨rb, ro + k * 2 + 1, none⟩ = some (.int .i64 x2))
        (first
          | (exact ⟨T1.cell gp List.not_mem_nil, T1.cell g6 List.not_mem_nil, T1.cell gx List.not_mem_nil, T1.cell gy List.not_mem_nil⟩)
          | (exact ⟨T6.cell gp nb1, T6.cell g6 nb2, T6.cell gx nb3, T6.cell gy nb3⟩)
          | go_keep
          | fail)
        (first
          | (go_at_call 12; (with_reducible refine HC2.out.mono ?_); rintro e w1 ⟨rfl, T1⟩; have hB1 : wc.heap.size ≤ w1.heap.size := Nat.le_trans hB T1.size)
          | (refine step_append_lies _ (by rfl) _ _ 37 (by rfl) wc.heap.size 36 i0 _ 2 16 Try.underlying37 hi hz0 hz1 hz2 rfl (by decide) _ k (pairs (R2.take k)) (by rfl) ((ownsRow_touch (w := wr.drew) HOWN.out T1 (fun _ _ => List.not_mem_nil)).alloc _) ⟨w1.heap.size, 0, none⟩ 1 1 [.int .i64 y1, .int .i64 y2] (by rfl) (by rfl) (World.news_of_block (heap_alloc_new w1 _)) hone (Nat.succ_pos 0) hmx hby (Nat.le_trans hB1 (Nat.le_of_lt (alloc_lt _ _))) (w1.heap.size + 1) (alloc_size _ _) ?_; intro gg cap w2 hown2 hgrow hat hlt2
             have hgrow : World.grownBy _ w2 u25.ownBlock := hgrow
             have T6 : Touch u25.ownBlock.toList wr.drew w2 := ((T1.nil (F := u25.ownBlock.toList)).alloc _).grown hgrow (by intro j hj _; simp [hj]))
          | fail)
      go_wp2
      go_roundw
      case rel => exact roots_add (by omega) HAT.out HT.out HOWN.out T1.undrew hown2 hgrow
      case measure => simp [intOf] <;> omega
    · obtain rfl : k = rm := by omega
      clear HCELL HMAT HPP
      have hlen := HMLEN.out
      rw [List.take_of_length_le (by omega)] at own
      have TQ : Touch [] w wr := HT2.out.trans T
      have F3 := HF2.out.touch T
      have HF3 := Lib.hid F3
      have HTQ := Lib.hid TQ
      have hB0 : B ≤ w.heap.size := HB.out
      have hbs : ∀ b, wc.heap.size ≤ b → b ∉ [bs, bp] := by
        intro b hb hm
        have h1 := HF2.out.H.sizes.lt
        have h2 := HF2.out.H.shapes.lt
        simp only [List.mem_cons, List.not_mem_nil, or_false] at hm
        omega
      by_cases hz : k = 0
      · subst hz
        have hnil := hk0 rfl
        subst hnil
        have hR2 : R2 = [] := List.eq_nil_of_length_eq_zero hlen
        have HC := Lib.hid (collect_both F3 [] (.slice none 0 0) (.slice none 0 0) (by simp) (.inl ⟨rfl, rfl⟩) (.inl ⟨rfl, rfl⟩) (by simp))
        obtain ⟨hi, hz0, hz1, hz2⟩ := HI.out
        have hnn : ∀ W, (Builtin.append_ #[37, 37] 37 #[.slice none 0 0, .slice none 0 0]).run Try.prog W = .ok (.slice none 0 0) W := fun W => nil_append Try.underlying37 hi W
        clear T TQ F3 own hk0 hk1 hbs hi hz0 hz1 hz2
        go_wp2_with (first
          | (go_at_call 21; (with_reducible refine HC.out.mono ?_); rintro e w3 ⟨n, cs', sz', sh', rfl, A', H3, T3, C2⟩)
          | (go_at_call 22; (with_reducible refine C2.mono ?_); rintro e w4 ⟨rfl, sv', hs', S4, T4, hf4⟩)
          | fail)
        go_ret
        exact ask_both HF3.out HTQ.out hB0 HPL.out T3 H3 A' T4 S4 hf4
      · obtain ⟨g, cap, rfl⟩ := hk1 (by omega)
        have hgb := (own.lt g rfl).1
        have HG := Lib.hid (hbs g hgb)
        have hLL := rowLies own
        have hpl2 : (pairs R2).length = k * 2 := by rw [pairs_length, hlen]
        have HCB : Hid (∀ w5 g2 cap2, w5.ownsRow wr.heap.size 36 2 (.slice (some ⟨g2, 0, none⟩) k cap2) k (pairs R2) → Touch [] wr w5 → Calls Try.prog 21 #[.pointer (some ⟨bh, 0, none⟩), .slice (some ⟨g2, 0, none⟩) k cap2] w5 (fun e w' => ∃ (n : Int) (cs' : List Pair) (sz' : List Nat) (sh' : List Int), e = .returned (.int .i64 n) ∧ Arr room sz' ∧ HRep w' bh bc bs bp room cs' sz' sh' ∧ Touch (hfoot bh bc bs bp) w5 w' ∧
            Calls Try.prog 22 #[.pointer (some ⟨sp, 0, none⟩), .slice (some ⟨g, 0, none⟩) k cap] w' (fun e w'' => e = .returned (.int .i64 n) ∧
              ∃ sv' hs', SRep w'' sp room sv' hs' (blocksTo cs' sz' sh' room) ∧ Touch (sfoot sp sv hs) w' w'' ∧ ∀ x, x ∈ sfoot sp sv' hs' → x ∈ sfoot sp sv hs ∨ w'.heap.size ≤ x))) := by
          refine Lib.hid fun w5 g2 cap2 o5 t5 => ?_
          refine collect_both (HF3.out.touch t5) R2 _ _ (by omega) (.inr ⟨g2, 0, cap2, by rw [hlen], rowLies o5⟩) (.inr ⟨g, 0, cap, by rw [hlen], hLL.touch t5 List.not_mem_nil⟩) ?_
          intro b o n c e
          injection e with e1 e2 e3
          injection e1 with e1
          injection e1 with e1
          exact e1 ▸ HG.out
        have hnews : ∀ j u, (pairs R2)[j]? = some u → wr.cell? ((⟨g, 0, none⟩ : Addr).add j) = some u := hLL
        have HNEWS := Lib.hid hnews
        have HPL2 := Lib.hid hpl2
        obtain ⟨hi, hz0, hz1, hz2⟩ := HI.out
        have hmx : 0 + k ≤ maxLen := by unfold maxLen; omega
        have hby : (0 + k) * 16 ≤ 140737488355328 := by omega
        have hk3 : 0 < k := by omega
        clear T TQ F3 own hk0 hk1 hbs hLL hnews hpl2
        go_wp2_with (first
          | (at_builtin; refine wpList_append_lies _ rfl _ _ 37 rfl wr.heap.size 36 i0 _ 2 16 Try.underlying37 hi hz0 hz1 hz2 rfl (by decide) (.slice none 0 0) 0 [] rfl (World.ownsRow_nil _ _ _ _) ⟨g, 0, none⟩ k cap (pairs R2) rfl HPL2.out HNEWS.out (pairs_one R2) hk3 hmx hby (Nat.le_refl _) _ rfl ?_
             intro g2 cap2 w5 own5 gr5 hg5 lt5
             have T5 : Touch [] wr w5 := (Touch.refl [] wr).grown gr5 (by intro j hj; simp [Value.ownBlock] at hj)
             rw [Nat.zero_add, List.nil_append] at own5
             have HC := Lib.hid (HCB.out w5 g2 cap2 own5 T5)
             have HT5 := Lib.hid T5
             clear own5 gr5 hg5 T5
             simp only [Nat.zero_add])
          | (go_at_call 21; (with_reducible refine HC.out.mono ?_); rintro e w3 ⟨n, cs', sz', sh', rfl, A', H3, T3, C2⟩)
          | (go_at_call 22; (with_reducible refine C2.mono ?_); rintro e w4 ⟨rfl, sv', hs', S4, T4, hf4⟩)
          | fail)
        go_ret
        exact ask_both (HF3.out.touch HT5.out) (HTQ.out.trans HT5.out) hB0 HPL.out T3 H3 A' T4 S4 hf4
end Go.Proofs.Ytpalndoklifkiaa
