/-
  The questions: asked, kind 1.
-/
import Derived.Test.YtpalndoklifkiaaAskB
namespace Go.Proofs.Ytpalndoklifkiaa
open Go.RowKit

theorem salloc_any {w : World} {sp room : Nat} {sv : Value} {hs : List Hdr} {bl : List BlkM} (H : SRep w sp room sv hs bl) (hroom : room ≤ 4000) (hat : ∀ b, b ∈ bl → b.at_ ≤ 4000)
    (shape : Int) (n : Nat) (hs1 : 1 ≤ shape) (hs2 : shape ≤ 4) (hn : n ≤ 300) (hfew : sfit room bl n ≠ none → hs.length + 1 ≤ 4000) :
    Calls Try.prog 14 #[.pointer (some ⟨sp, 0, none⟩), .int .i64 shape, .int .i64 n] w (SAllocPost w sp room sv hs bl shape n) := by
  rcases H.form with ⟨rfl, rfl, rfl⟩ | ⟨g, cap, rfl⟩
  · exact salloc_empty H hroom shape n hs1 hs2 hn
  · exact salloc_row H hroom hat shape n hs1 hs2 hn hfew

theorem alloc_both {w : World} {B bh bc bs bp sp pp room : Nat} {cs : List Pair} {sz : List Nat} {sh : List Int} {sv : Value} {hs : List Hdr} {pv : Value} {pl : List Int} (F : Full w B bh bc bs bp sp pp room cs sz sh sv hs pv pl) (A Bn : Int) :
    (∃ r : Int, (r == 0) = false ∧ Calls Try.prog 13 #[.pointer (some ⟨bh, 0, none⟩), .int .i64 A, .int .i64 Bn] w (fun e w'' => e = .returned (.tuple #[.int .i64 0, .int .i64 r]) ∧ w = w'') ∧
      Calls Try.prog 14 #[.pointer (some ⟨sp, 0, none⟩), .int .i64 A, .int .i64 Bn] w (fun e w'' => e = .returned (.tuple #[.int .i64 0, .int .i64 r]) ∧ w = w'')) ∨
    (∃ (f : Int) (cs' : List Pair) (sz' : List Nat) (sh' : List Int), Arr room sz' ∧
      Calls Try.prog 13 #[.pointer (some ⟨bh, 0, none⟩), .int .i64 A, .int .i64 Bn] w (fun e w'' => e = .returned (.tuple #[.int .i64 f, .int .i64 0]) ∧ Touch (hfoot bh bc bs bp) w w'' ∧ HRep w'' bh bc bs bp room cs' sz' sh') ∧
      ∀ w', Touch (hfoot bh bc bs bp) w w' → Calls Try.prog 14 #[.pointer (some ⟨sp, 0, none⟩), .int .i64 A, .int .i64 Bn] w' (fun e w'' => e = .returned (.tuple #[.int .i64 f, .int .i64 0]) ∧
        ∃ sv' hs', SRep w'' sp room sv' hs' (blocksTo cs' sz' sh' room) ∧ Touch (sfoot sp sv hs) w' w'' ∧ ∀ x, x ∈ sfoot sp sv' hs' → x ∈ sfoot sp sv hs ∨ w'.heap.size ≤ x)) := by
  by_cases hA : A < 1 ∨ 4 < A
  · exact .inl ⟨13, rfl, alloc_kind bh A Bn w hA, salloc_kind sp A Bn w hA⟩
  have h1 : 1 ≤ A := by omega
  have h2 : A ≤ 4 := by omega
  by_cases hB : Bn < 0 ∨ 300 < Bn
  · exact .inl ⟨14, rfl, alloc_range bh A Bn w h1 h2 hB, salloc_range sp A Bn w h1 h2 hB⟩
  obtain ⟨n, rfl⟩ := Int.eq_ofNat_of_zero_le (show 0 ≤ Bn by omega)
  have hn : n ≤ 300 := by omega
  have hroom := F.H.le
  have hat : ∀ b, b ∈ blocksTo cs sz sh room → b.at_ ≤ 4000 := by
    intro b hb
    obtain ⟨k, hk, hbk⟩ := mem_blocksTo.1 hb
    have := (blockAt_at hbk).1
    omega
  have hlen := blocksIn.length F.S.tell
  obtain ⟨f1, f2⟩ := find_law (cs := cs) (sh := sh) F.A F.H.lc n
  cases hfit : sfit room (blocksTo cs sz sh room) n with
  | none =>
    rw [hfit] at f1
    have hS := salloc_any F.S hroom hat A n h1 h2 hn (fun h => absurd hfit h)
    refine .inl ⟨15, rfl, alloc_full F.H A n h1 h2 hn F.A.fit f1, hS.mono ?_⟩
    intro e w' h
    unfold SAllocPost at h
    rw [hfit] at h
    exact h
  | some k =>
    rw [hfit] at f1
    obtain ⟨g1, g2, g3, g4⟩ := f2 k hfit
    have hA2 := F.A.alloc g2 g3 g4
    have hlaw := alloc_law (shape := A) F.A F.H.lc F.H.lp hfit
    have hkl : k ≤ (blocksTo cs sz sh room).length := by
      have hs1 := blocks_split cs sz sh (frOf (blocksTo cs sz sh room) k) (room - frOf (blocksTo cs sz sh room) k)
      rw [show frOf (blocksTo cs sz sh room) k + (room - frOf (blocksTo cs sz sh room) k) = room from by omega] at hs1
      have := congrArg List.length hs1
      rw [List.length_append] at this
      omega
    have hmore : hs.length + 1 ≤ room := by
      have h3 := congrArg List.length hlaw
      have h4 := blocksTo_le (cleared cs (frOf (blocksTo cs sz sh room) k) (n + 1)) (sz.set (frOf (blocksTo cs sz sh room) k) (n + 1)) (sh.set (frOf (blocksTo cs sz sh room) k) A) room
      simp only [putIn, List.length_append, List.length_take, List.length_cons, List.length_nil, List.length_drop] at h3
      omega
    refine .inr ⟨(frOf (blocksTo cs sz sh room) k : Nat), cleared cs (frOf (blocksTo cs sz sh room) k) (n + 1), sz.set (frOf (blocksTo cs sz sh room) k) (n + 1), sh.set (frOf (blocksTo cs sz sh room) k) A, hA2, (alloc_some F.H A n _ h1 h2 hn F.A.fit f1).mono ?_, ?_⟩
    · intro e w' h
      exact ⟨h.1, h.2.1.mono (by intro x hx _; simp only [hfoot, List.mem_cons, List.not_mem_nil, or_false] at hx ⊢; exact .inr hx), h.2.2⟩
    · intro w' ht
      refine (salloc_any (F.heap ht).1 hroom hat A n h1 h2 hn (fun _ => by omega)).mono ?_
      intro e w'' h
      unfold SAllocPost at h
      rw [hfit] at h
      obtain ⟨sv', hs', k1, k2, k3, k4⟩ := h
      exact ⟨k1, sv', hs', hlaw ▸ k2, k3, k4⟩

/-- A place is put on. -/
theorem Full.push {w w' : World} {B bh bc bs bp sp pp room g cap : Nat} {cs : List Pair} {sz : List Nat} {sh : List Int} {sv : Value} {hs : List Hdr} {pv : Value} {pl : List Int} {x : Int} {o : Obj} (F : Full w B bh bc bs bp sp pp room cs sz sh sv hs pv pl)
    (gr : (w.alloc o).grownBy w' pv.ownBlock) (own : w'.ownsRow B 3 1 (.slice (some ⟨g, 0, none⟩) (pl.length + 1) cap) (pl.length + 1) (ints pl ++ [.int .i64 x])) (hg : pv.ownBlock = some g ∨ g = (w.alloc o).heap.size) :
    Full (w'.setCell ⟨pp, 0, none⟩ (.slice (some ⟨g, 0, none⟩) (pl.length + 1) cap)) B bh bc bs bp sp pp room cs sz sh sv hs (.slice (some ⟨g, 0, none⟩) (pl.length + 1) cap) (pl ++ [x]) ∧
      Below B w (w'.setCell ⟨pp, 0, none⟩ (.slice (some ⟨g, 0, none⟩) (pl.length + 1) cap)) := by
  have T1 : Touch pv.ownBlock.toList w w' := ((Touch.refl _ w).alloc o).grown gr (by intro k hk _; simp [hk])
  have T : Touch (pp :: pv.ownBlock.toList) w (w'.setCell ⟨pp, 0, none⟩ (.slice (some ⟨g, 0, none⟩) (pl.length + 1) cap)) :=
    (T1.mono (fun y hy _ => List.mem_cons_of_mem pp hy)).setCell (p := ⟨pp, 0, none⟩) (fun _ => List.mem_cons_self ..) _
  have hgp : g ≠ pp := by
    rintro rfl
    rcases hg with h | h
    · exact (F.d4 _ h).2.2 rfl
    · have := F.P.lt; rw [alloc_size] at h; omega
  have no1 : ∀ y, y ∈ hfoot bh bc bs bp → y ∉ pp :: pv.ownBlock.toList := by
    intro y hy hm
    rcases List.mem_cons.1 hm with rfl | hm
    · exact F.d2 hy
    · exact (F.d4 y (by simpa using hm)).1 hy
  have no2 : ∀ y, y ∈ sfoot sp sv hs → y ∉ pp :: pv.ownBlock.toList := by
    intro y hy hm
    rcases List.mem_cons.1 hm with rfl | hm
    · exact F.d3 hy
    · exact (F.d4 y (by simpa using hm)).2.1 hy
  have hP1 : blk w' pp [pv] 33 := F.P.touch T1 (fun hm => (F.d4 pp (by simpa using hm)).2.2 rfl)
  refine ⟨⟨F.H.touch T (no1 _ (by simp [hfoot])) (no1 _ (by simp [hfoot])) (no1 _ (by simp [hfoot])) (no1 _ (by simp [hfoot])), F.A, F.S.touch T no2, ?_, ?_, F.b1, F.b2, F.b3, F.d1, F.d2, F.d3, ?_⟩, T.belowB (by have := F.b3; have := F.P.lt; omega) ?_⟩
  · exact hP1.set 0 _
  · rw [List.length_append, ints_append]
    exact ownsRow_touch own ((Touch.refl [pp] w').setCell (fun _ => List.mem_singleton.2 rfl) _) (by intro k hk; simp only [Value.ownBlock, Option.some.injEq] at hk; simp; omega)
  · intro y hy
    simp only [Value.ownBlock, Option.some.injEq] at hy
    subst hy
    rcases hg with h | h
    · exact F.d4 _ h
    · rw [alloc_size] at h
      refine ⟨fun hm => ?_, fun hm => ?_, hgp⟩
      · have := F.lt _ hm; omega
      · have := sfoot_lt F.S _ hm; omega
  · intro y hy
    rcases List.mem_cons.1 hy with rfl | hy
    · exact F.b3
    · exact (F.Q.lt y (by simpa using hy)).1

set_option maxRecDepth 100000 in
set_option maxHeartbeats 2000000 in
theorem asked_alloc {w : World} {B bh sp pp room c : Nat} (S : SInv w B bh sp pp room c) (hc : c ≤ 1000) (A Bn at_ ct cx : Int) (rv : Value) (hrv : ∃ a l c, rv = .slice a l c) :
    Calls Try.prog 6 #[.pointer (some ⟨bh, 0, none⟩), .pointer (some ⟨sp, 0, none⟩), .pointer (some ⟨pp, 0, none⟩), .agg #[.int .i64 1, .int .i64 A, .int .i64 Bn, .int .i64 at_, .int .i64 ct, .int .i64 cx, rv]] w (AskPost w B bh sp pp room (c + 1)) := by
  obtain ⟨bc, bs, bp, cs, sz, sh, sv, hs, pv, pl, F, hpl⟩ := S
  obtain ⟨ra, rl, rc, rfl⟩ := hrv
  obtain ⟨pa, pn, pc, rfl⟩ := row_slice F.Q
  have p0 : w.cell? ⟨pp, 0, none⟩ = some (.slice pa pn pc) := F.P.cell 0
  have HOF : Hid (∀ w', Touch [] w w' → Calls Try.prog 11 #[.agg #[.slice pa pn pc], .int .i64 at_] w' fun e w'' => e = .returned (.int .i64 (ofP pl at_)) ∧ Touch [] w' w'') := Lib.hid fun w' ht => of_any (ownsRow_touch F.Q ht (by simp)) at_
  have HOC : Hid (∀ w', Touch [] w w' → Calls Try.prog 12 #[.agg #[.slice pa pn pc], .agg #[.int .i64 ct, .int .i64 cx]] w' fun e w'' => e = .returned (.agg #[.int .i64 (cellP pl (ct, cx)).1, .int .i64 (cellP pl (ct, cx)).2]) ∧ Touch [] w' w'') := Lib.hid fun w' ht => cell_any (ownsRow_touch F.Q ht (by simp)) ct cx
  have hpp : pp < w.heap.size := F.P.lt
  have HF := Lib.hid F
  have HPL := Lib.hid hpl
  clear F hpl
  generalize ofP pl at_ = atv at *
  generalize cellP pl (ct, cx) = cv at *
  obtain ⟨cv1, cv2⟩ := cv
  go_enter Try.func6, Try.ntmps6
  go_wp2_with fail
  go_region_held3 (fun w' => w'.cell? ⟨pp, 0, none⟩ = some (.slice pa pn pc) ∧ w'.cell? ⟨w.heap.size, 3, none⟩ = some (.int .i64 at_))
    (first | (exact ⟨T1.cell pc1 List.not_mem_nil, T1.cell pc2 List.not_mem_nil⟩) | go_keep | fail)
    (first | (go_at_call 11; (with_reducible refine (HOF.out _ (((Touch.refl [] _).alloc _).drew)).mono ?_); rintro e w1 ⟨rfl, T1⟩
              have pc1 : (w.alloc (.cells #[.int .i64 1, .int .i64 A, .int .i64 Bn, .int .i64 at_, .int .i64 ct, .int .i64 cx, .slice ra rl rc] 39)).drew.cell? ⟨pp, 0, none⟩ = some (.slice pa pn pc) := ((Touch.refl [] _).alloc _).drew.cell p0 List.not_mem_nil
              have pc2 : (w.alloc (.cells #[.int .i64 1, .int .i64 A, .int .i64 Bn, .int .i64 at_, .int .i64 ct, .int .i64 cx, .slice ra rl rc] 39)).drew.cell? ⟨w.heap.size, 3, none⟩ = some (.int .i64 at_) := (blk.newAt w [.int .i64 1, .int .i64 A, .int .i64 Bn, .int .i64 at_, .int .i64 ct, .int .i64 cx, .slice ra rl rc] 39 rfl).drew.cell 3) | fail)
  have T01 : Touch [] w w1 := ((Touch.refl [] _).alloc _).drew.trans T1
  have hb1 : blk w1 w.heap.size [.int .i64 1, .int .i64 A, .int .i64 Bn, .int .i64 at_, .int .i64 ct, .int .i64 cx, .slice ra rl rc] 39 := (blk.newAt w [.int .i64 1, .int .i64 A, .int .i64 Bn, .int .i64 at_, .int .i64 ct, .int .i64 cx, .slice ra rl rc] 39 rfl).drew.touch T1 List.not_mem_nil
  have q0 : w1.cell? ⟨pp, 0, none⟩ = some (.slice pa pn pc) := T01.cell p0 List.not_mem_nil
  have q4 : w1.cell? ⟨w.heap.size, 4, none⟩ = some (.int .i64 ct) := hb1.cell 4
  have q5 : w1.cell? ⟨w.heap.size, 5, none⟩ = some (.int .i64 cx) := hb1.cell 5
  have HT01 := Lib.hid T01
  have hpp1 : pp < w1.heap.size := Nat.lt_of_lt_of_le hpp T01.size
  have hbx1 : w.heap.size < w1.heap.size := hb1.lt
  have HB1 := Lib.hid hb1
  have HOC1 : Hid (∀ w', Touch [] w1 w' → Calls Try.prog 12 #[.agg #[.slice pa pn pc], .agg #[.int .i64 ct, .int .i64 cx]] w' fun e w'' => e = .returned (.agg #[.int .i64 cv1, .int .i64 cv2]) ∧ Touch [] w' w'' ∧ pp < w''.heap.size ∧ w.heap.size < w''.heap.size ∧ w1.heap.size ≤ w''.heap.size) := Lib.hid fun w' ht => (HOC.out w' (T01.trans ht)).mono (fun e w'' h => ⟨h.1, h.2, Nat.lt_of_lt_of_le hpp1 (ht.trans h.2).size, Nat.lt_of_lt_of_le hbx1 (ht.trans h.2).size, (ht.trans h.2).size⟩)
  clear T01 hb1 T1 p0 HOF HOC
  go_upto_region 2 with fail
  go_cut [10] (fun s10 wx => AskCut w1 (cv1, cv2) s10 wx)
  case first =>
    go_region_held3 (fun w' => w'.cell? ⟨pp, 0, none⟩ = some (.slice pa pn pc) ∧ w'.cell? ⟨w.heap.size, 4, none⟩ = some (.int .i64 ct) ∧ w'.cell? ⟨w.heap.size, 5, none⟩ = some (.int .i64 cx))
      (first | (refine ⟨Touch.cell (w := w1) (F := []) ?_ q0 List.not_mem_nil, Touch.cell (w := w1) (F := []) ?_ q4 List.not_mem_nil, Touch.cell (w := w1) (F := []) ?_ q5 List.not_mem_nil⟩ <;> exact (by repeat (first | exact Touch.refl _ _ | refine Touch.trans ?_ T2 | refine Touch.drew ?_ | refine Touch.drewN ?_ _ | refine Touch.alloc ?_ _ | (refine Touch.setNew _ ?_ ?_; rotate_left; focus (first | (simp; done) | (simp only []; omega) | (simp; omega)))))) | fail)
      (first | (go_at_call 12
                (with_reducible refine (HOC1.out _ (by repeat (first | exact Touch.refl _ _ | exact Touch.nil (by assumption) | assumption | refine Touch.drew ?_ | refine Touch.drewN ?_ _ | refine Touch.alloc ?_ _ | (refine Touch.setNew _ ?_ ?_; rotate_left; focus (first | (simp; done) | (simp only []; omega) | (simp; omega))) | (refine Touch.setCell ?_ ?_ _; rotate_left; focus (simp; done)) | (refine Touch.setRow ?_ ?_ _; rotate_left; focus (simp; done))))).mono ?_); rintro e w2 ⟨rfl, T2, l1, l2, l3⟩
                first | (have zz := zero_kept w1 w2 (by with_reducible assumption); obtain ⟨z0, z1, z2, z3, z4⟩ := zz; have z5 := Lib.hid z4; clear z4) | skip | fail) | fail)
    all_goals (go_wp2_with fail; go_meet; case rel => first | exact ⟨_, rfl, (by repeat (first | exact Touch.refl _ _ | refine Touch.trans ?_ T2 | refine Touch.drew ?_ | refine Touch.drewN ?_ _ | refine Touch.alloc ?_ _ | (refine Touch.setNew _ ?_ ?_; rotate_left; focus (first | (simp; done) | (simp only []; omega) | (simp; omega))))), blk.newAt _ [.int .i64 cv1, .int .i64 cv2] _ rfl, l3⟩ | exact ⟨_, rfl, (by repeat (first | exact Touch.refl _ _ | refine Touch.trans ?_ T2 | refine Touch.drew ?_ | refine Touch.drewN ?_ _ | refine Touch.alloc ?_ _ | (refine Touch.setNew _ ?_ ?_; rotate_left; focus (first | (simp; done) | (simp only []; omega) | (simp; omega))))), (z5.out.set 0 (.int .i64 cv1)).set 1 (.int .i64 cv2), Nat.le_refl _⟩ | fail)
  case rest =>
  obtain ⟨gc, rfl, T02, hb2, hg2⟩ := hcut
  have HC2 := Lib.hid hb2
  have hB2 := HB1.out.touch T02 List.not_mem_nil
  have HB2 := Lib.hid hB2
  have hgn : gc ≠ pp ∧ gc ≠ w.heap.size ∧ ¬ gc < w.heap.size := by omega
  have q0 : wc.cell? ⟨w.heap.size, 0, none⟩ = some (.int .i64 1) := hB2.cell 0
  have T2 : Touch [] w wc := HT01.out.trans T02
  have hpp2 : pp < wc.heap.size := Nat.lt_of_lt_of_le hpp T2.size
  have HT2 := Lib.hid T2
  have HF2 := Lib.hid (HF.out.touch T2)
  clear hb2 T02 T2 hg2 HOC1 HT01 HB1 hpp1 hbx1 q4 q5 pc1 pc2
  have p1 : wc.cell? ⟨w.heap.size, 1, none⟩ = some (.int .i64 A) := hB2.cell 1
  have p2 : wc.cell? ⟨w.heap.size, 2, none⟩ = some (.int .i64 Bn) := hB2.cell 2
  have HB := Lib.hid (Nat.le_trans HF.out.b3 (Nat.le_of_lt hpp))
  clear hB2
  rcases alloc_both HF2.out A Bn with ⟨r, hr, C1, C2⟩ | ⟨f, cs', sz', sh', A', C1, C2⟩
  · have C1 := Lib.hid C1
    have C2 := Lib.hid C2
    go_wp2_with (first | (go_at_call 13; (with_reducible refine C1.out.mono ?_); rintro e w3 ⟨rfl, rfl⟩) | (go_at_call 14; (with_reducible refine C2.out.mono ?_); rintro e w3 ⟨rfl, rfl⟩) | fail)
    go_ret
    exact ask_quiet HF.out HPL.out HT2.out
  · have C1 := Lib.hid C1
    have C2 := Lib.hid C2
    have HA' := Lib.hid A'
    have n1 : w.heap.size ∉ hfoot bh bc bs bp := fun h => by have := HF.out.lt _ h; omega
    have n2 : pp ∉ hfoot bh bc bs bp := HF2.out.d2
    have n3 : w.heap.size ∉ sfoot sp sv hs := fun h => by have := sfoot_lt HF.out.S _ h; omega
    have n4 : pp ∉ sfoot sp sv hs := HF2.out.d3
    have pq : wc.cell? ⟨pp, 0, none⟩ = some (.slice pa pn pc) := HF2.out.P.cell 0
    have fq := HF2.out.P.frozen 0
    obtain ⟨i0, hi, hz0, hz1, hz2⟩ := info_parts info_int
    have hone : ∀ u ∈ [Value.int .i64 f], u.oneCell' = true := by intro u hu; simp at hu; subst hu; rfl
    go_wp2_with (first
      | (go_at_call 13; (with_reducible refine C1.out.mono ?_); rintro e w3 ⟨rfl, T3, H3⟩
         have r1 := T3.cell (p := ⟨w.heap.size, 1, none⟩) p1 n1
         have r2 := T3.cell (p := ⟨w.heap.size, 2, none⟩) p2 n1
         have HT3 := Lib.hid T3
         have HH3 := Lib.hid H3
         clear T3 H3)
      | (go_at_call 14; (with_reducible refine (C2.out _ HT3.out).mono ?_); rintro e w4 ⟨rfl, sv', hs', S4, T4, hf4⟩
         have r3 := T4.cell (HT3.out.cell (p := ⟨pp, 0, none⟩) pq n2) n4
         have F4 := HF2.out.both HT3.out HH3.out HA'.out T4 S4 hf4
         have f4 := F4.P.frozen 0
         have l4 := F4.P.lt
         have HF4 := Lib.hid F4
         have HT4 := Lib.hid T4
         have hQ4 := F4.Q
         have hP4 := HPL.out
         clear S4 T4 hf4 F4)
      | (at_builtin; refine wpList_append_lies _ rfl _ _ 31 rfl B 3 i0 _ 1 8 Try.underlying31 hi hz0 hz1 hz2 rfl (by decide) _ pl.length (ints pl) rfl (hQ4.alloc _) ⟨w4.heap.size, 0, none⟩ 1 1 [.int .i64 f] rfl rfl (World.news_of_block (heap_alloc_new w4 _)) hone (Nat.succ_pos 0) (by unfold maxLen; omega) (by omega) (by rw [alloc_size]; have := HF4.out.b3; omega) _ rfl ?_
         intro g cap w5 own5 gr5 hg5 lt5
         have gr5 : World.grownBy _ w5 (Value.slice pa pn pc).ownBlock := gr5
         have hg5 : (Value.slice pa pn pc).ownBlock = some g ∨ _ := hg5
         have T5 : Touch (Value.slice pa pn pc).ownBlock.toList w4 w5 := ((Touch.refl _ w4).alloc _).grown gr5 (by intro k hk _; simp [hk])
         have nq : pp ∉ (Value.slice pa pn pc).ownBlock.toList := fun h => (HF4.out.d4 pp (by simpa using h)).2.2 rfl
         have e1 := T5.frozen (p := ⟨pp, 0, none⟩) l4 nq f4
         have e2 := T5.cell (p := ⟨pp, 0, none⟩) r3 nq
         have e3 := Nat.lt_of_lt_of_le l4 T5.size
         have PU := HF4.out.push gr5 own5 hg5
         have HPU := Lib.hid PU
         clear own5 gr5 hg5 T5 nq PU)
      | fail)
    go_ret
    refine ⟨rfl, ⟨_, _, _, _, _, _, _, _, _, _, HPU.out.1, by have := HPL.out; simp; omega⟩, ?_⟩
    have Bw4 : Below B w w4 := by
      have h1 : Below B w wc := HT2.out.belowB HB.out (by simp)
      have h2 : Below B wc w3 := HT3.out.belowB (Nat.le_trans HB.out HT2.out.size) HF2.out.b1
      have h3 : Below B w3 w4 := HT4.out.belowB (Nat.le_trans (Nat.le_trans HB.out HT2.out.size) HT3.out.size) HF2.out.b2
      exact (h1.trans h2).trans h3
    exact Bw4.trans HPU.out.2
end Go.Proofs.Ytpalndoklifkiaa
