/-
  The walks of package heap, fifth part: mark.
-/
import Derived.Test.YtpalndoklifkiaaHeapD
import Derived.Maps.OwnSet
import Derived.WalkSmall
import Derived.Deep.LoopGhost
namespace Go.Proofs.Ytpalndoklifkiaa
open Go.RowKit Go.Maps

theorem law_int : Keyed Try.prog 3 := int_keyed Try.underlying3
theorem zero_unit (w : World) : (zeroValue 69).run Try.prog w = .ok (.agg #[]) w := by kernel_rfl

/-- Block b is a set (a map to nothing) of just the numbers S. -/
def setIn (w : World) (b : Nat) (S : List Int) : Prop :=
  ∃ D : DataW Unit, w.ownsMap Try.prog 3 unitElem b S.length D ∧ IsMap D ∧ ∀ x : Int, Maps.has D (.int .i64 x) = decide (x ∈ S)

theorem setIn_made (w : World) : setIn (w.alloc (.map #[] 0)) w.heap.size [] :=
  ⟨_, World.ownsMap_made _ _ _ _, isMap_empty, fun x => by simp [Maps.has_eq]⟩
theorem setIn.kept {w w' : World} {b : Nat} {S : List Int} {row : Option Nat} (h : setIn w b S) (hg : w.grownBy w' row) (hne : some b ≠ row) : setIn w' b S := by
  obtain ⟨D, h1, h2, h3⟩ := h
  exact ⟨D, h1.kept hg hne, h2, h3⟩
theorem setIn.lt {w : World} {b : Nat} {S : List Int} (h : setIn w b S) : b < w.heap.size := by
  obtain ⟨D, h1, _⟩ := h
  exact h1.lt
theorem setIn.touch {w w' : World} {b : Nat} {S : List Int} {F : List Nat} (h : setIn w b S) (ht : Touch F w w') (hne : b ∉ F) : setIn w' b S := by
  obtain ⟨D, ⟨es, clock, hb, rest⟩, h2⟩ := h
  exact ⟨D, ⟨es, clock, by rw [ht.block b ((Array.getElem?_eq_some_iff.1 hb).1) hne]; exact hb, rest⟩, h2⟩
theorem ownsRow_neMap {w : World} {base : Nat} {e : TypeId} {size : Nat} {v : Value} {n : Nat} {xs : List Value} {b : Nat} {S : List Int} (h : w.ownsRow base e size v n xs) (h' : setIn w b S) : v.ownBlock ≠ some b := by
  intro hk
  obtain ⟨D, ⟨es, clock, hb, _⟩, _⟩ := h'
  rcases h.2 with ⟨rfl, _⟩ | ⟨g, cap, cur, rfl, _, hg, _⟩
  · simp [Value.ownBlock] at hk
  simp only [Value.ownBlock, Option.some.injEq] at hk
  subst hk
  rw [hg] at hb
  simp at hb

/-- What mark hands back. -/
def MarkPost (w : World) (cs : List Pair) (sz : List Nat) (roots : List Pair) (e : Ending) (w' : World) : Prop :=
  ∃ b S, e = .returned (.map (some b)) ∧ setIn w' b S ∧ (∀ x, x ∈ S ↔ Led cs sz roots x) ∧ Touch [] w w'

def MarkRel (w : World) (cs : List Pair) (sz : List Nat) (roots : List Pair) (n : Nat) (v : Value) (wr : World) : Prop :=
  ∃ S W, wr.ownsRow w.heap.size 36 2 v W.length (pairs W) ∧ setIn wr w.heap.size S ∧ MInv cs sz roots S W ∧ Touch [] w wr ∧
    W.length ≤ roots.length + S.length * 4000 ∧ n = (sz.length - S.length) * 4001 + W.length

/-- 'append' at a step of a region that draws its order: whatever is appended, nothing too. -/
theorem step_append_own {P : Program} (w : World) {ops : Array Oper} {o : Oper} {a : Act} {K : Act → World → Prop} {Q : Exit → Act → World → Prop} {E : Prop} (hgd : o.guard = none) (s x : Operand) (t : TypeId)
    (ho : o.op = .call { callee := .builtin .append, args := #[s, x], argTypes := #[t, t] })
    (base : Nat) (e : TypeId) (i : TypeInfo) (z : Value) (size bytes : Nat) (ht : P.underlying t = some (.slice e)) (hi : P.info? e = some i) (hz : i.zero = some z)
    (hsize : i.size = size) (hby : i.bytes = bytes) (hzs : z.cells.size = size) (hsz : 0 < size)
    (v : Value) (n : Nat) (xs : List Value) (hs : a.eval s = v) (hown : w.ownsRow base e size v n xs)
    (ad : Addr) (m c : Nat) (news : List Value) (hx : a.eval x = .slice (some ad) m c) (hl : news.length = m * size) (hnews : ∀ j u, news[j]? = some u → w.cell? (ad.add j) = some u) (h1 : ∀ u ∈ news, u.oneCell' = true)
    (h63 : n + m ≤ maxLen) (hbytes : (n + m) * bytes ≤ 140737488355328) (hbase : base ≤ w.heap.size)
    (h : ∀ v' w', w'.ownsRow base e size v' (n + m) (xs ++ news) → w.grownBy w' v.ownBlock → (v' = .slice none 0 0 ↔ v = .slice none 0 0 ∧ m = 0) → K (a.put o.dst v') w') :
    if Region.wanted o (yielded ops a.tmps) = true then Oper.wp P o a w K Q else E := by
  have hw : Region.wanted o (yielded ops a.tmps) = true := by simp [Region.wanted, hgd]
  rw [if_pos hw]
  exact wp_append_own w s x t ho base e i z size bytes ht hi hz hsize hby hzs hsz v n xs hs hown ad m c news hx hl hnews h1 h63 hbytes hbase h

theorem setIn_put {w' : World} {b k : Nat} {S : List Int} {D : DataW Unit} (hw : w'.ownsMap Try.prog 3 unitElem b (S.length + 1) (D.put (.int .i64 (k : Int)) (.agg []))) (hm : IsMap D) (hh : ∀ x : Int, Maps.has D (.int .i64 x) = decide (x ∈ S)) : setIn w' b ((k : Int) :: S) := by
  refine ⟨_, hw, hm.put _ _, fun x => ?_⟩
  by_cases hx : x = k
  · subst hx
    rw [has_put_same hm (by simp [WideAt.IsKeyLit])]; simp
  · rw [has_put_other (by simpa using hx), hh]
    simp [hx]

/-- Where the cells of the block at k stand: at the end of all cells Go keeps the old address. -/
def kidsAddr (room bc k : Nat) : Addr := if room = k + 1 then ⟨bc, 0, none⟩ else ⟨bc, (k + 1) * 2, none⟩

theorem kids_lie {w : World} {bh bc bs bp room : Nat} {cs : List Pair} {sz : List Nat} {sh : List Int} (H : HRep w bh bc bs bp room cs sz sh) (k : Nat) (hf : k + natAt sz k ≤ room) (hz : 0 < natAt sz k) :
    lies w (kidsAddr room bc k) (pairs (kidsOf cs sz k)) ∧ (kidsOf cs sz k).length = k + natAt sz k - (k + 1) := by
  have hl := H.lc
  refine ⟨?_, ?_⟩
  · by_cases h : room = k + 1
    · have : kidsOf cs sz k = [] := by
        unfold kidsOf
        rw [List.drop_of_length_le (by simp; omega)]; simp
      rw [this]; intro j u hu; simp at hu
    · unfold kidsAddr kidsOf
      rw [if_neg h]
      have := H.cells.lies ((k + 1) * 2) ((natAt sz k - 1) * 2)
      rw [pairs_drop, pairs_take] at this
      simpa using this
  · unfold kidsOf
    simp only [Int.toNat_natCast, List.length_take, List.length_drop]
    omega

theorem mark_touch {w wr w1 w2 : World} {g n cap : Nat} (hT : Touch [] w wr) (T1 : Touch [w.heap.size] wr w1) (hg : w1.drew.grownBy w2 (Value.slice (some ⟨g, 0, none⟩) n cap).ownBlock) (hb : w.heap.size ≤ g) : Touch [] w w2 := by
  have T2 : Touch [w.heap.size, g] wr w1.drew := T1.drew.mono (by intro x hx _; simp at hx; simp [hx])
  have T3 := T2.grown hg (by intro k hk _; simp only [Value.ownBlock, Option.some.injEq] at hk; simp [hk])
  exact hT.comp T3 (by simp) (by intro x hx hl; simp at hx; omega)

theorem work_cells {w : World} {base : Nat} {v : Value} {W0 : List Pair} {c : Pair} (h : w.ownsRow base 36 2 v (W0 ++ [c]).length (pairs (W0 ++ [c]))) :
    ∃ g cap, v = .slice (some ⟨g, 0, none⟩) (W0.length + 1) cap ∧ W0.length < cap ∧ w.cell? ⟨g, W0.length * 2, none⟩ = some (.int .i64 c.1) ∧ w.cell? ⟨g, W0.length * 2 + 1, none⟩ = some (.int .i64 c.2) ∧
      g < w.heap.size ∧ w.ownsRow base 36 2 (.slice (some ⟨g, 0, none⟩) W0.length cap) W0.length (pairs W0) := by
  have hne : v ≠ .slice none 0 0 := by
    rintro rfl
    rcases h.2 with ⟨_, hn⟩ | ⟨g, cap, cur, hv, _⟩
    · simp at hn
    · simp at hv
  obtain ⟨g, cap, rfl⟩ := ownsRow_form h hne
  have hlt := h.lt g rfl
  have hcap : (W0 ++ [c]).length ≤ cap := by
    rcases h.2 with ⟨hv, _⟩ | ⟨g', cap', cur, hv, _, _, hn, _⟩
    · simp at hv
    · simp only [Value.slice.injEq] at hv; rw [hv.2.2]; exact hn
  simp only [List.length_append, List.length_cons, List.length_nil, Nat.zero_add] at h hcap ⊢
  refine ⟨g, cap, rfl, by omega, ?_, ?_, hlt.2, ?_⟩
  · rw [h.cellAt _ (by omega), pairs_fst _ _ (by simp)]; simp
  · rw [h.cellAt _ (by omega), pairs_snd _ _ (by simp)]; simp
  · rw [pairs_append] at h
    exact ownsRow_pop (by simp) h

set_option maxHeartbeats 1000000 in
theorem mark_any {w : World} {bh bc bs bp room : Nat} {cs : List Pair} {sz : List Nat} {sh : List Int} (H : HRep w bh bc bs bp room cs sz sh)
    (hfit : ∀ k, k < room → k + natAt sz k ≤ room) (roots : List Pair) (b o m c : Nat) (hm : roots.length = m) (hl : lies w ⟨b, o, none⟩ (pairs roots)) (hlen : m ≤ 1048576) :
    Calls Try.prog 28 #[.pointer (some ⟨bh, 0, none⟩), .slice (some ⟨b, o, none⟩) m c] w (MarkPost w cs sz roots) := by
  have hmm := @run_makeMap Try.prog
  have h0 := H.h0
  have h1 := H.h1
  have hroom := H.le
  have HH := Lib.hid H
  have HF := Lib.hid hfit
  have HM := Lib.hid hm
  have HL : Hid (lies (w.alloc (.map #[] 0)) ⟨b, o, none⟩ (pairs roots)) := hl.touch ((Touch.refl [] _).alloc _) (by simp)
  have hby : m * 16 ≤ 140737488355328 := by omega
  clear H hfit hm hl
  go_enter Try.func28, Try.ntmps28
  go_wp2_with (first | (go_at_call 23; (with_reducible refine (clone_any _ roots _ _ _ _ HM.out HL.out hby).mono ?_); rintro e w1 ⟨g1, c1, rfl, hown1, T1⟩) | fail)
  have R0 : MarkRel w cs sz roots ((sz.length - 0) * 4001 + roots.length) (.slice (some ⟨g1, 0, none⟩) roots.length c1) w1 :=
    ⟨[], roots, ownsRow_base hown1 (by simp), (setIn_made w).touch T1 (by simp), MInv.start _ _ _, ((Touch.refl [] w).alloc _).trans T1, by omega, by simp⟩
  have HR0 := Lib.hid R0
  clear R0 hown1 T1 hmm
  go_loopg [6] ((sz.length - 0) * 4001 + roots.length) (fun n v wr => MarkRel w cs sz roots n v wr)
  case atStart => exact HR0.out
  case round =>
    obtain ⟨S, W, hown, hset, hinv, hT, hW, hgk⟩ := hrel
    have HSET := Lib.hid hset
    have HINV := Lib.hid hinv
    have HT := Lib.hid hT
    have HGK := Lib.hid hgk
    have hmlt := hset.lt
    clear hset hinv hT hgk
    rcases List.eq_nil_or_concat W with rfl | ⟨W0, c, rfl⟩
    · rcases hown.2 with ⟨rfl, _⟩ | ⟨g, cap, cur, rfl, _, _, _⟩
      · go_wp2_with fail
        go_ret
        exact ⟨_, S, rfl, HSET.out, HINV.out.done, HT.out⟩
      · go_wp2_with fail
        go_ret
        exact ⟨_, S, rfl, HSET.out, HINV.out.done, HT.out⟩
    · rw [List.concat_eq_append] at *
      obtain ⟨g, cap, rfl, hcap, hc1, hc2, hg, hpop⟩ := work_cells hown
      have hSl := HINV.out.le
      have hls := HH.out.ls
      have hrm := HM.out
      have hn63 : W0.length ≤ 20000000 := by
        have h1 : S.length * 4000 ≤ 4000 * 4000 := Nat.mul_le_mul_right _ (by omega)
        simp only [List.length_append, List.length_cons, List.length_nil] at hW
        omega
      have hS63 : S.length < maxLen := by unfold maxLen; omega
      have HWB := Lib.hid hW
      have HPOP := Lib.hid hpop
      clear hpop hown hSl hls hrm hW
      obtain ⟨t, x⟩ := c
      have hcap0 : ¬ cap = 0 := by omega
      have hS1 : W0.length < gk := by have h1 := HGK.out; simp only [List.length_append, List.length_cons, List.length_nil] at h1; omega
      generalize hn : W0.length = n at *
      have HN := Lib.hid hn
      clear hn
      have REL : (∀ y, leads sz (t, x) y → y ∈ S) → MarkRel w cs sz roots (gk - 1) (.slice (some ⟨g, 0, none⟩) n cap) (wr.alloc (.cells #[.int .i64 t, .int .i64 x] 36)) := by
        intro hy
        refine ⟨S, W0, ?_, HSET.out.kept (World.grownBy_alloc _ _ none) (by simp), HINV.out.pop hy, HT.out.alloc _, ?_, ?_⟩
        · rw [HN.out]; exact HPOP.out.alloc _
        · have := HWB.out; simp only [List.length_append, List.length_cons, List.length_nil] at this; omega
        · have h1 := HGK.out; simp only [List.length_append, List.length_cons, List.length_nil] at h1; omega
      have HREL := Lib.hid REL
      clear REL
      by_cases ht : t = 6
      · subst ht
        have HC : Hid (HRep (wr.alloc (.cells #[.int .i64 6, .int .i64 x] 36)) bh bc bs bp room cs sz sh) := HH.out.touch (HT.out.alloc _) (by simp) (by simp) (by simp) (by simp)
        cases hat : isAt sz x
        · have HY := Lib.hid (HREL.out (fun y hy => by have h1 := hy.2.2; have h2 := hy.2.1; simp only at h2; subst h2; rw [hat] at h1; simp at h1))
          have HAT := Lib.hid hat
          clear hat
          go_wp2_with (first | (go_at_call 27; (with_reducible refine (is_any HC.out _ false HAT.out).mono ?_); rintro e w' ⟨rfl, rfl⟩) | fail)
          go_roundg (gk - 1)
          case measure => omega
          case rel => exact HY.out
        · have HAT := Lib.hid hat
          simp only [isAt, decide_eq_true_eq] at hat
          obtain ⟨c0, c1', c2'⟩ := hat
          obtain ⟨k, rfl⟩ := Int.eq_ofNat_of_zero_le c0
          simp only [Int.toNat_natCast] at c2'
          have hls := HH.out.ls
          have hk : k < room := by omega
          clear c0 c1' hls
          obtain ⟨D, hD, hDm, hDh⟩ := HSET.out
          have hkey : keyOf Try.prog 3 (.int .i64 (k : Int)) = some (.int .i64 (k : Int)) := keyOf_int_mk Try.underlying3 (WalkArith.wf_i64 (by omega))
          have HD := Lib.hid hD
          by_cases hmem : (k : Int) ∈ S
          · have hhas : Maps.has D (.int .i64 (k : Int)) = true := by rw [hDh]; simpa using hmem
            have HY := Lib.hid (HREL.out (fun y hy => by have h2 := hy.2.1; simp only at h2; subst h2; exact hmem))
            clear hDh hDm hD hmem
            go_wp2_with (first
              | (go_at_call 27; (with_reducible refine (is_any HC.out _ true HAT.out).mono ?_); rintro e w' ⟨rfl, rfl⟩)
              | (at_lookup; refine wpList_lookup_own_unit _ rfl _ _ 67 rfl 3 69 law_int Try.underlying67 (zero_unit _) w.heap.size S.length D rfl (HD.out.alloc _) _ _ rfl hkey ?_)
              | fail)
            go_roundg (gk - 1)
            case measure => omega
            case rel =>
              obtain ⟨S', W', a1, a2, a3, a4, a5, a6⟩ := HY.out
              exact ⟨S', W', a1.alloc _, a2.kept (World.grownBy_alloc _ _ none) (by simp), a3, a4.alloc _, a5, a6⟩
          · have hhas : Maps.has D (.int .i64 (k : Int)) = false := by rw [hDh]; simpa using hmem
            have HDM := Lib.hid (And.intro hDm hDh)
            have HPU := Lib.hid (HINV.out.push (x := (k : Int)) ⟨rfl, rfl, HAT.out⟩ hmem)
            have HR := Lib.hid (HH.out.touch HT.out (by simp) (by simp) (by simp) (by simp))
            have hfk := HF.out k hk
            obtain ⟨hkl, hkn⟩ := kids_lie HR.out k hfk c2'
            have b0 := HH.out.head.lt
            have b1 := HH.out.cells.lt
            have b2 := HH.out.sizes.lt
            generalize kidsOf cs sz k = L at *
            have g0 := HR.out.h0
            have g1' := HR.out.h1
            have g2 := HR.out.size k hk
            have HKL := Lib.hid hkl
            have HKN := Lib.hid hkn
            generalize hq : natAt sz k = q at *
            have HQ := Lib.hid hq
            generalize hA : kidsAddr room bc k = A at *
            have HA := Lib.hid hA
            have hif : (if room = k + 1 then some (⟨bc, 0, none⟩ : Addr) else some ⟨bc, (k + 1) * 2, none⟩) = some A := by rw [← hA]; unfold kidsAddr; split <;> rfl
            have i5 : (0 : Int) ≤ (k : Int) + 1 := by omega
            have i7 : (k : Int) + 1 ≤ (k : Int) + (q : Int) := by omega
            have i8 : (k : Int) + (q : Int) ≤ (room : Int) := by omega
            have i9 : (k : Int) < (room : Int) := by omega
            have i3 : ((k : Int) + 1).toNat = k + 1 := by omega
            have i4 : ((k : Int) + (q : Int)).toNat = k + q := by omega
            have i1 : IntKind.i64.wrap ((k : Int) + 1) = (k : Int) + 1 := IntWalk.i64_in _ (by omega)
            have i2 : IntKind.i64.wrap ((k : Int) + (q : Int)) = (k : Int) + (q : Int) := IntWalk.i64_in _ (by omega)
            clear hDh hDm hD hmem hkl hkn hq hA c2' h0 h1
            go_wp2_with (first
              | (go_at_call 27; (with_reducible refine (is_any HC.out _ true HAT.out).mono ?_); rintro e w' ⟨rfl, rfl⟩)
              | (at_lookup; refine wpList_lookup_own_unit _ rfl _ _ 67 rfl 3 69 law_int Try.underlying67 (zero_unit _) w.heap.size S.length D rfl (HD.out.alloc _) _ _ rfl hkey ?_)
              | (at_mapUpdate; refine wpList_mapUpdate_own _ rfl _ _ _ 67 rfl 3 69 law_int Try.underlying67 (unitElem (H := Unit)) w.heap.size S.length D rfl ((HD.out.alloc _).alloc _) hS63 _ _ _ rfl rfl hkey _ [] unitElem_mk ?_; intro w1 hown1 hgrow1)
              | fail)
            have T1 : Touch [w.heap.size] wr w1 := ((((Touch.refl _ wr).alloc _).alloc _).grown hgrow1 (by simp))
            have e0 := T1.cell g0 (by simp; omega)
            have e1 := T1.cell g1' (by simp; omega)
            have e2 := T1.cell g2 (by simp; omega)
            have e3 : w1.cell? ⟨wr.heap.size, 1, none⟩ = some (.int .i64 (k : Int)) := hgrow1.cell (by simp) (by simp; omega)
            have HT1 := Lib.hid T1
            have HM1 := Lib.hid hown1
            have hsz1 := hgrow1.size
            have hsz0 : w.heap.size < w1.heap.size := by have := T1.size; omega
            have HG1 := Lib.hid hgrow1
            have hownW := ownsRow_touch HPOP.out T1 (fun j hj => by have := ownsRow_neMap HPOP.out HSET.out; simp only [List.mem_singleton]; rintro rfl; exact this hj)
            have HOW : Hid (w1.drew.ownsRow w.heap.size 36 2 (.slice (some ⟨g, 0, none⟩) n cap) n (pairs W0)) := hownW
            have hAb : A.block = bc := by have := HA.out; rw [← this]; unfold kidsAddr; split <;> rfl
            have hl1 : lies w1 A (pairs L) := HKL.out.touch T1 (by simp only [List.mem_singleton]; rw [hAb]; omega)
            have HL1 : Hid (lies w1.drew A (pairs L)) := hl1
            have hby2 : (n + (k + q - (k + 1))) * 16 ≤ 140737488355328 := by omega
            have hmx2 : n + (k + q - (k + 1)) ≤ maxLen := by unfold maxLen; omega
            have hLen : (pairs L).length = (k + q - (k + 1)) * 2 := by rw [pairs_length, HKN.out]
            have HLEN := Lib.hid hLen
            obtain ⟨ii, hi, hz0, hz1, hz2⟩ := info_parts info_cell
            have nb1 : some bh ≠ (Value.slice (some ⟨g, 0, none⟩) n cap).ownBlock := fun e => ownsRow_neBlk HPOP.out HR.out.head (by decide) e.symm
            have nb2 : some bs ≠ (Value.slice (some ⟨g, 0, none⟩) n cap).ownBlock := fun e => ownsRow_neBlk HPOP.out HR.out.sizes (by decide) e.symm
            have nb3 : some wr.heap.size ≠ (Value.slice (some ⟨g, 0, none⟩) n cap).ownBlock := by simp only [Value.ownBlock, ne_eq, Option.some.injEq]; omega
            clear T1 hown1 hgrow1 hownW hLen g0 g1' g2 hAb hl1
            go_region_held3 (fun w' => w'.cell? ⟨bh, 0, none⟩ = some (.slice (some ⟨bc, 0, none⟩) room room) ∧ w'.cell? ⟨bh, 1, none⟩ = some (.slice (some ⟨bs, 0, none⟩) room room) ∧ w'.cell? ⟨bs, k, none⟩ = some (.int .i64 (q : Int)) ∧ w'.cell? ⟨wr.heap.size, 1, none⟩ = some (.int .i64 (k : Int)))
              (first
                | go_keep
                | (exact ⟨hgrow2.cell e0 nb1, hgrow2.cell e1 nb1, hgrow2.cell e2 nb2, hgrow2.cell e3 nb3⟩)
                | fail)
              (first
                | (refine step_append_own _ (by rfl) _ _ 37 (by rfl) w.heap.size 36 ii _ 2 16 Try.underlying37 hi hz0 hz1 hz2 rfl (by decide) _ n (pairs W0) (by rfl) HOW.out A _ _ (pairs L) (by rfl) HLEN.out HL1.out (pairs_one L) hmx2 hby2 (Nat.le_of_lt hsz0) ?_; intro v2 w2 hown2 hgrow2 hne2)
                | fail)
            clear hi hz0 hz1 hz2 i1 i2 i3 i4
            have hSle := HPU.out.le
            have hLn := HKN.out
            go_wp2
            go_roundg ((sz.length - (S.length + 1)) * 4001 + (n + (k + q - (k + 1))))
            case measure =>
              have h1 := HGK.out
              have h2 := HN.out
              simp only [List.length_append, List.length_cons, List.length_nil] at h1 hSle
              have : (sz.length - S.length) * 4001 = (sz.length - (S.length + 1)) * 4001 + 4001 := by rw [← Nat.succ_mul]; congr 1; omega
              omega
            case rel =>
              have T1 := HT1.out
              have Tg := hgrow2
              have h2 := HN.out
              refine ⟨(k : Int) :: S, W0 ++ L, ?_, ?_, HPU.out, ?_, ?_, ?_⟩
              · rw [List.length_append, pairs_append, h2, hLn]; exact hown2
              · exact (setIn_put HM1.out HDM.out.1 HDM.out.2).kept (b := w.heap.size) (w := w1.drew) hgrow2 (fun e => ownsRow_neMap HPOP.out HSET.out e.symm)
              · exact mark_touch HT.out T1 hgrow2 (HPOP.out.lt g rfl).1
              · have h1 := HWB.out
                simp only [List.length_append, List.length_cons, List.length_nil] at h1 ⊢
                omega
              · simp only [List.length_append, List.length_cons]; omega
      · have HY := Lib.hid (HREL.out (fun y hy => absurd hy.1 ht))
        have ht' : (t != 6) = true := by simpa using ht
        have ht'' : (t == 6) = false := by simpa using ht
        clear ht
        go_wp2_with fail
        go_roundg (gk - 1)
        case measure => omega
        case rel => exact HY.out
end Go.Proofs.Ytpalndoklifkiaa
