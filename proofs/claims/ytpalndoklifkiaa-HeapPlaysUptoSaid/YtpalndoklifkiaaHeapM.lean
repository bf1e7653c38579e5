/-
  Plain law, second part: Alloc and Free of the arrays and of the blocks.
-/
import Derived.Test.YtpalndoklifkiaaHeapL
namespace Go.Proofs.Ytpalndoklifkiaa

section
variable {room : Nat} {cs : List Pair} {sz : List Nat} {sh : List Int}

theorem idx_ge {a m q : Nat} (hq : q = (blocksTo cs sz sh a).length) : a ≤ toOf (a + m) (blocksTo cs sz sh (a + m)) q := by
  subst hq
  unfold toOf
  split
  · rename_i h
    rw [blkAt_get _ _ h]
    simp only [blocks_split] at h ⊢
    rw [List.getElem_append_right (Nat.le_refl _)]
    have hm := List.getElem_mem (l := blocksOn cs sz sh a m) (n := (blocksTo cs sz sh a).length - (blocksTo cs sz sh a).length) (by simp at h ⊢; omega)
    obtain ⟨k, h1, _, h3⟩ := mem_blocksOn.1 hm
    rw [(blockAt_at h3).1]; exact h1
  · omega

theorem len_skip {a m : Nat} (h : ∀ j, a ≤ j → j < a + m → natAt sz j = 0) : (blocksTo cs sz sh (a + m)).length = (blocksTo cs sz sh a).length := by
  rw [blocks_split, blocksOn_none _ _ _ _ _ h]; simp

theorem gap_law (hA : Arr room sz) (hc : cs.length = room) (n : Nat) : ∀ (d a fr : Nat), room - a = d → fr ≤ a → a ≤ room → (∀ j, fr ≤ j → j < a → natAt sz j = 0) → a - fr ≤ n →
    fr = frOf (blocksTo cs sz sh room) (blocksTo cs sz sh a).length → (∀ q, q < (blocksTo cs sz sh a).length → ¬ frOf (blocksTo cs sz sh room) q + n < toOf room (blocksTo cs sz sh room) q) → (∀ k, k < fr → k + natAt sz k ≤ fr) →
    findGo sz room (n + 1) fr a = (sfit room (blocksTo cs sz sh room) n).map (frOf (blocksTo cs sz sh room)) ∧
    (∀ k, sfit room (blocksTo cs sz sh room) n = some k → k = (blocksTo cs sz sh (frOf (blocksTo cs sz sh room) k)).length ∧ frOf (blocksTo cs sz sh room) k + (n + 1) ≤ room ∧
      (∀ j, frOf (blocksTo cs sz sh room) k ≤ j → j < frOf (blocksTo cs sz sh room) k + (n + 1) → natAt sz j = 0) ∧ (∀ j, j < frOf (blocksTo cs sz sh room) k → j + natAt sz j ≤ frOf (blocksTo cs sz sh room) k)) := by
  intro d
  induction d using Nat.strongRecOn with
  | _ d ih =>
  intro a fr hd hfa har hz hgap hfr hno hpre
  by_cases hlt : a < room
  · by_cases hs : 0 < natAt sz a
    · rw [findGo, if_pos hlt, if_pos hs]
      have hfit := hA.fit a hlt
      obtain ⟨b, hb, h1, h2⟩ := bidx_of (cs := cs) (sh := sh) (room := room) (k := a) hlt hs
      have h3 := blockAt_at hb
      have h4 := blockAt_len hA hc hlt hb
      have hlen1 : (blocksTo cs sz sh (a + natAt sz a)).length = (blocksTo cs sz sh a).length + 1 := by
        have e1 : (blocksTo cs sz sh (a + 1)).length = (blocksTo cs sz sh a).length + 1 := by rw [blocksTo_succ, hb]; simp
        have e2 := len_skip (cs := cs) (sh := sh) (sz := sz) (a := a + 1) (m := natAt sz a - 1) (fun j hj1 hj2 => hA.sep a hlt j (by omega) (by omega))
        rw [show a + 1 + (natAt sz a - 1) = a + natAt sz a from by omega] at e2
        omega
      have hlt2 := bidx_lt h1
      have hto : toOf room (blocksTo cs sz sh room) (blocksTo cs sz sh a).length = a := by
        unfold toOf; rw [if_pos hlt2, h2, h3.1]
      refine ih (room - (a + natAt sz a)) (by omega) (a + natAt sz a) (a + natAt sz a) rfl (Nat.le_refl _) hfit (by intro j h1 h2; omega) (by omega) ?_ ?_ ?_
      · rw [hlen1]
        simp only [frOf]
        rw [h2, h3.1, h4]; omega
      · intro q hq
        rw [hlen1] at hq
        by_cases hql : q = (blocksTo cs sz sh a).length
        · subst hql; rw [hto, ← hfr]; omega
        · exact hno q (by omega)
      · intro j hj
        by_cases hj1 : j < fr
        · have := hpre j hj1; omega
        · by_cases hj2 : j < a
          · have := hz j (by omega) hj2; omega
          · by_cases hj3 : j = a
            · subst hj3; exact Nat.le_refl _
            · have := hA.sep a hlt j (by omega) hj; omega
    · have hz1 : ∀ j, fr ≤ j → j < a + 1 → natAt sz j = 0 := by
        intro j h1 h2
        by_cases hja : j = a
        · subst hja; omega
        · exact hz j h1 (by omega)
      have hlen1 : (blocksTo cs sz sh (a + 1)).length = (blocksTo cs sz sh a).length := len_skip (fun j h1 h2 => hz1 j (by omega) h2)
      rw [findGo, if_pos hlt, if_neg hs]
      by_cases he : a + 1 - fr = n + 1
      · rw [if_pos he]
        have hge : a + 1 ≤ toOf room (blocksTo cs sz sh room) (blocksTo cs sz sh a).length := by
          obtain ⟨m, rfl⟩ : ∃ m, room = a + 1 + m := ⟨room - a - 1, by omega⟩
          exact idx_ge hlen1.symm
        have hle : (blocksTo cs sz sh a).length ≤ (blocksTo cs sz sh room).length := by
          obtain ⟨m, rfl⟩ : ∃ m, room = a + m := ⟨room - a, by omega⟩
          rw [blocks_split]; simp
        have hsf := sfit_some (room := room) (n := n) hle (by rw [← hfr]; omega) hno
        rw [hsf]
        refine ⟨by simp [← hfr], ?_⟩
        intro k hk
        simp only [Option.some.injEq] at hk
        subst hk
        rw [← hfr]
        refine ⟨?_, by omega, fun j h1 h2 => hz1 j h1 (by omega), hpre⟩
        obtain ⟨m, rfl⟩ : ∃ m, a = fr + m := ⟨a - fr, by omega⟩
        exact len_skip (fun j h1 h2 => hz j h1 h2)
      · rw [if_neg he]
        exact ih (room - (a + 1)) (by omega) (a + 1) fr rfl (by omega) hlt hz1 (by omega) (by rw [hlen1]; exact hfr) (by rw [hlen1]; exact hno) hpre
  · obtain rfl : a = room := by omega
    rw [findGo, if_neg hlt]
    have hsf : sfit a (blocksTo cs sz sh a) n = none := by
      apply sfit_none
      intro j hj
      by_cases hjl : j = (blocksTo cs sz sh a).length
      · subst hjl
        rw [← hfr]
        unfold toOf
        rw [if_neg (by omega)]; omega
      · exact hno j (by omega)
    rw [hsf]
    exact ⟨rfl, by simp⟩

theorem find_law (hA : Arr room sz) (hc : cs.length = room) (n : Nat) : findGo sz room (n + 1) 0 0 = (sfit room (blocksTo cs sz sh room) n).map (frOf (blocksTo cs sz sh room)) ∧
    (∀ k, sfit room (blocksTo cs sz sh room) n = some k → k = (blocksTo cs sz sh (frOf (blocksTo cs sz sh room) k)).length ∧ frOf (blocksTo cs sz sh room) k + (n + 1) ≤ room ∧
      (∀ j, frOf (blocksTo cs sz sh room) k ≤ j → j < frOf (blocksTo cs sz sh room) k + (n + 1) → natAt sz j = 0) ∧ (∀ j, j < frOf (blocksTo cs sz sh room) k → j + natAt sz j ≤ frOf (blocksTo cs sz sh room) k)) :=
  gap_law hA hc n room 0 0 (by omega) (by omega) (by omega) (by intro j h1 h2; omega) (by omega) (by simp [blocksTo, frOf]) (by simp [blocksTo]) (by intro k hk; omega)

theorem natAt_set (l : List Nat) (k j v : Nat) (h : k < l.length) : natAt (l.set k v) j = if j = k then v else natAt l j := by
  unfold natAt
  rw [List.getD_eq_getElem?_getD, List.getD_eq_getElem?_getD, List.getElem?_set]
  by_cases hj : k = j
  · subst hj; simp [h]
  · rw [if_neg hj, if_neg (fun e => hj e.symm)]
theorem intAt_set (l : List Int) (k j : Nat) (v : Int) (h : k < l.length) : intAt (l.set k v) j = if j = k then v else intAt l j := by
  unfold intAt
  rw [List.getD_eq_getElem?_getD, List.getD_eq_getElem?_getD, List.getElem?_set]
  by_cases hj : k = j
  · subst hj; simp [h]
  · rw [if_neg hj, if_neg (fun e => hj e.symm)]

/-- The arrays behind an Alloc are in order. -/
theorem Arr.alloc (hA : Arr room sz) {f n : Nat} (hf : f + (n + 1) ≤ room) (hz : ∀ j, f ≤ j → j < f + (n + 1) → natAt sz j = 0) (hpre : ∀ j, j < f → j + natAt sz j ≤ f) : Arr room (sz.set f (n + 1)) := by
  have hl := hA.len
  refine ⟨by simpa using hl, ?_, ?_⟩
  · intro k hk
    rw [natAt_set _ _ _ _ (by omega)]
    split
    · omega
    · exact hA.fit k hk
  · intro k hk j hj1 hj2
    rw [natAt_set _ _ _ _ (by omega)] at hj2 ⊢
    by_cases hkf : k = f
    · rw [if_pos hkf] at hj2
      rw [if_neg (by omega)]
      exact hz j (by omega) (by omega)
    · rw [if_neg hkf] at hj2
      by_cases hjf : j = f
      · subst hjf
        exfalso
        have := hpre k hj1
        omega
      · rw [if_neg hjf]
        exact hA.sep k hk j hj1 hj2

theorem natAt_rep (n j : Nat) : natAt (List.replicate n 0) j = 0 := by
  unfold natAt
  rw [List.getD_eq_getElem?_getD, List.getElem?_replicate]
  split <;> rfl
theorem Arr.start (n : Nat) : Arr n (List.replicate n 0) := by
  refine ⟨by simp, ?_, ?_⟩
  · intro k hk; rw [natAt_rep]; omega
  · intro k _ j _ _; exact natAt_rep _ _
theorem blocks_start (n : Nat) : blocksTo (List.replicate n (0, 0)) (List.replicate n 0) (List.replicate n 0) n = [] := by
  simp only [blocksTo, List.filterMap_eq_nil_iff]
  intro x _
  simp [blockAt, natAt_rep]

theorem cleared_length {f n : Nat} (hc : cs.length = room) (hf : f + n ≤ room) : (cleared cs f n).length = room := by
  simp [cleared]; omega
theorem cleared_ahead {f n j m : Nat} (hc : cs.length = room) (hf : f + n ≤ room) (h : j + m ≤ f) : ((cleared cs f n).drop j).take m = (cs.drop j).take m := by
  unfold cleared
  apply List.ext_getElem?
  intro i
  rw [List.getElem?_take, List.getElem?_take]
  split
  · rw [List.getElem?_drop, List.getElem?_drop, List.append_assoc, List.getElem?_append_left (by simp; omega), List.getElem?_take, if_pos (by omega)]
  · rfl
theorem cleared_behind {f n j m : Nat} (hc : cs.length = room) (hf : f + n ≤ room) (h : f + n ≤ j) : ((cleared cs f n).drop j).take m = (cs.drop j).take m := by
  unfold cleared
  apply List.ext_getElem?
  intro i
  rw [List.getElem?_take, List.getElem?_take]
  split
  · rw [List.getElem?_drop, List.getElem?_drop, List.getElem?_append_right (by simp; omega), List.getElem?_drop]
    congr 1
    simp
    omega
  · rfl

theorem alloc_law (hA : Arr room sz) (hc : cs.length = room) (hl2 : sh.length = room) {n k : Nat} {shape : Int} (hk : sfit room (blocksTo cs sz sh room) n = some k) :
    blocksTo (cleared cs (frOf (blocksTo cs sz sh room) k) (n + 1)) (sz.set (frOf (blocksTo cs sz sh room) k) (n + 1)) (sh.set (frOf (blocksTo cs sz sh room) k) shape) room =
      putIn (blocksTo cs sz sh room) k ⟨frOf (blocksTo cs sz sh room) k, shape, List.replicate n (0, 0)⟩ := by
  obtain ⟨h1, h2, h3, h4⟩ := (find_law (cs := cs) (sh := sh) hA hc n).2 k hk
  have hl := hA.len
  generalize frOf (blocksTo cs sz sh room) k = f at *
  obtain ⟨m, rfl⟩ : ∃ m, room = f + (1 + (n + m)) := ⟨room - f - 1 - n, by omega⟩
  have hnew : blockAt (cleared cs f (n + 1)) (sz.set f (n + 1)) (sh.set f shape) f = some ⟨f, shape, List.replicate n (0, 0)⟩ := by
    unfold blockAt
    rw [natAt_set _ _ _ _ (by omega), intAt_set _ _ _ _ (by omega)]
    simp only [if_true, Nat.succ_pos, Nat.add_sub_cancel]
    congr 2
    unfold cleared
    apply List.ext_getElem?
    intro i
    rw [List.getElem?_take, List.getElem?_drop]
    split
    · rename_i hi
      rw [List.getElem?_append_left (by simp; omega), List.getElem?_append_right (by simp; omega)]
      simp only [List.getElem?_replicate, List.length_take]
      rw [if_pos (by omega), if_pos hi]
    · rename_i hi
      rw [List.getElem?_eq_none (by simp; omega)]
  have e1 : blocksTo (cleared cs f (n + 1)) (sz.set f (n + 1)) (sh.set f shape) f = blocksTo cs sz sh f := by
    apply blocksTo_congr
    intro j hj
    unfold blockAt
    rw [natAt_set _ _ _ _ (by omega), intAt_set _ _ _ _ (by omega), if_neg (show ¬ j = f by omega), if_neg (show ¬ j = f by omega)]
    by_cases h0 : 0 < natAt sz j
    · rw [if_pos h0, if_pos h0, cleared_ahead hc (by omega) (by have := h4 j hj; omega)]
    · rw [if_neg h0, if_neg h0]
  have e2 : blocksOn (cleared cs f (n + 1)) (sz.set f (n + 1)) (sh.set f shape) (f + 1) (n + m) = blocksOn cs sz sh (f + 1) (n + m) := by
    apply blocksOn_congr
    intro j hj1 hj2
    unfold blockAt
    rw [natAt_set _ _ _ _ (by omega), intAt_set _ _ _ _ (by omega), if_neg (show ¬ j = f by omega), if_neg (show ¬ j = f by omega)]
    by_cases h0 : 0 < natAt sz j
    · have hjf : f + (n + 1) ≤ j := by
        by_cases hh : f + (n + 1) ≤ j
        · exact hh
        · have := h3 j (by omega) (by omega); omega
      rw [if_pos h0, if_pos h0, cleared_behind hc (by omega) (by omega)]
    · rw [if_neg h0, if_neg h0]
  have e3 : blocksTo cs sz sh (f + (1 + (n + m))) = blocksTo cs sz sh f ++ blocksOn cs sz sh (f + 1) (n + m) := by
    rw [blocks_split, blocksOn_split, blocksOn_none cs sz sh f 1 (fun j a b => h3 j a (by omega))]; rfl
  rw [blocks_at hnew, e1, e2, e3, h1]
  unfold putIn
  rw [List.take_left, List.drop_left]
  simp

theorem sum_law (hA : Arr room sz) (hc : cs.length = room) (k : Nat) (hk : k ≤ room) : (sz.take k).sum = sused (blocksTo cs sz sh k) := by
  have hl := hA.len
  induction k with
  | zero => simp [sused, blocksTo]
  | succ k ih =>
    rw [List.take_succ_eq_append_getElem (by omega), List.sum_append, ih (by omega), blocksTo_succ, ← natAt_get _ _ (by omega)]
    unfold sused
    rw [List.map_append, List.sum_append]
    cases hb : blockAt cs sz sh k with
    | none =>
      have : natAt sz k = 0 := by
        unfold blockAt at hb
        split at hb
        · simp at hb
        · omega
      simp [this]
    | some b =>
      have h1 := blockAt_len hA hc (by omega) hb
      have h2 := (blockAt_at hb).2.1
      simp; omega
theorem free_law (hA : Arr room sz) (hc : cs.length = room) : sz.sum = sused (blocksTo cs sz sh room) := by
  have := sum_law (sh := sh) hA hc room (Nat.le_refl _)
  rw [List.take_of_length_le (by have := hA.len; omega)] at this
  exact this
end
end Go.Proofs.Ytpalndoklifkiaa
