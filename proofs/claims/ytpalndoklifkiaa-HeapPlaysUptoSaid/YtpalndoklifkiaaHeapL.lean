/-
  Plain law: the arrays of package heap hold just the document's blocks, and each operation of heap does to the arrays what the document's does to the blocks. No walk stands here.
-/
import Derived.Test.YtpalndoklifkiaaStoreE
namespace Go.Proofs.Ytpalndoklifkiaa

/-- The arrays are in order: blocks lie within the room, none begins within another. -/
structure Arr (room : Nat) (sz : List Nat) : Prop where
  len : sz.length = room
  fit : ∀ k, k < room → k + natAt sz k ≤ room
  sep : ∀ k, k < room → ∀ j, k < j → j < k + natAt sz k → natAt sz j = 0

theorem filterMap_same {α β : Type} {f g : α → Option β} : ∀ {l : List α}, (∀ x, x ∈ l → f x = g x) → l.filterMap f = l.filterMap g
  | [], _ => rfl
  | x :: l, h => by
    rw [List.filterMap_cons, List.filterMap_cons, h x (by simp), filterMap_same (l := l) (fun y hy => h y (by simp [hy]))]

def blocksOn (cs : List Pair) (sz : List Nat) (sh : List Int) (a n : Nat) : List BlkM := ((List.range n).map (a + ·)).filterMap (blockAt cs sz sh)

theorem blocks_split (cs : List Pair) (sz : List Nat) (sh : List Int) (a n : Nat) : blocksTo cs sz sh (a + n) = blocksTo cs sz sh a ++ blocksOn cs sz sh a n := by
  simp only [blocksTo, blocksOn, List.range_add, List.filterMap_append]
theorem blocksOn_split (cs : List Pair) (sz : List Nat) (sh : List Int) (a n m : Nat) : blocksOn cs sz sh a (n + m) = blocksOn cs sz sh a n ++ blocksOn cs sz sh (a + n) m := by
  simp only [blocksOn, List.range_add, List.map_append, List.filterMap_append, List.map_map]
  congr 2
  apply List.map_congr_left
  intro x _
  simp; omega
theorem blocksOn_none (cs : List Pair) (sz : List Nat) (sh : List Int) (a n : Nat) (h : ∀ j, a ≤ j → j < a + n → natAt sz j = 0) : blocksOn cs sz sh a n = [] := by
  simp only [blocksOn, List.filterMap_eq_nil_iff, List.mem_map, List.mem_range]
  rintro x ⟨j, hj, rfl⟩
  simp [blockAt, h (a + j) (by omega) (by omega)]
theorem blocksOn_congr {cs cs' : List Pair} {sz sz' : List Nat} {sh sh' : List Int} {a n : Nat} (h : ∀ j, a ≤ j → j < a + n → blockAt cs sz sh j = blockAt cs' sz' sh' j) : blocksOn cs sz sh a n = blocksOn cs' sz' sh' a n := by
  simp only [blocksOn]
  apply filterMap_same
  intro x hx
  simp only [List.mem_map, List.mem_range] at hx
  obtain ⟨j, hj, rfl⟩ := hx
  exact h _ (by omega) (by omega)
theorem blocksTo_congr {cs cs' : List Pair} {sz sz' : List Nat} {sh sh' : List Int} {a : Nat} (h : ∀ j, j < a → blockAt cs sz sh j = blockAt cs' sz' sh' j) : blocksTo cs sz sh a = blocksTo cs' sz' sh' a := by
  simp only [blocksTo]
  apply filterMap_same
  intro x hx
  exact h _ (by simpa using hx)
theorem mem_blocksTo {cs : List Pair} {sz : List Nat} {sh : List Int} {a : Nat} {b : BlkM} : b ∈ blocksTo cs sz sh a ↔ ∃ k, k < a ∧ blockAt cs sz sh k = some b := by
  simp [blocksTo, List.mem_filterMap]
theorem mem_blocksOn {cs : List Pair} {sz : List Nat} {sh : List Int} {a n : Nat} {b : BlkM} : b ∈ blocksOn cs sz sh a n ↔ ∃ k, a ≤ k ∧ k < a + n ∧ blockAt cs sz sh k = some b := by
  simp only [blocksOn, List.mem_filterMap, List.mem_map, List.mem_range]
  constructor
  · rintro ⟨x, ⟨j, hj, rfl⟩, h⟩; exact ⟨a + j, by omega, by omega, h⟩
  · rintro ⟨k, h1, h2, h⟩; exact ⟨k, ⟨k - a, by omega, by omega⟩, h⟩
theorem blockAt_at {cs : List Pair} {sz : List Nat} {sh : List Int} {k : Nat} {b : BlkM} (h : blockAt cs sz sh k = some b) : b.at_ = k ∧ 0 < natAt sz k ∧ b.shape = intAt sh k ∧ b.cells = (cs.drop (k + 1)).take (natAt sz k - 1) := by
  unfold blockAt at h
  split at h
  · simp only [Option.some.injEq] at h
    subst h
    exact ⟨rfl, by assumption, rfl, rfl⟩
  · simp at h
theorem blockAt_len {cs : List Pair} {sz : List Nat} {sh : List Int} {room k : Nat} {b : BlkM} (hA : Arr room sz) (hc : cs.length = room) (hk : k < room) (h : blockAt cs sz sh k = some b) : b.cells.length = natAt sz k - 1 := by
  obtain ⟨_, h0, _, h3⟩ := blockAt_at h
  have := hA.fit k hk
  rw [h3]; simp; omega

/-- The block that begins at a, in the list. -/
theorem bidx_of {cs : List Pair} {sz : List Nat} {sh : List Int} {room k : Nat} (hk : k < room) (h : 0 < natAt sz k) : ∃ b, blockAt cs sz sh k = some b ∧ bidx (blocksTo cs sz sh room) k = some (blocksTo cs sz sh k).length ∧ blkAt (blocksTo cs sz sh room) (blocksTo cs sz sh k).length = b := by
  obtain ⟨b, hb⟩ : ∃ b, blockAt cs sz sh k = some b := ⟨_, by simp [blockAt, h]; rfl⟩
  obtain ⟨m, rfl⟩ : ∃ m, room = k + (1 + m) := ⟨room - k - 1, by omega⟩
  have e : blocksTo cs sz sh (k + (1 + m)) = blocksTo cs sz sh k ++ (b :: blocksOn cs sz sh (k + 1) m) := by
    rw [blocks_split, blocksOn_split]
    congr 1
    have : blocksOn cs sz sh k 1 = [b] := by simp [blocksOn, hb]
    rw [this]; rfl
  refine ⟨b, hb, ?_, ?_⟩
  · rw [e]
    unfold bidx
    rw [List.findIdx?_append]
    have h1 : (blocksTo cs sz sh k).findIdx? (fun b => (b.at_ : Int) == (k : Int)) = none := by
      rw [List.findIdx?_eq_none_iff]
      intro x hx
      obtain ⟨j, hj, hjb⟩ := mem_blocksTo.1 hx
      have := (blockAt_at hjb).1
      simp; omega
    rw [h1, List.findIdx?_cons]
    have := (blockAt_at hb).1
    simp [this]
  · rw [e, blkAt_get _ _ (by simp)]
    simp
theorem bidx_not {cs : List Pair} {sz : List Nat} {sh : List Int} {room : Nat} (hA : Arr room sz) (a : Int) (h : isAt sz a = false) : bidx (blocksTo cs sz sh room) a = none := by
  unfold bidx
  rw [List.findIdx?_eq_none_iff]
  intro x hx
  obtain ⟨j, hj, hjb⟩ := mem_blocksTo.1 hx
  obtain ⟨h1, h2, _⟩ := blockAt_at hjb
  simp only [beq_eq_false_iff_ne, ne_eq]
  intro e
  have hl := hA.len
  have : isAt sz a = true := by
    simp only [isAt, decide_eq_true_eq]
    subst e
    rw [h1]
    simp only [Int.toNat_natCast]
    omega
  rw [h] at this; simp at this
theorem isAt_nat {sz : List Nat} {a : Int} (h : isAt sz a = true) : ∃ k : Nat, a = k ∧ k < sz.length ∧ 0 < natAt sz k := by
  simp only [isAt, decide_eq_true_eq] at h
  exact ⟨a.toNat, by omega, by omega, h.2.2⟩

section
variable {room : Nat} {cs : List Pair} {sz : List Nat} {sh : List Int}

theorem look_law (hA : Arr room sz) (hc : cs.length = room) (a : Int) : lookOf sz sh a = slookOf (blocksTo cs sz sh room) a := by
  unfold lookOf slookOf
  cases hat : isAt sz a with
  | false => rw [bidx_not hA a hat]; simp
  | true =>
    obtain ⟨k, rfl, hk, h0⟩ := isAt_nat hat
    have hl := hA.len
    obtain ⟨b, hb, h1, h2⟩ := bidx_of (cs := cs) (sh := sh) (room := room) (k := k) (by omega) h0
    rw [h1]
    have h3 := blockAt_at hb
    have h4 := blockAt_len hA hc (by omega) hb
    simp only [h2, h3.2.2.1, h4, Int.toNat_natCast, if_true]
    congr 2
    omega

theorem place_law (hA : Arr room sz) (hc : cs.length = room) (a i : Int) : (∃ k, bidx (blocksTo cs sz sh room) a = some k ∧ (placeOf sz a i).2 = (if 0 ≤ i ∧ i < (blkAt (blocksTo cs sz sh room) k).cells.length then 0 else 14) ∧
      (0 ≤ i ∧ i < (blkAt (blocksTo cs sz sh room) k).cells.length → ((blkAt (blocksTo cs sz sh room) k).at_ : Int) = a ∧ (placeOf sz a i).1 = a + 1 + i ∧ pairAt cs (placeOf sz a i).1.toNat = pairAt (blkAt (blocksTo cs sz sh room) k).cells i.toNat)) ∨
    (bidx (blocksTo cs sz sh room) a = none ∧ (placeOf sz a i).2 = 16) := by
  cases hat : isAt sz a with
  | false => exact .inr ⟨bidx_not hA a hat, by simp [placeOf, hat]⟩
  | true =>
    left
    obtain ⟨k, rfl, hk, h0⟩ := isAt_nat hat
    have hl := hA.len
    obtain ⟨b, hb, h1, h2⟩ := bidx_of (cs := cs) (sh := sh) (room := room) (k := k) (by omega) h0
    have h3 := blockAt_at hb
    have h4 := blockAt_len hA hc (by omega) hb
    have hf := hA.fit k (by omega)
    refine ⟨_, h1, ?_, ?_⟩
    · rw [h2, h4]
      simp only [placeOf, hat, if_true, Int.toNat_natCast]
      by_cases hi : 0 ≤ i ∧ i < (natAt sz k : Int) - 1
      · rw [if_pos hi, if_pos (by omega)]
      · rw [if_neg hi, if_neg (by omega)]
    · rw [h2, h4]
      intro hi
      have e : placeOf sz k i = ((k : Int) + 1 + i, 0) := by
        simp only [placeOf, hat, if_true, Int.toNat_natCast]
        rw [if_pos (by omega)]
      rw [e]
      refine ⟨by rw [h3.1], rfl, ?_⟩
      rw [h3.2.2.2, pairAt_get _ _ (by omega), pairAt_get _ _ (by simp; omega)]
      simp only [List.getElem_take, List.getElem_drop]
      congr 1
      omega

theorem load_law (hA : Arr room sz) (hc : cs.length = room) (a i : Int) : loadOf cs sz a i = sloadOf (blocksTo cs sz sh room) a i := by
  unfold loadOf sloadOf
  rcases place_law (sh := sh) hA hc a i with ⟨k, h1, h2, h3⟩ | ⟨h1, h2⟩
  · rw [h1]
    simp only
    by_cases hi : 0 ≤ i ∧ i < (blkAt (blocksTo cs sz sh room) k).cells.length
    · rw [if_pos hi] at h2
      rw [h2, if_pos rfl, if_pos hi, (h3 hi).2.2]
    · rw [if_neg hi] at h2
      rw [h2, if_neg (by decide), if_neg hi]
  · rw [h1, h2]; simp

theorem store_law (hA : Arr room sz) (hc : cs.length = room) (a i : Int) (c : Pair) : storeOf sz a i c = sputOf (blocksTo cs sz sh room) a i c := by
  unfold storeOf sputOf
  rw [← load_law (sh := sh) hA hc]
  unfold loadOf
  by_cases h : (placeOf sz a i).2 = 0
  · rw [if_pos h, if_pos h]; simp
  · rw [if_neg h, if_neg h]; simp [h]


theorem kids_far {cs : List Pair} {p j m : Nat} {c : Pair} (h : p < j ∨ j + m ≤ p) : ((cs.set p c).drop j).take m = (cs.drop j).take m := by
  rcases h with h | h
  · rw [List.drop_set, if_pos h]
  · rw [List.drop_set]
    split
    · rfl
    · rw [List.take_set, List.set_eq_of_length_le]
      simp; omega
theorem kids_near {cs : List Pair} {p j m : Nat} {c : Pair} (h1 : j ≤ p) : ((cs.set p c).drop j).take m = ((cs.drop j).take m).set (p - j) c := by
  rw [List.drop_set, if_neg (by omega), List.take_set]

theorem blockAt_far {cs cs' : List Pair} {sz : List Nat} {sh : List Int} {j : Nat} (h : 0 < natAt sz j → (cs.drop (j + 1)).take (natAt sz j - 1) = (cs'.drop (j + 1)).take (natAt sz j - 1)) : blockAt cs sz sh j = blockAt cs' sz sh j := by
  unfold blockAt
  by_cases h0 : 0 < natAt sz j
  · simp only [h0, if_true]; rw [h h0]
  · simp [h0]

theorem blocks_at {k m : Nat} {b : BlkM} (hb : blockAt cs sz sh k = some b) : blocksTo cs sz sh (k + (1 + m)) = blocksTo cs sz sh k ++ (b :: blocksOn cs sz sh (k + 1) m) := by
  rw [blocks_split, blocksOn_split]
  congr 1
  have : blocksOn cs sz sh k 1 = [b] := by simp [blocksOn, hb]
  rw [this]; rfl

theorem stored_law (hA : Arr room sz) (hc : cs.length = room) (a i : Int) (c : Pair) : blocksTo (storedOf cs sz a i c) sz sh room = sputBl (blocksTo cs sz sh room) a i c := by
  unfold storedOf sputBl
  rw [← store_law (sh := sh) hA hc]
  by_cases h : storeOf sz a i c = 0
  · rw [if_pos h, if_pos h]
    have hp : (placeOf sz a i).2 = 0 := by
      unfold storeOf at h
      by_cases hq : (placeOf sz a i).2 = 0
      · exact hq
      · rw [if_neg hq] at h; exact absurd h hq
    rcases place_law (sh := sh) hA hc a i with ⟨q, h1, h2, h3⟩ | ⟨h1, h2⟩
    · rw [hp] at h2
      have hi : 0 ≤ i ∧ i < (blkAt (blocksTo cs sz sh room) q).cells.length := by
        by_cases hi : 0 ≤ i ∧ i < (blkAt (blocksTo cs sz sh room) q).cells.length
        · exact hi
        · rw [if_neg hi] at h2; simp at h2
      obtain ⟨_, h4, _⟩ := h3 hi
      have hat : isAt sz a = true := by
        cases hat : isAt sz a with
        | true => rfl
        | false => rw [bidx_not hA a hat] at h1; simp at h1
      obtain ⟨k, rfl, hk, h0⟩ := isAt_nat hat
      have hl := hA.len
      obtain ⟨b, hb, hb1, hb2⟩ := bidx_of (cs := cs) (sh := sh) (room := room) (k := k) (by omega) h0
      rw [h1] at hb1
      simp only [Option.some.injEq] at hb1
      subst hb1
      rw [h1, h4]
      simp only
      rw [hb2] at hi ⊢
      obtain ⟨i', rfl⟩ := Int.eq_ofNat_of_zero_le hi.1
      have h5 := blockAt_at hb
      have h6 := blockAt_len hA hc (by omega) hb
      have hi' : i' < natAt sz k - 1 := by omega
      have ep : ((k : Int) + 1 + (i' : Int)).toNat = k + 1 + i' := by omega
      rw [ep]
      simp only [Int.toNat_natCast]
      obtain ⟨m, rfl⟩ : ∃ m, room = k + (1 + m) := ⟨room - k - 1, by omega⟩
      have hfk := hA.fit k (by omega)
      have hb' : blockAt (cs.set (k + 1 + i') c) sz sh k = some { b with cells := b.cells.set i' c } := by
        unfold blockAt
        rw [if_pos h0, kids_near (by omega), ← h5.2.2.2]
        have e2 : k + 1 + i' - (k + 1) = i' := by omega
        rw [e2, ← h5.2.2.1]
        congr 1
        rw [← h5.1]
      rw [blocks_at hb', blocks_at hb, List.set_append_right _ _ (Nat.le_refl _), Nat.sub_self, List.set_cons_zero]
      have e3 : blocksTo (cs.set (k + 1 + i') c) sz sh k = blocksTo cs sz sh k := by
        apply blocksTo_congr
        intro j hj
        apply blockAt_far
        intro hj0
        apply kids_far
        right
        have : ¬ k < j + natAt sz j := fun hh => by
          have := hA.sep j (by omega) k hj hh
          omega
        omega
      have e4 : blocksOn (cs.set (k + 1 + i') c) sz sh (k + 1) m = blocksOn cs sz sh (k + 1) m := by
        apply blocksOn_congr
        intro j hj1 hj2
        apply blockAt_far
        intro hj0
        apply kids_far
        left
        have : ¬ j < k + natAt sz k := fun hh => by
          have := hA.sep k (by omega) j (by omega) hh
          omega
        omega
      rw [e3, e4]
    · rw [hp] at h2; simp at h2
  · rw [if_neg h, if_neg h]

end
end Go.Proofs.Ytpalndoklifkiaa
