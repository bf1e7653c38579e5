/-
  Plain law, third part: Collect of the arrays and of the blocks.
-/
import Derived.Test.YtpalndoklifkiaaHeapM
namespace Go.Proofs.Ytpalndoklifkiaa

section
variable {room : Nat} {cs : List Pair} {sz : List Nat} {sh : List Int} {roots : List Pair}

theorem namesB_iff (l : List Pair) (a : Int) : namesB l a = true ↔ ∃ c, c ∈ l ∧ c.1 = 6 ∧ c.2 = a := by
  simp only [namesB, List.any_eq_true, Bool.and_eq_true, beq_iff_eq]

theorem mem_block {i : Nat} (hi : i < (blocksTo cs sz sh room).length) : ∃ k, k < room ∧ blockAt cs sz sh k = some (blkAt (blocksTo cs sz sh room) i) := by
  rw [blkAt_get _ _ hi]
  exact mem_blocksTo.1 (List.getElem_mem hi)

theorem isAt_of {k : Nat} {b : BlkM} (hl : sz.length = room) (hk : k < room) (h : blockAt cs sz sh k = some b) : isAt sz (b.at_ : Int) = true := by
  obtain ⟨h1, h2, _⟩ := blockAt_at h
  simp only [isAt, decide_eq_true_eq, h1, Int.toNat_natCast]
  omega

theorem sled_led (hl : sz.length = room) : ∀ i, SLed (blocksTo cs sz sh room) roots i → i < (blocksTo cs sz sh room).length ∧ Led cs sz roots ((blkAt (blocksTo cs sz sh room) i).at_ : Int) := by
  intro i h
  induction h with
  | root i hi hn =>
    refine ⟨hi, ?_⟩
    obtain ⟨c, h1, h2, h3⟩ := (namesB_iff _ _).1 hn
    obtain ⟨k, hk, hb⟩ := mem_block hi
    exact .root c _ h1 ⟨h2, h3, isAt_of hl hk hb⟩
  | kid k i _ hi hn ih =>
    refine ⟨hi, ?_⟩
    obtain ⟨c, h1, h2, h3⟩ := (namesB_iff _ _).1 hn
    obtain ⟨q, hq, hb⟩ := mem_block hi
    obtain ⟨p, hp, hbp⟩ := mem_block ih.1
    refine .kid _ c _ ih.2 ?_ ⟨h2, h3, isAt_of hl hq hb⟩
    have := blockAt_at hbp
    rw [this.2.2.2] at h1
    unfold kidsOf
    rw [this.1]
    simpa using h1

theorem led_sled (hl : sz.length = room) {x : Int} (h : Led cs sz roots x) : ∃ k : Nat, x = k ∧ k < room ∧ 0 < natAt sz k ∧ SLed (blocksTo cs sz sh room) roots (blocksTo cs sz sh k).length := by
  induction h with
  | root c x hc hx =>
    obtain ⟨k, rfl, hk, h0⟩ := isAt_nat hx.2.2
    obtain ⟨b, hb, h1, h2⟩ := bidx_of (cs := cs) (sh := sh) (room := room) (k := k) (by omega) h0
    refine ⟨k, rfl, by omega, h0, .root _ (bidx_lt h1) ?_⟩
    rw [h2, (blockAt_at hb).1]
    exact (namesB_iff _ _).2 ⟨c, hc, hx.1, hx.2.1⟩
  | kid y c x _ hc hx ih =>
    obtain ⟨q, rfl, hq, hq0, hs⟩ := ih
    obtain ⟨bq, hbq, g1, g2⟩ := bidx_of (cs := cs) (sh := sh) (room := room) (k := q) hq hq0
    obtain ⟨k, rfl, hk, h0⟩ := isAt_nat hx.2.2
    obtain ⟨b, hb, h1, h2⟩ := bidx_of (cs := cs) (sh := sh) (room := room) (k := k) (by omega) h0
    refine ⟨k, rfl, by omega, h0, .kid _ _ hs (bidx_lt h1) ?_⟩
    rw [h2, (blockAt_at hb).1, g2, (blockAt_at hbq).2.2.2]
    refine (namesB_iff _ _).2 ⟨c, ?_, hx.1, hx.2.1⟩
    unfold kidsOf at hc
    simpa using hc

theorem keep_iff (hl : sz.length = room) {S : List Int} {f : Nat → Bool} (hS : ∀ x, x ∈ S ↔ Led cs sz roots x) (hf : ∀ i, f i = true ↔ SLed (blocksTo cs sz sh room) roots i) {k : Nat} (hk : k < room) (h0 : 0 < natAt sz k) :
    f (blocksTo cs sz sh k).length = true ↔ (k : Int) ∈ S := by
  obtain ⟨b, hb, h1, h2⟩ := bidx_of (cs := cs) (sh := sh) (room := room) (k := k) hk h0
  rw [hf, hS]
  constructor
  · intro h
    have := (sled_led hl _ h).2
    rw [h2, (blockAt_at hb).1] at this
    exact this
  · intro h
    obtain ⟨q, hq, _, _, hs⟩ := led_sled (sh := sh) hl h
    have : q = k := by omega
    subst this
    exact hs

theorem keptSz_nat (S : List Int) (hl : sz.length = room) (k : Nat) (hk : k < room) : natAt (keptSz S sz room) k = if (k : Int) ∈ S then natAt sz k else 0 := by
  rw [natAt_get _ _ (by simp [keptSz]; omega), natAt_get _ _ (by omega)]
  simp only [keptSz, List.getElem_mapIdx]
  by_cases h : (k : Int) ∈ S <;> simp [h, hk]
theorem keptSz_far (S : List Int) (hl : sz.length = room) (k : Nat) (hk : ¬ k < room) : natAt (keptSz S sz room) k = 0 := by
  unfold natAt
  rw [List.getD_eq_getElem?_getD, List.getElem?_eq_none (by simp [keptSz]; omega)]; rfl
theorem keptSh_int (S : List Int) (hl : sh.length = room) (k : Nat) (hk : k < room) (hm : (k : Int) ∈ S) : intAt (keptSh S sz sh room) k = intAt sh k := by
  rw [intAt_get _ _ (by simp [keptSh]; omega), intAt_get _ _ (by omega)]
  simp [keptSh, hm]

theorem Arr.collect (hA : Arr room sz) (S : List Int) : Arr room (keptSz S sz room) := by
  have hl := hA.len
  refine ⟨by simpa [keptSz] using hl, ?_, ?_⟩
  · intro k hk
    rw [keptSz_nat S hl k hk]
    have := hA.fit k hk
    split <;> omega
  · intro k hk j h1 h2
    rw [keptSz_nat S hl k hk] at h2
    have hf := hA.fit k hk
    split at h2
    · have := hA.sep k hk j h1 h2
      by_cases hj : j < room
      · rw [keptSz_nat S hl j hj, this]; simp
      · exact keptSz_far S hl j hj
    · omega

theorem collect_law (hA : Arr room sz) (hc : cs.length = room) (hl2 : sh.length = room) {S : List Int} {f : Nat → Bool} (hS : ∀ x, x ∈ S ↔ Led cs sz roots x) (hf : ∀ i, f i = true ↔ SLed (blocksTo cs sz sh room) roots i) :
    ∀ k, k ≤ room → goneSz S sz k = goneTo f (blkAt (blocksTo cs sz sh room)) (blocksTo cs sz sh k).length ∧
      blocksTo cs (keptSz S sz room) (keptSh S sz sh room) k = keepTo f (blkAt (blocksTo cs sz sh room)) (blocksTo cs sz sh k).length := by
  have hl := hA.len
  intro k
  induction k with
  | zero => intro _; simp [goneSz, blocksTo, goneTo, keepTo]
  | succ k ih =>
    intro hk
    obtain ⟨h1, h2⟩ := ih (by omega)
    by_cases h0 : 0 < natAt sz k
    · obtain ⟨b, hb, g1, g2⟩ := bidx_of (cs := cs) (sh := sh) (room := room) (k := k) (by omega) h0
      have hki := keep_iff (sh := sh) hl hS hf (show k < room by omega) h0
      have hbl := blockAt_len hA hc (by omega) hb
      have hba := blockAt_at hb
      have hlen : (blocksTo cs sz sh (k + 1)).length = (blocksTo cs sz sh k).length + 1 := by rw [blocksTo_succ, hb]; simp
      rw [hlen, goneSz_succ _ _ _ (by omega), blocksTo_succ, h1, h2]
      simp only [goneTo, keepTo]
      rw [g2]
      by_cases hm : (k : Int) ∈ S
      · have hft := hki.2 hm
        have hb' : blockAt cs (keptSz S sz room) (keptSh S sz sh room) k = some b := by
          unfold blockAt
          rw [keptSz_nat S hl k (by omega), keptSh_int S hl2 k (by omega) hm, if_pos hm, if_pos h0, ← hb]
          unfold blockAt
          rw [if_pos h0]
        rw [hb', if_neg (by simpa using hm), if_pos hft, if_pos hft]
        simp
      · have hft : ¬ f (blocksTo cs sz sh k).length = true := fun h => hm (hki.1 h)
        have hb' : blockAt cs (keptSz S sz room) (keptSh S sz sh room) k = none := by
          unfold blockAt
          rw [keptSz_nat S hl k (by omega), if_neg hm, if_neg (by omega)]
        rw [hb', if_pos hm, if_neg hft, if_neg hft]
        refine ⟨by omega, by simp⟩
    · have hb : blockAt cs sz sh k = none := by unfold blockAt; rw [if_neg h0]
      have hlen : (blocksTo cs sz sh (k + 1)).length = (blocksTo cs sz sh k).length := by rw [blocksTo_succ, hb]; simp
      have hb' : blockAt cs (keptSz S sz room) (keptSh S sz sh room) k = none := by
        unfold blockAt
        rw [keptSz_nat S hl k (by omega), if_neg (by split <;> omega)]
      rw [hlen, goneSz_succ _ _ _ (by omega), blocksTo_succ, h1, h2, hb']
      refine ⟨?_, by simp⟩
      split <;> omega
end
end Go.Proofs.Ytpalndoklifkiaa
