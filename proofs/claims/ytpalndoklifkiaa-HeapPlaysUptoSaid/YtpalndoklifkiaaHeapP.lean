/-
  Plain law: which blocks cells lead to, and the search that package heap makes for them. No program is named here.
-/
import Derived.Test.YtpalndoklifkiaaMem
namespace Go.Proofs.Ytpalndoklifkiaa

/-- Does a block begin there? -/
def isAt (sz : List Nat) (a : Int) : Bool := decide (0 ≤ a ∧ a < sz.length ∧ 0 < natAt sz a.toNat)

/-- The cells of the block at y. -/
def kidsOf (cs : List Pair) (sz : List Nat) (y : Int) : List Pair := (cs.drop (y.toNat + 1)).take (natAt sz y.toNat - 1)

/-- A cell that leads to the block at x. -/
def leads (sz : List Nat) (c : Pair) (x : Int) : Prop := c.1 = 6 ∧ c.2 = x ∧ isAt sz x = true

inductive Led (cs : List Pair) (sz : List Nat) (roots : List Pair) : Int → Prop
  | root (c : Pair) (x : Int) : c ∈ roots → leads sz c x → Led cs sz roots x
  | kid (y : Int) (c : Pair) (x : Int) : Led cs sz roots y → c ∈ kidsOf cs sz y → leads sz c x → Led cs sz roots x

structure MInv (cs : List Pair) (sz : List Nat) (roots : List Pair) (S : List Int) (W : List Pair) : Prop where
  led : ∀ x, x ∈ S → Led cs sz roots x
  src : ∀ c, c ∈ W → c ∈ roots ∨ ∃ y, Led cs sz roots y ∧ c ∈ kidsOf cs sz y
  shut : ∀ c x, (c ∈ roots ∨ ∃ y, y ∈ S ∧ c ∈ kidsOf cs sz y) → leads sz c x → x ∈ S ∨ c ∈ W
  nodup : S.Nodup
  range : ∀ x, x ∈ S → 0 ≤ x ∧ x < sz.length

theorem Led.isAt {cs : List Pair} {sz : List Nat} {roots : List Pair} {x : Int} (h : Led cs sz roots x) : isAt sz x = true := by
  cases h with
  | root c _ _ hl => exact hl.2.2
  | kid y c _ _ _ hl => exact hl.2.2

theorem MInv.start (cs : List Pair) (sz : List Nat) (roots : List Pair) : MInv cs sz roots [] roots :=
  ⟨by simp, fun c h => .inl h, fun c x h hl => by rcases h with h | ⟨y, hy, _⟩; exact .inr h; simp at hy, by simp, by simp⟩

/-- The last cell is taken off: it leads nowhere, or to a block that was met. -/
theorem MInv.pop {cs : List Pair} {sz : List Nat} {roots : List Pair} {S : List Int} {W : List Pair} {c : Pair} (h : MInv cs sz roots S (W ++ [c])) (hc : ∀ x, leads sz c x → x ∈ S) : MInv cs sz roots S W := by
  refine ⟨h.led, fun d hd => h.src d (by simp [hd]), fun d x hd hl => ?_, h.nodup, h.range⟩
  rcases h.shut d x hd hl with h1 | h1
  · exact .inl h1
  · simp only [List.mem_append, List.mem_singleton] at h1
    rcases h1 with h1 | rfl
    · exact .inr h1
    · exact .inl (hc x hl)

/-- .. or to one that was not met. -/
theorem MInv.push {cs : List Pair} {sz : List Nat} {roots : List Pair} {S : List Int} {W : List Pair} {c : Pair} {x : Int} (h : MInv cs sz roots S (W ++ [c])) (hl : leads sz c x) (hx : x ∉ S) : MInv cs sz roots (x :: S) (W ++ kidsOf cs sz x) := by
  have hled : Led cs sz roots x := by
    rcases h.src c (by simp) with h1 | ⟨y, hy, hk⟩
    · exact .root c x h1 hl
    · exact .kid y c x hy hk hl
  refine ⟨fun y hy => ?_, fun d hd => ?_, fun d y hd hy => ?_, List.nodup_cons.2 ⟨hx, h.nodup⟩, fun y hy => ?_⟩
  · simp only [List.mem_cons] at hy
    rcases hy with rfl | hy
    · exact hled
    · exact h.led y hy
  · simp only [List.mem_append] at hd
    rcases hd with hd | hd
    · exact h.src d (by simp [hd])
    · exact .inr ⟨x, hled, hd⟩
  · have hd' : (d ∈ roots ∨ ∃ y, y ∈ S ∧ d ∈ kidsOf cs sz y) ∨ d ∈ kidsOf cs sz x := by
      rcases hd with hd | ⟨z, hz, hk⟩
      · exact .inl (.inl hd)
      · simp only [List.mem_cons] at hz
        rcases hz with rfl | hz
        · exact .inr hk
        · exact .inl (.inr ⟨z, hz, hk⟩)
    rcases hd' with hd' | hd'
    · rcases h.shut d y hd' hy with h1 | h1
      · exact .inl (by simp [h1])
      · simp only [List.mem_append, List.mem_singleton] at h1
        rcases h1 with h1 | rfl
        · exact .inr (by simp [h1])
        · have : y = x := by rw [← hy.2.1, ← hl.2.1]
          exact .inl (by simp [this])
    · exact .inr (by simp [hd'])
  · simp only [List.mem_cons] at hy
    rcases hy with rfl | hy
    · have := hl.2.2
      simp only [isAt, decide_eq_true_eq] at this
      omega
    · exact h.range y hy

/-- In the end: what was met is what is led to. -/
theorem MInv.done {cs : List Pair} {sz : List Nat} {roots : List Pair} {S : List Int} (h : MInv cs sz roots S []) (x : Int) : x ∈ S ↔ Led cs sz roots x := by
  refine ⟨h.led x, fun hx => ?_⟩
  induction hx with
  | root c x hc hl => rcases h.shut c x (.inl hc) hl with h1 | h1; exact h1; simp at h1
  | kid y c x _ hk hl ih => rcases h.shut c x (.inr ⟨y, ih, hk⟩) hl with h1 | h1; exact h1; simp at h1

theorem nodup_range_le : ∀ (n : Nat) (S : List Int), S.Nodup → (∀ x, x ∈ S → 0 ≤ x ∧ x < n) → S.length ≤ n := by
  intro n
  induction n with
  | zero => intro S _ h; cases S with
    | nil => simp
    | cons x xs => have := h x (by simp); omega
  | succ n ih =>
    intro S hd h
    have h1 := ih (S.erase n) (hd.erase _) (fun x hx => by
      have hm := List.mem_of_mem_erase hx
      have := h x hm
      have hne : x ≠ (n : Int) := fun e => by subst e; exact (List.Nodup.not_mem_erase hd) hx
      omega)
    by_cases hm : (n : Int) ∈ S
    · rw [List.length_erase_of_mem hm] at h1; omega
    · rw [List.erase_of_not_mem hm] at h1; omega

theorem MInv.le {cs : List Pair} {sz : List Nat} {roots : List Pair} {S : List Int} {W : List Pair} (h : MInv cs sz roots S W) : S.length ≤ sz.length := nodup_range_le _ _ h.nodup h.range
end Go.Proofs.Ytpalndoklifkiaa
