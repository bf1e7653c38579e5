/-
  Plain law: the document's rounds that find which blocks are led to. No Go is named here.
-/
import Derived.Test.YtpalndoklifkiaaStoreB
namespace Go.Proofs.Ytpalndoklifkiaa

/-- To which blocks of a list cells lead. -/
inductive SLed (bl : List BlkM) (roots : List Pair) : Nat → Prop
  | root (i : Nat) : i < bl.length → namesB roots (blkAt bl i).at_ = true → SLed bl roots i
  | kid (k i : Nat) : SLed bl roots k → i < bl.length → namesB (blkAt bl k).cells (blkAt bl i).at_ = true → SLed bl roots i

def boolAt (L : List Bool) (k : Nat) : Bool := L.getD k false
theorem boolAt_get (L : List Bool) (k : Nat) (h : k < L.length) : boolAt L k = L[k]'h := by simp [boolAt, List.getD_eq_getElem?_getD, List.getElem?_eq_getElem h]
theorem boolAt_set (L : List Bool) (k j : Nat) (h : k < L.length) : boolAt (L.set k true) j = if j = k then true else boolAt L j := by
  unfold boolAt
  rw [List.getD_eq_getElem?_getD, List.getD_eq_getElem?_getD, List.getElem?_set]
  by_cases hj : k = j
  · subst hj; simp [h]
  · rw [if_neg hj, if_neg (fun e => hj e.symm)]
def falses (L : List Bool) : Nat := L.countP fun b => !b
theorem falses_set (L : List Bool) (k : Nat) (h : k < L.length) (hf : boolAt L k = false) : falses (L.set k true) < falses L := by
  rw [boolAt_get _ _ h] at hf
  induction L generalizing k with
  | nil => simp at h
  | cons b L ih =>
    cases k with
    | zero =>
      simp only [List.getElem_cons_zero] at hf
      subst hf
      simp [falses]
    | succ k =>
      have := ih k (by simpa using h) (by simpa using hf)
      simp only [falses, List.set_cons_succ, List.countP_cons] at *
      omega

/-- What is hit so far: by the roots, or by one of the first k blocks that are led to. -/
def hitTo (bl : List BlkM) (roots : List Pair) (L : List Bool) (i : Nat) : Nat → Bool
  | 0 => namesB roots (blkAt bl i).at_
  | k + 1 => hitTo bl roots L i k || (boolAt L k && namesB (blkAt bl k).cells (blkAt bl i).at_)
theorem hitTo_iff (bl : List BlkM) (roots : List Pair) (L : List Bool) (i n : Nat) : hitTo bl roots L i n = true ↔ namesB roots (blkAt bl i).at_ = true ∨ ∃ k, k < n ∧ boolAt L k = true ∧ namesB (blkAt bl k).cells (blkAt bl i).at_ = true := by
  induction n with
  | zero => simp [hitTo]
  | succ n ih =>
    simp only [hitTo, Bool.or_eq_true, Bool.and_eq_true, ih]
    constructor
    · rintro ((h | ⟨k, hk, h1, h2⟩) | ⟨h1, h2⟩)
      · exact .inl h
      · exact .inr ⟨k, by omega, h1, h2⟩
      · exact .inr ⟨n, by omega, h1, h2⟩
    · rintro (h | ⟨k, hk, h1, h2⟩)
      · exact .inl (.inl h)
      · by_cases hkn : k = n
        · subst hkn; exact .inr ⟨h1, h2⟩
        · exact .inl (.inr ⟨k, by omega, h1, h2⟩)

def sound (bl : List BlkM) (roots : List Pair) (L : List Bool) : Prop := ∀ i, boolAt L i = true → SLed bl roots i
def closedTo (bl : List BlkM) (roots : List Pair) (L : List Bool) (n : Nat) : Prop := ∀ i, i < n → boolAt L i = true ∨ hitTo bl roots L i bl.length = false

theorem sound.set {bl : List BlkM} {roots : List Pair} {L : List Bool} (h : sound bl roots L) (i : Nat) (hi : i < bl.length) (hl : L.length = bl.length) (hh : hitTo bl roots L i bl.length = true) : sound bl roots (L.set i true) := by
  intro j hj
  rw [boolAt_set _ _ _ (by omega)] at hj
  by_cases hji : j = i
  · subst hji
    rcases (hitTo_iff _ _ _ _ _).1 hh with h1 | ⟨k, _, h1, h2⟩
    · exact .root j hi h1
    · exact .kid k j (h k h1) hi h2
  · rw [if_neg hji] at hj; exact h j hj

theorem closed_done {bl : List BlkM} {roots : List Pair} {L : List Bool} (hs : sound bl roots L) (hc : closedTo bl roots L bl.length) (i : Nat) : boolAt L i = true ↔ SLed bl roots i := by
  refine ⟨hs i, fun h => ?_⟩
  have key : ∀ j, j < bl.length → (namesB roots (blkAt bl j).at_ = true ∨ ∃ k, k < bl.length ∧ boolAt L k = true ∧ namesB (blkAt bl k).cells (blkAt bl j).at_ = true) → boolAt L j = true := by
    intro j hj hor
    rcases hc j hj with h1 | h1
    · exact h1
    · have := (hitTo_iff bl roots L j bl.length).2 hor
      rw [h1] at this; simp at this
  have lt : ∀ j, SLed bl roots j → j < bl.length := by intro j hj; cases hj <;> assumption
  induction h with
  | root i hi hn => exact key i hi (.inl hn)
  | kid k i hk hi hn ih => exact key i hi (.inr ⟨k, lt k hk, ih, hn⟩)
end Go.Proofs.Ytpalndoklifkiaa
