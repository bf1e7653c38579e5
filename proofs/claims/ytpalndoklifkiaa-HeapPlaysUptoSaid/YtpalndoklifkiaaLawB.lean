/-
  The state that HeapPlays keeps: both heaps and the places, in memory.
-/
import Derived.Test.YtpalndoklifkiaaLawA
import Derived.Deep.DeepCutAuto
namespace Go.Proofs.Ytpalndoklifkiaa
open Go.RowKit

def hfoot (bh bc bs bp : Nat) : List Nat := [bh, bc, bs, bp]

/-- Both heaps and the places in memory from block B on. -/
structure Full (w : World) (B bh bc bs bp sp pp room : Nat) (cs : List Pair) (sz : List Nat) (sh : List Int) (sv : Value) (hs : List Hdr) (pv : Value) (pl : List Int) : Prop where
  H : HRep w bh bc bs bp room cs sz sh
  A : Arr room sz
  S : SRep w sp room sv hs (blocksTo cs sz sh room)
  P : blk w pp [pv] 33
  Q : w.ownsRow B 3 1 pv pl.length (ints pl)
  b1 : ∀ x, x ∈ hfoot bh bc bs bp → B ≤ x
  b2 : ∀ x, x ∈ sfoot sp sv hs → B ≤ x
  b3 : B ≤ pp
  d1 : ∀ x, x ∈ hfoot bh bc bs bp → x ∉ sfoot sp sv hs
  d2 : pp ∉ hfoot bh bc bs bp
  d3 : pp ∉ sfoot sp sv hs
  d4 : ∀ x, pv.ownBlock = some x → x ∉ hfoot bh bc bs bp ∧ x ∉ sfoot sp sv hs ∧ x ≠ pp

section
variable {w w' : World} {B bh bc bs bp sp pp room : Nat} {cs cs' : List Pair} {sz sz' : List Nat} {sh sh' : List Int} {sv sv' : Value} {hs hs' : List Hdr} {pv pv' : Value} {pl pl' : List Int}
theorem Full.touch (F : Full w B bh bc bs bp sp pp room cs sz sh sv hs pv pl) (T : Touch [] w w') : Full w' B bh bc bs bp sp pp room cs sz sh sv hs pv pl :=
  ⟨F.H.touch T (by simp) (by simp) (by simp) (by simp), F.A, F.S.touch T (by simp), F.P.touch T (by simp), ownsRow_touch F.Q T (by simp), F.b1, F.b2, F.b3, F.d1, F.d2, F.d3, F.d4⟩
theorem Full.lt (F : Full w B bh bc bs bp sp pp room cs sz sh sv hs pv pl) : ∀ x, x ∈ hfoot bh bc bs bp → x < w.heap.size := by
  intro x hx
  simp only [hfoot, List.mem_cons, List.not_mem_nil, or_false] at hx
  rcases hx with rfl | rfl | rfl | rfl
  · exact F.H.head.lt
  · exact F.H.cells.lt
  · exact F.H.sizes.lt
  · exact F.H.shapes.lt
/-- Behind an operation of heap that leaves the blocks as they are told. -/
theorem Full.heap (F : Full w B bh bc bs bp sp pp room cs sz sh sv hs pv pl) (T : Touch (hfoot bh bc bs bp) w w') :
    SRep w' sp room sv hs (blocksTo cs sz sh room) ∧ blk w' pp [pv] 33 ∧ w'.ownsRow B 3 1 pv pl.length (ints pl) :=
  ⟨F.S.touch T (fun x hx hh => F.d1 x hh hx), F.P.touch T F.d2, ownsRow_touch F.Q T (fun x hx => (F.d4 x hx).1)⟩
/-- Behind both operations. -/
theorem Full.both {w2 : World} (F : Full w B bh bc bs bp sp pp room cs sz sh sv hs pv pl) (T : Touch (hfoot bh bc bs bp) w w') (H' : HRep w' bh bc bs bp room cs' sz' sh') (A' : Arr room sz')
    (T2 : Touch (sfoot sp sv hs) w' w2) (S' : SRep w2 sp room sv' hs' (blocksTo cs' sz' sh' room)) (hf : ∀ x, x ∈ sfoot sp sv' hs' → x ∈ sfoot sp sv hs ∨ w'.heap.size ≤ x) :
    Full w2 B bh bc bs bp sp pp room cs' sz' sh' sv' hs' pv pl := by
  obtain ⟨_, p1, p2⟩ := F.heap T
  have hB : B ≤ w'.heap.size := Nat.le_trans (Nat.le_of_lt (Nat.lt_of_le_of_lt F.b3 F.P.lt)) T.size
  refine ⟨H'.touch T2 (F.d1 _ (by simp [hfoot])) (F.d1 _ (by simp [hfoot])) (F.d1 _ (by simp [hfoot])) (F.d1 _ (by simp [hfoot])), A', S', p1.touch T2 F.d3, ownsRow_touch p2 T2 (fun x hx => (F.d4 x hx).2.1), F.b1, ?_, F.b3, ?_, F.d2, ?_, ?_⟩
  · intro x hx
    rcases hf x hx with h | h
    · exact F.b2 x h
    · omega
  · intro x hx hh
    rcases hf x hh with h | h
    · exact F.d1 x hx h
    · have := F.lt x hx; have := T.size; omega
  · intro hh
    rcases hf pp hh with h | h
    · exact F.d3 h
    · have := F.P.lt; have := T.size; omega
  · intro x hx
    obtain ⟨h1, h2, h3⟩ := F.d4 x hx
    refine ⟨h1, ?_, h3⟩
    intro hh
    rcases hf x hh with h | h
    · exact h2 h
    · have := (F.Q.lt x hx).2; have := T.size; omega
end

/-- What is kept from question to question. -/
def SInv (w : World) (B bh sp pp room c : Nat) : Prop :=
  ∃ bc bs bp cs sz sh sv hs pv pl, Full w B bh bc bs bp sp pp room cs sz sh sv hs pv pl ∧ pl.length ≤ c

def AskPost (w : World) (B bh sp pp room c : Nat) (e : Ending) (w' : World) : Prop :=
  e = .returned (.bool true) ∧ SInv w' B bh sp pp room c ∧ Below B w w'

/-- What the questions' own words come to: the cell in a block of its own. -/
def AskCut (w1 : World) (c : Pair) (s10 : Value) (wx : World) : Prop :=
  ∃ g, s10 = .pointer (some ⟨g, 0, none⟩) ∧ Touch [] w1 wx ∧ blk wx g [.int .i64 c.1, .int .i64 c.2] 36 ∧ w1.heap.size ≤ g
end Go.Proofs.Ytpalndoklifkiaa
