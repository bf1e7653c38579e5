/-
  Words on memory that every walk of this claim uses: a block known whole ('blk'), what a call may touch ('Touch'), lists of cells. No program is named here.
-/
import Derived.WalkKit
import Derived.Lib.Hide
import Derived.Deep.Draws
namespace Go.Proofs.Ytpalndoklifkiaa
open Go.RowKit

/-- Block b holds exactly the cells xs (of element type e); nothing of it is frozen. -/
def blk (w : World) (b : Nat) (xs : List Value) (e : TypeId) : Prop := w.heap[b]? = some (.cells xs.toArray e (0, 0))

theorem blk.lt {w : World} {b : Nat} {xs : List Value} {e : TypeId} (h : blk w b xs e) : b < w.heap.size := (Array.getElem?_eq_some_iff.1 h).1
theorem blk.cell {w : World} {b : Nat} {xs : List Value} {e : TypeId} (h : blk w b xs e) (k : Nat) : w.cell? ⟨b, k, none⟩ = xs[k]? := by
  unfold blk at h; simp [World.cell?, h]
theorem blk.frozen {w : World} {b : Nat} {xs : List Value} {e : TypeId} (h : blk w b xs e) (k : Nat) : w.frozen? ⟨b, k, none⟩ = false := by
  unfold blk at h; simp [World.frozen?, h]
theorem blk.set {w : World} {b : Nat} {xs : List Value} {e : TypeId} (h : blk w b xs e) (k : Nat) (v : Value) : blk (w.setCell ⟨b, k, none⟩ v) b (xs.set k v) e := by
  have hlt := h.lt
  unfold blk at h ⊢
  have hv : w.heap[b] = .cells xs.toArray e (0, 0) := (Array.getElem?_eq_some_iff.1 h).2
  unfold World.setCell
  rw [Array.getElem?_eq_getElem (by simpa using hlt), Array.getElem_modify]
  simp [hv, List.setIfInBounds_toArray]
theorem blk.setNe {w : World} {b : Nat} {xs : List Value} {e : TypeId} (h : blk w b xs e) {a : Addr} (hne : b ≠ a.block) (v : Value) : blk (w.setCell a v) b xs e := by
  unfold blk at h ⊢; rw [Below.heap_setCell _ _ _ _ hne]; exact h
theorem blk.alloc {w : World} {b : Nat} {xs : List Value} {e : TypeId} (h : blk w b xs e) (o : Obj) : blk (w.alloc o) b xs e := by
  have hlt := h.lt
  unfold blk at h ⊢; rw [Below.heap_alloc _ _ _ hlt]; exact h
theorem blk.drew {w : World} {b : Nat} {xs : List Value} {e : TypeId} (h : blk w b xs e) : blk w.drew b xs e := h
theorem blk.new (w : World) (xs : List Value) (e : TypeId) : blk (w.alloc (.cells xs.toArray e)) w.heap.size xs e := by
  unfold blk; exact heap_alloc_new w _
theorem blk.newAt (w : World) (xs : List Value) (e : TypeId) {b : Nat} (hb : b = w.heap.size) : blk (w.alloc (.cells xs.toArray e)) b xs e := hb ▸ blk.new w xs e
theorem blk.drewN {w : World} {b : Nat} {xs : List Value} {e : TypeId} (h : blk w b xs e) (n : Nat) : blk (w.drewN n) b xs e := h
theorem blk.setRow {w : World} {b : Nat} {xs : List Value} {e : TypeId} (h : blk w b xs e) (ys : List Value) : blk (w.setRow b ys.toArray) b ys e := setRow_heap w b xs.toArray ys.toArray e (0, 0) h
theorem blk.setRowNe {w : World} {b : Nat} {xs : List Value} {e : TypeId} (h : blk w b xs e) {g : Nat} (hne : b ≠ g) (ys : Array Value) : blk (w.setRow g ys) b xs e := by
  unfold blk at h ⊢; rw [setRow_other _ _ _ _ hne]; exact h

/-- From w to w' nothing of what was there has turned but blocks of F. -/
structure Touch (F : List Nat) (w w' : World) : Prop where
  os : w'.os = w.os
  tape : w'.tape = w.tape
  output : w'.output = w.output
  size : w.heap.size ≤ w'.heap.size
  block : ∀ k, k < w.heap.size → k ∉ F → w'.heap[k]? = w.heap[k]?

theorem Touch.refl (F : List Nat) (w : World) : Touch F w w := ⟨rfl, rfl, rfl, Nat.le_refl _, fun _ _ _ => rfl⟩
theorem Touch.comp {F G H : List Nat} {a b c : World} (h : Touch F a b) (k : Touch G b c) (hF : ∀ x, x ∈ F → x < a.heap.size → x ∈ H) (hG : ∀ x, x ∈ G → x < a.heap.size → x ∈ H) : Touch H a c :=
  ⟨k.os.trans h.os, k.tape.trans h.tape, k.output.trans h.output, Nat.le_trans h.size k.size, fun i hi hn =>
    (k.block i (Nat.lt_of_lt_of_le hi h.size) fun hg => hn (hG i hg hi)).trans (h.block i hi fun hf => hn (hF i hf hi))⟩
theorem Touch.trans {F : List Nat} {a b c : World} (h : Touch F a b) (k : Touch F b c) : Touch F a c := h.comp k (fun _ x _ => x) (fun _ x _ => x)
theorem Touch.mono {F G : List Nat} {a b : World} (h : Touch F a b) (hs : ∀ x, x ∈ F → x < a.heap.size → x ∈ G) : Touch G a b :=
  ⟨h.os, h.tape, h.output, h.size, fun i hi hn => h.block i hi fun hf => hn (hs i hf hi)⟩
theorem Touch.nil {F : List Nat} {a b : World} (h : Touch [] a b) : Touch F a b := h.mono (by simp)
theorem Touch.drew {F : List Nat} {a w : World} (h : Touch F a w) : Touch F a w.drew := ⟨h.os, h.tape, h.output, h.size, h.block⟩
theorem Touch.drewN {F : List Nat} {a w : World} (h : Touch F a w) (n : Nat) : Touch F a (w.drewN n) := ⟨h.os, h.tape, h.output, h.size, h.block⟩
theorem Touch.undrew {F : List Nat} {a w : World} (h : Touch F a.drew w) : Touch F a w := ⟨h.os, h.tape, h.output, h.size, h.block⟩
theorem Touch.undrewN {F : List Nat} {a w : World} {n : Nat} (h : Touch F (a.drewN n) w) : Touch F a w := ⟨h.os, h.tape, h.output, h.size, h.block⟩
theorem Touch.alloc {F : List Nat} {a w : World} (h : Touch F a w) (o : Obj) : Touch F a (w.alloc o) :=
  ⟨h.os, h.tape, h.output, Nat.le_trans h.size (by simp), fun k hk hn => (Below.heap_alloc w o k (Nat.lt_of_lt_of_le hk h.size)).trans (h.block k hk hn)⟩
theorem Touch.setCell {F : List Nat} {a w : World} (h : Touch F a w) {p : Addr} (hp : p.block < a.heap.size → p.block ∈ F) (u : Value) : Touch F a (w.setCell p u) :=
  ⟨h.os, h.tape, h.output, Nat.le_trans h.size (by simp [World.setCell]), fun k hk hn => (Below.heap_setCell w p u k (fun e => hn (e ▸ hp (e ▸ hk)))).trans (h.block k hk hn)⟩
theorem Touch.setNew {F : List Nat} {a w : World} {p : Addr} (u : Value) (h : Touch F a w) (hp : a.heap.size ≤ p.block) : Touch F a (w.setCell p u) := h.setCell (fun hl => by omega) u
theorem Touch.setRow {F : List Nat} {a w : World} (h : Touch F a w) {g : Nat} (hp : g < a.heap.size → g ∈ F) (ys : Array Value) : Touch F a (w.setRow g ys) :=
  ⟨h.os, h.tape, h.output, Nat.le_trans h.size (by simp), fun k hk hn => (setRow_other w g k ys (fun e => hn (e ▸ hp (e ▸ hk)))).trans (h.block k hk hn)⟩
theorem Touch.grown {F : List Nat} {a w w' : World} {row : Option Nat} (h : Touch F a w) (hg : w.grownBy w' row) (hr : ∀ k, row = some k → k < a.heap.size → k ∈ F) : Touch F a w' :=
  h.comp (G := row.toList) ⟨hg.os, hg.tape, hg.output, hg.size, fun k hk hn => hg.block k hk fun e => hn (by simp [← e])⟩ (fun _ x _ => x) (fun x hx hl => hr x (by simpa using hx) hl)
theorem Touch.of_below {F : List Nat} {w w' : World} (h : Below w.heap.size w w') : Touch F w w' := ⟨h.os, h.tape, h.output, h.size, fun k hk _ => h.block k hk⟩
theorem Touch.below {w w' : World} (h : Touch [] w w') : Below w.heap.size w w' := ⟨h.os, h.tape, h.output, h.size, fun k hk => h.block k hk (by simp)⟩
/-- What lies below B is as it was, if all that was touched lies from B on. -/
theorem Touch.belowB {F : List Nat} {w w' : World} {B : Nat} (h : Touch F w w') (hB : B ≤ w.heap.size) (hF : ∀ x, x ∈ F → B ≤ x) : Below B w w' :=
  ⟨h.os, h.tape, h.output, h.size, fun k hk => h.block k (by omega) fun hf => by have := hF k hf; omega⟩

theorem blk.touch {w w' : World} {b : Nat} {xs : List Value} {e : TypeId} {F : List Nat} (h : blk w b xs e) (ht : Touch F w w') (hb : b ∉ F) : blk w' b xs e := by
  have hlt := h.lt
  unfold blk at h ⊢; rw [ht.block b hlt hb]; exact h
theorem Touch.cell {F : List Nat} {w w' : World} (h : Touch F w w') {p : Addr} {v : Value} (hp : w.cell? p = some v) (hn : p.block ∉ F) : w'.cell? p = some v :=
  (World.cell?_of_block (w := w) (h.block p.block (World.block_lt_of_cell? w p hp) hn)).trans hp
theorem Touch.frozen {F : List Nat} {w w' : World} (h : Touch F w w') {p : Addr} (hl : p.block < w.heap.size) (hn : p.block ∉ F) (hf : w.frozen? p = false) : w'.frozen? p = false :=
  (World.frozen?_of_block (w := w) (h.block p.block hl hn)).trans hf
theorem ownsRow_touch {w w' : World} {F : List Nat} {base : Nat} {e : TypeId} {size : Nat} {v : Value} {n : Nat} {xs : List Value} (h : w.ownsRow base e size v n xs) (ht : Touch F w w') (hb : ∀ k, v.ownBlock = some k → k ∉ F) : w'.ownsRow base e size v n xs := by
  have hl := h.lt
  refine ⟨h.1, ?_⟩
  rcases h.2 with hn | ⟨g, cap, cur, rfl, hg, hgg, rest⟩
  · exact .inl hn
  · refine .inr ⟨g, cap, cur, rfl, hg, ?_, rest⟩
    rw [ht.block g (hl g rfl).2 (hb g rfl)]; exact hgg

theorem ownsRow_base {w : World} {base base' : Nat} {e : TypeId} {size : Nat} {v : Value} {n : Nat} {xs : List Value} (h : w.ownsRow base e size v n xs) (hb : base' ≤ base) : w.ownsRow base' e size v n xs := by
  refine ⟨h.1, ?_⟩
  rcases h.2 with hn | ⟨g, cap, cur, rfl, hg, rest⟩
  · exact .inl hn
  · exact .inr ⟨g, cap, cur, rfl, Nat.le_trans hb hg, rest⟩
/-- Rows of two element types lie in two blocks. -/
theorem ownsRow_ne {w : World} {base base' : Nat} {e e' : TypeId} {size size' : Nat} {v v' : Value} {n n' : Nat} {xs xs' : List Value} (h : w.ownsRow base e size v n xs) (h' : w.ownsRow base' e' size' v' n' xs') (hne : e ≠ e') (k : Nat) (hk : v.ownBlock = some k) : v'.ownBlock ≠ some k := by
  intro hk'
  rcases h.2 with ⟨rfl, _⟩ | ⟨g, cap, cur, rfl, _, hg, _⟩
  · simp [Value.ownBlock] at hk
  rcases h'.2 with ⟨rfl, _⟩ | ⟨g', cap', cur', rfl, _, hg', _⟩
  · simp [Value.ownBlock] at hk'
  simp only [Value.ownBlock, Option.some.injEq] at hk hk'
  subst hk; subst hk'
  rw [hg] at hg'
  simp at hg'
  exact hne hg'.2
theorem ownsRow_neBlk {w : World} {base : Nat} {e e' : TypeId} {size : Nat} {v : Value} {n : Nat} {xs ys : List Value} {b : Nat} (h : w.ownsRow base e size v n xs) (h' : blk w b ys e') (hne : e ≠ e') : v.ownBlock ≠ some b := by
  intro hk
  rcases h.2 with ⟨rfl, _⟩ | ⟨g, cap, cur, rfl, _, hg, _⟩
  · simp [Value.ownBlock] at hk
  simp only [Value.ownBlock, Option.some.injEq] at hk
  subst hk
  unfold blk at h'
  rw [hg] at h'
  simp at h'
  exact hne h'.2

/-- Whole numbers as cells. -/
def ints (l : List Int) : List Value := l.map (.int .i64)
@[simp] theorem ints_length (l : List Int) : (ints l).length = l.length := by simp [ints]
theorem ints_get (l : List Int) (k : Nat) (h : k < l.length) : (ints l)[k]? = some (.int .i64 (l[k]'h)) := by simp [ints, h]
theorem ints_append (a b : List Int) : ints (a ++ b) = ints a ++ ints b := by simp [ints]
theorem ints_set (l : List Int) (k : Nat) (v : Int) : (ints l).set k (.int .i64 v) = ints (l.set k v) := by simp [ints, List.map_set]

/-- The k-th of a list (0 behind its end): names that simp does not open. -/
def natAt (l : List Nat) (k : Nat) : Nat := l.getD k 0
def intAt (l : List Int) (k : Nat) : Int := l.getD k 0
def pairAt (l : List (Int × Int)) (k : Nat) : Int × Int := l.getD k (0, 0)
theorem natAt_get (l : List Nat) (k : Nat) (h : k < l.length) : natAt l k = l[k]'h := by simp [natAt, List.getD_eq_getElem?_getD, List.getElem?_eq_getElem h]
theorem intAt_get (l : List Int) (k : Nat) (h : k < l.length) : intAt l k = l[k]'h := by simp [intAt, List.getD_eq_getElem?_getD, List.getElem?_eq_getElem h]
theorem pairAt_get (l : List (Int × Int)) (k : Nat) (h : k < l.length) : pairAt l k = l[k]'h := by simp [pairAt, List.getD_eq_getElem?_getD, List.getElem?_eq_getElem h]

/-- Pairs of whole numbers as cells. -/
abbrev Pair := Int × Int
def pair (c : Pair) : List Value := [.int .i64 c.1, .int .i64 c.2]
def pairs (cs : List Pair) : List Value := cs.flatMap pair
@[simp] theorem pairs_nil : pairs [] = [] := rfl
@[simp] theorem pairs_cons (c : Pair) (cs : List Pair) : pairs (c :: cs) = .int .i64 c.1 :: .int .i64 c.2 :: pairs cs := rfl
theorem pairs_append (a b : List Pair) : pairs (a ++ b) = pairs a ++ pairs b := by simp [pairs]
@[simp] theorem pairs_length (cs : List Pair) : (pairs cs).length = cs.length * 2 := by
  induction cs with
  | nil => rfl
  | cons c cs ih => simp only [pairs_cons, List.length_cons, ih]; omega
theorem pairs_fst (cs : List Pair) (k : Nat) (h : k < cs.length) : (pairs cs)[k * 2]? = some (.int .i64 (cs[k]'h).1) := by
  induction cs generalizing k with
  | nil => simp at h
  | cons c cs ih => cases k with
    | zero => rfl
    | succ k => simp only [pairs_cons, show (k + 1) * 2 = k * 2 + 1 + 1 from by omega, List.getElem?_cons_succ]; exact ih k (by simpa using h)
theorem pairs_snd (cs : List Pair) (k : Nat) (h : k < cs.length) : (pairs cs)[k * 2 + 1]? = some (.int .i64 (cs[k]'h).2) := by
  induction cs generalizing k with
  | nil => simp at h
  | cons c cs ih => cases k with
    | zero => rfl
    | succ k => simp only [pairs_cons, show (k + 1) * 2 + 1 = (k * 2 + 1) + 1 + 1 from by omega, List.getElem?_cons_succ]; exact ih k (by simpa using h)
theorem pairs_set (cs : List Pair) (k : Nat) (c : Pair) (h : k < cs.length) : ((pairs cs).set (k * 2) (.int .i64 c.1)).set (k * 2 + 1) (.int .i64 c.2) = pairs (cs.set k c) := by
  induction cs generalizing k with
  | nil => simp at h
  | cons d cs ih => cases k with
    | zero => rfl
    | succ k =>
      simp only [pairs_cons, show (k + 1) * 2 = k * 2 + 1 + 1 from by omega, List.set_cons_succ]
      rw [ih k (by simpa using h)]
theorem pairs_take (cs : List Pair) (k : Nat) : (pairs cs).take (k * 2) = pairs (cs.take k) := by
  induction cs generalizing k with
  | nil => simp
  | cons c cs ih => cases k with
    | zero => simp
    | succ k => simp only [pairs_cons, show (k + 1) * 2 = k * 2 + 1 + 1 from by omega, List.take_succ_cons, ih]
theorem pairs_drop (cs : List Pair) (k : Nat) : (pairs cs).drop (k * 2) = pairs (cs.drop k) := by
  induction cs generalizing k with
  | nil => simp
  | cons c cs ih => cases k with
    | zero => simp
    | succ k => simp only [pairs_cons, show (k + 1) * 2 = k * 2 + 1 + 1 from by omega, List.drop_succ_cons, ih]

end Go.Proofs.Ytpalndoklifkiaa
