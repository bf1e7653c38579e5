/-
  HeapPlays: from the arguments as data to the walk.
-/
import Derived.Test.YtpalndoklifkiaaPlays
import Derived.Test.YtpalndoklifkiaaRows
import Derived.WalkKit
import Derived.ProofKit
import Derived.OpenShut
import Derived.JoinedCond
import Derived.Deep.SlicePairs
import Derived.Carry
namespace Go.Proofs.Ytpalndoklifkiaa
open Go.RowKit Go.ChangeShapes Go.WideShapes Go.ChangeAt
set_option linter.unusedVariables false

theorem bulk_one {H : Type} (d : DataW H) : 1 ≤ Rows.uptoBulk d := by
  cases d with
  | lit l => cases l <;> simp [Rows.uptoBulk]
  | nil => simp [Rows.uptoBulk]
  | ptr d => simp [Rows.uptoBulk]
  | slice elems spare => simp [Rows.uptoBulk]
  | agg parts => simp [Rows.uptoBulk]
  | iface t d => simp [Rows.uptoBulk]
  | map entries => simp [Rows.uptoBulk]
  | held h => simp [Rows.uptoBulk]
theorem bulk_part {H : Type} {d : DataW H} {l : List (DataW H)} (h : d ∈ l) : Rows.uptoBulk d ≤ Rows.uptoBulkAll l := by
  induction l with
  | nil => cases h
  | cons x r ih =>
    simp only [Rows.uptoBulkAll]
    cases List.mem_cons.1 h with
    | inl e => subst e; omega
    | inr e => have := ih e; omega
theorem bulk_len {H : Type} (l : List (DataW H)) : l.length ≤ Rows.uptoBulkAll l := by
  induction l with
  | nil => simp [Rows.uptoBulkAll]
  | cons x r ih => have := bulk_one x; simp only [Rows.uptoBulkAll, List.length_cons]; omega

section
variable {H : Type} {enc : TypeId × Value → H} {w : World}

theorem int_cell {t : TypeId} {n : Nat} {v : Value} {y : DataW H × List MemPlace} (ht : Try.prog.underlying t = some (.int .i64)) (h : DataW.trod enc Try.prog w 0 (fun _ => true) true n t [v] = some y) : ∃ k : Int, v = .int .i64 k := by
  obtain ⟨k, e, _⟩ := DataW.trod_int ht h
  exact ⟨k, by simpa using e⟩

theorem roots_open {n : Nat} {v : Value} {y : DataW H × List MemPlace} (h : DataW.trod enc Try.prog w 0 (fun _ => true) true n 37 [v] = some y) :
    ∃ R, rootsIn w v R ∧ R.length ≤ Rows.uptoBulk y.1 := by
  rcases Deep.open_slice_pairs Try.underlying37 Try.underlying36 (by kernel_rfl) rfl rfl (by kernel_rfl) (by kernel_rfl) h with ⟨e, rfl⟩ | ⟨a, len, cap, m, k, V0, V1, D0, D1, P0, P1, e, _, hlc, _, hm, rfl, hx⟩
  · simp only [List.cons.injEq, and_true] at e
    subst e
    exact ⟨[], .inl ⟨_, _, rfl, rfl⟩, by simp⟩
  · simp only [List.cons.injEq, and_true] at e
    subst e
    simp only [if_true] at hm
    subst hm
    by_cases hl : len = 0
    · subst hl
      exact ⟨[], .inl ⟨_, _, rfl, rfl⟩, by simp⟩
    · obtain ⟨b, o, spot⟩ := a
      have hs : spot = none := by simpa [Addr.add] using World.cell?_spot (hx 0 (by omega)).1
      subst hs
      have hints : ∀ i, ∃ c : Pair, i < len → V0 i = .int .i64 c.1 ∧ V1 i = .int .i64 c.2 := by
        intro i
        by_cases hi : i < len
        · obtain ⟨_, _, h3, h4⟩ := hx i (by omega)
          obtain ⟨x, hx0⟩ := int_cell Try.underlying3 h3
          obtain ⟨z, hx1⟩ := int_cell Try.underlying3 h4
          exact ⟨(x, z), fun _ => ⟨hx0, hx1⟩⟩
        · exact ⟨(0, 0), fun h => absurd h hi⟩
      let f : Nat → Pair := fun i => (hints i).choose
      have hf : ∀ i, i < len → V0 i = .int .i64 (f i).1 ∧ V1 i = .int .i64 (f i).2 := fun i hi => (hints i).choose_spec hi
      refine ⟨(List.range len).map f, .inr ⟨b, o, _, by simp; rfl, ?_⟩, ?_⟩
      · intro j u hu
        have hj : j < ((List.range len).map f).length * 2 := by
          have := (List.getElem?_eq_some_iff.1 hu).1
          rwa [pairs_length] at this
        simp only [List.length_map, List.length_range] at hj
        have hd : j = j / 2 * 2 ∨ j = j / 2 * 2 + 1 := by omega
        have hk : j / 2 < len := by omega
        obtain ⟨g0, g1, _, _⟩ := hx (j / 2) (by omega)
        obtain ⟨e0, e1⟩ := hf (j / 2) hk
        rcases hd with hd | hd
        · rw [hd, pairs_fst _ _ (by simpa using hk)] at hu
          rw [hd, g0, e0, ← hu]
          simp
        · rw [hd, pairs_snd _ _ (by simpa using hk)] at hu
          rw [hd, g1, e1, ← hu]
          simp
      · have := bulk_len ((List.range len).map fun i => (DataW.agg [D0 i, D1 i] : DataW H))
        simp only [List.length_map, List.length_range] at this ⊢
        simp only [Rows.uptoBulk]
        omega

theorem ask_open {n : Nat} {cs : List Value} {y : DataW H × List MemPlace} (h : DataW.trod enc Try.prog w 0 (fun _ => true) true n 39 cs = some y) :
    ∃ (k A Bn at_ ct cx : Int) (rv : Value) (R : List Pair), cs = [.int .i64 k, .int .i64 A, .int .i64 Bn, .int .i64 at_, .int .i64 ct, .int .i64 cx, rv] ∧ rootsIn w rv R ∧ R.length ≤ Rows.uptoBulk y.1 := by
  obtain ⟨xs, m, _, rfl, hl, hxl, hf⟩ := DataW.trod_struct Try.underlying39 h
  rw [show Try.prog.cellsOf 39 = 7 from by kernel_rfl] at hl
  have z1 : Try.prog.cellsOf 3 = 1 := by kernel_rfl
  have z2 : Try.prog.cellsOf 36 = 2 := by kernel_rfl
  have z3 : Try.prog.cellsOf 37 = 1 := by kernel_rfl
  match xs, hxl, cs, hl with
  | [y0, y1, y2, y3, y4, y5], _, [v0, v1, v2, v3, v4, v5, v6], _ =>
    have g0 := hf 0 _ rfl
    have g1 := hf 1 _ rfl
    have g2 := hf 2 _ rfl
    have g3 := hf 3 _ rfl
    have g4 := hf 4 _ rfl
    have g5 := hf 5 _ rfl
    simp [z1, z2, z3] at g0 g1 g2 g3 g4 g5
    obtain ⟨k, rfl⟩ := int_cell Try.underlying3 g0
    obtain ⟨A, rfl⟩ := int_cell Try.underlying3 g1
    obtain ⟨Bn, rfl⟩ := int_cell Try.underlying3 g2
    obtain ⟨at_, rfl⟩ := int_cell Try.underlying3 g3
    obtain ⟨q0, q1, n1, _, _, k0, k1⟩ := trod_struct2 Try.underlying36 g4
    simp [z1] at k0 k1
    obtain ⟨ct, rfl⟩ := int_cell Try.underlying3 k0
    obtain ⟨cx, rfl⟩ := int_cell Try.underlying3 k1
    obtain ⟨R, hR, hRl⟩ := roots_open g5
    refine ⟨k, A, Bn, at_, ct, cx, v6, R, rfl, hR, Nat.le_trans hRl ?_⟩
    have := bulk_part (d := y5.1) (l := [y0, y1, y2, y3, y4, y5].map (·.1)) (by simp)
    simp only [Rows.uptoBulk]
    omega

theorem asks_open {v : Value} {d : DataW H} {ps : List MemPlace} (h : DataW.Trod enc Try.prog w 0 (fun _ => true) true 22 v d ps) (hv : ∃ a l c, v = .slice a l c) (hb : Rows.uptoBulk d ≤ 1048576) :
    ∃ la ln lc, v = .slice la ln lc ∧ ln ≤ 1048576 ∧ ∀ k, k < ln → ∃ lb lo, la = some ⟨lb, lo, none⟩ ∧ AskIn w lb (lo + k * 7) := by
  obtain ⟨a0, l0, c0, rfl⟩ := hv
  obtain ⟨fuel, hf⟩ := h
  rcases Deep.open_slice Try.underlying22 hf with ⟨e, hx⟩ | ⟨a, len, cap, m, n, D, Pl, e, _, hlc, _, hm, hx, hel⟩
  · simp [Value.cells] at e
    obtain ⟨rfl, rfl, rfl⟩ := e
    exact ⟨none, 0, 0, rfl, by omega, by omega⟩
  · simp [Value.cells] at e
    obtain ⟨rfl, rfl, rfl⟩ := e
    simp only [if_true] at hm
    subst hm
    simp only [Prod.mk.injEq] at hx
    obtain ⟨rfl, -⟩ := hx
    have hlen := bulk_len ((List.range l0).map D)
    simp only [Rows.uptoBulk] at hb
    simp only [List.length_map, List.length_range] at hlen
    refine ⟨some a, l0, _, rfl, by omega, fun k hk => ?_⟩
    obtain ⟨cs', h1, h2⟩ := hel k (by omega)
    rw [show Try.prog.cellsOf 39 = 7 from by kernel_rfl] at h1
    obtain ⟨kk, A, Bn, at_, ct, cx, rv, R, rfl, hR, hRl⟩ := ask_open h2
    obtain ⟨_, _, hc⟩ := World.cells?_some h1
    obtain ⟨b, o, spot⟩ := a
    have hs : spot = none := by
      obtain ⟨c0', e1, _⟩ := hel 0 (by omega)
      rw [show Try.prog.cellsOf 39 = 7 from by kernel_rfl] at e1
      obtain ⟨_, e2, e3⟩ := World.cells?_some e1
      have h0 := e3 0 (by omega)
      rw [List.getElem?_eq_getElem (by omega)] at h0
      simpa [Addr.add] using World.cell?_spot h0
    subst hs
    have hp := bulk_part (d := D k) (l := (List.range l0).map D) (List.mem_map.2 ⟨k, List.mem_range.2 hk, rfl⟩)
    simp only at hRl
    refine ⟨b, o, rfl, kk, A, Bn, at_, ct, cx, rv, R, ?_, hR, by omega⟩
    intro j u hu
    have hj : j < 7 := (List.getElem?_eq_some_iff.1 hu).1
    rw [← hu, ← hc j hj, addr_add b o (k * 7)]
end

theorem plays_any (w : World) (n : Int) (la : Option Addr) (ln lc : Nat) (hl : ∀ k, k < ln → ∃ lb lo, la = some ⟨lb, lo, none⟩ ∧ AskIn w lb (lo + k * 7)) (hln : ln ≤ 1048576) :
    Calls Try.prog 3 #[.int .i64 n, .slice la ln lc] w fun e w' => e = .returned (.bool true) ∧ Below w.heap.size w w' := by
  by_cases h : n < 0 ∨ 4000 < n
  · exact plays_bad w n _ h
  · obtain ⟨k, rfl⟩ := Int.eq_ofNat_of_zero_le (show 0 ≤ n by omega)
    exact plays_good w k (by omega) la ln lc hl hln
end Go.Proofs.Ytpalndoklifkiaa
