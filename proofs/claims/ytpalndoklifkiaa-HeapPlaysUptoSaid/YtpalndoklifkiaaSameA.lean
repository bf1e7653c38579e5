/-
  The walk of panicroadref.SameBlocks, at two lists of blocks that are alike.
-/
import Derived.Test.YtpalndoklifkiaaHeapN
import Derived.Laws.StructEq
namespace Go.Proofs.Ytpalndoklifkiaa
open Go.RowKit

theorem stood_cell : Try.prog.stoodInHeld 36 = false := by kernel_rfl
theorem eq_cells (d : Nat) (x y x' y' : Int) (w : World) : (Op.equalIn (d + 2) 36 (.agg #[.int .i64 x, .int .i64 y]) (.agg #[.int .i64 x', .int .i64 y'])).run Try.prog w = .ok (x == x' && y == y') w := by
  have hf : Try.prog.fieldsOf 36 = #[{ name := "Tag", type := 3, offset := 0, embedded := false, tag := "", pkgPath := "", byteOffset := 0 },
        { name := "N", type := 3, offset := 1, embedded := false, tag := "", pkgPath := "", byteOffset := 8 }] := by simp [Program.fieldsOf, Try.underlying36]
  have p0 : ∀ (a b : Value) w, (part 3 #[a, b] 0).run Try.prog w = .ok a w := fun a b w => by kernel_rfl
  have p1 : ∀ (a b : Value) w, (part 3 #[a, b] 1).run Try.prog w = .ok b w := fun a b w => by kernel_rfl
  rw [run_equalIn_struct (P := Try.prog) w (d + 1) 36 _ _ (by rw [hf]; exact Try.underlying36) stood_cell, hf]
  have e := fun a b => run_equalIn_int (P := Try.prog) w d 3 .i64 .i64 a b Try.underlying3
  by_cases h : x = x'
  · subst h
    by_cases h2 : y = y'
    · subst h2; simp [Op.eqFields, p0, p1, e]
    · simp [Op.eqFields, p0, p1, e, h2]
  · simp [Op.eqFields, p0, p1, e, h]
theorem neq_cells (x y x' y' : Int) (w : World) : (binOp .neq 36 (.agg #[.int .i64 x, .int .i64 y]) (.agg #[.int .i64 x', .int .i64 y'])).run Try.prog w = .ok (.bool (!(x == x' && y == y'))) w := by
  rw [run_neq_struct, eq_cells 9998]; rfl
theorem eql_cells (x y x' y' : Int) (w : World) : (binOp .eql 36 (.agg #[.int .i64 x, .int .i64 y]) (.agg #[.int .i64 x', .int .i64 y'])).run Try.prog w = .ok (.bool (x == x' && y == y')) w := by
  rw [run_eql_struct, eq_cells 9998]; rfl

/-- A slice of heads that reads as the blocks bl. -/
structure Heads (w : World) (v : Value) (hs : List Hdr) (bl : List BlkM) : Prop where
  row : w.ownsRow 0 60 3 v hs.length (hdrs hs)
  tell : blocksIn w 0 hs bl
  full : ∀ h, h ∈ hs → h.2.2 ≠ .slice none 0 0

theorem Heads.touch {w w' : World} {v : Value} {hs : List Hdr} {bl : List BlkM} (H : Heads w v hs bl) (h : Touch [] w w') : Heads w' v hs bl :=
  ⟨ownsRow_touch H.row h (by simp), H.tell.touch h (by simp), H.full⟩

theorem Heads.form {w : World} {v : Value} {hs : List Hdr} {bl : List BlkM} (H : Heads w v hs bl) : (v = .slice none 0 0 ∧ bl = []) ∨ ∃ g cap, v = .slice (some ⟨g, 0, none⟩) bl.length cap := by
  have hl := H.tell.length
  rcases H.row.2 with ⟨h1, h2⟩ | ⟨g, cap, _, h1, _⟩
  · exact .inl ⟨h1, List.eq_nil_of_length_eq_zero (by omega)⟩
  · exact .inr ⟨g, cap, by rw [h1, hl]⟩

theorem Heads.at {w : World} {g n cap : Nat} {hs : List Hdr} {bl : List BlkM} (H : Heads w (.slice (some ⟨g, 0, none⟩) n cap) hs bl) (k : Nat) (hk : k < bl.length) : ∃ gk ck,
    w.cell? ⟨g, k * 3, none⟩ = some (.int .i64 ((blkAt bl k).at_ : Nat)) ∧ w.cell? ⟨g, k * 3 + 1, none⟩ = some (.int .i64 (blkAt bl k).shape) ∧
    w.cell? ⟨g, k * 3 + 2, none⟩ = some (.slice (some ⟨gk, 0, none⟩) (blkAt bl k).cells.length ck) ∧
    w.ownsRow 0 36 2 (.slice (some ⟨gk, 0, none⟩) (blkAt bl k).cells.length ck) (blkAt bl k).cells.length (pairs (blkAt bl k).cells) := by
  have hl := H.tell.length
  have hr := H.row
  have hn : n = hs.length := by
    rcases hr.2 with ⟨h1, _⟩ | ⟨_, _, _, h1, _⟩
    · simp at h1
    · simp at h1; exact h1.2.1
  subst hn
  obtain ⟨b1, b2, b3⟩ := H.tell.at k (by omega)
  obtain ⟨gk, ck, hsl⟩ := ownsRow_form b3 (by have := H.full (hdrAt hs k); rw [hdrAt_get _ _ (by omega)] at this ⊢; exact this (List.getElem_mem _))
  refine ⟨gk, ck, ?_, ?_, ?_, by rw [← hsl]; exact b3⟩
  · rw [hr.cellAt _ (by omega), hdrs_0 _ _ (by omega), b1]
  · rw [hr.cellAt _ (by omega), hdrs_1 _ _ (by omega), b2]
  · rw [hr.cellAt _ (by omega), hdrs_2 _ _ (by omega), hsl]

def SameRel (w : World) (n : Nat) (i : Value) (wr : World) : Prop := ∃ k : Nat, k ≤ n ∧ i = .int .i64 k ∧ Touch [] w wr

theorem same_nil (w : World) : Calls Try.prog 7 #[.slice none 0 0, .slice none 0 0] w fun e w' => e = .returned (.bool true) ∧ w = w' := by
  go_enter Try.func7, Try.ntmps7
  go_wp2_with fail
  refine wp_loop_rounds 1 ?_
  rw [rounds_succ]
  go_wp2_with fail
  go_ret
  exact ⟨rfl, rfl⟩
theorem same_zero (w : World) (v v' : Value) (hv : v = .slice none 0 0 ∨ ∃ a c, v = .slice (some a) 0 c) (hv' : v' = .slice none 0 0 ∨ ∃ a c, v' = .slice (some a) 0 c) :
    Calls Try.prog 7 #[v, v'] w fun e w' => e = .returned (.bool true) ∧ w = w' := by
  rcases hv with rfl | ⟨a, c, rfl⟩ <;> rcases hv' with rfl | ⟨a', c', rfl⟩
  all_goals
    go_enter Try.func7, Try.ntmps7
    go_wp2_with fail
    refine wp_loop_rounds 1 ?_
    rw [rounds_succ]
    go_wp2_with fail
    go_ret
    exact ⟨rfl, rfl⟩

set_option maxRecDepth 100000 in
set_option maxHeartbeats 2000000 in
theorem same_row {w : World} {g g' n cap cap' : Nat} {hs hs' : List Hdr} {bl : List BlkM} (H : Heads w (.slice (some ⟨g, 0, none⟩) n cap) hs bl) (H' : Heads w (.slice (some ⟨g', 0, none⟩) n cap') hs' bl) (hn : bl.length = n) (hmax : n ≤ 4000)
    (hsm : ∀ b, b ∈ bl → b.cells.length ≤ 4000) :
    Calls Try.prog 7 #[.slice (some ⟨g, 0, none⟩) n cap, .slice (some ⟨g', 0, none⟩) n cap'] w fun e w' => e = .returned (.bool true) ∧ Touch [] w w' := by
  have HH := Lib.hid H
  have HH' := Lib.hid H'
  have HN := Lib.hid hn
  have HS := Lib.hid hsm
  have hcmp := neq_cells
  clear H H' hn hsm
  go_enter Try.func7, Try.ntmps7
  go_wp2_with fail
  go_loopw [14] (fun i wr => SameRel w n i wr) (fun i _ => n - (intOf i).toNat)
  case atStart => exact ⟨0, by omega, rfl, Touch.refl _ _⟩
  case round =>
    obtain ⟨k, hk, rfl, hT⟩ := hrel
    have HT := Lib.hid hT
    by_cases hlt : k < n
    · obtain ⟨gk, ck, c0, c1, c2, hrow⟩ := HH.out.at k (by have := HN.out; omega)
      obtain ⟨gk', ck', d0, d1, d2, hrow'⟩ := HH'.out.at k (by have := HN.out; omega)
      have hm : (blkAt bl k).cells.length ≤ 4000 := HS.out _ (by rw [blkAt_get _ _ (by have := HN.out; omega)]; exact List.getElem_mem _)
      have HR := Lib.hid hrow
      have HR' := Lib.hid hrow'
      have e0 := hT.cell c0 (by simp)
      have e1 := hT.cell c1 (by simp)
      have e2 := hT.cell c2 (by simp)
      have e3 := hT.cell d0 (by simp)
      have e4 := hT.cell d1 (by simp)
      have e5 := hT.cell d2 (by simp)
      have HC2 := Lib.hid c2
      have HD2 := Lib.hid d2
      clear c0 c1 c2 d0 d1 d2 hrow hrow' hT
      generalize blkAt bl k = B at *
      obtain ⟨Ba, Bs, Bc⟩ := B
      simp only at *
      obtain ⟨m, hmm⟩ : ∃ m, Bc.length = m := ⟨_, rfl⟩
      rw [hmm] at e2 e5 hm HR HR' HC2 HD2
      have HM := Lib.hid hmm
      clear hmm
      obtain ⟨wo, rfl⟩ : ∃ wo : World, wo = wr := ⟨_, rfl⟩
      go_wp2_with fail
      go_quiet (fail)
      go_wp2_with fail
      go_loopw [62] (fun i wr => SameRel w m i wr) (fun i _ => m - (intOf i).toNat)
      case atStart => exact ⟨0, by omega, rfl, HT.out.drewN _⟩
      case round =>
        obtain ⟨j, hj, rfl, hT2⟩ := hrel
        have HT2 := Lib.hid hT2
        by_cases hlt2 : j < m
        · have p1 := hT2.cell (row_fst HR.out j (by omega)) (by simp)
          have p2 := hT2.cell (row_snd HR.out j (by omega)) (by simp)
          have p3 := hT2.cell (row_fst HR'.out j (by omega)) (by simp)
          have p4 := hT2.cell (row_snd HR'.out j (by omega)) (by simp)
          have p5 := hT2.cell HC2.out (by simp)
          have p6 := hT2.cell HD2.out (by simp)
          clear hT2 e0 e1 e2 e3 e4 e5
          generalize pairAt Bc j = P at *
          obtain ⟨P1, P2⟩ := P
          simp only at *
          have hcc : ∀ W, (binOp .neq 36 (.agg #[.int .i64 P1, .int .i64 P2]) (.agg #[.int .i64 P1, .int .i64 P2])).run Try.prog W = .ok (.bool false) W := fun W => by rw [hcmp]; simp
          clear hcmp
          go_wp2_with fail
          go_quiet (fail)
          go_wp2_with fail
          go_roundw
          case rel => exact ⟨j + 1, by omega, by go_num, HT2.out.drewN _⟩
          case measure => simp [intOf] <;> omega
        · go_wp2_with fail
          go_roundw
          case rel => exact ⟨k + 1, by omega, by go_num, HT2.out⟩
          case measure => simp [intOf] <;> omega
    · go_wp2_with fail
      go_ret
      exact ⟨rfl, HT.out⟩

theorem same_any {w : World} {v v' : Value} {hs hs' : List Hdr} {bl : List BlkM} (H : Heads w v hs bl) (H' : Heads w v' hs' bl) (hmax : bl.length ≤ 4000) (hsm : ∀ b, b ∈ bl → b.cells.length ≤ 4000) :
    Calls Try.prog 7 #[v, v'] w fun e w' => e = .returned (.bool true) ∧ Touch [] w w' := by
  by_cases h0 : bl = []
  · subst h0
    refine (same_zero w v v' ?_ ?_).mono fun e w' ⟨h1, h2⟩ => ⟨h1, h2 ▸ Touch.refl _ _⟩
    · rcases H.form with ⟨h, _⟩ | ⟨g, cap, h⟩
      · exact .inl h
      · exact .inr ⟨_, cap, h⟩
    · rcases H'.form with ⟨h, _⟩ | ⟨g, cap, h⟩
      · exact .inl h
      · exact .inr ⟨_, cap, h⟩
  · rcases H.form with ⟨_, h⟩ | ⟨g, cap, rfl⟩
    · exact absurd h h0
    rcases H'.form with ⟨_, h⟩ | ⟨g', cap', rfl⟩
    · exact absurd h h0
    exact same_row H H' rfl hmax hsm
end Go.Proofs.Ytpalndoklifkiaa
