/-
  The walks of the document's heap, fourth part: Collect.
-/
import Derived.Test.YtpalndoklifkiaaStoreC
namespace Go.Proofs.Ytpalndoklifkiaa
open Go.RowKit

set_option maxHeartbeats 1000000 in
theorem led_empty {w : World} {sp : Nat} (roots : List Pair) {rv : Value} (h1 : w.cell? ⟨sp, 1, none⟩ = some (.slice none 0 0)) :
    Calls Try.prog 29 #[.pointer (some ⟨sp, 0, none⟩), rv] w (LedPost w [] roots) := by
  obtain ⟨ic, hic, hc0, hc1, hc2⟩ := info_parts info_bool
  have m1 : ∀ W, (Instr.makeSlice 71 (.int .i64 0) (.int .i64 0)).run Try.prog W = .ok (.slice (some ⟨W.heap.size, 0, none⟩) 0 0) (W.alloc (.cells #[] 4)) := fun W => by
    have := run_make (P := Try.prog) W 71 4 ic _ Try.underlying71 hic hc0 .i64 .i64 0 0 (by omega) (by omega) (by rw [hc2]; omega) (by omega)
    rw [this, hc1]
    have e : madeCells (Value.bool false).cells (Int.toNat 0 * 1) = #[] := Array.eq_empty_of_size_eq_zero (size_madeCells _ _)
    rw [e]; rfl
  clear hic hc0 hc1 hc2
  have b0 := World.block_lt_of_cell? w _ h1
  simp only at b0
  go_enter Try.func29, Try.ntmps29
  go_wp2_with fail
  refine wp_loop_rounds 2 ?_
  rw [rounds_succ]
  go_wp2_with fail
  refine wp_loop_rounds 1 ?_
  rw [rounds_succ]
  go_wp2_with fail
  rw [rounds_succ]
  go_wp2_with fail
  go_ret
  refine ⟨w.heap.size, [], rfl, (by repeat (first | assumption | (refine blk.newAt _ _ _ ?_; (simp; done)) | refine blk.drew ?_ | refine blk.drewN ?_ _ | refine blk.alloc ?_ _ | (refine blk.setNe ?_ ?_ _; rotate_left; focus (simp; done)))), rfl, fun i => ?_, (by repeat (first | exact Touch.refl _ _ | exact Touch.nil (by assumption) | assumption | refine Touch.drew ?_ | refine Touch.drewN ?_ _ | refine Touch.alloc ?_ _ | (refine Touch.setNew _ ?_ ?_; rotate_left; focus (simp; done)) | (refine Touch.setCell ?_ ?_ _; rotate_left; focus (simp; done)) | (refine Touch.setRow ?_ ?_ _; rotate_left; focus (simp; done)))), Nat.le_refl _⟩
  simp only [boolAt, List.getD_eq_getElem?_getD]
  constructor
  · intro h; simp at h
  · intro h; cases h <;> simp_all

/-- The first k of a list, those that stay. -/
def keepTo {α : Type} (f : Nat → Bool) (g : Nat → α) : Nat → List α
  | 0 => []
  | k + 1 => keepTo f g k ++ (if f k then [g k] else [])
def goneTo (f : Nat → Bool) (g : Nat → BlkM) : Nat → Nat
  | 0 => 0
  | k + 1 => goneTo f g k + (if f k then 0 else (g k).cells.length + 1)

theorem keepTo_sub (f : Nat → Bool) (hs : List Hdr) (k : Nat) (hk : k ≤ hs.length) : (keepTo f (hdrAt hs) k).Sublist (hs.take k) := by
  induction k with
  | zero => simp [keepTo]
  | succ k ih =>
    rw [List.take_succ_eq_append_getElem (by omega)]
    simp only [keepTo]
    refine List.Sublist.append (ih (by omega)) ?_
    rw [hdrAt_get _ _ (by omega)]
    split <;> simp
theorem keepTo_subB (f : Nat → Bool) (bl : List BlkM) (k : Nat) (hk : k ≤ bl.length) : (keepTo f (blkAt bl) k).Sublist (bl.take k) := by
  induction k with
  | zero => simp [keepTo]
  | succ k ih =>
    rw [List.take_succ_eq_append_getElem (by omega)]
    simp only [keepTo]
    refine List.Sublist.append (ih (by omega)) ?_
    rw [blkAt_get _ _ (by omega)]
    split <;> simp
theorem keepTo_tell {w : World} {hs : List Hdr} {bl : List BlkM} (h : blocksIn w 0 hs bl) (f : Nat → Bool) (k : Nat) (hk : k ≤ hs.length) : blocksIn w 0 (keepTo f (hdrAt hs) k) (keepTo f (blkAt bl) k) := by
  induction k with
  | zero => trivial
  | succ k ih =>
    simp only [keepTo]
    cases f k with
    | true => exact blocksIn.append (h.at k (by omega)) (ih (by omega))
    | false => simpa using ih (by omega)
theorem goneTo_le (f : Nat → Bool) (bl : List BlkM) (hs : ∀ b, b ∈ bl → b.cells.length ≤ 300) (k : Nat) (hk : k ≤ bl.length) : goneTo f (blkAt bl) k ≤ k * 301 := by
  induction k with
  | zero => simp [goneTo]
  | succ k ih =>
    have h1 := ih (by omega)
    have h2 := hs (blkAt bl k) (by rw [blkAt_get _ _ (by omega)]; exact List.getElem_mem _)
    show goneTo f (blkAt bl) k + (if f k then 0 else (blkAt bl k).cells.length + 1) ≤ (k + 1) * 301
    rw [Nat.succ_mul]
    refine Nat.add_le_add h1 ?_
    split
    · exact Nat.zero_le _
    · exact Nat.succ_le_succ h2

theorem news_second (w : World) (o : Obj) (xs : List Value) (e : TypeId) : ∀ j u, xs[j]? = some u → ((w.alloc o).alloc (.cells xs.toArray e)).cell? ((⟨w.heap.size + 1, 0, none⟩ : Addr).add j) = some u := by
  intro j u hu
  have := World.news_of_block (heap_alloc_new (w.alloc o) (.cells xs.toArray e)) j u (by simpa using hu)
  rw [alloc_size] at this
  exact this

theorem scollect_nil (v : Value) (w : World) : Calls Try.prog 22 #[.pointer none, v] w fun e w' => e = .returned (.int .i64 0) ∧ w = w' := by
  go_enter Try.func22, Try.ntmps22
  go_wp2_with fail
  go_ret
  exact ⟨rfl, rfl⟩

/-- What the document's Collect leaves. -/
def SCollectPost (w : World) (sp room : Nat) (sv : Value) (hs : List Hdr) (bl : List BlkM) (roots : List Pair) (e : Ending) (w' : World) : Prop :=
  ∃ f sv' hs', (∀ i, f i = true ↔ SLed bl roots i) ∧ e = .returned (.int .i64 (goneTo f (blkAt bl) bl.length : Nat)) ∧ SRep w' sp room sv' hs' (keepTo f (blkAt bl) bl.length) ∧ Touch (sfoot sp sv hs) w w' ∧
    (∀ x, x ∈ sfoot sp sv' hs' → x ∈ sfoot sp sv hs ∨ w.heap.size ≤ x)

def SColRel (w : World) (hs : List Hdr) (bl : List BlkM) (L : List Bool) (bL : Nat) (v n i : Value) (wr : World) : Prop :=
  ∃ k, k ≤ bl.length ∧ i = .int .i64 (k : Nat) ∧ n = .int .i64 (goneTo (boolAt L) (blkAt bl) k : Nat) ∧ wr.ownsRow w.heap.size 60 3 v (keepTo (boolAt L) (hdrAt hs) k).length (hdrs (keepTo (boolAt L) (hdrAt hs) k)) ∧ Touch [] w wr ∧ blk wr bL (bools L) 4

set_option maxHeartbeats 1000000 in
theorem scollect_any {w : World} {sp room : Nat} {sv : Value} {hs : List Hdr} {bl : List BlkM} {roots : List Pair} {rv : Value} (H : SRep w sp room sv hs bl) (hroots : NamesOf w rv roots) :
    Calls Try.prog 22 #[.pointer (some ⟨sp, 0, none⟩), rv] w (SCollectPost w sp room sv hs bl roots) := by
  have h1 := H.h1
  have HH := Lib.hid H
  have hlen := H.tell.length
  have hfew := H.few
  obtain ⟨i0, hi, hz0, hz1, hz2⟩ := info_parts info_blk
  have HI := Lib.hid (And.intro hi (And.intro hz0 (And.intro hz1 hz2)))
  have FIN : ∀ L v wr, (∀ i, boolAt L i = true ↔ SLed bl roots i) → wr.ownsRow w.heap.size 60 3 v (keepTo (boolAt L) (hdrAt hs) bl.length).length (hdrs (keepTo (boolAt L) (hdrAt hs) bl.length)) → Touch [] w wr →
      SCollectPost w sp room sv hs bl roots (.returned (.int .i64 (goneTo (boolAt L) (blkAt bl) bl.length : Nat))) (wr.setCell ⟨sp, 1, none⟩ v) := by
    intro L v wr hL hown hT
    have hsub := keepTo_sub (boolAt L) hs bl.length (by omega)
    rw [List.take_of_length_le (by omega)] at hsub
    have hsubB := keepTo_subB (boolAt L) bl bl.length (by omega)
    rw [List.take_of_length_le (by omega)] at hsubB
    have HW := HH.out.touch (F := []) hT (by simp)
    have hset := HW.head.set 1 v
    have hlt := hown.lt
    have hsplt := HH.out.head.lt
    have T1 : Touch [sp] wr (wr.setCell ⟨sp, 1, none⟩ v) := (Touch.refl _ _).setCell (by simp) _
    refine ⟨boolAt L, v, keepTo (boolAt L) (hdrAt hs) bl.length, hL, rfl, ⟨hset, ?_, ?_, ?_, ?_, ?_, ?_⟩, ?_, ?_⟩
    · exact ownsRow_base (ownsRow_touch hown T1 (fun k hk => by have := (hlt k hk).1; simp; omega)) (Nat.zero_le _)
    · refine (keepTo_tell HW.tell (boolAt L) bl.length (by omega)).touch T1 ?_
      intro h hh k hk
      have hm := hsub.subset hh
      simp only [List.mem_singleton]
      rintro rfl
      have htl := HH.out.tell
      obtain ⟨j, hj, rfl⟩ := List.mem_iff_getElem.1 hm
      have hbk := (htl.at j hj).2.2
      rw [hdrAt_get _ _ hj] at hbk
      exact ownsRow_neBlk hbk HH.out.head (by decide) hk
    · intro h hh
      exact HH.out.full h (hsub.subset hh)
    · exact List.Sublist.nodup (hsub.filterMap _) HH.out.apart
    · have := hsub.length_le; omega
    · intro b hb
      exact HH.out.small b (hsubB.subset hb)
    · exact hT.comp T1 (by simp) (by simp [sfoot])
    · intro x hx
      simp only [sfoot, List.mem_cons, List.mem_append, List.mem_filterMap] at hx ⊢
      rcases hx with rfl | hx | ⟨h, hh, hx⟩
      · exact .inl (.inl rfl)
      · exact .inr (hlt x (by simpa using hx)).1
      · exact .inl (.inr (.inr ⟨h, hsub.subset hh, hx⟩))
  have HFIN := Lib.hid FIN
  clear FIN hi hz0 hz1 hz2
  rcases H.form with ⟨rfl, rfl, rfl⟩ | ⟨g, cap, rfl⟩
  · have HL := Lib.hid (led_empty (w := w) (sp := sp) roots (rv := rv) H.h1)
    have b0 := H.head.lt
    have f0 := H.head.frozen 1
    clear H hlen hfew
    go_enter Try.func22, Try.ntmps22
    go_wp2_with (first | (go_at_call 29; (with_reducible refine HL.out.mono ?_); rintro e w1 ⟨bL, L, rfl, hb, hl, hL, T1, hlow⟩
                          have q1 := T1.cell h1 (by simp)
                          have q2 := T1.frozen (p := ⟨sp, 1, none⟩) b0 (by simp) f0
                          have HT1 := Lib.hid T1
                          have HLL := Lib.hid hL
                          clear T1 hL hb hl hlow) | fail)
    refine wp_loop_rounds 1 ?_
    rw [rounds_succ]
    go_wp2_with fail
    go_ret
    exact HFIN.out L (.slice none 0 0) w1 HLL.out (World.ownsRow_nil _ _ _ _) HT1.out
  · have HL := Lib.hid (led_row H hroots)
    have b0 := H.head.lt
    have f0 := H.head.frozen 1
    clear H
    go_enter Try.func22, Try.ntmps22
    go_wp2_with (first | (go_at_call 29; (with_reducible refine HL.out.mono ?_); rintro e w1 ⟨bL, L, rfl, hb, hl, hL, T1, hlow⟩
                          have q1 := T1.cell h1 (by simp)
                          have HT1 := Lib.hid T1
                          have HLL := Lib.hid hL
                          have HBL := Lib.hid hb
                          have HLN := Lib.hid hl
                          clear T1 hL hb hl) | fail)
    have R0 : SColRel w hs bl L bL (.slice none 0 0) (.int .i64 0) (.int .i64 0) w1 := ⟨0, by omega, rfl, rfl, World.ownsRow_nil _ _ _ _, HT1.out, HBL.out⟩
    have HR0 := Lib.hid R0
    have HNE : Hid (hs.length = bl.length) := hlen
    clear R0
    generalize hn : bl.length = n at *
    have HN := Lib.hid hn
    clear hn hlen
    go_loopw [6, 7, 20] (fun v m i wr => SColRel w hs bl L bL v m i wr) (fun _ _ i _ => n - (intOf i).toNat)
    case atStart => exact HR0.out
    case round =>
      obtain ⟨k, hk, rfl, rfl, hown, hT, hblk⟩ := hrel
      have HOWN := Lib.hid hown
      have HT := Lib.hid hT
      have HB := Lib.hid hblk
      have hnn := HN.out
      have hne := HNE.out
      by_cases hlt : k < n
      · obtain ⟨g', cap', gk, ck, ee, _, c0, c1, hsl, c2, _, hg, _⟩ := HH.out.at k (by omega)
        simp only [Value.slice.injEq, Option.some.injEq, Addr.mk.injEq, and_true] at ee
        obtain ⟨rfl, -, rfl⟩ := ee
        have hmk := HH.out.le k (by omega)
        have d0 := hT.cell c0 (by simp)
        have d1 := hT.cell c1 (by simp)
        have d2 := hT.cell c2 (by simp)
        have dl : wr.cell? ⟨bL, k, none⟩ = some (.bool (boolAt L k)) := by
          have := HLN.out
          rw [hblk.cell, bools_get _ _ (by omega)]
        have hbl := hblk.lt
        have hg1 : g < wr.heap.size := Nat.lt_of_lt_of_le hg hT.size
        have hgone := goneTo_le (boolAt L) bl HH.out.small k (by omega)
        have hgone2 : goneTo (boolAt L) (blkAt bl) k ≤ 4000 * 301 := Nat.le_trans hgone (Nat.mul_le_mul_right _ (by omega))
        have hkl := (keepTo_sub (boolAt L) hs k (by omega)).length_le
        have hkl2 : (keepTo (boolAt L) (hdrAt hs) k).length ≤ k := by rw [List.length_take] at hkl; omega
        have HDR : Hid (hdrAt hs k = (((blkAt bl k).at_ : Int), (blkAt bl k).shape, .slice (some ⟨gk, 0, none⟩) (blkAt bl k).cells.length ck)) := by
          have h1 := HH.out.tell.at k (by omega)
          show _ = _
          rw [← hsl, ← h1.1, ← h1.2.1]
        have hB1 : w.heap.size ≤ wr.heap.size := hT.size
        have hn4 : n ≤ 4000 := by omega
        clear hown hT hblk c0 c1 c2 hgone hkl hnn hne hsl
        cases hf : boolAt L k with
        | true =>
          rw [hf] at dl
          have HF := Lib.hid hf
          have hmx : (keepTo (boolAt L) (hdrAt hs) k).length + 1 ≤ maxLen := by unfold maxLen; omega
          have hby : ((keepTo (boolAt L) (hdrAt hs) k).length + 1) * 40 ≤ 140737488355328 := by omega
          have REL : ∀ v2 w2 o1 o2, w2.ownsRow w.heap.size 60 3 v2 ((keepTo (boolAt L) (hdrAt hs) k).length + 1) (hdrs (keepTo (boolAt L) (hdrAt hs) k) ++ [.int .i64 ((blkAt bl k).at_ : Nat), .int .i64 (blkAt bl k).shape, .slice (some ⟨gk, 0, none⟩) (blkAt bl k).cells.length ck]) →
              ((wr.alloc o1).alloc o2).grownBy w2 u6.ownBlock → SColRel w hs bl L bL v2 (.int .i64 (goneTo (boolAt L) (blkAt bl) k : Nat)) (.int .i64 ((k : Int) + 1)) w2 := by
            intro v2 w2 o1 o2 hown2 hgrow
            have hnn := HN.out
            have e : keepTo (boolAt L) (hdrAt hs) (k + 1) = keepTo (boolAt L) (hdrAt hs) k ++ [hdrAt hs k] := by simp [keepTo, hf]
            have T2 : Touch u6.ownBlock.toList wr w2 := (((Touch.refl _ wr).alloc o1).alloc o2).grown hgrow (by intro j hj _; simp [hj])
            refine ⟨k + 1, by omega, by go_num, by simp [goneTo, hf], ?_, ?_, ?_⟩
            · rw [e, List.length_append, hdrs_append, HDR.out]; exact hown2
            · refine HT.out.comp T2 (by simp) ?_
              intro x hx hl
              have := (HOWN.out.lt x (by simpa using hx)).1
              omega
            · refine HB.out.touch T2 ?_
              have := ownsRow_neBlk HOWN.out HB.out (by decide)
              simpa using this
          have HREL := Lib.hid REL
          clear hf REL
          generalize blkAt bl k = B at *
          obtain ⟨Ba, Bs, Bc⟩ := B
          simp only at *
          generalize Bc.length = m at *
          generalize goneTo (boolAt L) (blkAt bl) k = q at *
          generalize (keepTo (boolAt L) (hdrAt hs) k).length = l at *
          generalize hdrs (keepTo (boolAt L) (hdrAt hs) k) = X at *
          obtain ⟨hi, hz0, hz1, hz2⟩ := HI.out
          have hone := hdr_one (Ba : Int) Bs (some ⟨gk, 0, none⟩) m ck
          go_wp2_with (first
            | (at_builtin; refine wpList_append_own _ rfl _ _ 41 rfl w.heap.size 60 i0 _ 3 40 Try.underlying41 hi hz0 hz1 hz2 rfl (by decide) _ l X rfl ((HOWN.out.alloc _).alloc _) ⟨wr.heap.size + 1, 0, none⟩ 1 1 [.int .i64 (Ba : Nat), .int .i64 Bs, .slice (some ⟨gk, 0, none⟩) m ck] rfl rfl (news_second _ _ _ _) hone hmx hby (Nat.le_trans hB1 (by rw [alloc_size, alloc_size]; omega)) ?_
               intro v2 w2 hown2 hgrow _)
            | fail)
          go_roundw
          case rel => exact HREL.out _ _ _ _ hown2 hgrow
          case measure => simp [intOf] <;> omega
        | false =>
          rw [hf] at dl
          have HF := Lib.hid hf
          have REL : SColRel w hs bl L bL u6 (.int .i64 ((goneTo (boolAt L) (blkAt bl) k + ((blkAt bl k).cells.length + 1) : Nat) : Int)) (.int .i64 ((k : Int) + 1)) (wr.alloc (.cells #[.int .i64 ((blkAt bl k).at_ : Nat), .int .i64 (blkAt bl k).shape, .slice (some ⟨gk, 0, none⟩) (blkAt bl k).cells.length ck] 60)) := by
            have hnn := HN.out
            refine ⟨k + 1, by omega, by go_num, by simp [goneTo, hf], ?_, HT.out.alloc _, HB.out.alloc _⟩
            have e : keepTo (boolAt L) (hdrAt hs) (k + 1) = keepTo (boolAt L) (hdrAt hs) k := by simp [keepTo, hf]
            rw [e]; exact HOWN.out.alloc _
          have HREL := Lib.hid REL
          clear hf REL
          generalize blkAt bl k = B at *
          obtain ⟨Ba, Bs, Bc⟩ := B
          simp only at *
          generalize Bc.length = m at *
          generalize goneTo (boolAt L) (blkAt bl) k = q at *
          go_wp2_with fail
          go_roundw
          case rel =>
            have := HREL.out
            rw [show ((q + (m + 1) : Nat) : Int) = (q : Int) + (1 + (m : Int)) from by omega] at this
            exact this
          case measure => simp [intOf] <;> omega
      · have q1 := hT.cell h1 (by simp)
        rw [hne] at q1
        have q2 := hT.frozen (p := ⟨sp, 1, none⟩) b0 (by simp) f0
        have q3 : sp < wr.heap.size := Nat.lt_of_lt_of_le b0 hT.size
        obtain rfl : k = n := by omega
        clear hown hT hblk hnn hne
        rcases HOWN.out.2 with ⟨rfl, _⟩ | ⟨g2, c2, _, rfl, _⟩
        · go_wp2_with fail
          go_ret
          exact HFIN.out L _ wr HLL.out HOWN.out HT.out
        · go_wp2_with fail
          go_ret
          exact HFIN.out L _ wr HLL.out HOWN.out HT.out
end Go.Proofs.Ytpalndoklifkiaa
