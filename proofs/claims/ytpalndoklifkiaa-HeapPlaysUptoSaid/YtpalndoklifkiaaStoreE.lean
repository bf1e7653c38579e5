/-
  The walks of the document's heap, fifth part: Alloc.
-/
import Derived.Test.YtpalndoklifkiaaStoreD
import Derived.Laws.AppendOwnNone
namespace Go.Proofs.Ytpalndoklifkiaa
open Go.RowKit

/-- Behind the k-th gap's begin, and its end. -/
def frOf (bl : List BlkM) : Nat → Nat
  | 0 => 0
  | k + 1 => (blkAt bl k).at_ + 1 + (blkAt bl k).cells.length
def toOf (room : Nat) (bl : List BlkM) (k : Nat) : Nat := if k < bl.length then (blkAt bl k).at_ else room
/-- The first gap that has room for n cells and a head. -/
def sfit (room : Nat) (bl : List BlkM) (n : Nat) : Option Nat := (List.range (bl.length + 1)).find? fun k => decide (frOf bl k + n < toOf room bl k)

theorem sfit_some {room : Nat} {bl : List BlkM} {n k : Nat} (hk : k ≤ bl.length) (h : frOf bl k + n < toOf room bl k) (hj : ∀ j, j < k → ¬ frOf bl j + n < toOf room bl j) : sfit room bl n = some k := by
  unfold sfit
  rw [List.find?_range_eq_some]
  refine ⟨by simpa using h, by simp; omega, fun j hjk => by simpa using hj j hjk⟩
theorem sfit_none {room : Nat} {bl : List BlkM} {n : Nat} (hj : ∀ j, j < bl.length + 1 → ¬ frOf bl j + n < toOf room bl j) : sfit room bl n = none := by
  unfold sfit
  rw [List.find?_range_eq_none]
  intro j hjk
  simpa using hj j hjk

theorem blocksIn.app {w : World} {base : Nat} : ∀ {h1 h2 : List Hdr} {b1 b2 : List BlkM}, blocksIn w base h1 b1 → blocksIn w base h2 b2 → blocksIn w base (h1 ++ h2) (b1 ++ b2)
  | [], _, [], _, _, k => k
  | _ :: _, _, _ :: _, _, h, k => ⟨h.1, blocksIn.app h.2 k⟩
theorem blocksIn.take {w : World} {base : Nat} : ∀ {hs : List Hdr} {bl : List BlkM} (k : Nat), blocksIn w base hs bl → blocksIn w base (hs.take k) (bl.take k)
  | [], [], _, _ => by simp; trivial
  | _ :: _, _ :: _, 0, _ => trivial
  | _ :: _, _ :: _, k + 1, h => ⟨h.1, blocksIn.take k h.2⟩
theorem blocksIn.drop {w : World} {base : Nat} : ∀ {hs : List Hdr} {bl : List BlkM} (k : Nat), blocksIn w base hs bl → blocksIn w base (hs.drop k) (bl.drop k)
  | [], [], _, _ => by simp; trivial
  | _ :: _, _ :: _, 0, h => h
  | _ :: _, _ :: _, k + 1, h => blocksIn.drop k h.2
theorem blocksIn.base {w : World} {base base' : Nat} (hb : base' ≤ base) : ∀ {hs : List Hdr} {bl : List BlkM}, blocksIn w base hs bl → blocksIn w base' hs bl
  | [], [], _ => trivial
  | _ :: _, _ :: _, h => ⟨⟨h.1.1, h.1.2.1, ownsRow_base h.1.2.2 hb⟩, blocksIn.base hb h.2⟩
theorem hdrs_take (hs : List Hdr) (k : Nat) : (hdrs hs).take (k * 3) = hdrs (hs.take k) := by
  induction hs generalizing k with
  | nil => simp
  | cons c cs ih => cases k with
    | zero => simp
    | succ k => simp only [hdrs_cons, show (k + 1) * 3 = k * 3 + 1 + 1 + 1 from by omega, List.take_succ_cons, ih]
theorem hdrs_drop (hs : List Hdr) (k : Nat) : (hdrs hs).drop (k * 3) = hdrs (hs.drop k) := by
  induction hs generalizing k with
  | nil => simp
  | cons c cs ih => cases k with
    | zero => simp
    | succ k => simp only [hdrs_cons, show (k + 1) * 3 = k * 3 + 1 + 1 + 1 from by omega, List.drop_succ_cons, ih]
theorem hdrs_oneCell {w : World} {base : Nat} : ∀ {hs : List Hdr} {bl : List BlkM}, blocksIn w base hs bl → ∀ u ∈ hdrs hs, u.oneCell' = true
  | [], [], _, u, hu => by simp at hu
  | h :: hs, _ :: _, k, u, hu => by
    simp only [hdrs_cons, List.mem_cons] at hu
    rcases hu with rfl | rfl | rfl | hu
    · rfl
    · rfl
    · rcases k.1.2.2.2 with ⟨e, _⟩ | ⟨_, _, _, e, _⟩ <;> (rw [e]; rfl)
    · exact hdrs_oneCell k.2 u hu

/-- The blocks with one more put in at k. -/
def putIn {α : Type} (l : List α) (k : Nat) (x : α) : List α := l.take k ++ [x] ++ l.drop k

theorem SRep.grow {w wr : World} {sp room k n : Nat} {shape : Int} {sv v3 : Value} {hs : List Hdr} {bl : List BlkM} (H : SRep w sp room sv hs bl) (hn : n ≤ 300) (hk : k ≤ hs.length) (hfew : hs.length + 1 ≤ 4000) (fr : Nat)
    (hT : Touch [] w wr) (hnew : wr.ownsRow w.heap.size 36 2 (.slice (some ⟨w.heap.size, 0, none⟩) n n) n (pairs (List.replicate n (0, 0))))
    (hown : wr.ownsRow (w.heap.size + 1) 60 3 v3 (putIn hs k ((fr : Int), shape, .slice (some ⟨w.heap.size, 0, none⟩) n n)).length (hdrs (putIn hs k ((fr : Int), shape, .slice (some ⟨w.heap.size, 0, none⟩) n n)))) :
    ∃ hs', SRep (wr.setCell ⟨sp, 1, none⟩ v3) sp room v3 hs' (putIn bl k ⟨fr, shape, List.replicate n (0, 0)⟩) ∧ Touch (sfoot sp sv hs) w (wr.setCell ⟨sp, 1, none⟩ v3) ∧
      (∀ x, x ∈ sfoot sp v3 hs' → x ∈ sfoot sp sv hs ∨ w.heap.size ≤ x) := by
  have HW := H.touch (F := []) hT (by simp)
  have hlt := hown.lt
  have hsplt := H.head.lt
  have hlen := H.tell.length
  have T1 : Touch [sp] wr (wr.setCell ⟨sp, 1, none⟩ v3) := (Touch.refl _ _).setCell (by simp) _
  have hrows : ∀ h, h ∈ hs → h.2.2.ownBlock ≠ some sp := by
    intro h hh
    obtain ⟨j, hj, rfl⟩ := List.mem_iff_getElem.1 hh
    have hbk := (H.tell.at j hj).2.2
    rw [hdrAt_get _ _ hj] at hbk
    exact ownsRow_neBlk hbk H.head (by decide)
  have hold : ∀ h, h ∈ hs → ∀ b, h.2.2.ownBlock = some b → b < w.heap.size := by
    intro h hh b hb
    obtain ⟨j, hj, rfl⟩ := List.mem_iff_getElem.1 hh
    have hbk := (H.tell.at j hj).2.2
    rw [hdrAt_get _ _ hj] at hbk
    exact (hbk.lt b hb).2
  refine ⟨putIn hs k ((fr : Int), shape, .slice (some ⟨w.heap.size, 0, none⟩) n n), ⟨HW.head.set 1 v3, ?_, ?_, ?_, ?_, ?_, ?_⟩, hT.comp T1 (by simp) (by simp [sfoot]), ?_⟩
  · exact ownsRow_base (ownsRow_touch hown T1 (fun q hq => by have := (hlt q hq).1; simp; omega)) (Nat.zero_le _)
  · refine blocksIn.touch (F := [sp]) T1 (blocksIn.app (blocksIn.app (HW.tell.take k) ⟨⟨rfl, rfl, ?_⟩, trivial⟩) (HW.tell.drop k)) ?_
    · simp only [List.length_replicate]; exact ownsRow_base hnew (Nat.zero_le _)
    · intro h hh q hq
      simp only [putIn, List.mem_append, List.mem_singleton] at hh
      simp only [List.mem_singleton]
      rintro rfl
      rcases hh with (hh | rfl) | hh
      · exact hrows h (List.mem_of_mem_take hh) hq
      · simp only [Value.ownBlock, Option.some.injEq] at hq; omega
      · exact hrows h (List.mem_of_mem_drop hh) hq
  · intro h hh
    simp only [putIn, List.mem_append, List.mem_singleton] at hh
    rcases hh with (hh | rfl) | hh
    · exact H.full h (List.mem_of_mem_take hh)
    · simp
    · exact H.full h (List.mem_of_mem_drop hh)
  · have hnd := H.apart
    rw [← List.take_append_drop k hs, List.filterMap_append, List.nodup_append] at hnd
    obtain ⟨n1, n2, n3⟩ := hnd
    simp only [putIn, List.filterMap_append, List.filterMap_cons, List.filterMap_nil, Value.ownBlock]
    rw [List.append_assoc, List.nodup_append]
    refine ⟨n1, ?_, ?_⟩
    · simp only [List.singleton_append, List.nodup_cons]
      refine ⟨?_, n2⟩
      intro hm
      obtain ⟨h, hh, hb⟩ := List.mem_filterMap.1 hm
      have := hold h (List.mem_of_mem_drop hh) _ hb
      omega
    · intro a ha b hb
      simp only [List.singleton_append, List.mem_cons] at hb
      rcases hb with rfl | hb
      · obtain ⟨h, hh, hb⟩ := List.mem_filterMap.1 ha
        have := hold h (List.mem_of_mem_take hh) _ hb
        omega
      · exact n3 a ha b hb
  · simp [putIn]; omega
  · intro b hb
    simp only [putIn, List.mem_append, List.mem_singleton] at hb
    rcases hb with (hb | rfl) | hb
    · exact H.small b (List.mem_of_mem_take hb)
    · simpa using hn
    · exact H.small b (List.mem_of_mem_drop hb)
  · intro x hx
    simp only [sfoot, List.mem_cons, List.mem_append, List.mem_filterMap] at hx ⊢
    rcases hx with rfl | hx | ⟨h, hh, hb⟩
    · exact .inl (.inl rfl)
    · have := (hlt x (by simpa using hx)).1
      exact .inr (by omega)
    · simp only [putIn, List.mem_append, List.mem_singleton] at hh
      rcases hh with (hh | rfl) | hh
      · exact .inl (.inr (.inr ⟨h, List.mem_of_mem_take hh, hb⟩))
      · simp only [Value.ownBlock, Option.some.injEq] at hb; exact .inr (by omega)
      · exact .inl (.inr (.inr ⟨h, List.mem_of_mem_drop hh, hb⟩))

theorem salloc_nil (shape n : Int) (w : World) : Calls Try.prog 14 #[.pointer none, .int .i64 shape, .int .i64 n] w fun e w' => e = .returned (.tuple #[.int .i64 0, .int .i64 17]) ∧ w = w' := by
  go_enter Try.func14, Try.ntmps14
  go_wp2_with fail
  go_ret2
  exact ⟨rfl, rfl⟩

set_option maxHeartbeats 400000 in
theorem salloc_kind (sp : Nat) (shape n : Int) (w : World) (hs : shape < 1 ∨ 4 < shape) : Calls Try.prog 14 #[.pointer (some ⟨sp, 0, none⟩), .int .i64 shape, .int .i64 n] w fun e w' => e = .returned (.tuple #[.int .i64 0, .int .i64 13]) ∧ w = w' := by
  rcases hs with hs | hs
  · go_enter Try.func14, Try.ntmps14
    go_wp2_with fail
    go_ret2
    exact ⟨rfl, rfl⟩
  · have hs' : ¬ shape < 1 := by omega
    go_enter Try.func14, Try.ntmps14
    go_wp2_with fail
    go_ret2
    exact ⟨rfl, rfl⟩

set_option maxHeartbeats 400000 in
theorem salloc_range (sp : Nat) (shape n : Int) (w : World) (h1 : 1 ≤ shape) (h2 : shape ≤ 4) (hs : n < 0 ∨ 300 < n) : Calls Try.prog 14 #[.pointer (some ⟨sp, 0, none⟩), .int .i64 shape, .int .i64 n] w fun e w' => e = .returned (.tuple #[.int .i64 0, .int .i64 14]) ∧ w = w' := by
  rcases hs with hs | hs
  · go_enter Try.func14, Try.ntmps14
    go_wp2_with fail
    go_ret2
    exact ⟨rfl, rfl⟩
  · have hs' : ¬ n < 0 := by omega
    go_enter Try.func14, Try.ntmps14
    go_wp2_with fail
    go_ret2
    exact ⟨rfl, rfl⟩

/-- What the document's Alloc leaves. -/
def SAllocPost (w : World) (sp room : Nat) (sv : Value) (hs : List Hdr) (bl : List BlkM) (shape : Int) (n : Nat) (e : Ending) (w' : World) : Prop :=
  match sfit room bl n with
  | none => e = .returned (.tuple #[.int .i64 0, .int .i64 15]) ∧ w = w'
  | some k => ∃ sv' hs', e = .returned (.tuple #[.int .i64 (frOf bl k : Nat), .int .i64 0]) ∧ SRep w' sp room sv' hs' (putIn bl k ⟨frOf bl k, shape, List.replicate n (0, 0)⟩) ∧ Touch (sfoot sp sv hs) w w' ∧
      (∀ x, x ∈ sfoot sp sv' hs' → x ∈ sfoot sp sv hs ∨ w.heap.size ≤ x)

theorem makeN (n : Nat) (hn : n ≤ 300) (W : World) : (Instr.makeSlice 37 (.int .i64 n) (.int .i64 n)).run Try.prog W = .ok (.slice (some ⟨W.heap.size, 0, none⟩) n n) (W.alloc (.cells (pairs (List.replicate n (0, 0))).toArray 36)) := by
  obtain ⟨ic, hic, hc0, hc1, hc2⟩ := info_parts info_cell
  have := run_make (P := Try.prog) W 37 36 ic _ Try.underlying37 hic hc0 .i64 .i64 n n (by omega) (by omega) (by rw [hc2]; omega) (by omega)
  rw [this, hc1]
  simp only [Int.toNat_natCast, Value.cells, made_pairs]
theorem made_owns (W : World) (n : Nat) (hn : n ≤ 300) : (W.alloc (.cells (pairs (List.replicate n (0, 0))).toArray 36)).ownsRow W.heap.size 36 2 (.slice (some ⟨W.heap.size, 0, none⟩) n n) n (pairs (List.replicate n (0, 0))) := by
  have := World.ownsRow_lit (base := W.heap.size) (e := 36) (size := 2) W (pairs (List.replicate n (0, 0))).toArray n (Nat.le_refl _) (by unfold maxLen; omega) (by simp)
  simpa using this

theorem salloc_chain {w Wb w1 w2 w3 : World} {v1 v2 : Value} {o : Obj} {e1 e2 n1 n2 s1 s2 n : Nat} {x1 x2 xs : List Value} (T0 : Touch [] w Wb) (gr1 : Wb.grownBy w1 none) (own1 : w1.ownsRow (w.heap.size + 1) e1 s1 v1 n1 x1) (gr2 : (w1.alloc o).grownBy w2 v1.ownBlock)
    (own2 : w2.ownsRow (w.heap.size + 1) e2 s2 v2 n2 x2) (gr3 : w2.grownBy w3 v2.ownBlock) (h0 : Wb.ownsRow w.heap.size 36 2 (.slice (some ⟨w.heap.size, 0, none⟩) n n) n xs) :
    Touch [] w w3 ∧ w3.ownsRow w.heap.size 36 2 (.slice (some ⟨w.heap.size, 0, none⟩) n n) n xs := by
  have T1 := T0.grown gr1 (by simp)
  have T2 := (T1.alloc o).grown gr2 (fun k hk hl => by have := (own1.lt k hk).1; omega)
  have T3 := T2.grown gr3 (fun k hk hl => by have := (own2.lt k hk).1; omega)
  refine ⟨T3, (((h0.kept gr1 (.inr (by simp [Value.ownBlock]))).alloc o).kept gr2 (.inr ?_)).kept gr3 (.inr ?_)⟩
  · intro e; have := (own1.lt w.heap.size e.symm).1; omega
  · intro e; have := (own2.lt w.heap.size e.symm).1; omega

theorem salloc_end {w w3 : World} {sp room k n : Nat} {shape : Int} {sv v3 : Value} {hs : List Hdr} {bl : List BlkM} (H : SRep w sp room sv hs bl) (hn : n ≤ 300) (hk : k ≤ hs.length) (hfew : sfit room bl n ≠ none → hs.length + 1 ≤ 4000) (hfit : sfit room bl n = some k)
    (hT : Touch [] w w3) (hnew : w3.ownsRow w.heap.size 36 2 (.slice (some ⟨w.heap.size, 0, none⟩) n n) n (pairs (List.replicate n (0, 0))))
    (hown : w3.ownsRow (w.heap.size + 1) 60 3 v3 (k + 1 + (hs.length - k)) (hdrs (hs.take k) ++ [.int .i64 (frOf bl k : Nat), .int .i64 shape, .slice (some ⟨w.heap.size, 0, none⟩) n n] ++ hdrs (hs.drop k))) :
    SAllocPost w sp room sv hs bl shape n (.returned (.tuple #[.int .i64 (frOf bl k : Nat), .int .i64 0])) (w3.setCell ⟨sp, 1, none⟩ v3) := by
  unfold SAllocPost
  rw [hfit]
  have e1 : (putIn hs k ((frOf bl k : Int), shape, .slice (some ⟨w.heap.size, 0, none⟩) n n)).length = k + 1 + (hs.length - k) := by simp [putIn]; omega
  have e2 : hdrs (putIn hs k ((frOf bl k : Int), shape, .slice (some ⟨w.heap.size, 0, none⟩) n n)) = hdrs (hs.take k) ++ [.int .i64 (frOf bl k : Nat), .int .i64 shape, .slice (some ⟨w.heap.size, 0, none⟩) n n] ++ hdrs (hs.drop k) := by
    simp only [putIn, hdrs_append]; rfl
  obtain ⟨hs', r1, r2, r3⟩ := H.grow (shape := shape) hn hk (hfew (by rw [hfit]; simp)) (frOf bl k) hT hnew (by rw [e1, e2]; exact hown)
  exact ⟨v3, hs', rfl, r1, r2, r3⟩

set_option maxRecDepth 100000 in
set_option maxHeartbeats 2000000 in
theorem salloc_row {w : World} {sp room g cap : Nat} {hs : List Hdr} {bl : List BlkM} (H : SRep w sp room (.slice (some ⟨g, 0, none⟩) hs.length cap) hs bl) (hroom : room ≤ 4000) (hat : ∀ b, b ∈ bl → b.at_ ≤ 4000)
    (shape : Int) (n : Nat) (hs1 : 1 ≤ shape) (hs2 : shape ≤ 4) (hn : n ≤ 300) (hfew : sfit room bl n ≠ none → hs.length + 1 ≤ 4000) :
    Calls Try.prog 14 #[.pointer (some ⟨sp, 0, none⟩), .int .i64 shape, .int .i64 n] w (SAllocPost w sp room (.slice (some ⟨g, 0, none⟩) hs.length cap) hs bl shape n) := by
  have h0 := H.h0
  have h1 := H.h1
  have hmk := makeN n hn
  have HH := Lib.hid H
  have HAT := Lib.hid hat
  have hlen := H.tell.length
  have h4k := H.few
  have HFEW := Lib.hid hfew
  obtain ⟨m, hm⟩ : ∃ m, hs.length = m := ⟨_, rfl⟩
  rw [hm] at h1 h4k
  have HM := Lib.hid hm
  have HBL : Hid (bl.length = m) := by show _ = _; omega
  have hcap : m ≤ cap := by
    rcases H.row.2 with ⟨hv, _⟩ | ⟨g', cap', cur, hv, _, _, hn, _⟩
    · simp at hv
    · simp only [Value.slice.injEq] at hv; rw [hv.2.2]; omega
  clear H hat hlen hfew hm
  go_enter Try.func14, Try.ntmps14
  go_wp2_with fail
  go_loop [8, 9] (fun fr i => ∃ k : Nat, k ≤ m + 1 ∧ i = .int .i64 k ∧ (k ≤ m → fr = .int .i64 (frOf bl k : Nat)) ∧ Hid (∀ j, j < k → ¬ frOf bl j + n < toOf room bl j)) (fun _ i => m + 1 - (intOf i).toNat)
  case atStart => exact ⟨0, by omega, rfl, fun _ => rfl, by intro j hj; omega⟩
  case round =>
    obtain ⟨k, hk, rfl, hfr, HJ⟩ := hrel
    by_cases hlt : k ≤ m
    · have hfr' := hfr hlt
      subst hfr'
      clear hfr
      obtain ⟨i0, hi, hz0, hz1, hz2⟩ := info_parts info_blk
      have hFb : frOf bl k ≤ 4301 := by
        have hlen := HM.out; have hbl := HBL.out
        cases k with
        | zero => simp [frOf]
        | succ k =>
          have h1 := HAT.out (blkAt bl k) (by rw [blkAt_get _ _ (by omega)]; exact List.getElem_mem _)
          have h2 := HH.out.le k (by omega)
          simp only [frOf]; omega
      have hTb : toOf room bl k ≤ 4000 := by
        unfold toOf
        split
        · rename_i h; exact HAT.out (blkAt bl k) (by rw [blkAt_get _ _ h]; exact List.getElem_mem _)
        · exact hroom
      have HNEXT : Hid (∀ q, ¬ q → (q ↔ frOf bl k + n < toOf room bl k) → ∀ j, j < k + 1 → ¬ frOf bl j + n < toOf room bl j) := by
        intro q hq hqq j hj
        by_cases hjk : j = k
        · subst hjk; exact fun h => hq (hqq.2 h)
        · exact HJ.out j (by omega)
      have HFIT : Hid (frOf bl k + n < toOf room bl k → sfit room bl n = some k) := by
        intro h
        exact sfit_some (by have := HBL.out; omega) h HJ.out
      by_cases hfits : frOf bl k + n < toOf room bl k
      · have HSF := Lib.hid (HFIT.out hfits)
        have HRow := HH.out.row
        have hglt : g < w.heap.size := (HRow.lt g rfl).2
        have HX1 : Hid (lies w ⟨g, 0, none⟩ (hdrs (hs.take k))) := by
          intro j u hu
          have := HRow.cells (g := g) rfl j u
          refine this ?_
          rw [← hdrs_take, List.getElem?_take] at hu
          split at hu
          · exact hu
          · simp at hu
        have HA3 : Hid (lies w (if cap = k then ⟨g, 0, none⟩ else ⟨g, k * 3, none⟩) (hdrs (hs.drop k))) := by
          intro j u hu
          rw [← hdrs_drop, List.getElem?_drop] at hu
          have := HRow.cells (g := g) rfl (k * 3 + j) u hu
          rw [addr_add] at this
          split
          · rename_i hc
            have hh := (List.getElem?_eq_some_iff.1 hu).1
            rw [hdrs_length] at hh
            have := HM.out
            omega
          · rw [addr_add]; simpa using this
        have HX1l : Hid ((hdrs (hs.take k)).length = k * 3) := by show _ = _; rw [hdrs_length, List.length_take]; have := HM.out; omega
        have HX3l : Hid ((hdrs (hs.drop k)).length = (m - k) * 3) := by show _ = _; rw [hdrs_length, List.length_drop]; have := HM.out; omega
        have HX1o : Hid (∀ u ∈ hdrs (hs.take k), u.oneCell' = true) := hdrs_oneCell (HH.out.tell.take k)
        have HX3o : Hid (∀ u ∈ hdrs (hs.drop k), u.oneCell' = true) := hdrs_oneCell (HH.out.tell.drop k)
        have HEND : Hid (∀ v3 w3, Touch [] w w3 → w3.ownsRow w.heap.size 36 2 (.slice (some ⟨w.heap.size, 0, none⟩) n n) n (pairs (List.replicate n (0, 0))) →
            w3.ownsRow (w.heap.size + 1) 60 3 v3 (k + 1 + (m - k)) (hdrs (hs.take k) ++ [.int .i64 (frOf bl k : Nat), .int .i64 shape, .slice (some ⟨w.heap.size, 0, none⟩) n n] ++ hdrs (hs.drop k)) →
            SAllocPost w sp room (.slice (some ⟨g, 0, none⟩) hs.length cap) hs bl shape n (.returned (.tuple #[.int .i64 (frOf bl k : Nat), .int .i64 0])) (w3.setCell ⟨sp, 1, none⟩ v3)) := by
          intro v3 w3 a1 a2 a3
          have hm := HM.out
          rw [← hm] at a3
          exact salloc_end HH.out hn (by omega) HFEW.out HSF.out a1 a2 a3
        generalize hX1 : hdrs (hs.take k) = X1 at *
        generalize hX3 : hdrs (hs.drop k) = X3 at *
        have hone := hdr_one (frOf bl k : Int) shape (some ⟨w.heap.size, 0, none⟩) n n
        have hb0 := HH.out.head.lt
        have f0 := HH.out.head.frozen 1
        have HMADE := Lib.hid (made_owns w n hn)
        have k1 : 0 + k ≤ maxLen := by unfold maxLen; omega
        have k2 : (0 + k) * 40 ≤ 140737488355328 := by omega
        have k3 : k + 1 ≤ maxLen := by unfold maxLen; omega
        have k4 : (k + 1) * 40 ≤ 140737488355328 := by omega
        have k5 : k + 1 + (m - k) ≤ maxLen := by unfold maxLen; omega
        have k6 : (k + 1 + (m - k)) * 40 ≤ 140737488355328 := by omega
        clear HRow hX1 hX3 HNEXT HFIT HJ
        have hc0 : ¬ (k : Int) > (cap : Int) := by omega
        by_cases hkm : k < m
        · rw [if_neg (show ¬ cap = k by omega)] at HA3
          obtain ⟨g', cap', gk, ck, ee, _, c0, _, _, c2, _, hg, _⟩ := HH.out.at k (by have := HM.out; omega)
          simp only [Value.slice.injEq, Option.some.injEq, Addr.mk.injEq, and_true] at ee
          obtain ⟨rfl, -, rfl⟩ := ee
          have hT : toOf room bl k = (blkAt bl k).at_ := by unfold toOf; rw [if_pos (by have := HBL.out; omega)]
          rw [hT] at hfits hTb
          generalize blkAt bl k = B at *
          obtain ⟨Ba, Bs, Bc⟩ := B
          simp only at *
          generalize frOf bl k = F at *
          clear hT
          go_wp2_with (first
            | (at_builtin; refine wpList_append_own _ rfl (.tmp 68) (.tmp 74) 41 rfl (w.heap.size + 1) 60 i0 _ 3 40 Try.underlying41 hi hz0 hz1 hz2 rfl (by decide) (.slice none 0 0) 0 [] rfl (World.ownsRow_nil _ _ _ _) ⟨g, 0, none⟩ k cap X1 rfl HX1l.out ?d1 HX1o.out k1 k2 ?d2 ?_)
            | fail)
          case d1 => intro j u hu; have h := HX1.out j u hu; rw [addr_add] at h; simpa using h
          intro v1 w1 own1 gr1 _
          have T1 := (((Touch.refl [] w).alloc _).alloc _).grown gr1 (by simp [Value.ownBlock])
          have s1 : w.heap.size + 1 < w1.heap.size := by have h := gr1.size; simp at h; omega
          have a0 := T1.cell h1 (by simp)
          have a1 : w1.cell? ⟨w.heap.size + 1, 0, none⟩ = some (.int .i64 (F : Nat)) := gr1.cell (by simp) (by simp [Value.ownBlock])
          have a2 : w1.cell? ⟨w.heap.size + 1, 1, none⟩ = some (.int .i64 shape) := gr1.cell (by simp) (by simp [Value.ownBlock])
          have a3 : w1.cell? ⟨w.heap.size + 1, 2, none⟩ = some (.slice (some ⟨w.heap.size, 0, none⟩) n n) := gr1.cell (by simp) (by simp [Value.ownBlock])
          have OWN1 := Lib.hid own1
          have GR1 := Lib.hid gr1
          have HT1 := Lib.hid T1
          have hbase2 : ∀ o : Obj, w.heap.size + 1 ≤ (w1.alloc o).heap.size := fun o => by rw [alloc_size]; omega
          have HB2 := Lib.hid hbase2
          clear own1 gr1 T1 hbase2
          go_wp2_with (first
            | (at_builtin; refine wpList_append_own _ rfl (.tmp 76) (.tmp 78) 41 rfl (w.heap.size + 1) 60 i0 _ 3 40 Try.underlying41 hi hz0 hz1 hz2 rfl (by decide) v1 k X1 rfl (OWN1.out.alloc _) ⟨w1.heap.size, 0, none⟩ 1 1 [.int .i64 (F : Nat), .int .i64 shape, .slice (some ⟨w.heap.size, 0, none⟩) n n] rfl rfl (World.news_of_block (heap_alloc_new w1 _)) hone k3 k4 (HB2.out _) ?_)
            | fail)
          intro v2 w2 own2 gr2 _
          have T2 := (HT1.out.alloc _).grown gr2 (fun j hj hl => by have h := (OWN1.out.lt j hj).1; omega)
          have s2 : w.heap.size + 1 < w2.heap.size := by have h := gr2.size; simp at h; omega
          have b0 := T2.cell h1 (by simp)
          have hl3 := HA3.out.touch T2 (by simp)
          have OWN2 := Lib.hid own2
          have GR2 := Lib.hid gr2
          have HT2 := Lib.hid T2
          have HL3 := Lib.hid hl3
          clear own2 gr2 T2 hl3 a0 a1 a2 a3
          go_wp2_with (first
            | (at_builtin; refine wpList_append_own _ rfl (.tmp 81) (.tmp 87) 41 rfl (w.heap.size + 1) 60 i0 _ 3 40 Try.underlying41 hi hz0 hz1 hz2 rfl (by decide) v2 (k + 1) _ rfl OWN2.out ⟨g, k * 3, none⟩ (m - k) (cap - k) X3 rfl HX3l.out HL3.out HX3o.out k5 k6 (Nat.le_of_lt s2) ?_)
            | fail)
          intro v3 w3 own3 gr3 _
          have T3 := HT2.out.grown gr3 (fun j hj hl => by have h := (OWN2.out.lt j hj).1; omega)
          obtain ⟨g3, c3, rfl⟩ := ownsRow_form own3 (by rintro rfl; rcases own3.2 with ⟨_, h⟩ | ⟨_, _, _, h, _⟩ <;> first | omega | simp at h)
          have e0 := T3.cell h1 (by simp)
          have e1 := T3.frozen (p := ⟨sp, 1, none⟩) hb0 (by simp) f0
          have e2 : sp < w3.heap.size := Nat.lt_of_lt_of_le hb0 T3.size
          have CH := salloc_chain (((Touch.refl [] w).alloc _).alloc _) GR1.out OWN1.out GR2.out OWN2.out gr3 (HMADE.out.alloc _)
          have HCH := Lib.hid (HEND.out _ _ CH.1 CH.2 (by simpa using own3))
          clear own3 gr3 T3 CH hi hz0 hz1 hz2
          go_wp2_with fail
          go_ret2
          exact HCH.out
        · obtain rfl : k = m := by omega
          have hk0 : k - k = 0 := by omega
          rw [hk0] at HX3l HEND k5 k6
          have hX3z : X3 = [] := by have := HX3l.out; exact List.eq_nil_of_length_eq_zero (by omega)
          subst hX3z
          obtain ⟨A3, hA3⟩ : ∃ A : Addr, (if cap = k then ⟨g, 0, none⟩ else ⟨g, k * 3, none⟩) = A := ⟨_, rfl⟩
          have hA3s : (if cap = k then some (⟨g, 0, none⟩ : Addr) else some ⟨g, k * 3, none⟩) = some A3 := by rw [← hA3]; split <;> rfl
          rw [hA3] at HA3
          clear hA3 hk0
          have hT : toOf room bl k = room := by unfold toOf; rw [if_neg (by have := HBL.out; omega)]
          rw [hT] at hfits hTb
          generalize frOf bl k = F at *
          clear hT
          go_wp2_with (first
            | (at_builtin; refine wpList_append_own _ rfl (.tmp 68) (.tmp 74) 41 rfl (w.heap.size + 1) 60 i0 _ 3 40 Try.underlying41 hi hz0 hz1 hz2 rfl (by decide) (.slice none 0 0) 0 [] rfl (World.ownsRow_nil _ _ _ _) ⟨g, 0, none⟩ k cap X1 rfl HX1l.out ?d3 HX1o.out k1 k2 ?d4 ?_)
            | fail)
          case d3 => intro j u hu; have h := HX1.out j u hu; rw [addr_add] at h; simpa using h
          intro v1 w1 own1 gr1 _
          have T1 := (((Touch.refl [] w).alloc _).alloc _).grown gr1 (by simp [Value.ownBlock])
          have s1 : w.heap.size + 1 < w1.heap.size := by have h := gr1.size; simp at h; omega
          have a0 := T1.cell h1 (by simp)
          have a1 : w1.cell? ⟨w.heap.size + 1, 0, none⟩ = some (.int .i64 (F : Nat)) := gr1.cell (by simp) (by simp [Value.ownBlock])
          have a2 : w1.cell? ⟨w.heap.size + 1, 1, none⟩ = some (.int .i64 shape) := gr1.cell (by simp) (by simp [Value.ownBlock])
          have a3 : w1.cell? ⟨w.heap.size + 1, 2, none⟩ = some (.slice (some ⟨w.heap.size, 0, none⟩) n n) := gr1.cell (by simp) (by simp [Value.ownBlock])
          have OWN1 := Lib.hid own1
          have GR1 := Lib.hid gr1
          have HT1 := Lib.hid T1
          have hbase2 : ∀ o : Obj, w.heap.size + 1 ≤ (w1.alloc o).heap.size := fun o => by rw [alloc_size]; omega
          have HB2 := Lib.hid hbase2
          clear own1 gr1 T1 hbase2
          go_wp2_with (first
            | (at_builtin; refine wpList_append_own _ rfl (.tmp 76) (.tmp 78) 41 rfl (w.heap.size + 1) 60 i0 _ 3 40 Try.underlying41 hi hz0 hz1 hz2 rfl (by decide) v1 k X1 rfl (OWN1.out.alloc _) ⟨w1.heap.size, 0, none⟩ 1 1 [.int .i64 (F : Nat), .int .i64 shape, .slice (some ⟨w.heap.size, 0, none⟩) n n] rfl rfl (World.news_of_block (heap_alloc_new w1 _)) hone k3 k4 (HB2.out _) ?_)
            | fail)
          intro v2 w2 own2 gr2 _
          have T2 := (HT1.out.alloc _).grown gr2 (fun j hj hl => by have h := (OWN1.out.lt j hj).1; omega)
          have s2 : w.heap.size + 1 < w2.heap.size := by have h := gr2.size; simp at h; omega
          have b0 := T2.cell h1 (by simp)
          have hl3 := HA3.out.touch T2 (by simp)
          have OWN2 := Lib.hid own2
          have GR2 := Lib.hid gr2
          have HT2 := Lib.hid T2
          have HL3 := Lib.hid hl3
          clear own2 gr2 T2 hl3 a0 a1 a2 a3
          go_wp2_with (first
            | (at_builtin; refine wpList_append_own _ rfl (.tmp 81) (.tmp 87) 41 rfl (w.heap.size + 1) 60 i0 _ 3 40 Try.underlying41 hi hz0 hz1 hz2 rfl (by decide) v2 (k + 1) _ rfl OWN2.out A3 0 (cap - k) [] rfl HX3l.out HL3.out HX3o.out k5 k6 (Nat.le_of_lt s2) ?_)
            | fail)
          intro v3 w3 own3 gr3 _
          have T3 := HT2.out.grown gr3 (fun j hj hl => by have h := (OWN2.out.lt j hj).1; omega)
          obtain ⟨g3, c3, rfl⟩ := ownsRow_form own3 (by rintro rfl; rcases own3.2 with ⟨_, h⟩ | ⟨_, _, _, h, _⟩ <;> first | omega | simp at h)
          have e0 := T3.cell h1 (by simp)
          have e1 := T3.frozen (p := ⟨sp, 1, none⟩) hb0 (by simp) f0
          have e2 : sp < w3.heap.size := Nat.lt_of_lt_of_le hb0 T3.size
          have CH := salloc_chain (((Touch.refl [] w).alloc _).alloc _) GR1.out OWN1.out GR2.out OWN2.out gr3 (HMADE.out.alloc _)
          have HCH := Lib.hid (HEND.out _ _ CH.1 CH.2 (by simpa using own3))
          clear own3 gr3 T3 CH hi hz0 hz1 hz2
          go_wp2_with fail
          go_ret2
          exact HCH.out
      · by_cases hkm : k < m
        · obtain ⟨g', cap', gk, ck, ee, _, c0, _, _, c2, _, hg, _⟩ := HH.out.at k (by have := HM.out; omega)
          simp only [Value.slice.injEq, Option.some.injEq, Addr.mk.injEq, and_true] at ee
          obtain ⟨rfl, -, rfl⟩ := ee
          have hT : toOf room bl k = (blkAt bl k).at_ := by unfold toOf; rw [if_pos (by have := HBL.out; omega)]
          have hle := HH.out.le k (by have := HM.out; omega)
          have HF1 : Hid (frOf bl (k + 1) = (blkAt bl k).at_ + 1 + (blkAt bl k).cells.length) := rfl
          have HN := Lib.hid (HNEXT.out _ hfits Iff.rfl)
          rw [hT] at hfits hTb
          generalize blkAt bl k = B at *
          obtain ⟨Ba, Bs, Bc⟩ := B
          simp only at *
          generalize Bc.length = q at *
          generalize frOf bl k = F at *
          clear hT hi hz0 hz1 hz2 hmk
          go_wp2_with fail
          go_round
          case rel => exact ⟨k + 1, by omega, by go_num, fun _ => by rw [HF1.out]; congr 1 <;> omega, HN.out⟩
          case measure => simp [intOf] <;> omega
        · have hT : toOf room bl k = room := by unfold toOf; rw [if_neg (by have := HBL.out; omega)]
          have HN := Lib.hid (HNEXT.out _ hfits Iff.rfl)
          rw [hT] at hfits hTb
          generalize frOf bl k = F at *
          clear hT hi hz0 hz1 hz2 hmk
          go_wp2_with fail
          go_round
          case rel => exact ⟨k + 1, by omega, by go_num, fun h => by omega, HN.out⟩
          case measure => simp [intOf] <;> omega
    · go_wp2_with fail
      go_ret2
      have hn := HBL.out
      have : sfit room bl n = none := sfit_none (fun j hj => HJ.out j (by omega))
      unfold SAllocPost
      rw [this]
      exact ⟨rfl, rfl⟩

set_option maxRecDepth 100000 in
set_option maxHeartbeats 2000000 in
theorem salloc_empty {w : World} {sp room : Nat} (H : SRep w sp room (.slice none 0 0) [] []) (hroom : room ≤ 4000)
    (shape : Int) (n : Nat) (hs1 : 1 ≤ shape) (hs2 : shape ≤ 4) (hn : n ≤ 300) :
    Calls Try.prog 14 #[.pointer (some ⟨sp, 0, none⟩), .int .i64 shape, .int .i64 n] w (SAllocPost w sp room (.slice none 0 0) [] [] shape n) := by
  have h0 := H.h0
  have h1 := H.h1
  have hmk := makeN n hn
  have HH := Lib.hid H
  by_cases hfits : n < room
  · have HEND : Hid (∀ v3 w3, Touch [] w w3 → w3.ownsRow w.heap.size 36 2 (.slice (some ⟨w.heap.size, 0, none⟩) n n) n (pairs (List.replicate n (0, 0))) →
        w3.ownsRow (w.heap.size + 1) 60 3 v3 1 [.int .i64 0, .int .i64 shape, .slice (some ⟨w.heap.size, 0, none⟩) n n] →
        SAllocPost w sp room (.slice none 0 0) [] [] shape n (.returned (.tuple #[.int .i64 0, .int .i64 0])) (w3.setCell ⟨sp, 1, none⟩ v3)) := by
      intro v3 w3 a1 a2 a3
      exact salloc_end (k := 0) H hn (Nat.le_refl _) (fun _ => by simp) (sfit_some (Nat.le_refl _) (by simpa [frOf, toOf] using hfits) (by intro j hj; omega)) a1 a2 a3
    obtain ⟨i0, hi, hz0, hz1, hz2⟩ := info_parts info_blk
    have hone := hdr_one 0 shape (some ⟨w.heap.size, 0, none⟩) n n
    have hb0 := H.head.lt
    have f0 := H.head.frozen 1
    have HMADE := Lib.hid (made_owns w n hn)
    have hnn1 : ∀ W, (Builtin.append_ #[41, 41] 41 #[.slice none 0 0, .slice none 0 0]).run Try.prog W = .ok (.slice none 0 0) W := fun W => run_append_owned_none W 0 41 41 60 i0 3 Try.underlying41 hi _ 0 [] (World.ownsRow_nil _ _ _ _)
    clear H
    go_enter Try.func14, Try.ntmps14
    go_wp2_with fail
    refine wp_loop_rounds 1 ?_
    rw [rounds_succ]
    go_wp2_with (first
      | (at_builtin; refine wpList_append_own _ rfl (.tmp 76) (.tmp 78) 41 rfl (w.heap.size + 1) 60 i0 _ 3 40 Try.underlying41 hi hz0 hz1 hz2 rfl (by decide) (.slice none 0 0) 0 [] rfl (World.ownsRow_nil _ _ _ _) ⟨w.heap.size + 1 + 1, 0, none⟩ 1 1 [.int .i64 0, .int .i64 shape, .slice (some ⟨w.heap.size, 0, none⟩) n n] rfl rfl ?d5 hone (by unfold maxLen; omega) (by omega) ?d6 ?_)
      | fail)
    case d5 =>
      intro j u hu
      have h := news_second (w.alloc (.cells (pairs (List.replicate n (0, 0))).toArray 36)) (.cells #[.int .i64 0, .int .i64 shape, .slice (some ⟨w.heap.size, 0, none⟩) n n] 60) [.int .i64 0, .int .i64 shape, .slice (some ⟨w.heap.size, 0, none⟩) n n] 60 j u hu
      rw [alloc_size, addr_add] at h
      rw [addr_add]
      simpa using h
    case d6 => rw [alloc_size, alloc_size, alloc_size]; omega
    intro v2 w2 own2 gr2 ne2
    have T0 : Touch [] w (((w.alloc (.cells (pairs (List.replicate n (0, 0))).toArray 36)).alloc (.cells #[.int .i64 0, .int .i64 shape, .slice (some ⟨w.heap.size, 0, none⟩) n n] 60)).alloc (.cells #[.int .i64 0, .int .i64 shape, .slice (some ⟨w.heap.size, 0, none⟩) n n] 60)) := (by repeat (first | exact Touch.refl _ _ | exact Touch.nil (by assumption) | assumption | refine Touch.drew ?_ | refine Touch.drewN ?_ _ | refine Touch.alloc ?_ _ | (refine Touch.setNew _ ?_ ?_; rotate_left; focus (simp; done)) | (refine Touch.setCell ?_ ?_ _; rotate_left; focus (simp; done)) | (refine Touch.setRow ?_ ?_ _; rotate_left; focus (simp; done))))
    have T2 := T0.grown gr2 (by simp [Value.ownBlock])
    have hm := ((HMADE.out.alloc (.cells #[.int .i64 0, .int .i64 shape, .slice (some ⟨w.heap.size, 0, none⟩) n n] 60)).alloc (.cells #[.int .i64 0, .int .i64 shape, .slice (some ⟨w.heap.size, 0, none⟩) n n] 60)).kept gr2 (.inr (by simp [Value.ownBlock]))
    obtain ⟨g3, c3, rfl⟩ := ownsRow_form own2 (by rintro rfl; rcases own2.2 with ⟨_, h⟩ | ⟨_, _, _, h, _⟩ <;> simp at h)
    have e0 := T2.cell h1 (by simp)
    have e1 := T2.frozen (p := ⟨sp, 1, none⟩) hb0 (by simp) f0
    have e2 : sp < w2.heap.size := Nat.lt_of_lt_of_le hb0 T2.size
    have HCH := Lib.hid (HEND.out _ _ T2 hm own2)
    have OWN2 := Lib.hid own2
    clear own2 gr2 T2 hm T0 ne2 hnn1
    go_wp2_with (first
      | (at_builtin; refine wpList_append_own_none rfl (.tmp 81) (.tmp 87) 41 rfl (w.heap.size + 1) 60 i0 3 Try.underlying41 hi _ 1 _ rfl OWN2.out rfl ?_)
      | fail)
    go_ret2
    exact HCH.out
  · have HN : Hid (sfit room [] n = none) := sfit_none (fun j hj => by
      have : j = 0 := by simp at hj; omega
      subst this; simpa [frOf, toOf] using hfits)
    clear H
    go_enter Try.func14, Try.ntmps14
    go_wp2_with fail
    refine wp_loop_rounds 2 ?_
    rw [rounds_succ]
    go_wp2_with fail
    rw [rounds_succ]
    go_wp2_with fail
    go_ret2
    unfold SAllocPost
    rw [HN.out]
    exact ⟨rfl, rfl⟩
end Go.Proofs.Ytpalndoklifkiaa
