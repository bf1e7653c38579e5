/-
  The walks of the document's heap, third part: Led.
-/
import Derived.Test.YtpalndoklifkiaaStoreP
namespace Go.Proofs.Ytpalndoklifkiaa
open Go.RowKit

def bools (L : List Bool) : List Value := L.map .bool
theorem bools_get (L : List Bool) (k : Nat) (h : k < L.length) : (bools L)[k]? = some (.bool (boolAt L k)) := by rw [boolAt_get _ _ h]; simp [bools, h]
theorem bools_set (L : List Bool) (k : Nat) : (bools L).set k (.bool true) = bools (L.set k true) := by simp [bools, List.map_set]
theorem info_bool : (Try.prog.info? 4).map (fun i => (i.zero, i.size, i.bytes)) = some (some (.bool false), 1, 1) := by kernel_rfl
theorem made_bools (n : Nat) : madeCells #[.bool false] n = (bools (List.replicate n false)).toArray := by
  apply Array.ext'
  rw [toList_madeCells_one]
  simp [bools]

/-- A contract of 'names' for one list of cells, in every world behind w. -/
def NamesOf (w : World) (v : Value) (l : List Pair) : Prop :=
  ∀ w', Touch [] w w' → ∀ a, Calls Try.prog 30 #[v, .int .i64 a] w' fun e w'' => e = .returned (.bool (namesB l a)) ∧ Touch [] w' w''

theorem namesOf_nil (w : World) : NamesOf w (.slice none 0 0) [] := fun w' _ a => (names_nil a w').mono fun _ _ ⟨h1, h2⟩ => ⟨h1, h2 ▸ Touch.refl _ _⟩
theorem namesOf_lies {w : World} {b o m c : Nat} {l : List Pair} (h : lies w ⟨b, o, none⟩ (pairs l)) (hm : l.length = m) (hmax : m ≤ 4611686018427387904) : NamesOf w (.slice (some ⟨b, o, none⟩) m c) l :=
  fun w' ht a => names_row (h.touch ht (by simp)) hm hmax a
theorem row_lies {w : World} {base g n c : Nat} {cs : List Pair} (h : w.ownsRow base 36 2 (.slice (some ⟨g, 0, none⟩) n c) n (pairs cs)) : lies w ⟨g, 0, none⟩ (pairs cs) := fun j u hu => h.cells (g := g) rfl j u hu

def LedPost (w : World) (bl : List BlkM) (roots : List Pair) (e : Ending) (w' : World) : Prop :=
  ∃ bL L, e = .returned (.slice (some ⟨bL, 0, none⟩) bl.length bl.length) ∧ blk w' bL (bools L) 4 ∧ L.length = bl.length ∧ (∀ i, boolAt L i = true ↔ SLed bl roots i) ∧ Touch [] w w' ∧ w.heap.size ≤ bL

def LedOut (w : World) (bl : List BlkM) (roots : List Pair) (bL gk : Nat) (again : Value) (wr : World) : Prop :=
  ∃ L ag, again = .bool ag ∧ L.length = bl.length ∧ blk wr bL (bools L) 4 ∧ sound bl roots L ∧ (ag = false → closedTo bl roots L bl.length) ∧ Touch [] w wr ∧ gk = falses L * 2 + (if ag then 1 else 0)
def LedIn (w : World) (bl : List BlkM) (roots : List Pair) (bL f0 : Nat) (again i : Value) (wr : World) : Prop :=
  ∃ L ag k, again = .bool ag ∧ k ≤ bl.length ∧ i = .int .i64 (k : Nat) ∧ L.length = bl.length ∧ blk wr bL (bools L) 4 ∧ sound bl roots L ∧ (ag = true → falses L < f0) ∧ (ag = false → falses L = f0 ∧ closedTo bl roots L k) ∧ Touch [] w wr
def LedHit (w : World) (bl : List BlkM) (roots : List Pair) (bL : Nat) (L : List Bool) (i : Nat) (hit k : Value) (wr : World) : Prop :=
  ∃ j, j ≤ bl.length ∧ k = .int .i64 (j : Nat) ∧ hit = .bool (hitTo bl roots L i j) ∧ blk wr bL (bools L) 4 ∧ Touch [] w wr

set_option maxHeartbeats 1000000 in
theorem led_row {w : World} {sp room g cap : Nat} {hs : List Hdr} {bl : List BlkM} {roots : List Pair} {rv : Value} (H : SRep w sp room (.slice (some ⟨g, 0, none⟩) hs.length cap) hs bl) (hroots : NamesOf w rv roots) :
    Calls Try.prog 29 #[.pointer (some ⟨sp, 0, none⟩), rv] w (LedPost w bl roots) := by
  obtain ⟨ic, hic, hc0, hc1, hc2⟩ := info_parts info_bool
  have hn := H.tell.length
  have hfew := H.few
  rw [hn] at hfew
  have m1 : ∀ W, (Instr.makeSlice 71 (.int .i64 (bl.length : Nat)) (.int .i64 (bl.length : Nat))).run Try.prog W = .ok (.slice (some ⟨W.heap.size, 0, none⟩) bl.length bl.length) (W.alloc (.cells (bools (List.replicate bl.length false)).toArray 4)) := fun W => by
    have := run_make (P := Try.prog) W 71 4 ic _ Try.underlying71 hic hc0 .i64 .i64 bl.length bl.length (by omega) (by omega) (by rw [hc2]; omega) (by omega)
    rw [this, hc1]
    simp only [Int.toNat_natCast, Value.cells, Nat.mul_one, made_bools]
  have h1 := H.h1
  rw [hn] at h1
  have HH := Lib.hid H
  have HR := Lib.hid hroots
  have HL := Lib.hid hn
  obtain ⟨n, hnn⟩ : ∃ n, n = bl.length := ⟨_, rfl⟩
  rw [← hnn] at m1 h1 hfew
  have HN := Lib.hid hnn
  clear H hroots hn hic hc0 hc1 hc2 hnn
  go_enter Try.func29, Try.ntmps29
  go_wp2_with fail
  have R0 : LedOut w bl roots w.heap.size (falses (List.replicate n false) * 2 + 1) (.bool true) (w.alloc (.cells (bools (List.replicate n false)).toArray 4)) :=
    ⟨List.replicate n false, true, rfl, by simp [HN.out], blk.new _ _ _, by intro i hi; simp [boolAt, List.getD_eq_getElem?_getD, List.getElem?_replicate] at hi; split at hi <;> simp at hi, by simp, (Touch.refl _ _).alloc _, by simp⟩
  have HR0 := Lib.hid R0
  clear R0 m1
  go_loopg [7] (falses (List.replicate n false) * 2 + 1) (fun gk again wr => LedOut w bl roots w.heap.size gk again wr)
  case atStart => exact HR0.out
  case round =>
    obtain ⟨L, ag, rfl, hLl, hblk, hsound, hclosed, hT, hgk⟩ := hrel
    have HB := Lib.hid hblk
    have HS := Lib.hid hsound
    have HT := Lib.hid hT
    have HG := Lib.hid hgk
    have HLl := Lib.hid hLl
    cases ag with
    | false =>
      have HC := Lib.hid (hclosed rfl)
      clear hLl hblk hsound hclosed hT hgk
      go_wp2_with fail
      go_ret
      exact ⟨w.heap.size, L, by rw [← HN.out]; rfl, HB.out, HLl.out, closed_done HS.out HC.out, HT.out, Nat.le_refl _⟩
    | true =>
      have g1 := hT.cell h1 (by simp)
      clear hLl hblk hsound hclosed hT hgk
      obtain ⟨wo, rfl⟩ : ∃ wo : World, wo = wr := ⟨_, rfl⟩
      go_wp2_with fail
      go_loopw [7, 23] (fun again i wr => LedIn w bl roots w.heap.size (falses L) again i wr) (fun _ i _ => n - (intOf i).toNat)
      case atStart => exact ⟨L, false, 0, rfl, by omega, rfl, HLl.out, HB.out, HS.out, by simp, fun _ => ⟨rfl, by intro i hi; omega⟩, HT.out⟩
      case round =>
        obtain ⟨L2, ag, k, rfl, hk, rfl, hl2, hb2, hs2, htrue, hfalse, hT2⟩ := hrel
        have HB2 := Lib.hid hb2
        have HS2 := Lib.hid hs2
        have HTR := Lib.hid htrue
        have HFA := Lib.hid hfalse
        have HT2 := Lib.hid hT2
        have HL2 := Lib.hid hl2
        have hkn : k ≤ n := by have := HN.out; omega
        by_cases hlt : k < n
        · have e1 := hT2.cell h1 (by simp)
          have e2 : wr.cell? ⟨w.heap.size, k, none⟩ = some (.bool (boolAt L2 k)) := by
            have := HN.out
            rw [hb2.cell, bools_get _ _ (by omega)]
          have f2 : wr.frozen? ⟨w.heap.size, k, none⟩ = false := hb2.frozen k
          have hbl := hb2.lt
          obtain ⟨g', cap', gk', ck, ee, _, c0, _, _, _, _, hg, _⟩ := HH.out.at k (by have := HN.out; have := HL.out; omega)
          simp only [Value.slice.injEq, Option.some.injEq, Addr.mk.injEq, and_true] at ee
          obtain ⟨rfl, -, rfl⟩ := ee
          have e3 := hT2.cell c0 (by simp)
          clear hb2 hs2 htrue hfalse hl2 c0 hk
          cases hbk : boolAt L2 k with
          | true =>
            rw [hbk] at e2
            have HBK := Lib.hid hbk
            clear hbk hT2 e1 e3 f2
            go_wp2_with fail
            go_roundw
            case rel =>
              have hn := HN.out
              refine ⟨L2, ag, k + 1, rfl, by omega, by go_num, HL2.out, HB2.out, HS2.out, HTR.out, fun ha => ⟨(HFA.out ha).1, ?_⟩, HT2.out⟩
              intro i hi
              by_cases hik : i = k
              · subst hik; exact .inl HBK.out
              · exact (HFA.out ha).2 i (by omega)
            case measure => simp [intOf] <;> omega
          | false =>
            rw [hbk] at e2
            have HBK := Lib.hid hbk
            have HRk := Lib.hid (HR.out wr hT2 ((blkAt bl k).at_ : Nat))
            clear hbk hT2
            go_wp2_with (first | (go_at_call 30; (with_reducible refine HRk.out.mono ?_); rintro e w1 ⟨rfl, T1⟩
                                  have q1 := (HT2.out.trans T1).cell h1 (by simp)
                                  have HT1 := Lib.hid T1
                                  clear T1) | fail)
            have R2 : LedHit w bl roots w.heap.size L2 k (.bool (namesB roots (blkAt bl k).at_)) (.int .i64 0) w1 :=
              ⟨0, by omega, rfl, rfl, HB2.out.touch HT1.out (by simp), HT2.out.trans HT1.out⟩
            have HR2 := Lib.hid R2
            clear R2
            obtain ⟨wo2, rfl⟩ : ∃ wo2 : World, wo2 = wr := ⟨_, rfl⟩
            go_loopw [9, 46] (fun hit j wr => LedHit w bl roots w.heap.size L2 k hit j wr) (fun _ i _ => n - (intOf i).toNat)
            case atStart => exact HR2.out
            case round =>
              obtain ⟨j, hj, rfl, rfl, hb3, hT3⟩ := hrel
              have HB3 := Lib.hid hb3
              have HT3 := Lib.hid hT3
              have hjn : j ≤ n := by have := HN.out; omega
              have p1 := hT3.cell h1 (by simp)
              by_cases hjlt : j < n
              · obtain ⟨g', cap', gj, cj, ee, _, _, _, _, c2, hrow, hg', hgj⟩ := HH.out.at j (by have := HN.out; have := HL.out; omega)
                simp only [Value.slice.injEq, Option.some.injEq, Addr.mk.injEq, and_true] at ee
                obtain ⟨rfl, -, rfl⟩ := ee
                obtain ⟨_, _, _, _, ee, _, d0, _⟩ := HH.out.at k (by have := HN.out; have := HL.out; omega)
                simp only [Value.slice.injEq, Option.some.injEq, Addr.mk.injEq, and_true] at ee
                obtain ⟨rfl, -, rfl⟩ := ee
                have hmj := HH.out.le j (by have := HN.out; have := HL.out; omega)
                have p2 := hT3.cell c2 (by simp)
                have p3 := hT3.cell d0 (by simp)
                have p4 : wr.cell? ⟨w.heap.size, j, none⟩ = some (.bool (boolAt L2 j)) := by
                  have h1 := HN.out; have h2 := HL2.out
                  rw [hb3.cell, bools_get _ _ (by omega)]
                have HNJ : Hid (NamesOf wr (.slice (some ⟨gj, 0, none⟩) (blkAt bl j).cells.length cj) (blkAt bl j).cells) := namesOf_lies ((row_lies hrow).touch hT3 (by simp)) rfl (by omega)
                have NEXT : Hid (∀ b w', hitTo bl roots L2 k (j + 1) = b → Touch [] wr w' → LedHit w bl roots w.heap.size L2 k (.bool b) (.int .i64 ((j : Int) + 1)) w') := by
                  intro b w' hb ht
                  have hn := HN.out
                  exact ⟨j + 1, by omega, by go_num, by rw [hb], HB3.out.touch ht (by simp), HT3.out.trans ht⟩
                clear hb3 hT3 c2 d0 hrow
                cases hh : hitTo bl roots L2 k j with
                | true =>
                  have HY := Lib.hid (NEXT.out true wr.drew (by simp [hitTo, hh]) ((Touch.refl _ _).drew))
                  have HY' : Hid (∀ q, LedHit w bl roots w.heap.size L2 k (.bool true) (.int .i64 ((j : Int) + 1)) (wr.drewN q)) := fun q => NEXT.out true _ (by simp [hitTo, hh]) ((Touch.refl _ _).drewN q)
                  clear hh
                  go_wp2_with fail
                  go_quiet (fail)
                  go_wp2
                  go_roundw
                  case rel => exact HY'.out _
                  case measure => simp [intOf] <;> omega
                | false =>
                  cases hbj : boolAt L2 j with
                  | false =>
                    rw [hbj] at p4
                    have HY' : Hid (∀ q, LedHit w bl roots w.heap.size L2 k (.bool false) (.int .i64 ((j : Int) + 1)) (wr.drewN q)) := fun q => NEXT.out false _ (by simp [hitTo, hh, hbj]) ((Touch.refl _ _).drewN q)
                    clear hh hbj
                    go_wp2_with fail
                    go_quiet (fail)
                    go_wp2
                    go_roundw
                    case rel => exact HY'.out _
                    case measure => simp [intOf] <;> omega
                  | true =>
                    rw [hbj] at p4
                    have HNK := Lib.hid (HNJ.out wr.drew ((Touch.refl _ _).drew) ((blkAt bl k).at_ : Nat))
                    have HY' : Hid (∀ w', Touch [] wr w' → LedHit w bl roots w.heap.size L2 k (.bool (namesB (blkAt bl j).cells (blkAt bl k).at_)) (.int .i64 ((j : Int) + 1)) w') := fun w' ht => NEXT.out _ _ (by simp [hitTo, hh, hbj]) ht
                    clear hh hbj
                    generalize hnb : namesB (blkAt bl j).cells (blkAt bl k).at_ = nb at *
                    have HNB := Lib.hid hnb
                    clear hnb
                    go_wp2_with fail
                    go_region_held3 (fun w' => w'.cell? ⟨sp, 1, none⟩ = some (.slice (some ⟨g, 0, none⟩) n cap) ∧ w'.cell? ⟨w.heap.size, j, none⟩ = some (.bool true) ∧ w'.cell? ⟨g, j * 3 + 2, none⟩ = some (.slice (some ⟨gj, 0, none⟩) (blkAt bl j).cells.length cj) ∧ w'.cell? ⟨g, k * 3, none⟩ = some (.int .i64 ((blkAt bl k).at_ : Nat)))
                      (first | (exact ⟨T4.cell p1 List.not_mem_nil, T4.cell p4 List.not_mem_nil, T4.cell p2 List.not_mem_nil, T4.cell p3 List.not_mem_nil⟩) | go_keep | fail)
                      (first | (go_at_call 30; (with_reducible refine HNK.out.mono ?_); rintro e w4 ⟨rfl, T4⟩) | fail)
                    go_wp2
                    go_roundw
                    case rel => exact HY'.out _ T4.undrew
                    case measure => simp [intOf] <;> omega
              · obtain rfl : j = n := by omega
                have HB4 := HB3
                have f3 : wr.frozen? ⟨w.heap.size, k, none⟩ = false := hb3.frozen k
                have p4 : wr.cell? ⟨w.heap.size, k, none⟩ = some (.bool (boolAt L2 k)) := by
                  have h1 := HN.out; have h2 := HL2.out
                  rw [hb3.cell, bools_get _ _ (by omega)]
                have p5 := hb3.lt
                have hn := HN.out
                cases hh : hitTo bl roots L2 k j with
                | true =>
                  have FIN : LedIn w bl roots w.heap.size (falses L) (.bool true) (.int .i64 ((k : Int) + 1)) (wr.setCell ⟨w.heap.size, k, none⟩ (.bool true)) := by
                    refine ⟨L2.set k true, true, k + 1, rfl, by omega, by go_num, by simpa using HL2.out, ?_, HS2.out.set k (by omega) HL2.out (by rw [← hn]; exact hh), fun _ => ?_, by simp, HT3.out.setNew _ (Nat.le_refl _)⟩
                    · rw [← bools_set]; exact HB3.out.set k _
                    · have h1 := falses_set L2 k (by have := HL2.out; omega) HBK.out
                      cases ag with
                      | true => have := HTR.out rfl; omega
                      | false => have := (HFA.out rfl).1; omega
                  have HFIN := Lib.hid FIN
                  clear hb3 hT3 hh FIN hn
                  go_wp2_with fail
                  go_roundw
                  case rel => exact HFIN.out
                  case measure => simp [intOf] <;> omega
                | false =>
                  have FIN : LedIn w bl roots w.heap.size (falses L) (.bool ag) (.int .i64 ((k : Int) + 1)) wr := by
                    refine ⟨L2, ag, k + 1, rfl, by omega, by go_num, HL2.out, HB3.out, HS2.out, HTR.out, fun ha => ⟨(HFA.out ha).1, ?_⟩, HT3.out⟩
                    intro i hi
                    by_cases hik : i = k
                    · subst hik; exact .inr (by rw [← hn]; exact hh)
                    · exact (HFA.out ha).2 i (by omega)
                  have HFIN := Lib.hid FIN
                  clear hb3 hT3 hh FIN hn
                  go_wp2_with fail
                  go_roundw
                  case rel => exact HFIN.out
                  case measure => simp [intOf] <;> omega
        · have hn := HN.out
          have FIN : LedOut w bl roots w.heap.size (falses L2 * 2 + (if ag then 1 else 0)) (.bool ag) wr := by
            obtain rfl : k = bl.length := by omega
            exact ⟨L2, ag, rfl, HL2.out, HB2.out, HS2.out, fun ha => (HFA.out ha).2, HT2.out, rfl⟩
          have HFIN := Lib.hid FIN
          have hlow : falses L2 * 2 + (if ag then 1 else 0) < gk := by
            have h1 := HG.out
            rw [if_pos trivial] at h1
            cases ag with
            | true => have := HTR.out rfl; simp; omega
            | false => have := (HFA.out rfl).1; simp; omega
          have HLOW := Lib.hid hlow
          clear FIN hlow hn hT2 hfalse htrue
          go_wp2_with fail
          go_roundg (falses L2 * 2 + (if ag then 1 else 0))
          case measure => exact HLOW.out
          case rel => exact HFIN.out
end Go.Proofs.Ytpalndoklifkiaa
