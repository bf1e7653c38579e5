/-
  The walks of the document's heap (panicroadref.Store), first part: its blocks in memory; Block, Look, Load, Put, Free.
-/
import Derived.Test.YtpalndoklifkiaaHeapF
namespace Go.Proofs.Ytpalndoklifkiaa
open Go.RowKit

/-- The i-th head. -/
def hdrAt (hs : List Hdr) (i : Nat) : Hdr := hs.getD i (0, 0, .slice none 0 0)
theorem hdrAt_get (hs : List Hdr) (i : Nat) (h : i < hs.length) : hdrAt hs i = hs[i]'h := by simp [hdrAt, List.getD_eq_getElem?_getD, List.getElem?_eq_getElem h]
theorem hdrs_0 (hs : List Hdr) (k : Nat) (h : k < hs.length) : (hdrs hs)[k * 3]? = some (.int .i64 (hdrAt hs k).1) := by
  rw [hdrAt_get _ _ h]
  induction hs generalizing k with
  | nil => simp at h
  | cons c cs ih => cases k with
    | zero => rfl
    | succ k => simp only [hdrs_cons, show (k + 1) * 3 = k * 3 + 1 + 1 + 1 from by omega, List.getElem?_cons_succ]; exact ih k (by simpa using h)
theorem hdrs_1 (hs : List Hdr) (k : Nat) (h : k < hs.length) : (hdrs hs)[k * 3 + 1]? = some (.int .i64 (hdrAt hs k).2.1) := by
  rw [hdrAt_get _ _ h]
  induction hs generalizing k with
  | nil => simp at h
  | cons c cs ih => cases k with
    | zero => rfl
    | succ k => simp only [hdrs_cons, show (k + 1) * 3 + 1 = (k * 3 + 1) + 1 + 1 + 1 from by omega, List.getElem?_cons_succ]; exact ih k (by simpa using h)
theorem hdrs_2 (hs : List Hdr) (k : Nat) (h : k < hs.length) : (hdrs hs)[k * 3 + 2]? = some (hdrAt hs k).2.2 := by
  rw [hdrAt_get _ _ h]
  induction hs generalizing k with
  | nil => simp at h
  | cons c cs ih => cases k with
    | zero => rfl
    | succ k => simp only [hdrs_cons, show (k + 1) * 3 + 2 = (k * 3 + 2) + 1 + 1 + 1 from by omega, List.getElem?_cons_succ]; exact ih k (by simpa using h)

/-- The document's heap in memory: its struct in block sp; sv: the slice of its blocks; hs: their heads. -/
structure SRep (w : World) (sp room : Nat) (sv : Value) (hs : List Hdr) (bl : List BlkM) : Prop where
  head : blk w sp [.int .i64 (room : Nat), sv] 44
  row : w.ownsRow 0 60 3 sv hs.length (hdrs hs)
  tell : blocksIn w 0 hs bl
  full : ∀ h, h ∈ hs → h.2.2 ≠ .slice none 0 0
  apart : (hs.filterMap fun h => h.2.2.ownBlock).Nodup
  few : hs.length ≤ 4000
  small : ∀ b, b ∈ bl → b.cells.length ≤ 300

/-- The blocks of memory that it takes. -/
def sfoot (sp : Nat) (sv : Value) (hs : List Hdr) : List Nat := sp :: (sv.ownBlock.toList ++ hs.filterMap fun h => h.2.2.ownBlock)

theorem SRep.touch {w w' : World} {sp room : Nat} {sv : Value} {hs : List Hdr} {bl : List BlkM} {F : List Nat} (H : SRep w sp room sv hs bl) (ht : Touch F w w') (hn : ∀ x, x ∈ sfoot sp sv hs → x ∉ F) : SRep w' sp room sv hs bl := by
  refine ⟨H.head.touch ht (hn _ (by simp [sfoot])), ownsRow_touch H.row ht (fun k hk => hn k (by simp [sfoot, hk])), H.tell.touch ht (fun h hh k hk => hn k ?_), H.full, H.apart, H.few, H.small⟩
  simp only [sfoot, List.mem_cons, List.mem_append, List.mem_filterMap]
  exact .inr (.inr ⟨h, hh, hk⟩)

/-- The first head that begins at a. -/
def idxOf (hs : List Hdr) (a : Int) : Option Nat := hs.findIdx? fun h => h.1 == a
def blkPtr (g : Nat) : Option Nat → Option Addr
  | some i => some ⟨g, i * 3, none⟩
  | none => none
theorem idxOf_none (hs : List Hdr) (a : Int) (h : ∀ j, j < hs.length → (hdrAt hs j).1 ≠ a) : idxOf hs a = none := by
  unfold idxOf
  rw [List.findIdx?_eq_none_iff]
  intro x hx
  obtain ⟨j, hj, rfl⟩ := List.mem_iff_getElem.1 hx
  have := h j hj
  rw [hdrAt_get _ _ hj] at this
  simpa using this
theorem idxOf_some (hs : List Hdr) (a : Int) (k : Nat) (hk : k < hs.length) (h : ∀ j, j < k → (hdrAt hs j).1 ≠ a) (he : (hdrAt hs k).1 = a) : idxOf hs a = some k := by
  unfold idxOf
  rw [List.findIdx?_eq_some_iff_getElem]
  refine ⟨hk, ?_, fun j hj => ?_⟩
  · rw [hdrAt_get _ _ hk] at he; simpa using he
  · have := h j hj
    rw [hdrAt_get _ _ (by omega)] at this
    simpa using this
theorem idxOf_lt {hs : List Hdr} {a : Int} {k : Nat} (h : idxOf hs a = some k) : k < hs.length := by
  unfold idxOf at h
  rw [List.findIdx?_eq_some_iff_getElem] at h
  exact h.1

theorem block_nil (a : Int) (w : World) : Calls Try.prog 26 #[.pointer none, .int .i64 a] w fun e w' => e = .returned (.pointer none) ∧ w = w' := by
  go_enter Try.func26, Try.ntmps26
  go_wp2_with fail
  go_ret
  exact ⟨rfl, rfl⟩

theorem block_empty (sp : Nat) (a : Int) (w : World) (h1 : w.cell? ⟨sp, 1, none⟩ = some (.slice none 0 0)) : Calls Try.prog 26 #[.pointer (some ⟨sp, 0, none⟩), .int .i64 a] w fun e w' => e = .returned (.pointer none) ∧ w = w' := by
  go_enter Try.func26, Try.ntmps26
  go_wp2_with fail
  refine wp_loop_rounds 1 ?_
  rw [rounds_succ]
  go_wp2_with fail
  go_ret
  exact ⟨rfl, rfl⟩

set_option maxHeartbeats 400000 in
theorem block_row {w : World} {sp g n cap : Nat} {hs : List Hdr} (h1 : w.cell? ⟨sp, 1, none⟩ = some (.slice (some ⟨g, 0, none⟩) n cap)) (hn : hs.length = n) (hmax : n ≤ 4000)
    (hc : ∀ k, k < n → w.cell? ⟨g, k * 3, none⟩ = some (.int .i64 (hdrAt hs k).1)) (a : Int) :
    Calls Try.prog 26 #[.pointer (some ⟨sp, 0, none⟩), .int .i64 a] w fun e w' => e = .returned (.pointer (blkPtr g (idxOf hs a))) ∧ w = w' := by
  have HC := Lib.hid hc
  have HN := Lib.hid hn
  clear hc hn
  go_enter Try.func26, Try.ntmps26
  go_wp2_with fail
  go_loop [13] (fun i => ∃ k : Nat, k ≤ n ∧ i = .int .i64 k ∧ Hid (∀ j, j < k → (hdrAt hs j).1 ≠ a)) (fun i => n - (intOf i).toNat)
  case atStart => exact ⟨0, by omega, rfl, by intro j hj; omega⟩
  case round =>
    obtain ⟨k, hk, rfl, HJ⟩ := hrel
    by_cases hlt : k < n
    · have c0 := HC.out k hlt
      by_cases he : (hdrAt hs k).1 = a
      · have hix := idxOf_some hs a k (by rw [HN.out]; exact hlt) HJ.out he
        have HIX := Lib.hid hix
        rw [he] at c0
        have hee : (a == a) = true := by simp
        clear he hix
        go_wp2_with fail
        go_ret
        exact ⟨by rw [HIX.out]; rfl, rfl⟩
      · have hee : ((hdrAt hs k).1 == a) = false := by simpa using he
        have HE := Lib.hid he
        clear he
        go_wp2_with fail
        go_round
        case rel =>
          refine ⟨k + 1, by omega, by go_num, ?_⟩
          intro j hj
          by_cases hjk : j = k
          · subst hjk; exact HE.out
          · exact HJ.out j (by omega)
        case measure => simp [intOf] <;> omega
    · go_wp2_with fail
      go_ret
      refine ⟨?_, rfl⟩
      rw [idxOf_none hs a (by intro j hj; exact HJ.out j (by have := HN.out; omega))]; rfl

instance : Inhabited BlkM := ⟨⟨0, 0, []⟩⟩
def blkAt (bl : List BlkM) (k : Nat) : BlkM := bl.getD k default
theorem blkAt_get (bl : List BlkM) (i : Nat) (h : i < bl.length) : blkAt bl i = bl[i]'h := by simp [blkAt, List.getD_eq_getElem?_getD, List.getElem?_eq_getElem h]
def bidx (bl : List BlkM) (a : Int) : Option Nat := bl.findIdx? fun b => (b.at_ : Int) == a

theorem blocksIn.at {w : World} {base : Nat} : ∀ {hs : List Hdr} {bl : List BlkM}, blocksIn w base hs bl → ∀ k, k < hs.length → blockIn w base (hdrAt hs k) (blkAt bl k)
  | [], [], _, k, hk => by simp at hk
  | h :: hs, b :: bs, H, k, hk => by
    cases k with
    | zero => exact H.1
    | succ k => exact blocksIn.at H.2 k (by simpa using hk)
theorem blocksIn.idx {w : World} {base : Nat} (a : Int) : ∀ {hs : List Hdr} {bl : List BlkM}, blocksIn w base hs bl → idxOf hs a = bidx bl a
  | [], [], _ => rfl
  | h :: hs, b :: bs, H => by
    have ih := blocksIn.idx a H.2
    unfold idxOf bidx at *
    rw [List.findIdx?_cons, List.findIdx?_cons, ih, H.1.1]

def gOf : Value → Nat
  | .slice (some a) _ _ => a.block
  | _ => 0

section
variable {w : World} {sp room : Nat} {sv : Value} {hs : List Hdr} {bl : List BlkM}
theorem SRep.form (H : SRep w sp room sv hs bl) : (sv = .slice none 0 0 ∧ hs = [] ∧ bl = []) ∨ ∃ g cap, sv = .slice (some ⟨g, 0, none⟩) hs.length cap := by
  rcases H.row.2 with ⟨h1, h2⟩ | ⟨g, cap, _, h1, _⟩
  · have : hs = [] := List.eq_nil_of_length_eq_zero h2
    subst this
    have := H.tell.length
    exact .inl ⟨h1, rfl, List.eq_nil_of_length_eq_zero (by simpa using this.symm)⟩
  · exact .inr ⟨g, cap, h1⟩
theorem SRep.h0 (H : SRep w sp room sv hs bl) : w.cell? ⟨sp, 0, none⟩ = some (.int .i64 (room : Nat)) := by rw [H.head.cell]; rfl
theorem SRep.h1 (H : SRep w sp room sv hs bl) : w.cell? ⟨sp, 1, none⟩ = some sv := by rw [H.head.cell]; rfl
theorem SRep.at (H : SRep w sp room sv hs bl) (k : Nat) (hk : k < hs.length) : ∃ g cap gk ck, sv = .slice (some ⟨g, 0, none⟩) hs.length cap ∧ hs.length ≤ cap ∧
    w.cell? ⟨g, k * 3, none⟩ = some (.int .i64 ((blkAt bl k).at_ : Nat)) ∧ w.cell? ⟨g, k * 3 + 1, none⟩ = some (.int .i64 (blkAt bl k).shape) ∧
    (hdrAt hs k).2.2 = .slice (some ⟨gk, 0, none⟩) (blkAt bl k).cells.length ck ∧ w.cell? ⟨g, k * 3 + 2, none⟩ = some (.slice (some ⟨gk, 0, none⟩) (blkAt bl k).cells.length ck) ∧
    w.ownsRow 0 36 2 (.slice (some ⟨gk, 0, none⟩) (blkAt bl k).cells.length ck) (blkAt bl k).cells.length (pairs (blkAt bl k).cells) ∧ g < w.heap.size ∧ gk < w.heap.size := by
  rcases H.form with ⟨_, h, _⟩ | ⟨g, cap, rfl⟩
  · subst h; simp at hk
  · obtain ⟨b1, b2, b3⟩ := H.tell.at k hk
    obtain ⟨gk, ck, hsl⟩ := ownsRow_form b3 (by have := H.full (hdrAt hs k); rw [hdrAt_get _ _ hk] at this ⊢; exact this (List.getElem_mem hk))
    have hcap : hs.length ≤ cap := by
      rcases H.row.2 with ⟨hv, _⟩ | ⟨g', cap', cur, hv, _, _, hn, _⟩
      · simp at hv
      · simp only [Value.slice.injEq] at hv; rw [hv.2.2]; exact hn
    refine ⟨g, cap, gk, ck, rfl, hcap, ?_, ?_, hsl, ?_, by rw [← hsl]; exact b3, (H.row.lt g rfl).2, ?_⟩
    · rw [H.row.cellAt _ (by omega), hdrs_0 _ _ hk, b1]
    · rw [H.row.cellAt _ (by omega), hdrs_1 _ _ hk, b2]
    · rw [H.row.cellAt _ (by omega), hdrs_2 _ _ hk, hsl]
    · rw [hsl] at b3; exact (b3.lt gk rfl).2

theorem SRep.le (H : SRep w sp room sv hs bl) (k : Nat) (hk : k < hs.length) : (blkAt bl k).cells.length ≤ 300 := by
  have := H.tell.length
  rw [blkAt_get _ _ (by omega)]
  exact H.small _ (List.getElem_mem _)

theorem block_any (H : SRep w sp room sv hs bl) (a : Int) (r : Option Nat) (hr : bidx bl a = r) :
    Calls Try.prog 26 #[.pointer (some ⟨sp, 0, none⟩), .int .i64 a] w fun e w' => e = .returned (.pointer (blkPtr (gOf sv) r)) ∧ w = w' := by
  have hi := H.tell.idx a
  rw [hr] at hi
  rcases H.form with ⟨rfl, rfl, rfl⟩ | ⟨g, cap, rfl⟩
  · have : r = none := by rw [← hi]; rfl
    subst this
    exact block_empty sp a w H.h1
  · have := block_row (hs := hs) H.h1 rfl H.few (fun k hk => by rw [H.row.cellAt _ (by omega), hdrs_0 _ _ hk]) a
    rw [hi] at this
    exact this
end

theorem bidx_lt {bl : List BlkM} {a : Int} {k : Nat} (h : bidx bl a = some k) : k < bl.length := by
  unfold bidx at h
  rw [List.findIdx?_eq_some_iff_getElem] at h
  exact h.1

/-- What the document's Look answers. -/
def slookOf (bl : List BlkM) (a : Int) : Int × Int × Int :=
  match bidx bl a with
  | some k => ((blkAt bl k).shape, (blkAt bl k).cells.length, 0)
  | none => (0, 0, 16)

set_option maxHeartbeats 400000 in
theorem slook_any {w : World} {sp room : Nat} {sv : Value} {hs : List Hdr} {bl : List BlkM} (H : SRep w sp room sv hs bl) (a : Int) :
    Calls Try.prog 20 #[.pointer (some ⟨sp, 0, none⟩), .int .i64 a] w fun e w' => e = .returned (.tuple #[.int .i64 (slookOf bl a).1, .int .i64 (slookOf bl a).2.1, .int .i64 (slookOf bl a).2.2]) ∧ Touch [] w w' := by
  cases hr : bidx bl a with
  | none =>
    have HB := Lib.hid (block_any H a none hr)
    have hx : slookOf bl a = (0, 0, 16) := by simp [slookOf, hr]
    rw [hx]
    clear hr hx H
    go_enter Try.func20, Try.ntmps20
    go_wp2_with (first | (go_at_call 26; (with_reducible refine HB.out.mono ?_); rintro e w' ⟨rfl, rfl⟩; unfold blkPtr) | fail)
    go_ret3
    exact ⟨rfl, Touch.refl _ _⟩
  | some k =>
    have HB := Lib.hid (block_any H a (some k) hr)
    have hx : slookOf bl a = ((blkAt bl k).shape, ((blkAt bl k).cells.length : Int), 0) := by simp [slookOf, hr]
    rw [hx]
    have hk : k < hs.length := by rw [H.tell.length]; exact bidx_lt hr
    obtain ⟨g, cap, gk, ck, rfl, _, c0, c1, _, c2, hrow, _⟩ := H.at k hk
    have hlen := hrow.1
    generalize blkAt bl k = B at *
    obtain ⟨Ba, Bs, Bc⟩ := B
    simp only at *
    clear hr hx H hrow hlen
    generalize Bc.length = m at *
    go_enter Try.func20, Try.ntmps20
    go_wp2_with (first | (go_at_call 26; (with_reducible refine HB.out.mono ?_); rintro e w' ⟨rfl, rfl⟩; unfold blkPtr gOf) | fail)
    go_quiet (fail)
    go_wp2
    go_ret3
    exact ⟨rfl, (Touch.refl _ _).drewN _⟩

/-- What the document's Load answers. -/
def sloadOf (bl : List BlkM) (a i : Int) : Pair × Int :=
  match bidx bl a with
  | some k => if 0 ≤ i ∧ i < (blkAt bl k).cells.length then (pairAt (blkAt bl k).cells i.toNat, 0) else ((0, 0), 14)
  | none => ((0, 0), 16)

theorem row_fst {w : World} {base g n c : Nat} {cs : List Pair} (h : w.ownsRow base 36 2 (.slice (some ⟨g, 0, none⟩) n c) n (pairs cs)) (k : Nat) (hk : k < n) : w.cell? ⟨g, k * 2, none⟩ = some (.int .i64 (pairAt cs k).1) := by
  have hl := h.1
  rw [pairs_length] at hl
  rw [h.cellAt _ (by omega), pairs_fst _ _ (by omega), pairAt_get _ _ (by omega)]
theorem row_snd {w : World} {base g n c : Nat} {cs : List Pair} (h : w.ownsRow base 36 2 (.slice (some ⟨g, 0, none⟩) n c) n (pairs cs)) (k : Nat) (hk : k < n) : w.cell? ⟨g, k * 2 + 1, none⟩ = some (.int .i64 (pairAt cs k).2) := by
  have hl := h.1
  rw [pairs_length] at hl
  rw [h.cellAt _ (by omega), pairs_snd _ _ (by omega), pairAt_get _ _ (by omega)]

set_option maxHeartbeats 400000 in
theorem sload_any {w : World} {sp room : Nat} {sv : Value} {hs : List Hdr} {bl : List BlkM} (H : SRep w sp room sv hs bl) (a i : Int) :
    Calls Try.prog 18 #[.pointer (some ⟨sp, 0, none⟩), .int .i64 a, .int .i64 i] w fun e w' => e = .returned (.tuple #[.agg #[.int .i64 (sloadOf bl a i).1.1, .int .i64 (sloadOf bl a i).1.2], .int .i64 (sloadOf bl a i).2]) ∧ Touch [] w w' := by
  have H' : SRep (w.alloc (.cells #[.int .i64 0, .int .i64 0] 36)) sp room sv hs bl := H.touch (F := []) ((Touch.refl _ _).alloc _) (by simp)
  cases hr : bidx bl a with
  | none =>
    have HB := Lib.hid (block_any H' a none hr)
    have hx : sloadOf bl a i = ((0, 0), 16) := by simp [sloadOf, hr]
    rw [hx]
    clear hr hx H H'
    go_enter Try.func18, Try.ntmps18
    go_wp2_with (first | (go_at_call 26; (with_reducible refine HB.out.mono ?_); rintro e w' ⟨rfl, rfl⟩; unfold blkPtr) | fail)
    exact bodyPost_ret (v := .tuple #[.agg #[.int .i64 0, .int .i64 0], .int .i64 16]) (by simp [results, Try.results18, go_sem]) rfl ⟨rfl, (by repeat (first | exact Touch.refl _ _ | exact Touch.nil (by assumption) | assumption | refine Touch.drew ?_ | refine Touch.drewN ?_ _ | refine Touch.alloc ?_ _ | (refine Touch.setNew _ ?_ ?_; rotate_left; focus (simp; done)) | (refine Touch.setCell ?_ ?_ _; rotate_left; focus (simp; done)) | (refine Touch.setRow ?_ ?_ _; rotate_left; focus (simp; done))))⟩
  | some k =>
    have HB := Lib.hid (block_any H' a (some k) hr)
    have hk : k < hs.length := by rw [H.tell.length]; exact bidx_lt hr
    obtain ⟨g, cap, gk, ck, rfl, _, _, _, _, c2, hrow, hg, hgk⟩ := H.at k hk
    have hmax := H.le k hk
    have hx : sloadOf bl a i = if 0 ≤ i ∧ i < (blkAt bl k).cells.length then (pairAt (blkAt bl k).cells i.toNat, 0) else ((0, 0), 14) := by simp [sloadOf, hr]
    rw [hx]
    generalize blkAt bl k = B at *
    obtain ⟨Ba, Bs, Bc⟩ := B
    simp only at *
    clear hr hx H H'
    by_cases hi0 : 0 ≤ i
    · obtain ⟨j, rfl⟩ := Int.eq_ofNat_of_zero_le hi0
      by_cases hj : j < Bc.length
      · have d1 := row_fst hrow j hj
        have d2 := row_snd hrow j hj
        have hxx : (if 0 ≤ (j : Int) ∧ (j : Int) < (Bc.length : Int) then (pairAt Bc (j : Int).toNat, (0 : Int)) else ((0, 0), 14)) = (pairAt Bc j, 0) := by rw [if_pos (by omega)]; simp
        rw [hxx]
        clear hrow hxx
        generalize Bc.length = m at *
        generalize pairAt Bc j = P at *
        obtain ⟨P1, P2⟩ := P
        simp only at *
        go_enter Try.func18, Try.ntmps18
        go_wp2_with (first | (go_at_call 26; (with_reducible refine HB.out.mono ?_); rintro e w' ⟨rfl, rfl⟩; unfold blkPtr gOf) | fail)
        exact bodyPost_ret (v := .tuple #[.agg #[.int .i64 P1, .int .i64 P2], .int .i64 0]) (by simp [results, Try.results18, go_sem]) rfl ⟨rfl, (by repeat (first | exact Touch.refl _ _ | exact Touch.nil (by assumption) | assumption | refine Touch.drew ?_ | refine Touch.drewN ?_ _ | refine Touch.alloc ?_ _ | (refine Touch.setNew _ ?_ ?_; rotate_left; focus (simp; done)) | (refine Touch.setCell ?_ ?_ _; rotate_left; focus (simp; done)) | (refine Touch.setRow ?_ ?_ _; rotate_left; focus (simp; done))))⟩
      · have hxx : (if 0 ≤ (j : Int) ∧ (j : Int) < (Bc.length : Int) then (pairAt Bc (j : Int).toNat, (0 : Int)) else ((0, 0), 14)) = ((0, 0), 14) := by rw [if_neg (by omega)]
        rw [hxx]
        clear hrow hxx
        generalize Bc.length = m at *
        go_enter Try.func18, Try.ntmps18
        go_wp2_with (first | (go_at_call 26; (with_reducible refine HB.out.mono ?_); rintro e w' ⟨rfl, rfl⟩; unfold blkPtr gOf) | fail)
        exact bodyPost_ret (v := .tuple #[.agg #[.int .i64 0, .int .i64 0], .int .i64 14]) (by simp [results, Try.results18, go_sem]) rfl ⟨rfl, (by repeat (first | exact Touch.refl _ _ | exact Touch.nil (by assumption) | assumption | refine Touch.drew ?_ | refine Touch.drewN ?_ _ | refine Touch.alloc ?_ _ | (refine Touch.setNew _ ?_ ?_; rotate_left; focus (simp; done)) | (refine Touch.setCell ?_ ?_ _; rotate_left; focus (simp; done)) | (refine Touch.setRow ?_ ?_ _; rotate_left; focus (simp; done))))⟩
    · have hxx : (if 0 ≤ i ∧ i < (Bc.length : Int) then (pairAt Bc i.toNat, (0 : Int)) else ((0, 0), 14)) = ((0, 0), 14) := by rw [if_neg (by omega)]
      rw [hxx]
      clear hrow hxx
      generalize Bc.length = m at *
      go_enter Try.func18, Try.ntmps18
      go_wp2_with (first | (go_at_call 26; (with_reducible refine HB.out.mono ?_); rintro e w' ⟨rfl, rfl⟩; unfold blkPtr gOf) | fail)
      exact bodyPost_ret (v := .tuple #[.agg #[.int .i64 0, .int .i64 0], .int .i64 14]) (by simp [results, Try.results18, go_sem]) rfl ⟨rfl, (by repeat (first | exact Touch.refl _ _ | exact Touch.nil (by assumption) | assumption | refine Touch.drew ?_ | refine Touch.drewN ?_ _ | refine Touch.alloc ?_ _ | (refine Touch.setNew _ ?_ ?_; rotate_left; focus (simp; done)) | (refine Touch.setCell ?_ ?_ _; rotate_left; focus (simp; done)) | (refine Touch.setRow ?_ ?_ _; rotate_left; focus (simp; done))))⟩

/-- What the document's Put answers, and its blocks behind it. -/
def sputOf (bl : List BlkM) (a i : Int) (c : Pair) : Int :=
  if (sloadOf bl a i).2 = 0 then (if 0 ≤ c.1 ∧ c.1 ≤ 7 then 0 else 13) else (sloadOf bl a i).2
def sputBl (bl : List BlkM) (a i : Int) (c : Pair) : List BlkM :=
  if sputOf bl a i c = 0 then
    match bidx bl a with
    | some k => bl.set k { blkAt bl k with cells := (blkAt bl k).cells.set i.toNat c }
    | none => bl
  else bl

theorem blocksIn.put {w : World} {base gk n ck j : Nat} {x y : Int} : ∀ {hs : List Hdr} {bl : List BlkM} (k : Nat), blocksIn w base hs bl → k < hs.length → (hdrAt hs k).2.2 = .slice (some ⟨gk, 0, none⟩) n ck → n = (blkAt bl k).cells.length → j < n →
    (hs.filterMap fun h => h.2.2.ownBlock).Nodup →
    blocksIn ((w.setCell ⟨gk, j * 2, none⟩ (.int .i64 x)).setCell ⟨gk, j * 2 + 1, none⟩ (.int .i64 y)) base hs (bl.set k { blkAt bl k with cells := (blkAt bl k).cells.set j (x, y) })
  | [], [], k, _, hk, _, _, _, _ => by simp at hk
  | h :: hs, b :: bs, 0, H, _, hsl, hn, hj, hd => by
    obtain ⟨⟨h1, h2, h3⟩, H2⟩ := H
    have hsl' : h.2.2 = .slice (some ⟨gk, 0, none⟩) n ck := hsl
    have hn' : n = b.cells.length := hn
    refine ⟨⟨h1, h2, ?_⟩, ?_⟩
    · rw [hsl'] at h3 ⊢
      subst hn'
      have s1 := (h3.stored (j * 2) (.int .i64 x)).1
      have s2 := (s1.stored (j * 2 + 1) (.int .i64 y)).1
      rw [pairs_set b.cells j (x, y) hj] at s2
      show World.ownsRow _ _ _ _ _ (b.cells.set j (x, y)).length (pairs (b.cells.set j (x, y)))
      rw [List.length_set]
      exact s2
    · show blocksIn _ _ hs bs
      refine blocksIn.touch (F := [gk]) (((Touch.refl _ _).setCell (by simp) _).setCell (by simp) _) H2 ?_
      intro h' hh' k' hk'
      simp only [List.filterMap_cons, hsl', Value.ownBlock, List.nodup_cons, List.mem_filterMap, not_exists, not_and] at hd
      simp only [List.mem_singleton]
      rintro rfl
      exact hd.1 h' hh' hk'
  | h :: hs, b :: bs, k + 1, H, hk, hsl, hn, hj, hd => by
    obtain ⟨⟨h1, h2, h3⟩, H2⟩ := H
    have hk' : k < hs.length := by simpa using hk
    have hsl' : (hdrAt hs k).2.2 = .slice (some ⟨gk, 0, none⟩) n ck := hsl
    have hd' : (hs.filterMap fun h => h.2.2.ownBlock).Nodup := by
      cases ho : h.2.2.ownBlock with
      | none => simpa [List.filterMap_cons, ho] using hd
      | some q => simp only [List.filterMap_cons, ho, List.nodup_cons] at hd; exact hd.2
    refine ⟨⟨h1, h2, ?_⟩, blocksIn.put k H2 hk' hsl' hn hj hd'⟩
    refine ownsRow_touch (F := [gk]) h3 (((Touch.refl _ _).setCell (by simp) _).setCell (by simp) _) ?_
    intro q hq
    simp only [List.mem_singleton]
    rintro rfl
    simp only [List.filterMap_cons, hq, List.nodup_cons, List.mem_filterMap, not_exists, not_and] at hd
    refine hd.1 (hdrAt hs k) ?_ (by rw [hsl']; rfl)
    rw [hdrAt_get _ _ hk']; exact List.getElem_mem _

theorem SRep.put {w : World} {sp room : Nat} {sv : Value} {hs : List Hdr} {bl : List BlkM} (H : SRep w sp room sv hs bl) {k gk ck j : Nat} {x y : Int} (hk : k < hs.length) (hsl : (hdrAt hs k).2.2 = .slice (some ⟨gk, 0, none⟩) (blkAt bl k).cells.length ck) (hj : j < (blkAt bl k).cells.length) :
    SRep ((w.setCell ⟨gk, j * 2, none⟩ (.int .i64 x)).setCell ⟨gk, j * 2 + 1, none⟩ (.int .i64 y)) sp room sv hs (bl.set k { blkAt bl k with cells := (blkAt bl k).cells.set j (x, y) }) := by
  obtain ⟨_, _, h3⟩ := H.tell.at k hk
  rw [hsl] at h3
  have n1 : sp ≠ gk := fun e => ownsRow_neBlk h3 H.head (by decide) (by simp [Value.ownBlock, e])
  have n2 : ∀ q, sv.ownBlock = some q → q ∉ [gk] := fun q hq => by
    have := ownsRow_ne H.row h3 (by decide) q hq
    simp only [Value.ownBlock, ne_eq, Option.some.injEq] at this
    simp only [List.mem_singleton]; omega
  have T : Touch [gk] w ((w.setCell ⟨gk, j * 2, none⟩ (.int .i64 x)).setCell ⟨gk, j * 2 + 1, none⟩ (.int .i64 y)) := ((Touch.refl _ _).setCell (by simp) _).setCell (by simp) _
  refine ⟨H.head.touch T (by simpa using n1), ownsRow_touch H.row T n2, H.tell.put k hk hsl rfl hj H.apart, H.full, H.apart, H.few, ?_⟩
  intro b hb
  rcases List.mem_or_eq_of_mem_set hb with hb | rfl
  · exact H.small b hb
  · simpa using H.le k hk

theorem put_keep {w1 : World} {a : Addr} {b i j : Nat} {u x y : Value} {o : Obj} (h : w1.cell? a = some u) (hne : a.block ≠ b) : (((w1.setCell ⟨b, i, none⟩ x).setCell ⟨b, j, none⟩ y).alloc o).drew.cell? a = some u :=
  (show Touch [b] w1 _ from (((((Touch.refl _ _).setCell (by simp) _).setCell (by simp) _).alloc _).drew)).cell h (by simpa using hne)

set_option maxHeartbeats 1000000 in
theorem sput_any {w : World} {sp room : Nat} {sv : Value} {hs : List Hdr} {bl : List BlkM} (H : SRep w sp room sv hs bl) (a i : Int) (c : Pair) :
    Calls Try.prog 16 #[.pointer (some ⟨sp, 0, none⟩), .int .i64 a, .int .i64 i, .agg #[.int .i64 c.1, .int .i64 c.2]] w fun e w' => e = .returned (.int .i64 (sputOf bl a i c)) ∧ Touch (sfoot sp sv hs) w w' ∧ SRep w' sp room sv hs (sputBl bl a i c) := by
  obtain ⟨t, n⟩ := c
  have H' : SRep (w.alloc (.cells #[.int .i64 t, .int .i64 n] 36)) sp room sv hs bl := H.touch (F := []) ((Touch.refl _ _).alloc _) (by simp)
  have HL := sload_any H' a i
  generalize hx : sloadOf bl a i = X at HL
  obtain ⟨⟨p, q⟩, y⟩ := X
  have HL' := Lib.hid HL
  have HX := Lib.hid hx
  by_cases hy : y = 0
  · subst hy
    cases hr : bidx bl a with
    | none => simp [sloadOf, hr] at hx
    | some k =>
      have hk : k < hs.length := by rw [H.tell.length]; exact bidx_lt hr
      obtain ⟨g, cap, gk, ck, rfl, hcap, _, _, hsl, c2, hrow, hg, hgk⟩ := H.at k hk
      have hmax := H.le k hk
      have hi : 0 ≤ i ∧ i < (blkAt bl k).cells.length := by
        by_cases h : 0 ≤ i ∧ i < (blkAt bl k).cells.length
        · exact h
        · simp [sloadOf, hr, h] at hx
      obtain ⟨hi0, hi1⟩ := hi
      obtain ⟨j, rfl⟩ := Int.eq_ofNat_of_zero_le hi0
      have hj : j < (blkAt bl k).cells.length := by omega
      by_cases ht : 0 ≤ t ∧ t ≤ 7
      · have e1 : sputOf bl a j (t, n) = 0 := by simp [sputOf, hx, ht]
        have e2 : sputBl bl a j (t, n) = bl.set k { blkAt bl k with cells := (blkAt bl k).cells.set j (t, n) } := by simp [sputBl, e1, hr]
        rw [e1, e2]
        have HE := Lib.hid (fun w1 (hw : Touch [] w w1) => (H.touch (F := []) hw (by simp)).put (x := t) (y := n) hk hsl hj)
        have hgne : g ≠ gk := fun e => ownsRow_ne H.row hrow (by decide) g rfl (by rw [e]; rfl)
        have HH := Lib.hid H'
        have hfoot : gk ∈ sfoot sp (.slice (some ⟨g, 0, none⟩) hs.length cap) hs := by
          simp only [sfoot, List.mem_cons, List.mem_append, List.mem_filterMap]
          refine .inr (.inr ⟨hdrAt hs k, ?_, by rw [hsl]; rfl⟩)
          rw [hdrAt_get _ _ hk]; exact List.getElem_mem _
        have HFT := Lib.hid hfoot
        have HB := Lib.hid (fun w' (hw : Touch [] w w') => block_any (H.touch (F := []) hw (by simp)) a (some k) hr)
        have hn0 : (⟨w.heap.size, 0, none⟩ : Addr).block ≠ gk := Nat.ne_of_gt hgk
        have hn1 : (⟨w.heap.size, 1, none⟩ : Addr).block ≠ gk := Nat.ne_of_gt hgk
        have hn2 : (⟨g, k * 3 + 2, none⟩ : Addr).block ≠ gk := hgne
        have d1 := row_fst hrow j hj
        have d2 := row_snd hrow j hj
        have f1 := hrow.frozenAt (j * 2)
        have f2 := hrow.frozenAt (j * 2 + 1)
        obtain ⟨ht1, ht2⟩ := ht
        clear HL hx H H' e1 e2 hrow hsl hfoot hr hi1 hi0
        generalize (blkAt bl k).cells.length = m at *
        go_enter Try.func16, Try.ntmps16
        go_wp2_with (first | (go_at_call 18; (with_reducible refine HL'.out.mono ?_); rintro e w1 ⟨rfl, T1⟩
                              have T : Touch [] w w1 := ((Touch.refl _ _).alloc _).trans T1
                              have q0 : w1.cell? ⟨w.heap.size, 0, none⟩ = some (.int .i64 t) := T1.cell (by simp) (by simp)
                              have q1 : w1.cell? ⟨w.heap.size, 1, none⟩ = some (.int .i64 n) := T1.cell (by simp) (by simp)
                              have q2 := T.cell c2 (by simp)
                              have q3 := T.cell d1 (by simp)
                              have q4 := T.cell d2 (by simp)
                              have q5 := T.frozen (p := ⟨gk, j * 2, none⟩) hgk (by simp) f1
                              have q6 := T.frozen (p := ⟨gk, j * 2 + 1, none⟩) hgk (by simp) f2
                              have q7 : w.heap.size < w1.heap.size := Nat.lt_of_lt_of_le (alloc_lt _ _) T1.size
                              have q8 : gk < w1.heap.size := Nat.lt_trans hgk q7
                              have HT := Lib.hid T
                              clear T1 T c2 d1 d2 f1 f2) | fail)
        go_region_held3 (fun w' => w'.cell? ⟨w.heap.size, 0, none⟩ = some (.int .i64 t) ∧ w'.cell? ⟨w.heap.size, 1, none⟩ = some (.int .i64 n) ∧ w'.cell? ⟨g, k * 3 + 2, none⟩ = some (.slice (some ⟨gk, 0, none⟩) m ck))
          (first | (with_reducible exact ⟨put_keep q0 hn0, put_keep q1 hn1, put_keep q2 hn2⟩) | go_keep | fail)
          (first | (go_at_call 26; (with_reducible refine (HB.out _ ((HT.out.alloc _).drew)).mono ?_); rintro e w2 ⟨rfl, rfl⟩; unfold blkPtr gOf) | fail)
        go_wp2
        go_ret
        refine ⟨rfl, ?_, ?_⟩
        · exact ((((HT.out.nil.setCell (fun _ => HFT.out) _).setCell (fun _ => HFT.out) _).alloc _).drew)
        · exact (HE.out _ HT.out).touch (F := []) (by repeat (first | exact Touch.refl _ _ | exact Touch.nil (by assumption) | assumption | refine Touch.drew ?_ | refine Touch.drewN ?_ _ | refine Touch.alloc ?_ _ | (refine Touch.setNew _ ?_ ?_; rotate_left; focus (simp; done)) | (refine Touch.setCell ?_ ?_ _; rotate_left; focus (simp; done)) | (refine Touch.setRow ?_ ?_ _; rotate_left; focus (simp; done)))) (by simp)
      · have e1 : sputOf bl a j (t, n) = 13 := by simp [sputOf, hx, ht]
        have e2 : sputBl bl a j (t, n) = bl := by simp [sputBl, e1]
        rw [e1, e2]
        have HH := Lib.hid H'
        by_cases ht1 : t < 0
        · clear HL hx H H' e1 e2 ht
          go_enter Try.func16, Try.ntmps16
          go_wp2_with (first | (go_at_call 18; (with_reducible refine HL'.out.mono ?_); rintro e w1 ⟨rfl, T1⟩
                                have q0 : w1.cell? ⟨w.heap.size, 0, none⟩ = some (.int .i64 t) := T1.cell (by simp) (by simp)
                                have q7 : w.heap.size < w1.heap.size := Nat.lt_of_lt_of_le (alloc_lt _ _) T1.size
                                have HT := Lib.hid T1
                                clear T1) | fail)
          go_ret
          exact ⟨rfl, (((Touch.refl _ _).alloc _).trans HT.out.nil).alloc _, HH.out.touch (F := []) (HT.out.alloc _) (by simp)⟩
        · have ht2 : 7 < t := by omega
          clear HL hx H H' e1 e2 ht
          go_enter Try.func16, Try.ntmps16
          go_wp2_with (first | (go_at_call 18; (with_reducible refine HL'.out.mono ?_); rintro e w1 ⟨rfl, T1⟩
                                have q0 : w1.cell? ⟨w.heap.size, 0, none⟩ = some (.int .i64 t) := T1.cell (by simp) (by simp)
                                have q7 : w.heap.size < w1.heap.size := Nat.lt_of_lt_of_le (alloc_lt _ _) T1.size
                                have HT := Lib.hid T1
                                clear T1) | fail)
          go_ret
          exact ⟨rfl, (((Touch.refl _ _).alloc _).trans HT.out.nil).alloc _, HH.out.touch (F := []) (HT.out.alloc _) (by simp)⟩
  · have e1 : sputOf bl a i (t, n) = y := by simp [sputOf, hx, hy]
    have e2 : sputBl bl a i (t, n) = bl := by simp [sputBl, e1, hy]
    rw [e1, e2]
    have HH := Lib.hid H'
    clear HL hx H H' e1 e2
    go_enter Try.func16, Try.ntmps16
    go_wp2_with (first | (go_at_call 18; (with_reducible refine HL'.out.mono ?_); rintro e w1 ⟨rfl, T1⟩; have HT := Lib.hid T1; clear T1) | fail)
    go_ret
    exact ⟨rfl, (((Touch.refl _ _).alloc _).trans HT.out.nil).alloc _, HH.out.touch (F := []) (HT.out.alloc _) (by simp)⟩
end Go.Proofs.Ytpalndoklifkiaa
