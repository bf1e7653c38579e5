/-
  The walks of package heap, fourth part: slices.Clone and Blocks.
-/
import Derived.Test.YtpalndoklifkiaaHeapC
import Derived.WalkSpells
import Derived.Deep.RegionHeld3
import Derived.Deep.AppendLies
namespace Go.Proofs.Ytpalndoklifkiaa
open Go.RowKit

theorem addr_add (b o j : Nat) : (⟨b, o, none⟩ : Addr).add j = ⟨b, o + j, none⟩ := by unfold Addr.add; split <;> simp_all

/-- A list of pairs that lies in memory from an address on. -/
def lies (w : World) (a : Addr) (xs : List Value) : Prop := ∀ j u, xs[j]? = some u → w.cell? (a.add j) = some u

/-- The slice value v reads as the pairs l. -/
def pairsIn (w : World) (v : Value) (l : List Pair) : Prop :=
  (v = .slice none 0 0 ∧ l = []) ∨ ∃ b o c, v = .slice (some ⟨b, o, none⟩) l.length c ∧ lies w ⟨b, o, none⟩ (pairs l)

theorem lies.touch {w w' : World} {a : Addr} {xs : List Value} {F : List Nat} (h : lies w a xs) (ht : Touch F w w') (hn : a.block ∉ F) : lies w' a xs := by
  intro j u hu
  have := h j u hu
  refine ht.cell this ?_
  rw [show (a.add j).block = a.block from by unfold Addr.add; split <;> rfl]; exact hn

theorem blk.lies {w : World} {b : Nat} {xs : List Value} {e : TypeId} (h : blk w b xs e) (o n : Nat) : lies w ⟨b, o, none⟩ ((xs.drop o).take n) := by
  intro j u hu
  rw [addr_add, h.cell]
  rw [List.getElem?_take] at hu
  split at hu
  · rw [List.getElem?_drop] at hu; exact hu
  · simp at hu

/-- What Clone leaves: a slice of its own with the same pairs. -/
def Cloned (w : World) (l : List Pair) (e : Ending) (w' : World) : Prop :=
  ∃ g c, e = .returned (.slice (some ⟨g, 0, none⟩) l.length c) ∧ w'.ownsRow w.heap.size 36 2 (.slice (some ⟨g, 0, none⟩) l.length c) l.length (pairs l) ∧ Touch [] w w'

theorem ownsRow_form {w : World} {base : Nat} {e : TypeId} {size : Nat} {v : Value} {n : Nat} {xs : List Value} (h : w.ownsRow base e size v n xs) (hn : v ≠ .slice none 0 0) : ∃ g c, v = .slice (some ⟨g, 0, none⟩) n c := by
  rcases h.2 with ⟨rfl, _⟩ | ⟨g, c, _, rfl, _⟩
  · exact (hn rfl).elim
  · exact ⟨g, c, rfl⟩

theorem clone_nil (w : World) : Calls Try.prog 23 #[.slice none 0 0] w fun e w' => e = .returned (.slice none 0 0) ∧ w = w' := by
  have hnil : ∀ w, (binOp .eql 37 (.slice none 0 0) (.slice none 0 0)).run Try.prog w = .ok (.bool true) w := fun w => Lib.run_eql_slice_nil w 37 36 none 0 0 0 0 Try.underlying37
  go_enter Try.func23, Try.ntmps23
  go_wp2_with fail
  go_ret
  exact ⟨rfl, rfl⟩

set_option maxHeartbeats 400000 in
theorem clone_any (w : World) (l : List Pair) (b o m c : Nat) (hm : l.length = m) (hl : lies w ⟨b, o, none⟩ (pairs l)) (hlen : m * 16 ≤ 140737488355328) :
    Calls Try.prog 23 #[.slice (some ⟨b, o, none⟩) m c] w (Cloned w l) := by
  have hnil : ∀ w, (binOp .eql 37 (.slice (some ⟨b, o, none⟩) m c) (.slice none 0 0)).run Try.prog w = .ok (.bool false) w := fun w => Lib.run_eql_slice_nil w 37 36 _ _ _ 0 0 Try.underlying37
  obtain ⟨i0, hi, hz0, hz1, hz2⟩ := info_parts info_cell
  have hown := World.ownsRow_made (base := w.heap.size) (e := 36) (size := 2) w #[] 0 (Nat.le_refl _) (by unfold maxLen; omega) rfl
  have hl' : lies (w.alloc (.cells #[] 36)) ⟨b, o, none⟩ (pairs l) := hl.touch ((Touch.refl [] _).alloc _) (by simp)
  have HL := Lib.hid hl'
  have HOWN := Lib.hid hown
  have HM := Lib.hid hm
  clear hl hl' hown hm
  go_enter Try.func23, Try.ntmps23
  go_wp2_with (at_builtin; refine wpList_append_own _ rfl _ _ 37 rfl w.heap.size 36 i0 (.agg #[.int .i64 0, .int .i64 0]) 2 16 Try.underlying37 hi hz0 hz1 hz2 rfl (by decide) _ _ _ rfl HOWN.out ⟨b, o, none⟩ m c (pairs l) rfl ?c1 ?c2 ?c3 ?c4 ?c5 ?c6 ?_)
  case c1 => rw [pairs_length, HM.out]
  case c2 => exact HL.out
  case c3 => exact pairs_one l
  case c4 => unfold maxLen; omega
  case c5 => omega
  case c6 => simp
  intro v' w' hown' hgrow hne
  obtain ⟨g1, c1, rfl⟩ := ownsRow_form hown' (fun e => hne e)
  have HW := Lib.hid hown'
  have T : Touch [] w w' := ((Touch.refl [] w).alloc _).grown hgrow (by rintro k hk hlt; simp [Value.ownBlock] at hk; omega)
  have HT := Lib.hid T
  clear hown' hgrow T hnil hi hz0 hz1 hz2
  go_wp2
  go_ret
  have hw := HW.out
  try simp only [Nat.zero_add, List.nil_append] at hw
  obtain rfl := HM.out
  exact ⟨_, _, by simp, hw, HT.out⟩

/-- A block of the document. -/
structure BlkM where
  at_ : Nat
  shape : Int
  cells : List Pair

/-- A block's head in memory: where it begins, its shape, the slice of its cells. -/
abbrev Hdr := Int × Int × Value
def hdr (h : Hdr) : List Value := [.int .i64 h.1, .int .i64 h.2.1, h.2.2]
def hdrs (hs : List Hdr) : List Value := hs.flatMap hdr
@[simp] theorem hdrs_nil : hdrs [] = [] := rfl
@[simp] theorem hdrs_cons (h : Hdr) (hs : List Hdr) : hdrs (h :: hs) = .int .i64 h.1 :: .int .i64 h.2.1 :: h.2.2 :: hdrs hs := rfl
theorem hdrs_append (a b : List Hdr) : hdrs (a ++ b) = hdrs a ++ hdrs b := by simp [hdrs]
@[simp] theorem hdrs_length (hs : List Hdr) : (hdrs hs).length = hs.length * 3 := by
  induction hs with
  | nil => rfl
  | cons c cs ih => simp only [hdrs_cons, List.length_cons, ih]; omega

def blockIn (w : World) (base : Nat) (h : Hdr) (b : BlkM) : Prop := h.1 = b.at_ ∧ h.2.1 = b.shape ∧ w.ownsRow base 36 2 h.2.2 b.cells.length (pairs b.cells)
/-- The heads hs tell of the blocks bl. -/
def blocksIn (w : World) (base : Nat) : List Hdr → List BlkM → Prop
  | [], [] => True
  | h :: hs, b :: bs => blockIn w base h b ∧ blocksIn w base hs bs
  | _, _ => False

theorem blocksIn.length {w : World} {base : Nat} : ∀ {hs : List Hdr} {bl : List BlkM}, blocksIn w base hs bl → hs.length = bl.length
  | [], [], _ => rfl
  | _ :: _, _ :: _, h => by simp only [List.length_cons]; rw [blocksIn.length h.2]
theorem blocksIn.append {w : World} {base : Nat} {h : Hdr} {b : BlkM} (hb : blockIn w base h b) : ∀ {hs : List Hdr} {bl : List BlkM}, blocksIn w base hs bl → blocksIn w base (hs ++ [h]) (bl ++ [b])
  | [], [], _ => ⟨hb, trivial⟩
  | _ :: _, _ :: _, k => ⟨k.1, blocksIn.append hb k.2⟩
theorem blocksIn.touch {w w' : World} {base : Nat} {F : List Nat} (ht : Touch F w w') : ∀ {hs : List Hdr} {bl : List BlkM}, blocksIn w base hs bl → (∀ h, h ∈ hs → ∀ k, h.2.2.ownBlock = some k → k ∉ F) → blocksIn w' base hs bl
  | [], [], _, _ => trivial
  | h :: hs, _ :: _, k, hn => ⟨⟨k.1.1, k.1.2.1, ownsRow_touch k.1.2.2 ht (hn h (by simp))⟩, blocksIn.touch ht k.2 fun x hx => hn x (by simp [hx])⟩

/-- The block that begins at k, if one does. -/
def blockAt (cs : List Pair) (sz : List Nat) (sh : List Int) (k : Nat) : Option BlkM :=
  if 0 < natAt sz k then some ⟨k, intAt sh k, (cs.drop (k + 1)).take (natAt sz k - 1)⟩ else none
def blocksTo (cs : List Pair) (sz : List Nat) (sh : List Int) (k : Nat) : List BlkM := (List.range k).filterMap (blockAt cs sz sh)
theorem blocksTo_succ (cs : List Pair) (sz : List Nat) (sh : List Int) (k : Nat) : blocksTo cs sz sh (k + 1) = blocksTo cs sz sh k ++ (blockAt cs sz sh k).toList := by
  simp only [blocksTo, List.range_succ, List.filterMap_append]
  cases h : blockAt cs sz sh k <;> simp [h]
theorem blocksTo_le (cs : List Pair) (sz : List Nat) (sh : List Int) (k : Nat) : (blocksTo cs sz sh k).length ≤ k := by
  have := List.length_filterMap_le (blockAt cs sz sh) (List.range k)
  simpa [blocksTo] using this

theorem info_blk : (Try.prog.info? 60).map (fun i => (i.zero, i.size, i.bytes)) = some (some (.agg #[.int .i64 0, .int .i64 0, .slice none 0 0]), 3, 40) := by kernel_rfl

theorem hdr_one (a b : Int) (x : Option Addr) (l c : Nat) : ∀ u ∈ [Value.int .i64 a, .int .i64 b, .slice x l c], u.oneCell' = true := by
  intro u hu
  simp only [List.mem_cons, List.not_mem_nil, or_false] at hu
  rcases hu with rfl | rfl | rfl <;> rfl
theorem alloc_size (w : World) (o : Obj) : (w.alloc o).heap.size = w.heap.size + 1 := by simp
theorem alloc_lt (w : World) (o : Obj) : w.heap.size < (w.alloc o).heap.size := by simp

theorem grown_cell {w1 w2 : World} {o : Obj} {v : Value} {a : Addr} {u : Value} (hg : (w1.alloc o).grownBy w2 v.ownBlock) (h : w1.cell? a = some u) (hne : v.ownBlock ≠ some a.block) : w2.cell? a = some u :=
  hg.cell (Lib.cell?_alloc_some o h) (fun e => hne e.symm)

/-- What Blocks hands back: heads of its own that tell of the blocks bl. -/
def BlocksPost (w : World) (bl : List BlkM) (e : Ending) (w' : World) : Prop :=
  ∃ v hs, e = .returned v ∧ w'.ownsRow w.heap.size 60 3 v hs.length (hdrs hs) ∧ blocksIn w' w.heap.size hs bl ∧ Touch [] w w' ∧ ∀ h, h ∈ hs → h.2.2 ≠ .slice none 0 0

theorem blocks_nil (w : World) : Calls Try.prog 8 #[.pointer none] w (BlocksPost w []) := by
  go_enter Try.func8, Try.ntmps8
  go_wp2_with fail
  go_ret
  exact ⟨_, [], rfl, World.ownsRow_nil _ _ _ _, trivial, Touch.refl _ _, by simp⟩

def BlocksRel (w : World) (cs : List Pair) (sz : List Nat) (sh : List Int) (room : Nat) (v i : Value) (wr : World) : Prop :=
  ∃ k hs, k ≤ room ∧ i = .int .i64 (k : Nat) ∧ wr.ownsRow w.heap.size 60 3 v hs.length (hdrs hs) ∧ blocksIn wr w.heap.size hs (blocksTo cs sz sh k) ∧ Touch [] w wr ∧ ∀ h, h ∈ hs → h.2.2 ≠ .slice none 0 0

theorem blocks_keep {w : World} {cs : List Pair} {sz : List Nat} {sh : List Int} {room : Nat} {v : Value} {wr : World} {k n : Nat} {hs : List Hdr} (hk : k < room) (hz : ¬ 0 < natAt sz k) (hn : hs.length = n)
    (hown : wr.ownsRow w.heap.size 60 3 v n (hdrs hs)) (hbl : blocksIn wr w.heap.size hs (blocksTo cs sz sh k)) (hT : Touch [] w wr) (hfu : ∀ h, h ∈ hs → h.2.2 ≠ .slice none 0 0) : BlocksRel w cs sz sh room v (.int .i64 ((k : Int) + 1)) wr := by
  refine ⟨k + 1, hs, hk, rfl, hn ▸ hown, ?_, hT, hfu⟩
  rw [blocksTo_succ]
  simpa [blockAt, hz] using hbl

theorem blocks_add {w : World} {cs : List Pair} {sz : List Nat} {sh : List Int} {room : Nat} {v : Value} {wr w1 w2 : World} {k n m g1 c1 gg cap : Nat} {L : List Pair} {hs : List Hdr} {o : Obj} (hk : k < room) (hn : hs.length = n)
    (hba : blockAt cs sz sh k = some ⟨k, intAt sh k, L⟩) (hL : L.length = m)
    (hown : wr.ownsRow w.heap.size 60 3 v n (hdrs hs)) (hbl : blocksIn wr w.heap.size hs (blocksTo cs sz sh k)) (hT : Touch [] w wr) (hfu : ∀ h, h ∈ hs → h.2.2 ≠ .slice none 0 0)
    (hown1 : w1.ownsRow wr.heap.size 36 2 (.slice (some ⟨g1, 0, none⟩) m c1) m (pairs L)) (T1 : Touch [] wr w1)
    (hown2 : w2.ownsRow w.heap.size 60 3 (.slice (some ⟨gg, 0, none⟩) (n + 1) cap) (n + 1) (hdrs hs ++ [.int .i64 k, .int .i64 (intAt sh k), .slice (some ⟨g1, 0, none⟩) m c1])) (hgrow : (w1.alloc o).grownBy w2 v.ownBlock) :
    BlocksRel w cs sz sh room (.slice (some ⟨gg, 0, none⟩) (n + 1) cap) (.int .i64 ((k : Int) + 1)) w2 := by
  have hlt := hown.lt
  have T2 : Touch v.ownBlock.toList wr w2 := ((T1.nil (F := v.ownBlock.toList)).alloc o).grown hgrow (by intro k hk _; simp [hk])
  refine ⟨k + 1, hs ++ [((k : Int), intAt sh k, .slice (some ⟨g1, 0, none⟩) m c1)], hk, rfl, ?_, ?_, ?_, ?_⟩
  · rw [List.length_append, hn, hdrs_append]; exact hown2
  · rw [blocksTo_succ, hba]
    refine blocksIn.append ⟨rfl, rfl, ?_⟩ (hbl.touch T2 ?_)
    · have h1 : w1.ownsRow w.heap.size 36 2 (.slice (some ⟨g1, 0, none⟩) m c1) L.length (pairs L) := by rw [hL]; exact ownsRow_base hown1 hT.size
      have h2 := h1.alloc o
      refine h2.kept hgrow (.inr ?_)
      intro he
      exact ownsRow_ne (ownsRow_touch hown (T1.nil (F := [])) (by simp)) h1 (by decide) g1 he.symm rfl
    · intro h hh k' hk'
      have hb : ∀ {hs : List Hdr} {bl : List BlkM}, blocksIn wr w.heap.size hs bl → h ∈ hs → ∃ n xs, wr.ownsRow w.heap.size 36 2 h.2.2 n xs := by
        intro hs
        induction hs with
        | nil => intro bl _ hm; simp at hm
        | cons x xs ih =>
          intro bl hb hm
          cases bl with
          | nil => exact hb.elim
          | cons b bs =>
            simp only [List.mem_cons] at hm
            rcases hm with rfl | hm
            · exact ⟨_, _, hb.1.2.2⟩
            · exact ih hb.2 hm
      obtain ⟨n', xs', hx⟩ := hb hbl hh
      have := ownsRow_ne hx hown (by decide) k' hk'
      simpa using this
  · refine hT.comp T2 (by simp) ?_
    intro x hx hl
    have := (hlt x (by simpa using hx)).1
    omega
  · intro h hh
    simp only [List.mem_append, List.mem_singleton] at hh
    rcases hh with hh | rfl
    · exact hfu h hh
    · simp

set_option maxHeartbeats 1000000 in
theorem blocks_any {w : World} {bh bc bs bp room : Nat} {cs : List Pair} {sz : List Nat} {sh : List Int} (H : HRep w bh bc bs bp room cs sz sh)
    (hfit : ∀ k, k < room → k + natAt sz k ≤ room) :
    Calls Try.prog 8 #[.pointer (some ⟨bh, 0, none⟩)] w (BlocksPost w (blocksTo cs sz sh room)) := by
  have h0 := H.h0
  have h1 := H.h1
  have h2 := H.h2
  have hroom := H.le
  have HH := Lib.hid H
  have HF := Lib.hid hfit
  obtain ⟨i0, hi, hz0, hz1, hz2⟩ := info_parts info_blk
  have HI := Lib.hid (And.intro hi (And.intro hz0 (And.intro hz1 hz2)))
  clear H hfit hi hz0 hz1 hz2
  go_enter Try.func8, Try.ntmps8
  go_wp2_with fail
  go_loopw [3, 14] (fun v i wr => BlocksRel w cs sz sh room v i wr) (fun _ i _ => room - (intOf i).toNat)
  case atStart => exact ⟨0, [], by omega, rfl, World.ownsRow_nil _ _ _ _, trivial, Touch.refl _ _, by simp⟩
  case round =>
    obtain ⟨k, hs, hk, rfl, hown, hbl, hT, hfu⟩ := hrel
    have HFU := Lib.hid hfu
    clear hfu
    have HR := Lib.hid (HH.out.touch hT (by simp) (by simp) (by simp) (by simp))
    have g0 := HR.out.h0
    have g1 := HR.out.h1
    have g2 := HR.out.h2
    have hlen : hs.length ≤ k := by have := blocksTo_le cs sz sh k; have := hbl.length; omega
    by_cases hlt : k < room
    · have gs := HR.out.size k hlt
      have gp := HR.out.shape k hlt
      have hb := HF.out k hlt
      have HOWN := Lib.hid hown
      have HBL := Lib.hid hbl
      have HT := Lib.hid hT
      clear hown hbl hT h0 h1 h2
      generalize hn : hs.length = n at *
      have HN := Lib.hid hn
      clear hn
      have HC := HR.out.cells
      have b0 := HR.out.head.lt
      have b1 := HC.lt
      have b2 := HR.out.shapes.lt
      have hB : w.heap.size ≤ wr.heap.size := HT.out.size
      have hcs := HR.out.lc
      by_cases hz : 0 < natAt sz k
      · have HL : Hid (lies wr ⟨bc, (k + 1) * 2, none⟩ (pairs ((cs.drop (k + 1)).take (natAt sz k - 1)))) := by
          have := HC.lies ((k + 1) * 2) ((natAt sz k - 1) * 2)
          rw [pairs_drop, pairs_take] at this
          exact this
        have HLen : Hid (((cs.drop (k + 1)).take (natAt sz k - 1)).length = k + natAt sz k - (k + 1)) := by
          show _ = _
          rw [List.length_take, List.length_drop]; omega
        have HBA : Hid (blockAt cs sz sh k = some ⟨k, intAt sh k, (cs.drop (k + 1)).take (natAt sz k - 1)⟩) := by
          show _ = _
          simp [blockAt, hz]
        generalize (cs.drop (k + 1)).take (natAt sz k - 1) = L at *
        generalize hm : natAt sz k = m at *
        have HM := Lib.hid hm
        clear hm HC hcs
        by_cases hke : k + 1 < room
        · have i5 : (0 : Int) ≤ (k : Int) + 1 := by omega
          have i7 : (k : Int) + 1 ≤ (k : Int) + (m : Int) := by omega
          have i8 : (k : Int) + (m : Int) ≤ (room : Int) := by omega
          have i9 : (k : Int) < (room : Int) := by omega
          have i11 : k + m - (k + 1) ≤ 4000 := by omega
          have i3 : ((k : Int) + 1).toNat = k + 1 := by omega
          have i4 : ((k : Int) + (m : Int)).toNat = k + m := by omega
          have i1 : IntKind.i64.wrap ((k : Int) + 1) = (k : Int) + 1 := IntWalk.i64_in _ (by omega)
          have i2 : IntKind.i64.wrap ((k : Int) + (m : Int)) = (k : Int) + (m : Int) := IntWalk.i64_in _ (by omega)
          obtain ⟨hi, hz0, hz1, hz2⟩ := HI.out
          have hne : ¬ room = k + 1 := by omega
          have HLd : Hid (lies wr.drew ⟨bc, (k + 1) * 2, none⟩ (pairs L)) := HL
          have hby16 : (k + m - (k + 1)) * 16 ≤ 140737488355328 := by omega
          have hmx : k + 1 ≤ maxLen := by unfold maxLen; omega
          have hby40 : (n + 1) * 40 ≤ 140737488355328 := by omega
          go_wp2_with fail
          go_region_held3 (fun w' => w'.cell? ⟨bh, 0, none⟩ = some (.slice (some ⟨bc, 0, none⟩) room room) ∧ w'.cell? ⟨bh, 2, none⟩ = some (.slice (some ⟨bp, 0, none⟩) room room) ∧ w'.cell? ⟨bp, k, none⟩ = some (.int .i64 (intAt sh k)))
            (first
              | go_keep
              | (exact ⟨T1.cell g0 List.not_mem_nil, T1.cell g2 List.not_mem_nil, T1.cell gp List.not_mem_nil⟩)
              | (exact ⟨grown_cell hgrow (T1.cell g0 List.not_mem_nil) (ownsRow_neBlk HOWN.out HR.out.head (by decide)), grown_cell hgrow (T1.cell g2 List.not_mem_nil) (ownsRow_neBlk HOWN.out HR.out.head (by decide)), grown_cell hgrow (T1.cell gp List.not_mem_nil) (ownsRow_neBlk HOWN.out HR.out.shapes (by decide))⟩)
              | fail)
            (first
              | (go_at_call 23; (with_reducible refine (clone_any wr.drew L _ _ _ _ HLen.out HLd.out hby16).mono ?_); rintro e w1 ⟨g1, c1, rfl, hown1, T1⟩; have hB1 : w.heap.size ≤ w1.heap.size := Nat.le_trans HT.out.size T1.size)
              | (refine step_append_lies _ (by rfl) _ _ 41 (by rfl) w.heap.size 60 i0 _ 3 40 Try.underlying41 hi hz0 hz1 hz2 rfl (by decide) _ n (hdrs hs) (by rfl) ((ownsRow_touch (w := wr.drew) HOWN.out T1 (fun _ _ => List.not_mem_nil)).alloc _) ⟨w1.heap.size, 0, none⟩ 1 1 [.int .i64 k, .int .i64 (intAt sh k), .slice (some ⟨g1, 0, none⟩) L.length c1] (by rfl) (by rfl) (World.news_of_block (heap_alloc_new w1 _)) (hdr_one _ _ _ _ _) (Nat.succ_pos 0) (Nat.le_trans (Nat.succ_le_succ hlen) hmx) hby40 (Nat.le_trans hB1 (Nat.le_of_lt (alloc_lt _ _))) (w1.heap.size + 1) (alloc_size _ _) ?_; intro gg cap w2 hown2 hgrow hat hlt2)
              | fail)
          clear hi hz0 hz1 hz2 i1 i2 i3 i4
          go_wp2
          go_roundw
          case rel => exact blocks_add hlt HN.out HBA.out rfl HOWN.out HBL.out HT.out HFU.out hown1 T1.undrew hown2 hgrow
          case measure => simp [intOf] <;> omega
        · have hm1 : m = 1 := by omega
          subst hm1
          have hre : room = k + 1 := by omega
          have hrt : (room = k + 1) = True := eq_true hre
          have hrz : room - (k + 1) = 0 := by omega
          have HRE := Lib.hid hre
          have hL0 : L = [] := by have := HLen.out; exact List.eq_nil_of_length_eq_zero (by omega)
          subst hL0
          have i5 : (0 : Int) ≤ (k : Int) + 1 := by omega
          have i7 : (k : Int) + 1 ≤ (k : Int) + (1 : Int) := by omega
          have i8 : (k : Int) + (1 : Int) ≤ (room : Int) := by omega
          have i9 : (k : Int) < (room : Int) := by omega
          have i11 : k + 1 - (k + 1) ≤ 4000 := by omega
          have i3 : ((k : Int) + 1).toNat = k + 1 := by omega
          have i4 : ((k : Int) + (1 : Int)).toNat = k + 1 := by omega
          have i1 : IntKind.i64.wrap ((k : Int) + 1) = (k : Int) + 1 := IntWalk.i64_in _ (by omega)
          have i2 : IntKind.i64.wrap ((k : Int) + (1 : Int)) = (k : Int) + (1 : Int) := IntWalk.i64_in _ (by omega)
          obtain ⟨hi, hz0, hz1, hz2⟩ := HI.out
          clear hre hke
          have HLen0 : Hid (([] : List Pair).length = 0) := rfl
          have HLd : Hid (lies wr.drew ⟨bc, 0, none⟩ (pairs [])) := by intro j u hu; simp at hu
          have hby16 : (k + 1 - (k + 1)) * 16 ≤ 140737488355328 := by omega
          have hmx : k + 1 ≤ maxLen := by unfold maxLen; omega
          have hby40 : (n + 1) * 40 ≤ 140737488355328 := by omega
          go_wp2_with fail
          go_region_held3 (fun w' => w'.cell? ⟨bh, 0, none⟩ = some (.slice (some ⟨bc, 0, none⟩) room room) ∧ w'.cell? ⟨bh, 2, none⟩ = some (.slice (some ⟨bp, 0, none⟩) room room) ∧ w'.cell? ⟨bp, k, none⟩ = some (.int .i64 (intAt sh k)))
            (first
              | go_keep
              | (exact ⟨T1.cell g0 List.not_mem_nil, T1.cell g2 List.not_mem_nil, T1.cell gp List.not_mem_nil⟩)
              | (exact ⟨grown_cell hgrow (T1.cell g0 List.not_mem_nil) (ownsRow_neBlk HOWN.out HR.out.head (by decide)), grown_cell hgrow (T1.cell g2 List.not_mem_nil) (ownsRow_neBlk HOWN.out HR.out.head (by decide)), grown_cell hgrow (T1.cell gp List.not_mem_nil) (ownsRow_neBlk HOWN.out HR.out.shapes (by decide))⟩)
              | fail)
            (first
              | (go_at_call 23; (with_reducible refine (clone_any wr.drew [] _ _ _ _ HLen0.out HLd.out (by omega)).mono ?_); rintro e w1 ⟨g1, c1, rfl, hown1, T1⟩; have hB1 : w.heap.size ≤ w1.heap.size := Nat.le_trans HT.out.size T1.size)
              | (refine step_append_lies _ (by rfl) _ _ 41 (by rfl) w.heap.size 60 i0 _ 3 40 Try.underlying41 hi hz0 hz1 hz2 rfl (by decide) _ n (hdrs hs) (by rfl) ((ownsRow_touch (w := wr.drew) HOWN.out T1 (fun _ _ => List.not_mem_nil)).alloc _) ⟨w1.heap.size, 0, none⟩ 1 1 [.int .i64 k, .int .i64 (intAt sh k), .slice (some ⟨g1, 0, none⟩) 0 c1] (by rfl) (by rfl) (World.news_of_block (heap_alloc_new w1 _)) (hdr_one _ _ _ _ _) (Nat.succ_pos 0) (Nat.le_trans (Nat.succ_le_succ hlen) hmx) hby40 (Nat.le_trans hB1 (Nat.le_of_lt (alloc_lt _ _))) (w1.heap.size + 1) (alloc_size _ _) ?_; intro gg cap w2 hown2 hgrow hat hlt2)
              | fail)
          clear hi hz0 hz1 hz2 i1 i2 i3 i4
          go_wp2
          go_roundw
          case rel => exact blocks_add hlt HN.out HBA.out HLen0.out HOWN.out HBL.out HT.out HFU.out hown1 T1.undrew hown2 hgrow
          case measure => simp [intOf] <;> omega
      · go_wp2_with fail
        go_roundw
        case rel => exact blocks_keep hlt hz HN.out HOWN.out HBL.out HT.out HFU.out
        case measure => simp [intOf] <;> omega
    · go_wp2_with fail
      go_ret
      obtain rfl : k = room := by omega
      exact ⟨_, hs, rfl, hown, hbl, hT, HFU.out⟩
end Go.Proofs.Ytpalndoklifkiaa
