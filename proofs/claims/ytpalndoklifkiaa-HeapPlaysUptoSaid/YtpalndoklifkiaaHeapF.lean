/-
  The walks of package heap, sixth part: Collect.
-/
import Derived.Test.YtpalndoklifkiaaHeapE
namespace Go.Proofs.Ytpalndoklifkiaa
open Go.RowKit Go.Maps

set_option maxHeartbeats 400000 in
theorem mark_nil (w : World) (bh : Nat) (cs : List Pair) (sz : List Nat) :
    Calls Try.prog 28 #[.pointer (some ⟨bh, 0, none⟩), .slice none 0 0] w (MarkPost w cs sz []) := by
  have hmm := @run_makeMap Try.prog
  go_enter Try.func28, Try.ntmps28
  go_wp2_with (first | (go_at_call 23; (with_reducible refine (clone_nil _).mono ?_); rintro e w1 ⟨rfl, rfl⟩) | fail)
  refine wp_loop_rounds 1 ?_
  rw [rounds_succ]
  go_wp2_with fail
  go_ret
  exact ⟨_, [], rfl, setIn_made w, (MInv.start cs sz []).done, (Touch.refl _ _).alloc _⟩

/-- The sizes and shapes behind a Collect up to k, of which the blocks of S stay; and how many cells were let go. -/
def keptSz (S : List Int) (sz : List Nat) (k : Nat) : List Nat := sz.mapIdx fun j n => if j < k ∧ (j : Int) ∉ S then 0 else n
def keptSh (S : List Int) (sz : List Nat) (sh : List Int) (k : Nat) : List Int := sh.mapIdx fun j s => if j < k ∧ (j : Int) ∉ S ∧ 0 < natAt sz j then 0 else s
def goneSz (S : List Int) (sz : List Nat) (k : Nat) : Nat := ((sz.take k).mapIdx fun j n => if (j : Int) ∉ S then n else 0).sum

theorem keptSz_zero (S : List Int) (sz : List Nat) : keptSz S sz 0 = sz := by
  apply List.ext_getElem <;> simp [keptSz]
theorem keptSh_zero (S : List Int) (sz : List Nat) (sh : List Int) : keptSh S sz sh 0 = sh := by
  apply List.ext_getElem <;> simp [keptSh]
theorem keptSz_at (S : List Int) (sz : List Nat) (k : Nat) (h : k < sz.length) : natAt (keptSz S sz k) k = natAt sz k := by
  rw [natAt_get _ _ (by simpa [keptSz] using h), natAt_get _ _ h]; simp [keptSz]
theorem keptSh_at (S : List Int) (sz : List Nat) (sh : List Int) (k : Nat) (h : k < sh.length) : intAt (keptSh S sz sh k) k = intAt sh k := by
  rw [intAt_get _ _ (by simpa [keptSh] using h), intAt_get _ _ h]; simp [keptSh]
theorem keptSz_stay (S : List Int) (sz : List Nat) (k : Nat) (h : k < sz.length) (hk : (k : Int) ∈ S ∨ natAt sz k = 0) : keptSz S sz (k + 1) = keptSz S sz k := by
  apply List.ext_getElem
  · simp [keptSz]
  · intro j h1 h2
    simp only [keptSz, List.getElem_mapIdx]
    by_cases hj : j = k
    · subst hj
      rw [natAt_get _ _ h] at hk
      by_cases hm : (j : Int) ∈ S
      · simp [hm]
      · have := hk.resolve_left hm
        simp [this]
    · have : j < k + 1 ↔ j < k := by omega
      simp [this]
theorem keptSh_stay (S : List Int) (sz : List Nat) (sh : List Int) (k : Nat) (hk : (k : Int) ∈ S ∨ natAt sz k = 0) : keptSh S sz sh (k + 1) = keptSh S sz sh k := by
  apply List.ext_getElem
  · simp [keptSh]
  · intro j h1 h2
    simp only [keptSh, List.getElem_mapIdx]
    by_cases hj : j = k
    · subst hj
      rcases hk with hk | hk <;> simp [hk]
    · have : j < k + 1 ↔ j < k := by omega
      simp [this]
theorem keptSz_go (S : List Int) (sz : List Nat) (k : Nat) (hk : (k : Int) ∉ S) : keptSz S sz (k + 1) = (keptSz S sz k).set k 0 := by
  apply List.ext_getElem
  · simp [keptSz]
  · intro j h1 h2
    rw [List.getElem_set]
    simp only [keptSz, List.getElem_mapIdx]
    by_cases hj : k = j
    · subst hj; simp [hk]
    · have : j < k + 1 ↔ j < k := by omega
      simp [this, hj]
theorem keptSh_go (S : List Int) (sz : List Nat) (sh : List Int) (k : Nat) (hk : (k : Int) ∉ S) (hz : 0 < natAt sz k) : keptSh S sz sh (k + 1) = (keptSh S sz sh k).set k 0 := by
  apply List.ext_getElem
  · simp [keptSh]
  · intro j h1 h2
    rw [List.getElem_set]
    simp only [keptSh, List.getElem_mapIdx]
    by_cases hj : k = j
    · subst hj; simp [hk, hz]
    · have : j < k + 1 ↔ j < k := by omega
      simp [this, hj]
theorem goneSz_succ (S : List Int) (sz : List Nat) (k : Nat) (h : k < sz.length) : goneSz S sz (k + 1) = goneSz S sz k + (if (k : Int) ∉ S then natAt sz k else 0) := by
  unfold goneSz
  rw [List.take_succ_eq_append_getElem h, List.mapIdx_append, List.sum_append]
  simp [natAt_get _ _ h, Nat.min_eq_left (Nat.le_of_lt h)]
theorem goneSz_le (S : List Int) (sz : List Nat) (room : Nat) (hl : sz.length = room) (hfit : ∀ k, k < room → k + natAt sz k ≤ room) (k : Nat) (hk : k ≤ room) : goneSz S sz k ≤ k * room := by
  induction k with
  | zero => simp [goneSz]
  | succ k ih =>
    have h1 := ih (by omega)
    have h2 := hfit k (by omega)
    rw [goneSz_succ _ _ _ (by omega), Nat.add_mul]
    split <;> omega

theorem collect_nil (v : Value) (w : World) : Calls Try.prog 21 #[.pointer none, v] w fun e w' => e = .returned (.int .i64 0) ∧ w = w' := by
  go_enter Try.func21, Try.ntmps21
  go_wp2_with fail
  go_ret
  exact ⟨rfl, rfl⟩

/-- What Collect leaves. -/
def CollectPost (w : World) (bh bc bs bp room : Nat) (cs : List Pair) (sz : List Nat) (sh : List Int) (roots : List Pair) (e : Ending) (w' : World) : Prop :=
  ∃ S, (∀ x, x ∈ S ↔ Led cs sz roots x) ∧ e = .returned (.int .i64 (goneSz S sz room : Nat)) ∧ HRep w' bh bc bs bp room cs (keptSz S sz room) (keptSh S sz sh room) ∧ Touch [bs, bp] w w'

def CollectRel (w : World) (bh bc bs bp room : Nat) (cs : List Pair) (sz : List Nat) (sh : List Int) (b : Nat) (S : List Int) (n i : Value) (wr : World) : Prop :=
  ∃ k, k ≤ room ∧ i = .int .i64 (k : Nat) ∧ n = .int .i64 (goneSz S sz k : Nat) ∧ HRep wr bh bc bs bp room cs (keptSz S sz k) (keptSh S sz sh k) ∧ setIn wr b S ∧ Touch [bs, bp] w wr

set_option maxHeartbeats 1000000 in
theorem collect_any {w : World} {bh bc bs bp room : Nat} {cs : List Pair} {sz : List Nat} {sh : List Int} (H : HRep w bh bc bs bp room cs sz sh)
    (hfit : ∀ k, k < room → k + natAt sz k ≤ room) (roots : List Pair) (v : Value) (hmark : Calls Try.prog 28 #[.pointer (some ⟨bh, 0, none⟩), v] w (MarkPost w cs sz roots)) :
    Calls Try.prog 21 #[.pointer (some ⟨bh, 0, none⟩), v] w (CollectPost w bh bc bs bp room cs sz sh roots) := by
  have h0 := H.h0
  have hroom := H.le
  have HH := Lib.hid H
  have HF := Lib.hid hfit
  have HMK := Lib.hid hmark
  clear H hfit hmark
  go_enter Try.func21, Try.ntmps21
  go_wp2_with (first | (go_at_call 28; (with_reducible refine HMK.out.mono ?_); rintro e w1 ⟨b, S, rfl, hset, hS, T1⟩) | fail)
  have R0 : CollectRel w bh bc bs bp room cs sz sh b S (.int .i64 0) (.int .i64 0) w1 :=
    ⟨0, by omega, rfl, by simp [goneSz], by rw [keptSz_zero, keptSh_zero]; exact HH.out.touch T1 (by simp) (by simp) (by simp) (by simp), hset, T1.nil⟩
  have HR0 := Lib.hid R0
  have HS := Lib.hid hS
  clear R0 hset T1 hS h0
  go_loopw [6, 7] (fun n i wr => CollectRel w bh bc bs bp room cs sz sh b S n i wr) (fun _ i _ => room - (intOf i).toNat)
  case atStart => exact HR0.out
  case round =>
    obtain ⟨k, hk, rfl, rfl, hR, hset, hT⟩ := hrel
    have HR := Lib.hid hR
    have HSET := Lib.hid hset
    have HT := Lib.hid hT
    have g0 := hR.h0
    have g1 := hR.h1
    have g2 := hR.h2
    have hls := HH.out.ls
    have hlp := HH.out.lp
    have b0 := hR.head.lt
    have b1 := hR.sizes.lt
    have b2 := hR.shapes.lt
    clear hR hset hT
    by_cases hlt : k < room
    · have gs := HR.out.size k hlt
      have gp := HR.out.shape k hlt
      rw [keptSz_at _ _ _ (by omega)] at gs
      have hfk := HF.out k hlt
      have hgl := goneSz_le S sz room hls HF.out k hk
      have hgl2 : goneSz S sz k ≤ 16000000 := Nat.le_trans hgl (Nat.mul_le_mul (Nat.le_trans hk hroom) hroom)
      clear hgl
      obtain ⟨D, hD, hDm, hDh⟩ := HSET.out
      have hkey : keyOf Try.prog 3 (.int .i64 (k : Int)) = some (.int .i64 (k : Int)) := keyOf_int_mk Try.underlying3 (WalkArith.wf_i64 (by omega))
      have HD := Lib.hid hD
      by_cases hz : natAt sz k = 0
      · have STAY : CollectRel w bh bc bs bp room cs sz sh b S (.int .i64 (goneSz S sz k : Nat)) (.int .i64 ((k + 1 : Nat) : Int)) wr := by
          refine ⟨k + 1, hlt, rfl, ?_, ?_, HSET.out, HT.out⟩
          · rw [goneSz_succ _ _ _ (by omega), hz]; simp
          · rw [keptSz_stay _ _ _ (by omega) (.inr hz), keptSh_stay _ _ _ _ (.inr hz)]; exact HR.out
        have HST := Lib.hid STAY
        rw [hz] at gs
        clear hD hDm hDh hz STAY hfk
        go_wp2_with fail
        go_roundw
        case rel => exact HST.out
        case measure => simp [intOf] <;> omega
      · by_cases hm : (k : Int) ∈ S
        · have STAY : CollectRel w bh bc bs bp room cs sz sh b S (.int .i64 (goneSz S sz k : Nat)) (.int .i64 ((k + 1 : Nat) : Int)) (wr.alloc (.cells #[] 69)) := by
            refine ⟨k + 1, hlt, rfl, ?_, ?_, HSET.out.kept (World.grownBy_alloc _ _ none) (by simp), HT.out.alloc _⟩
            · rw [goneSz_succ _ _ _ (by omega)]; simp [hm]
            · rw [keptSz_stay _ _ _ (by omega) (.inl hm), keptSh_stay _ _ _ _ (.inl hm)]; exact HR.out.touch (F := []) ((Touch.refl _ _).alloc _) (by simp) (by simp) (by simp) (by simp)
          have HST := Lib.hid STAY
          have hhas : Maps.has D (.int .i64 (k : Int)) = true := by rw [hDh]; simpa using hm
          have hz' : ((natAt sz k : Int) == 0) = false := by simpa using hz
          clear hD hDm hDh hz STAY hfk hm
          generalize natAt sz k = q at *
          go_wp2_with (first
            | (at_lookup; refine wpList_lookup_own_unit _ rfl _ _ 67 rfl 3 69 law_int Try.underlying67 (zero_unit _) b S.length D rfl HD.out _ _ rfl hkey ?_)
            | fail)
          go_roundw
          case rel => exact HST.out
          case measure => simp [intOf] <;> omega
        · have hhas : Maps.has D (.int .i64 (k : Int)) = false := by rw [hDh]; simpa using hm
          have hz' : ((natAt sz k : Int) == 0) = false := by simpa using hz
          have f1 : wr.frozen? ⟨bs, k, none⟩ = false := HR.out.sizes.frozen _
          have f2 : wr.frozen? ⟨bp, k, none⟩ = false := HR.out.shapes.frozen _
          have n1 := HR.out.ne2
          have n2 := HR.out.ne3
          have n3 := HR.out.ne6
          have GO : CollectRel w bh bc bs bp room cs sz sh b S (.int .i64 ((goneSz S sz k + natAt sz k : Nat) : Int)) (.int .i64 ((k + 1 : Nat) : Int)) (((wr.setCell ⟨bs, k, none⟩ (.int .i64 0)).setCell ⟨bp, k, none⟩ (.int .i64 0)).alloc (.cells #[] 69)).drew := by
            refine ⟨k + 1, hlt, rfl, ?_, ?_, ?_, ?_⟩
            · rw [goneSz_succ _ _ _ (by omega)]; simp [hm]
            · have hmk := HR.out.mark k 0 0
              rw [keptSz_go _ _ _ hm, keptSh_go _ _ _ _ hm (by omega)]
              exact hmk.touch (F := []) (((Touch.refl _ _).alloc _).drew) (by simp) (by simp) (by simp) (by simp)
            · have hb := HSET.out.lt
              have hnb : b ∉ [bs, bp] := by
                obtain ⟨D', ⟨es, cl, hb', _⟩, _⟩ := HSET.out
                have e1 := HR.out.sizes
                have e2 := HR.out.shapes
                unfold blk at e1 e2
                simp only [List.mem_cons, List.not_mem_nil, or_false, not_or]
                refine ⟨?_, ?_⟩ <;> (rintro rfl; simp_all)
              exact (HSET.out.touch (F := [bs, bp]) (w' := (((wr.setCell ⟨bs, k, none⟩ (.int .i64 0)).setCell ⟨bp, k, none⟩ (.int .i64 0)).alloc (.cells #[] 69)).drew) (((((Touch.refl _ _).setCell (by simp) _).setCell (by simp) _).alloc _).drew) hnb)
            · exact (((HT.out.setCell (by simp) _).setCell (by simp) _).alloc _).drew
          have HGO := Lib.hid GO
          clear hD hDm hDh hz GO hm
          generalize natAt sz k = q at *
          go_wp2_with (first
            | (at_lookup; refine wpList_lookup_own_unit _ rfl _ _ 67 rfl 3 69 law_int Try.underlying67 (zero_unit _) b S.length D rfl HD.out _ _ rfl hkey ?_)
            | fail)
          go_region
          go_wp2
          go_roundw
          case rel => exact HGO.out
          case measure => simp [intOf] <;> omega
    · go_wp2_with fail
      go_ret
      obtain rfl : k = room := by omega
      exact ⟨S, HS.out, rfl, HR.out, HT.out⟩
end Go.Proofs.Ytpalndoklifkiaa
