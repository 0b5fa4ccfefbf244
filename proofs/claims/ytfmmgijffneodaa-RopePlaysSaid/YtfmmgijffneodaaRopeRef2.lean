/- THE REFERENCE'S ROPE: Show, All. -/
import Derived.Test.YtfmmgijffneodaaRopeRef
import Derived.Test.YtfmmgijffneodaaAppend
namespace Go.Proofs.Ytfmmgijffneodaa
open Go.RowKit Go.Joins
set_option linter.unusedSimpArgs false
set_option linter.unusedVariables false

theorem items_set {L : List Int} (hn : L.Nodup) {hid : Int → Bool} {k : Int} (hk : k ∈ L) (b : Bool) : items L (setH hid k b) = (items L hid).set (L.idxOf k * 2 + 1) (.bool (!b)) := by
  have hi := List.idxOf_lt_length_iff.2 hk
  apply List.ext_getElem?
  intro p
  by_cases hp : p < L.length * 2
  · have hq : p / 2 < L.length := by omega
    obtain ⟨a1, a2⟩ := items_at L (setH hid k b) (p / 2) hq
    obtain ⟨c1, c2⟩ := items_at L hid (p / 2) hq
    by_cases hpar : p % 2 = 0
    · have e : p = p / 2 * 2 := by omega
      rw [List.getElem?_set_ne (by omega), e, a1, c1]
    · have e : p = p / 2 * 2 + 1 := by omega
      by_cases hj : p / 2 = L.idxOf k
      · have e2 : L.idxOf k * 2 + 1 = p := by omega
        rw [e2, List.getElem?_set_self (by rw [items_length]; omega)]
        rw [e, a2]
        have : L[p / 2] = k := by simp only [hj]; exact List.getElem_idxOf hi
        rw [this]
        simp [setH]
      · rw [List.getElem?_set_ne (by omega), e, a2, c2]
        have : L[p / 2] ≠ k := fun h => hj (by rw [← h]; exact (idx_self hn hq).symm)
        simp [setH, this]
  · rw [List.getElem?_eq_none (by rw [items_length]; omega), List.getElem?_eq_none (by rw [List.length_set, items_length]; omega)]
theorem rall_any (w : World) (m base : Nat) (v : Value) (L : List Int) (hid : Int → Bool) (h : RefAt w m base v L hid) (hL : L.length < 4294967296) :
    Calls Try.prog 27 #[ptr m] w (AllP L w) := by
  obtain ⟨i0, hi, hz0, hz1, hz2⟩ := info_parts Slot.infoInt
  obtain ⟨ao, cap, rfl, hc⟩ := item_cells h.row
  have hb := h.top
  have HC := Lib.hid hc
  have HB := Lib.hid hb
  have e0 := blk_cell h.top 0
  have f0 := blk_free h.top 0
  clear h hc hb
  go_enter Try.func27, Try.ntmps27
  go_wp2
  go_loopw [3, 4] (fun v i w' => ∃ q : Nat, q ≤ L.length ∧ i = .int .i64 q ∧ w'.ownsRow w.heap.size 3 1 v q (ints (L.take q)) ∧ Below w.heap.size w w') (fun _ i _ => L.length - (intOf i).toNat)
  case atStart => exact ⟨0, by omega, rfl, World.ownsRow_nil _ _ _ _, Below.refl _ _⟩
  case round =>
    obtain ⟨q, hq, rfl, hown, hbel⟩ := hrel
    have hbl := (hbel.block m (heap_lt HB.out)).trans HB.out
    have e0 := blk_cell hbl 0
    have f0 := blk_free hbl 0
    have HO := Lib.hid hown
    have HBL := Lib.hid hbel
    clear hown hbl
    by_cases hql : q < L.length
    · obtain ⟨B, rfl, c1, c2⟩ := HC.out q hql
      have c1 := (hbel.cell (World.block_lt_of_cell? _ _ c1)).trans c1
      have hs := List.take_succ_eq_append_getElem hql
      have HS := Lib.hid hs
      clear hs c2 hbel
      go_wp2_with (at_builtin; refine wpList_append_own _ rfl (.tmp 14) (.tmp 23) 31 rfl w.heap.size 3 i0 (.int .i64 0) 1 8 Try.underlying31 hi hz0 hz1 hz2 rfl (by decide) u3 _ _ rfl (HO.out.alloc _) ⟨wr.heap.size, 0, none⟩ 1 1 [.int .i64 L[q]] rfl rfl (fun j x hj => one_cells _ _ _ _ rfl j x hj) (fun u hu => by simp at hu; subst hu; rfl) (by unfold maxLen; omega) (by omega) ((below_alloc HBL.out _).size) ?_; intro v1 wb hown1 hgrow1 _)
      go_roundw
      case rel => exact ⟨q + 1, by omega, by go_num, by rw [HS.out, ints_append]; exact hown1, (below_alloc HBL.out _).grown hgrow1 (below_alloc HBL.out _).size (fun x hx => (HO.out.lt x hx).1)⟩
      case measure => simp [intOf]; omega
    · obtain rfl : q = L.length := by omega
      clear hbel
      go_wp2
      go_ret
      refine ⟨_, rfl, ?_, HBL.out⟩
      have := HO.out
      rwa [List.take_length] at this
def RShowP (m base : Nat) (v : Value) (L : List Int) (hid : Int → Bool) (e0 : Int) (w : World) (e : Ending) (w' : World) : Prop :=
  e = .returned (.int .i64 e0) ∧ RefAt w' m base v L hid ∧ Ch (fun x => v.ownBlock = some x) w w'
theorem rshow_any (w : World) (m base : Nat) (v : Value) (L : List Int) (hid : Int → Bool) (h : RefAt w m base v L hid) (hn : L.Nodup) (hL : L.length < 4294967296) (k : Int) (s : Bool) :
    Calls Try.prog 18 #[ptr m, .int .i64 k, .bool s] w (RShowP m base v L (showH L hid k s) (itemE L k) w) := by
  have H := rfind_any w m base v L hid h hL k
  have HR := Lib.hid h
  obtain ⟨ao, cap, rfl, hc⟩ := item_cells h.row
  have e0 := blk_cell h.top 0
  have f0 := blk_free h.top 0
  by_cases hk : k ∈ L
  · rw [findV_in hk] at H
    have H := Lib.hid H
    have hi := List.idxOf_lt_length_iff.2 hk
    have e1 : itemE L k = 0 := by unfold itemE; rw [if_pos hk]
    have e2 : showH L hid k s = setH hid k (!s) := by unfold showH; rw [if_pos hk]
    have e3 : items L (setH hid k (!s)) = (items L hid).set (L.idxOf k * 2 + 1) (.bool s) := by rw [items_set hn hk, Bool.not_not]
    rw [e1, e2]
    obtain ⟨B, rfl, c1, c2⟩ := hc _ hi
    have fz := HR.out.row.frozenAt (L.idxOf k * 2 + 1)
    have st := (HR.out.row.stored (L.idxOf k * 2 + 1) (.bool s)).1
    rw [← e3] at st
    have E3 := Lib.hid e3
    have ST := Lib.hid st
    have HI := Lib.hid hi
    have hne : m ≠ B := fun e => by
      subst e
      have h1 := HR.out.top
      rcases HR.out.row.2 with ⟨e, _⟩ | ⟨g, c', cur, e, _, hb, _⟩
      · cases e
      · cases e
        rw [h1] at hb
        cases hb
    have HNE := Lib.hid hne
    clear h hc e1 e2 e3 hk hn st hne
    generalize L.idxOf k = q at *
    have hq := HI.out
    go_enter Try.func18, Try.ntmps18
    go_wp2_with (with_reducible refine H.out.mono ?_; rintro e w' ⟨rfl, rfl⟩)
    go_ret
    exact ⟨rfl, ⟨(blk_other HR.out.top HNE.out), ST.out⟩, (Ch.refl _ _).setCell _ _ (fun _ => rfl)⟩
  · rw [findV_out hk] at H
    have H := Lib.hid H
    have e1 : itemE L k = 111 := by unfold itemE; rw [if_neg hk]
    have e2 : showH L hid k s = hid := by unfold showH; rw [if_neg hk]
    rw [e1, e2]
    clear e1 e2 hk h hc
    go_enter Try.func18, Try.ntmps18
    go_wp2_with (with_reducible refine H.out.mono ?_; rintro e w' ⟨rfl, rfl⟩)
    go_ret
    exact ⟨rfl, HR.out, Ch.refl _ _⟩
theorem Slot.infoItem : (Try.prog.info? 61).map (fun i => (i.zero, i.size, i.bytes)) = some (some (.agg #[.int .i64 0, .bool false]), 2, 16) := by kernel_rfl
theorem items_one (L : List Int) (hid : Int → Bool) : ∀ u ∈ items L hid, u.oneCell' = true := by
  intro u hu
  obtain ⟨k, _, hk⟩ := List.mem_flatMap.1 hu
  simp at hk
  rcases hk with rfl | rfl <;> rfl
theorem items_append (a b : List Int) (hid : Int → Bool) : items (a ++ b) hid = items a hid ++ items b hid := by simp [items]
theorem items_other {L : List Int} {hid : Int → Bool} {k : Int} {b : Bool} (h : k ∉ L) : items L (setH hid k b) = items L hid := by
  induction L with
  | nil => rfl
  | cons a L ih =>
    have e1 : a ≠ k := fun e => h (by simp [e])
    have e2 := ih (fun hm => h (by simp [hm]))
    show [Value.int .i64 a, .bool (!setH hid k b a)] ++ items L (setH hid k b) = [Value.int .i64 a, .bool (!hid a)] ++ items L hid
    rw [e2]
    simp [setH, e1]
end Go.Proofs.Ytfmmgijffneodaa
