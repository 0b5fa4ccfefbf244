/- A SCRIPT PLAYED ON A ROPE: laws. -/
import Derived.Test.YtfmmgijffneodaaRopeAlive
import Derived.Test.YtfmmgijffneodaaActs
namespace Go.Proofs.Ytfmmgijffneodaa
open Go.RowKit Go.Joins
set_option linter.unusedSimpArgs false
set_option linter.unusedVariables false
theorem start_of {w w1 w2 : World} {r : Nat} (hN : ∀ hid, Rope w1 r [] hid (fun x => w.heap.size ≤ x ∧ x < w1.heap.size)) (hb : Below w1.heap.size w1 w2) : Rope w2 r [] noH (fun x => w.heap.size ≤ x) :=
  ((hN noH).later hb).mono (fun x hx => hx.1)
theorem Rope.alloc {F : Nat → Prop} {w : World} {r : Nat} {L : List Int} {hid : Int → Bool} (h : Rope w r L hid F) (o : Obj) : Rope (w.alloc o) r L hid F :=
  h.ch (((Ch.refl (fun _ => False) w).alloc o)) (fun _ _ h => h)
theorem below_alloc {w0 w : World} (h : Below w0.heap.size w0 w) (o : Obj) : Below w0.heap.size w0 (w.alloc o) :=
  h.trans ((((Ch.refl (fun _ => False) w).alloc o).none).mono h.size)
theorem insL_length (L : List Int) (a k : Int) : (insL L a k).length ≤ L.length + 1 := by
  unfold insL; split
  · omega
  · simp; omega
/-- behind an insertion -/
theorem ins_step {w wr w' : World} {r : Nat} {L : List Int} {hid : Int → Bool} {a k : Int} {s : Bool} {e : Ending} (hB : Below w.heap.size w wr) (h : InsQ r L hid a k s (fun x => w.heap.size ≤ x) wr e w') :
    e = .returned (.int .i64 (insE L a k)) ∧ Rope w' r (insL L a k) (insH L hid a k s) (fun x => w.heap.size ≤ x) ∧ Below w.heap.size w w' := by
  obtain ⟨h1, h2, h3⟩ := h
  have := hB.size
  exact ⟨h1, h2.mono (fun x hx => by rcases hx with h | h <;> omega), Ch.deep hB h3 (fun x hx => hx)⟩
theorem show_step {w wr w' : World} {r : Nat} {L : List Int} {hid : Int → Bool} {v : Int} {e : Ending} (hB : Below w.heap.size w wr) (h : ShowP r L hid (fun x => w.heap.size ≤ x) v wr e w') :
    e = .returned (.int .i64 v) ∧ Rope w' r L hid (fun x => w.heap.size ≤ x) ∧ Below w.heap.size w w' := by
  obtain ⟨h1, h2, h3⟩ := h
  exact ⟨h1, h2, Ch.deep hB h3 (fun x hx => hx)⟩
theorem Rope.nodup {w : World} {r : Nat} {L : List Int} {hid : Int → Bool} {F : Nat → Prop} (h : Rope w r L hid F) : L.Nodup := by
  obtain ⟨-, wb, hb, rs, G, hR, rfl, -⟩ := h
  exact hR.nodup
theorem all_step {w wr w' : World} {r : Nat} {L : List Int} {hid : Int → Bool} {e : Ending} (hR : Rope wr r L hid (fun x => w.heap.size ≤ x)) (hB : Below w.heap.size w wr) (h : AllP L wr e w') :
    ∃ v, e = .returned v ∧ w'.ownsRow wr.heap.size 3 1 v L.length (ints L) ∧ Rope w' r L hid (fun x => w.heap.size ≤ x ∧ x < wr.heap.size) ∧ Below w.heap.size w w' := by
  obtain ⟨v, h1, h2, h3⟩ := h
  refine ⟨v, h1, h2, ?_, hB.trans (h3.mono hB.size)⟩
  obtain ⟨h4, wb, hb, rs, G, hR', hf, hF, hs⟩ := hR
  exact Rope.later (w := wr) ⟨h4, wb, hb, rs, G, hR', hf, fun x hx => ⟨hF x hx, foot_lt hR' x hx⟩, hs⟩ h3
theorem row_form {w : World} {base : Nat} {v : Value} {L : List Int} (h : w.ownsRow base 3 1 v L.length (ints L)) :
    ∃ ao cap, v = .slice ao L.length cap ∧ ∀ (k : Nat) (hk : k < L.length), ∃ B, ao = some ⟨B, 0, none⟩ ∧ w.cell? ⟨B, k, none⟩ = some (.int .i64 L[k]) := by
  rcases h.2 with ⟨rfl, h0⟩ | ⟨B, cap, cur, he, _, hb, hnc, hc, hs, ht⟩
  · exact ⟨none, 0, by rw [h0], fun k hk => by omega⟩
  · refine ⟨_, cap, he, fun k hk => ⟨B, rfl, ?_⟩⟩
    rw [blk_cell hb, ← Array.getElem?_toList]
    have : (ints L)[k]? = some (.int .i64 L[k]) := by unfold ints; rw [List.getElem?_map, List.getElem?_eq_getElem hk]; rfl
    rw [← ht, List.getElem?_take] at this
    split at this
    · exact this
    · cases this
theorem idx_self {L : List Int} (hn : L.Nodup) {k : Nat} (hk : k < L.length) : L.idxOf L[k] = k := hn.idxOf_getElem k hk
theorem placeV_at {L : List Int} (hn : L.Nodup) {k : Nat} (hk : k < L.length) : placeV L L[k] = k := by
  unfold placeV; rw [if_pos (List.getElem_mem hk), idx_self hn hk]
theorem rankV_at {L : List Int} (hn : L.Nodup) (hid : Int → Bool) {k : Nat} (hk : k < L.length) : rankV L hid L[k] = cnt hid (L.take k) := by
  unfold rankV; rw [if_pos (List.getElem_mem hk), idx_self hn hk]
theorem itemE_at {L : List Int} {k : Nat} (hk : k < L.length) : itemE L L[k] = 0 := by unfold itemE; rw [if_pos (List.getElem_mem hk)]
theorem atV_at {L : List Int} {k : Nat} (hk : k < L.length) : atV L k = L[k] := by
  unfold atV; rw [if_pos (by omega)]; simp [List.getD_eq_getElem?_getD, hk]
theorem atE_at {L : List Int} {k : Nat} (hk : k < L.length) : atE L k = 0 := by unfold atE; rw [if_pos (by omega)]
theorem cnt_take_succ (L : List Int) (hid : Int → Bool) {k : Nat} (hk : k < L.length) : cnt hid (L.take (k + 1)) = cnt hid (L.take k) + if hid L[k] then 0 else 1 := by
  rw [List.take_succ_eq_append_getElem hk, cnt_append, cnt_one]
theorem shown_split (L : List Int) (hid : Int → Bool) {k : Nat} (hk : k < L.length) (hs : hid L[k] = false) : shownL hid L = shownL hid (L.take k) ++ L[k] :: shownL hid (L.drop (k + 1)) := by
  conv => lhs; rw [← List.take_append_drop k L, List.drop_eq_getElem_cons hk]
  unfold shownL
  rw [List.filter_append, List.filter_cons, if_pos (by simp [hs])]
/-- the shown one of the rank of a place -/
theorem nth_shown (L : List Int) (hid : Int → Bool) {k : Nat} (hk : k < L.length) (hs : hid L[k] = false) : nthV L hid (cnt hid (L.take k)) = L[k] ∧ nthE L hid (cnt hid (L.take k)) = 0 := by
  have e := shown_split L hid hk hs
  have hl : cnt hid (L.take k) < cnt hid L := by
    rw [cnt_shown hid L, e, cnt_shown]; simp
  unfold nthV nthE
  rw [if_pos (by omega), if_pos (by omega)]
  refine ⟨?_, rfl⟩
  rw [e]
  simp only [Int.toNat_natCast]
  rw [cnt_shown, List.getD_eq_getElem?_getD, List.getElem?_append_right (Nat.le_refl _)]
  simp
theorem nth_hidden (L : List Int) (hid : Int → Bool) {k : Nat} (hk : k < L.length) (hs : hid L[k] = true) (n : Nat) (h0 : nthE L hid n = 0) : nthV L hid n ≠ L[k] := by
  unfold nthE at h0
  unfold nthV
  split at h0
  · rename_i h
    rw [if_pos h]
    intro e
    have hl : n < (shownL hid L).length := by rw [← cnt_shown]; omega
    simp only [Int.toNat_natCast, List.getD_eq_getElem?_getD, List.getElem?_eq_getElem hl, Option.getD_some] at e
    have := List.getElem_mem hl
    rw [e] at this
    unfold shownL at this
    rw [List.mem_filter] at this
    simp [hs] at this
  · exact absurd h0 (by decide)
end Go.Proofs.Ytfmmgijffneodaa
