/- THE ROPE AND THE REFERENCE's, SIDE BY SIDE: each act at the one leaves the other alone. -/
import Derived.Test.YtfmmgijffneodaaRopeRef3
namespace Go.Proofs.Ytfmmgijffneodaa
open Go.RowKit Go.Joins
set_option linter.unusedSimpArgs false
set_option linter.unusedVariables false
/-- both ropes, apart -/
def Both (w0 w : World) (r m : Nat) (L : List Int) (hid : Int → Bool) : Prop :=
  ∃ (F : Nat → Prop) (v : Value) (base : Nat), Rope w r L hid F ∧ RefAt w m base v L hid ∧ (∀ x, F x → w0.heap.size ≤ x ∧ x ≠ m ∧ v.ownBlock ≠ some x) ∧ w0.heap.size ≤ m ∧ (∀ x, v.ownBlock = some x → w0.heap.size ≤ x) ∧ Below w0.heap.size w0 w
theorem Both.later {w0 w w' : World} {r m : Nat} {L : List Int} {hid : Int → Bool} (h : Both w0 w r m L hid) (b : Below w.heap.size w w') : Both w0 w' r m L hid := by
  obtain ⟨F, v, base, h1, h2, h3, h4, h5, h6⟩ := h
  exact ⟨F, v, base, h1.later b, ⟨(b.block m (heap_lt h2.top)).trans h2.top, own_ch h2.row (Ch.of_below (F := fun _ => False) b) (fun _ _ e => e)⟩, h3, h4, h5, h6.trans (b.mono h6.size)⟩
theorem both_start {w w1 : World} {r : Nat} (hN : ∀ hid, Rope w1 r [] hid (fun x => w.heap.size ≤ x ∧ x < w1.heap.size)) (hB : Below w.heap.size w w1) :
    Both w (w1.alloc (.cells #[.slice none 0 0] 42)) r w1.heap.size [] noH :=
  ⟨_, .slice none 0 0, 0, (hN noH).alloc _, ⟨blk_new _ _, World.ownsRow_nil _ _ _ _⟩, fun x hx => ⟨hx.1, by omega, by simp [Value.ownBlock]⟩, hB.size, (fun x hx => by cases hx), below_alloc hB _⟩
theorem Both.below {w0 w : World} {r m : Nat} {L : List Int} {hid : Int → Bool} (h : Both w0 w r m L hid) : Below w0.heap.size w0 w := by
  obtain ⟨F, v, base, h1, h2, h3, h4, h5, h6⟩ := h; exact h6
theorem Both.rope {w0 w : World} {r m : Nat} {L : List Int} {hid : Int → Bool} (h : Both w0 w r m L hid) : ∃ F, Rope w r L hid F := by
  obtain ⟨F, v, base, h1, h2, h3, h4, h5, h6⟩ := h; exact ⟨F, h1⟩
theorem Both.ref {w0 w : World} {r m : Nat} {L : List Int} {hid : Int → Bool} (h : Both w0 w r m L hid) : ∃ v base, RefAt w m base v L hid := by
  obtain ⟨F, v, base, h1, h2, h3, h4, h5, h6⟩ := h; exact ⟨v, base, h2⟩
/-- in a round: the rope has L1, the reference's L2; the act's box -/
structure Two (w0 w : World) (r m box : Nat) (L1 : List Int) (hid1 : Int → Bool) (L2 : List Int) (hid2 : Int → Bool) (gk ga gi : Int) (gs : Bool) (F : Nat → Prop) (v : Value) (base : Nat) : Prop where
  rope : Rope w r L1 hid1 F
  ref : RefAt w m base v L2 hid2
  apart : ∀ x, F x → w0.heap.size ≤ x ∧ x ≠ m ∧ v.ownBlock ≠ some x ∧ x ≠ box ∧ x < w.heap.size
  top : w0.heap.size ≤ m ∧ m ≠ box
  row : ∀ x, v.ownBlock = some x → w0.heap.size ≤ x ∧ x ≠ box ∧ x ≠ m
  below : Below w0.heap.size w0 w
  box : w.heap[box]? = some (.cells #[.int .i64 gk, .int .i64 ga, .int .i64 gi, .bool gs] 24 (0, 0))
def Rd (w0 w : World) (r m box : Nat) (L1 : List Int) (hid1 : Int → Bool) (L2 : List Int) (hid2 : Int → Bool) (gk ga gi : Int) (gs : Bool) : Prop := ∃ F v base, Two w0 w r m box L1 hid1 L2 hid2 gk ga gi gs F v base
theorem ref_row_lt {w : World} {m base : Nat} {v : Value} {L : List Int} {hid : Int → Bool} (h : RefAt w m base v L hid) (x : Nat) (hx : v.ownBlock = some x) : base ≤ x ∧ x < w.heap.size ∧ x ≠ m := by
  refine ⟨(h.row.lt x hx).1, (h.row.lt x hx).2, fun e => ?_⟩
  rcases h.row.2 with ⟨rfl, _⟩ | ⟨B, cap, cur, rfl, _, hb, _, hc2, _, ht⟩
  · cases hx
  · have : B = x := by simpa [Value.ownBlock] using hx
    subst this
    subst e
    have := hb.symm.trans h.top
    simp at this
theorem rd_start {w0 wr : World} {r m : Nat} {L : List Int} {hid : Int → Bool} (gk ga gi : Int) (gs : Bool) (h : Both w0 wr r m L hid) :
    Rd w0 (wr.alloc (.cells #[.int .i64 gk, .int .i64 ga, .int .i64 gi, .bool gs] 24)) r m wr.heap.size L hid L hid gk ga gi gs := by
  have hl := h.later (below_alloc (Below.refl _ _) (.cells #[.int .i64 gk, .int .i64 ga, .int .i64 gi, .bool gs] 24))
  obtain ⟨F, v, base, h1, h2, h3, h4, h5, h6⟩ := h
  obtain ⟨F', v', base', g1, g2, g3, g4, g5, g6⟩ := hl
  have hb := h6.size
  have a1 := (h1.bound).alloc (.cells #[.int .i64 gk, .int .i64 ga, .int .i64 gi, .bool gs] 24)
  have b := below_alloc (Below.refl wr.heap.size wr) (.cells #[.int .i64 gk, .int .i64 ga, .int .i64 gi, .bool gs] 24)
  refine ⟨_, v, base, a1, ⟨(b.block m (heap_lt h2.top)).trans h2.top, own_ch h2.row (Ch.of_below (F := fun _ => False) b) (fun _ _ e => e)⟩, fun x hx => ?_, ⟨h4, ?_⟩, fun x hx => ?_, g6, blk_new _ _⟩
  · obtain ⟨k1, k2, k3⟩ := h3 x hx.1
    have := hx.2
    refine ⟨k1, k2, k3, by omega, by simp; omega⟩
  · have := heap_lt h2.top
    omega
  · have := ref_row_lt h2 x hx
    exact ⟨h5 x hx, by omega, this.2.2⟩
theorem Rd.keep {w0 w : World} {r m box : Nat} {L1 L2 : List Int} {hid1 hid2 : Int → Bool} {gk ga gi : Int} {gs : Bool} (h : Rd w0 w r m box L1 hid1 L2 hid2 gk ga gi gs) :
    w.cell? ⟨box, 1, none⟩ = some (.int .i64 ga) ∧ w.cell? ⟨box, 2, none⟩ = some (.int .i64 gi) ∧ w.cell? ⟨box, 3, none⟩ = some (.bool gs) := by
  obtain ⟨F, v, base, h⟩ := h
  exact ⟨blk_cell h.box 1, blk_cell h.box 2, blk_cell h.box 3⟩
theorem Rd.box {w0 w : World} {r m box : Nat} {L1 L2 : List Int} {hid1 hid2 : Int → Bool} {gk ga gi : Int} {gs : Bool} (h : Rd w0 w r m box L1 hid1 L2 hid2 gk ga gi gs) :
    w.heap[box]? = some (.cells #[.int .i64 gk, .int .i64 ga, .int .i64 gi, .bool gs] 24 (0, 0)) := by
  obtain ⟨F, v, base, h⟩ := h
  exact h.box
theorem Rd.both {w0 w : World} {r m box : Nat} {L : List Int} {hid : Int → Bool} {gk ga gi : Int} {gs : Bool} (h : Rd w0 w r m box L hid L hid gk ga gi gs) : Both w0 w r m L hid := by
  obtain ⟨F, v, base, h⟩ := h
  exact ⟨F, v, base, h.rope, h.ref, fun x hx => ⟨(h.apart x hx).1, (h.apart x hx).2.1, (h.apart x hx).2.2.1⟩, h.top.1, fun x hx => (h.row x hx).1, h.below⟩
def RdP (w0 : World) (r m box : Nat) (L1 : List Int) (hid1 : Int → Bool) (L2 : List Int) (hid2 : Int → Bool) (gk ga gi : Int) (gs : Bool) (v : Int) (e : Ending) (w' : World) : Prop := e = .returned (.int .i64 v) ∧ Rd w0 w' r m box L1 hid1 L2 hid2 gk ga gi gs
theorem Rd.ins1 {w0 w : World} {r m box : Nat} {L1 L2 : List Int} {hid1 hid2 : Int → Bool} {gk ga gi : Int} {gs : Bool} (h : Rd w0 w r m box L1 hid1 L2 hid2 gk ga gi gs) (hl : L1.length ≤ 300) :
    Calls Try.prog 10 #[ptr r, .int .i64 ga, .int .i64 gi, .bool gs] w (RdP w0 r m box (insL L1 ga gi) (insH L1 hid1 ga gi gs) L2 hid2 gk ga gi gs (insE L1 ga gi)) := by
  obtain ⟨F, v, base, h⟩ := h
  refine (insert_any w r L1 hid1 F h.rope (by omega) ga gi gs).mono ?_
  rintro e w' ⟨g1, g2, g3⟩
  have hm : w'.heap.size ≥ w.heap.size := g3.size
  have hrow := ref_row_lt h.ref
  have hmt := heap_lt h.ref.top
  have hbx := heap_lt h.box
  refine ⟨g1, _, v, base, g2.bound, ⟨g3.at h.ref.top (fun hf => (h.apart m hf).2.1 rfl), own_ch h.ref.row g3 (fun b hb hf => (h.apart b hf).2.2.1 hb)⟩, fun x hx => ?_, h.top, h.row, Ch.deep h.below g3 (fun x hx => (h.apart x hx).1), g3.at h.box (fun hf => (h.apart box hf).2.2.2.1 rfl)⟩
  have hb := h.below.size
  rcases hx with ⟨hx | hx, hlt⟩
  · obtain ⟨k1, k2, k3, k4, k5⟩ := h.apart x hx
    exact ⟨k1, k2, k3, k4, hlt⟩
  · exact ⟨by omega, by omega, fun e => by have := (hrow x e).2.1; omega, by omega, hlt⟩
theorem Rd.ins2 {w0 w : World} {r m box : Nat} {L1 L2 : List Int} {hid1 hid2 : Int → Bool} {gk ga gi : Int} {gs : Bool} (h : Rd w0 w r m box L1 hid1 L2 hid2 gk ga gi gs) (hl : L2.length ≤ 300) :
    Calls Try.prog 17 #[ptr m, .int .i64 ga, .int .i64 gi, .bool gs] w (RdP w0 r m box L1 hid1 (insL L2 ga gi) (insH L2 hid2 ga gi gs) gk ga gi gs (insE L2 ga gi)) := by
  obtain ⟨F, v, base, h⟩ := h
  refine (rins_any w m base v L2 hid2 h.ref (by omega) ga gi gs).mono ?_
  rintro e w' ⟨g1, v', base', g2, g3, g4⟩
  have hm : w'.heap.size ≥ w.heap.size := g3.size
  have hrow := ref_row_lt g2
  have hmt := heap_lt h.ref.top
  have hbx := heap_lt h.box
  have hb := h.below.size
  refine ⟨g1, F, v', base', h.rope.ch g3 (fun x hx e => (h.apart x hx).2.1 e), g2, fun x hx => ?_, h.top, fun x hx => ?_, Ch.deep h.below g3 (fun x hx => by rw [hx]; exact h.top.1), g3.at h.box (fun e => h.top.2 e.symm)⟩
  · obtain ⟨k1, k2, k3, k4, k5⟩ := h.apart x hx
    refine ⟨k1, k2, ?_, k4, by omega⟩
    rcases g4 with ⟨rfl, rfl⟩ | rfl
    · exact k3
    · exact fun e => by have := (hrow x e).1; omega
  · rcases g4 with ⟨rfl, rfl⟩ | rfl
    · exact h.row x hx
    · have := hrow x hx
      exact ⟨by omega, by omega, this.2.2⟩
theorem Rd.show1 {w0 w : World} {r m box : Nat} {L1 L2 : List Int} {hid1 hid2 : Int → Bool} {gk ga gi : Int} {gs : Bool} (h : Rd w0 w r m box L1 hid1 L2 hid2 gk ga gi gs) :
    Calls Try.prog 11 #[ptr r, .int .i64 gi, .bool gs] w (RdP w0 r m box L1 (showH L1 hid1 gi gs) L2 hid2 gk ga gi gs (itemE L1 gi)) := by
  obtain ⟨F, v, base, h⟩ := h
  refine (show_any w r L1 hid1 F h.rope gi gs).mono ?_
  rintro e w' ⟨g1, g2, g3⟩
  have hm : w'.heap.size ≥ w.heap.size := g3.size
  refine ⟨g1, _, v, base, g2.bound, ⟨g3.at h.ref.top (fun hf => (h.apart m hf).2.1 rfl), own_ch h.ref.row g3 (fun b hb hf => (h.apart b hf).2.2.1 hb)⟩, fun x hx => ?_, h.top, h.row, Ch.deep h.below g3 (fun x hx => (h.apart x hx).1), g3.at h.box (fun hf => (h.apart box hf).2.2.2.1 rfl)⟩
  obtain ⟨k1, k2, k3, k4, k5⟩ := h.apart x hx.1
  exact ⟨k1, k2, k3, k4, hx.2⟩
theorem Rd.show2 {w0 w : World} {r m box : Nat} {L1 L2 : List Int} {hid1 hid2 : Int → Bool} {gk ga gi : Int} {gs : Bool} (h : Rd w0 w r m box L1 hid1 L2 hid2 gk ga gi gs) (hn : L2.Nodup) (hl : L2.length ≤ 300) :
    Calls Try.prog 18 #[ptr m, .int .i64 gi, .bool gs] w (RdP w0 r m box L1 hid1 L2 (showH L2 hid2 gi gs) gk ga gi gs (itemE L2 gi)) := by
  obtain ⟨F, v, base, h⟩ := h
  refine (rshow_any w m base v L2 hid2 h.ref hn (by omega) gi gs).mono ?_
  rintro e w' ⟨g1, g2, g3⟩
  have hm : w'.heap.size ≥ w.heap.size := g3.size
  exact ⟨g1, F, v, base, h.rope.ch g3 (fun x hx e => (h.apart x hx).2.2.1 e), g2, fun x hx => ⟨(h.apart x hx).1, (h.apart x hx).2.1, (h.apart x hx).2.2.1, (h.apart x hx).2.2.2.1, by have := (h.apart x hx).2.2.2.2; omega⟩, h.top, h.row, Ch.deep h.below g3 (fun x hx => (h.row x hx).1), g3.at h.box (fun e => (h.row box e).2.1 rfl)⟩
theorem Rd.nodup {w0 w : World} {r m box : Nat} {L1 L2 : List Int} {hid1 hid2 : Int → Bool} {gk ga gi : Int} {gs : Bool} (h : Rd w0 w r m box L1 hid1 L2 hid2 gk ga gi gs) : L1.Nodup := by
  obtain ⟨F, v, base, h⟩ := h
  exact h.rope.nodup
theorem Rd.drew {w0 w : World} {r m box : Nat} {L1 L2 : List Int} {hid1 hid2 : Int → Bool} {gk ga gi : Int} {gs : Bool} (h : Rd w0 w r m box L1 hid1 L2 hid2 gk ga gi gs) : Rd w0 w.drew r m box L1 hid1 L2 hid2 gk ga gi gs := by
  obtain ⟨F, v, base, h⟩ := h
  have c : Ch (fun _ => False) w w.drew := (Ch.refl _ w).drew
  exact ⟨F, v, base, h.rope.ch c (fun _ _ e => e), ⟨h.ref.top, own_ch h.ref.row c (fun _ _ e => e)⟩, h.apart, h.top, h.row, Below.drew h.below, h.box⟩
end Go.Proofs.Ytfmmgijffneodaa
