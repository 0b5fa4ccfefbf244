/- A STORE OF OPERATIONS IN MEMORY (causal.Store). -/
import Derived.Test.YtiamohfpohjdpaaDoorCLaw
import Derived.Test.YtiamohfpohjdpaaDoorORows
import Derived.Test.YtiamohfpohjdpaaDoorKeyS
import Derived.Test.YtiamohfpohjdpaaDoorMap
namespace Go.Proofs.YtiamohfpohjdpaaDoor
open Go.RowKit Go.Joins
set_option linter.unusedSimpArgs false
set_option linter.unusedVariables false

/-! ### operations as the plain text has them -/
def OpG.id (o : OpG) : Int × Int := (o.n, o.r)
theorem idx_nth (v : V8) (k : Nat) (h : k < 8) (w : World) : (Instr.index 33 (.agg #[.int .i64 v.x0, .int .i64 v.x1, .int .i64 v.x2, .int .i64 v.x3, .int .i64 v.x4, .int .i64 v.x5, .int .i64 v.x6, .int .i64 v.x7]) (.int .i64 (k : Int))).run Tryd.prog w = .ok (.int .i64 (v.nth k)) w := by
  rcases nat8 h with rfl | rfl | rfl | rfl | rfl | rfl | rfl | rfl
  · exact idx0 v.x0 v.x1 v.x2 v.x3 v.x4 v.x5 v.x6 v.x7 w
  · exact idx1 v.x0 v.x1 v.x2 v.x3 v.x4 v.x5 v.x6 v.x7 w
  · exact idx2 v.x0 v.x1 v.x2 v.x3 v.x4 v.x5 v.x6 v.x7 w
  · exact idx3 v.x0 v.x1 v.x2 v.x3 v.x4 v.x5 v.x6 v.x7 w
  · exact idx4 v.x0 v.x1 v.x2 v.x3 v.x4 v.x5 v.x6 v.x7 w
  · exact idx5 v.x0 v.x1 v.x2 v.x3 v.x4 v.x5 v.x6 v.x7 w
  · exact idx6 v.x0 v.x1 v.x2 v.x3 v.x4 v.x5 v.x6 v.x7 w
  · exact idx7 v.x0 v.x1 v.x2 v.x3 v.x4 v.x5 v.x6 v.x7 w
theorem take_snoc {L : List OpG} {q : Nat} {o : OpG} (h : L[q]? = some o) : L.take (q + 1) = L.take q ++ [o] := by
  obtain ⟨hq, rfl⟩ := List.getElem?_eq_some_iff.1 h
  exact List.take_succ_eq_append_getElem hq
theorem fold_minC (l : List Int) : ∀ a : Int, 0 ≤ l.foldl min a → 0 ≤ a ∧ ∀ x ∈ l, 0 ≤ x := by
  induction l with
  | nil => intro a h; exact ⟨h, fun x hx => by cases hx⟩
  | cons b l ih =>
    intro a h
    rw [List.foldl_cons] at h
    obtain ⟨h1, h2⟩ := ih _ h
    refine ⟨by omega, fun x hx => ?_⟩
    rcases List.mem_cons.1 hx with rfl | hx
    · omega
    · exact h2 x hx
theorem nth_mostC (v : V8) (k : Nat) (hk : k < 8) : v.nth k ≤ v.most := by
  have := most_ge v
  rcases nat8 hk with rfl | rfl | rfl | rfl | rfl | rfl | rfl | rfl
  · exact this.1
  · exact this.2.1
  · exact this.2.2.1
  · exact this.2.2.2.1
  · exact this.2.2.2.2.1
  · exact this.2.2.2.2.2.1
  · exact this.2.2.2.2.2.2.1
  · exact this.2.2.2.2.2.2.2
theorem nth_minC (v : V8) (h : 0 ≤ Lib.minOf v.list) (k : Nat) (hk : k < 8) : 0 ≤ v.nth k := by
  unfold Lib.minOf V8.list at h
  have h2 := fold_minC _ _ h
  simp only [List.headD_cons, List.mem_cons, List.not_mem_nil, or_false, forall_eq_or_imp, forall_eq] at h2
  have h3 := h2.2
  rcases nat8 hk with rfl | rfl | rfl | rfl | rfl | rfl | rfl | rfl
  all_goals
    simp only [V8.nth, V8.at]
    simp
    omega
theorem right_parts {o : OpG} (h : o.rightP = true) : (1 ≤ o.n ∧ o.n ≤ 1048576 ∧ 0 ≤ o.r ∧ o.r < 8) ∧ (∀ k : Nat, k < 8 → 0 ≤ o.d.nth k ∧ o.d.nth k < o.n) := by
  unfold OpG.rightP at h
  have hp := (Bool.and_eq_true_iff.1 h).1
  unfold OpG.pre at hp
  obtain ⟨h1, h2⟩ := Bool.and_eq_true_iff.1 hp
  obtain ⟨h3, h4⟩ := Bool.and_eq_true_iff.1 h2
  have h5 := of_decide_eq_true h4
  refine ⟨of_decide_eq_true (by unfold rightB at h1; exact h1), fun k hk => ⟨nth_minC _ (of_decide_eq_true h3) k hk, ?_⟩⟩
  have := nth_mostC o.d k hk
  omega
theorem at_nth (v : V8) (r : Int) (h0 : 0 ≤ r) : v.at r = v.nth r.toNat := by unfold V8.nth; rw [Int.toNat_of_nonneg h0]
def MO : Cz.CM OpG where
  id := OpG.id
  dep o r := o.d.at r
  ok o := o.rightP = true ∧ o.fine
  num o h := (right_parts h.1).1.1
  rep o h := (right_parts h.1).1.2.2
  pos o h r h0 h8 := by
    have := (right_parts h.1).2 r.toNat (by omega)
    rw [at_nth _ _ h0]
    exact this
def V8.zero : V8 := ⟨0, 0, 0, 0, 0, 0, 0, 0⟩
def knownV (L : List OpG) : V8 := L.foldl (fun v o => v.with o.n o.r) V8.zero
theorem knownV_snoc (L : List OpG) (o : OpG) : knownV (L ++ [o]) = (knownV L).with o.n o.r := by unfold knownV; rw [List.foldl_append]; rfl
theorem mx_max (x y : Int) : mx x y = max x y := by unfold mx; split <;> omega
theorem knownV_at (L : List OpG) (r : Int) (h0 : 0 ≤ r) (h8 : r < 8) : (knownV L).at r = Cz.known MO L r := by
  refine Cz.snoc_ind (P := fun L => (knownV L).at r = Cz.known MO L r) ?_ (fun L o ih => ?_) L
  · show V8.zero.at r = 0
    rcases known8 h0 h8 with rfl | rfl | rfl | rfl | rfl | rfl | rfl | rfl <;> rfl
  · rw [knownV_snoc, at_with _ _ _ _ h0 h8, Cz.known_app, ih, mx_max]
    rfl
theorem knownV_nth (L : List OpG) (k : Nat) (hk : k < 8) : (knownV L).nth k = Cz.known MO L k := knownV_at L k (by omega) (by omega)
theorem v8_ext {a b : V8} (h : ∀ r, 0 ≤ r → r < 8 → a.at r = b.at r) : a = b := by
  obtain ⟨a0, a1, a2, a3, a4, a5, a6, a7⟩ := a
  obtain ⟨b0, b1, b2, b3, b4, b5, b6, b7⟩ := b
  have g0 := h 0 (by decide) (by decide)
  have g1 := h 1 (by decide) (by decide)
  have g2 := h 2 (by decide) (by decide)
  have g3 := h 3 (by decide) (by decide)
  have g4 := h 4 (by decide) (by decide)
  have g5 := h 5 (by decide) (by decide)
  have g6 := h 6 (by decide) (by decide)
  have g7 := h 7 (by decide) (by decide)
  simp [V8.at] at g0 g1 g2 g3 g4 g5 g6 g7
  subst g0 g1 g2 g3 g4 g5 g6 g7
  rfl
theorem knownV_same {A B : List OpG} (h : ∀ r, Cz.known MO A r = Cz.known MO B r) : knownV A = knownV B := v8_ext fun r h0 h8 => by rw [knownV_at _ _ h0 h8, knownV_at _ _ h0 h8, h]
/-! ### the store -/
abbrev ptr (b : Nat) : Value := .pointer (some ⟨b, 0, none⟩)
/-- whose stamps are there -/
def thF (L : List OpG) : Int × Int → Option Value := fun k => if k ∈ Cz.ids MO L then some (.bool true) else none
theorem thF_nil : thF [] = fun _ => none := by funext k; simp [thF, Cz.ids]
theorem thF_add (L : List OpG) (o : OpG) (x : Int × Int) : upd (thF L) o.id (.bool true) x = thF (L ++ [o]) x := by
  unfold upd thF
  simp only [Cz.ids_app, List.mem_append]
  by_cases h : x = o.id
  · have h2 : x ∈ Cz.ids MO [o] := Cz.mem_ids.2 ⟨o, by simp, h.symm⟩
    simp [h, h2]
    subst h
    simp [h2]
  · have h2 : ¬ x ∈ Cz.ids MO [o] := fun hm => by
      obtain ⟨y, hy, e⟩ := Cz.mem_ids.1 hm
      simp at hy
      subst hy
      exact h e.symm
    simp [h, h2]
theorem thF_same {L K : List OpG} (h : ∀ p, p ∈ Cz.ids MO L ↔ p ∈ Cz.ids MO K) (x : Int × Int) : thF L x = thF K x := by unfold thF; simp only [h x]
abbrev V8.rowV (a : V8) : List Value := [.int .i64 a.x0, .int .i64 a.x1, .int .i64 a.x2, .int .i64 a.x3, .int .i64 a.x4, .int .i64 a.x5, .int .i64 a.x6, .int .i64 a.x7]
/-- a store's cells -/
abbrev stC (va vw : Value) (tb db : Nat) (k : V8) : Array Value := #[va, .map (some tb), .map (some db), .int .i64 k.x0, .int .i64 k.x1, .int .i64 k.x2, .int .i64 k.x3, .int .i64 k.x4, .int .i64 k.x5, .int .i64 k.x6, .int .i64 k.x7, vw]
/-- A: the row of those delivered; D: whose stamps are marked as done; kv: the vector; W: the row of those that wait; T: whose stamps are there -/
structure StoreG (w : World) (s tb db : Nat) (va vw : Value) (A D : List OpG) (kv : V8) (W T : List OpG) (F : Nat → Prop) : Prop where
  top : w.heap[s]? = some (.cells (stC va vw tb db kv) 55 (0, 0))
  all : OwnO w 0 va A
  wait : OwnO w 0 vw W
  there : MapIs w tb encS (thF T) T.length
  done : ∃ n, MapIs w db encS (thF D) n
  two : tb ≠ db ∧ s ≠ tb ∧ s ≠ db
  nA : ∀ b, va.ownBlock = some b → b ≠ s ∧ b ≠ tb ∧ b ≠ db ∧ F b
  nW : ∀ b, vw.ownBlock = some b → b ≠ s ∧ b ≠ tb ∧ b ≠ db ∧ F b ∧ va.ownBlock ≠ some b
  fs : F s ∧ F tb ∧ F db
def StoreT (w : World) (s : Nat) (A W T : List OpG) (F : Nat → Prop) : Prop := ∃ tb db va vw, StoreG w s tb db va vw A A (knownV A) W T F
def StoreIs (w : World) (s : Nat) (A W : List OpG) (F : Nat → Prop) : Prop := StoreT w s A W (A ++ W) F
section
variable {w w' : World} {s tb db : Nat} {va vw : Value} {A D W T : List OpG} {kv : V8} {F G : Nat → Prop}
theorem StoreG.ch (h : StoreG w s tb db va vw A D kv W T F) (c : Ch G w w') (hG : ∀ x, F x → ¬ G x) : StoreG w' s tb db va vw A D kv W T F := by
  obtain ⟨n, hd⟩ := h.done
  exact ⟨c.at h.top (hG _ h.fs.1), h.all.ch c (fun b hb => hG _ (h.nA b hb).2.2.2), h.wait.ch c (fun b hb => hG _ (h.nW b hb).2.2.2.1), h.there.ch c (hG _ h.fs.2.1), ⟨n, hd.ch c (hG _ h.fs.2.2)⟩, h.two, h.nA, h.nW, h.fs⟩
theorem StoreG.later (h : StoreG w s tb db va vw A D kv W T F) (b : Below w.heap.size w w') : StoreG w' s tb db va vw A D kv W T F := h.ch (Ch.of_below (F := fun _ => False) b) (fun _ _ => id)
theorem StoreG.mono (h : StoreG w s tb db va vw A D kv W T F) (hG : ∀ x, F x → G x) : StoreG w s tb db va vw A D kv W T G :=
  ⟨h.top, h.all, h.wait, h.there, h.done, h.two, fun b hb => ⟨(h.nA b hb).1, (h.nA b hb).2.1, (h.nA b hb).2.2.1, hG _ (h.nA b hb).2.2.2⟩, fun b hb => ⟨(h.nW b hb).1, (h.nW b hb).2.1, (h.nW b hb).2.2.1, hG _ (h.nW b hb).2.2.2.1, (h.nW b hb).2.2.2.2⟩, ⟨hG _ h.fs.1, hG _ h.fs.2.1, hG _ h.fs.2.2⟩⟩
theorem own_lt {v : Value} {base : Nat} {L : List OpG} (h : OwnO w base v L) {b : Nat} (hb : v.ownBlock = some b) : b < w.heap.size := (World.ownsRow.lt h b hb).2
theorem StoreG.bnd (h : StoreG w s tb db va vw A D kv W T F) : StoreG w s tb db va vw A D kv W T (fun x => F x ∧ x < w.heap.size) := by
  obtain ⟨n, hd⟩ := h.done
  exact ⟨h.top, h.all, h.wait, h.there, h.done, h.two, fun b hb => ⟨(h.nA b hb).1, (h.nA b hb).2.1, (h.nA b hb).2.2.1, (h.nA b hb).2.2.2, own_lt h.all hb⟩, fun b hb => ⟨(h.nW b hb).1, (h.nW b hb).2.1, (h.nW b hb).2.2.1, ⟨(h.nW b hb).2.2.2.1, own_lt h.wait hb⟩, (h.nW b hb).2.2.2.2⟩, ⟨h.fs.1, heap_lt h.top⟩, ⟨h.fs.2.1, h.there.lt⟩, ⟨h.fs.2.2, hd.lt⟩⟩
/-- the row of those delivered, grown and put back -/
theorem StoreG.putA {z w4 : World} {g n cap : Nat} {A' : List OpG} (h : StoreG z s tb db va vw A D kv W T F) (hb : Below w.heap.size w z) (hrow : OwnO w4 0 (.slice (some ⟨g, 0, none⟩) n cap) A') (hc : z.grownBy w4 va.ownBlock) (hg : va.ownBlock = some g ∨ g = z.heap.size) :
    StoreG (w4.setCell ⟨s, 0, none⟩ (.slice (some ⟨g, 0, none⟩) n cap)) s tb db (.slice (some ⟨g, 0, none⟩) n cap) vw A' D kv W T (fun x => F x ∨ w.heap.size ≤ x) ∧ Ch F w (w4.setCell ⟨s, 0, none⟩ (.slice (some ⟨g, 0, none⟩) n cap)) := by
  obtain ⟨m, hd⟩ := h.done
  have hs := heap_lt h.top
  have ht := h.there.lt
  have hdl := hd.lt
  have h4 := (Ch.of_grown hc).at h.top (fun e => (h.nA _ e.symm).1 rfl)
  have hg3 : g ≠ s ∧ g ≠ tb ∧ g ≠ db := by
    rcases hg with e | e
    · exact ⟨(h.nA _ e).1, (h.nA _ e).2.1, (h.nA _ e).2.2.1⟩
    · exact ⟨by omega, by omega, by omega⟩
  have hgF : F g ∨ w.heap.size ≤ g := hg.elim (fun e => .inl (h.nA _ e).2.2.2) (fun e => .inr (by rw [e]; exact hb.size))
  have cs : Ch (fun x => x = s) w4 (w4.setCell ⟨s, 0, none⟩ (.slice (some ⟨g, 0, none⟩) n cap)) := (Ch.refl (fun x => x = s) w4).setCell ⟨s, 0, none⟩ _ (fun _ => rfl)
  have c2 : Ch (fun x => some x = va.ownBlock ∨ x = s) z (w4.setCell ⟨s, 0, none⟩ (.slice (some ⟨g, 0, none⟩) n cap)) := ((Ch.of_grown hc).mono (fun x _ e => Or.inl e)).trans cs (fun x _ e => .inr e)
  refine ⟨⟨?_, hrow.ch cs (fun b hb' e => ?_), h.wait.ch c2 (fun b hb' e => e.elim (fun e => (h.nW b hb').2.2.2.2 e.symm) (h.nW b hb').1), h.there.ch c2 (fun e => e.elim (fun e => (h.nA _ e.symm).2.1 rfl) (fun e => h.two.2.1 e.symm)), ⟨m, hd.ch c2 (fun e => e.elim (fun e => (h.nA _ e.symm).2.2.1 rfl) (fun e => h.two.2.2 e.symm))⟩, h.two, fun b hb' => ?_, fun b hb' => ?_, ⟨.inl h.fs.1, .inl h.fs.2.1, .inl h.fs.2.2⟩⟩, ((Ch.of_below (F := F) hb).trans (Ch.of_grown hc) (fun x _ e => (h.nA _ e.symm).2.2.2)).setCell _ _ (fun _ => h.fs.1)⟩
  · rw [blk_set h4]; rfl
  · simp [Value.ownBlock] at hb'
    exact hg3.1 (hb'.trans e)
  · simp [Value.ownBlock] at hb'
    subst hb'
    exact ⟨hg3.1, hg3.2.1, hg3.2.2, hgF⟩
  · obtain ⟨k1, k2, k3, k4, k5⟩ := h.nW b hb'
    refine ⟨k1, k2, k3, .inl k4, fun e => ?_⟩
    simp [Value.ownBlock] at e
    subst e
    rcases hg with e | e
    · exact k5 e
    · have := own_lt h.wait hb'; omega
/-- the vector put back -/
theorem StoreG.putK {z w4 : World} (h : StoreG z s tb db va vw A D kv W T F) (k2 : V8) (c : Ch (fun x => x = s) z w4) (ht : w4.heap[s]? = some (.cells (stC va vw tb db k2) 55 (0, 0))) : StoreG w4 s tb db va vw A D k2 W T F := by
  obtain ⟨m, hd⟩ := h.done
  exact ⟨ht, h.all.ch c (fun b hb => (h.nA b hb).1), h.wait.ch c (fun b hb => (h.nW b hb).1), h.there.ch c (fun e => h.two.2.1 e.symm), ⟨m, hd.ch c (fun e => h.two.2.2 e.symm)⟩, h.two, h.nA, h.nW, h.fs⟩
/-- one more is done -/
theorem StoreG.putD {z w4 : World} {n : Nat} {D' : List OpG} (h : StoreG z s tb db va vw A D kv W T F) (c : Ch (fun x => x = db) z w4) (m : MapIs w4 db encS (thF D') n) : StoreG w4 s tb db va vw A D' kv W T F :=
  ⟨c.at h.top (fun e => h.two.2.2 e), h.all.ch c (fun b hb => (h.nA b hb).2.2.1), h.wait.ch c (fun b hb => (h.nW b hb).2.2.1), h.there.ch c (fun e => h.two.1 e), ⟨n, m⟩, h.two, h.nA, h.nW, h.fs⟩
/-- others are there -/
theorem StoreG.putT {z w4 : World} {T' : List OpG} (h : StoreG z s tb db va vw A D kv W T F) (c : Ch (fun x => x = tb) z w4) (m : MapIs w4 tb encS (thF T') T'.length) : StoreG w4 s tb db va vw A D kv W T' F := by
  obtain ⟨n, hd⟩ := h.done
  exact ⟨c.at h.top (fun e => h.two.2.1 e), h.all.ch c (fun b hb => (h.nA b hb).2.1), h.wait.ch c (fun b hb => (h.nW b hb).2.1), m, ⟨n, hd.ch c (fun e => h.two.1 e.symm)⟩, h.two, h.nA, h.nW, h.fs⟩
/-- another row of those that wait -/
theorem StoreG.putW {z w4 : World} {v2 : Value} {W' : List OpG} (h : StoreG z s tb db va vw A D kv W T F) (hb : Below w.heap.size w z) (c : Ch (fun x => some x = vw.ownBlock ∨ x = s) z w4) (ht : w4.heap[s]? = some (.cells (stC va v2 tb db kv) 55 (0, 0))) (hrow : OwnO w4 0 v2 W') (hv : ∀ b, v2.ownBlock = some b → vw.ownBlock = some b ∨ z.heap.size ≤ b) :
    StoreG w4 s tb db va v2 A D kv W' T (fun x => F x ∨ w.heap.size ≤ x) ∧ Ch F w w4 := by
  obtain ⟨m, hd⟩ := h.done
  have hs := heap_lt h.top
  have htl := h.there.lt
  have hdl := hd.lt
  refine ⟨⟨ht, h.all.ch c (fun b hb' e => e.elim (fun e => (h.nW b e.symm).2.2.2.2 hb') (h.nA b hb').1), hrow, h.there.ch c (fun e => e.elim (fun e => (h.nW _ e.symm).2.1 rfl) (fun e => h.two.2.1 e.symm)), ⟨m, hd.ch c (fun e => e.elim (fun e => (h.nW _ e.symm).2.2.1 rfl) (fun e => h.two.2.2 e.symm))⟩, h.two, fun b hb' => ⟨(h.nA b hb').1, (h.nA b hb').2.1, (h.nA b hb').2.2.1, .inl (h.nA b hb').2.2.2⟩, fun b hb' => ?_, ⟨.inl h.fs.1, .inl h.fs.2.1, .inl h.fs.2.2⟩⟩, (Ch.of_below (F := F) hb).trans c (fun x _ e => e.elim (fun e => (h.nW _ e.symm).2.2.2.1) (fun e => e ▸ h.fs.1))⟩
  rcases hv b hb' with e | e
  · obtain ⟨k1, k2, k3, k4, k5⟩ := h.nW b e
    exact ⟨k1, k2, k3, .inl k4, k5⟩
  · refine ⟨by omega, by omega, by omega, .inr (by have := hb.size; omega), fun e2 => ?_⟩
    have := own_lt h.all e2
    omega
theorem StoreT.ch (h : StoreT w s A W T F) (c : Ch G w w') (hG : ∀ x, F x → ¬ G x) : StoreT w' s A W T F := by
  obtain ⟨tb, db, va, vw, h⟩ := h; exact ⟨tb, db, va, vw, h.ch c hG⟩
theorem StoreT.later (h : StoreT w s A W T F) (b : Below w.heap.size w w') : StoreT w' s A W T F := h.ch (Ch.of_below (F := fun _ => False) b) (fun _ _ => id)
theorem StoreT.mono (h : StoreT w s A W T F) (hG : ∀ x, F x → G x) : StoreT w s A W T G := by
  obtain ⟨tb, db, va, vw, h⟩ := h; exact ⟨tb, db, va, vw, h.mono hG⟩
theorem StoreT.bnd (h : StoreT w s A W T F) : StoreT w s A W T (fun x => F x ∧ x < w.heap.size) := by
  obtain ⟨tb, db, va, vw, h⟩ := h; exact ⟨tb, db, va, vw, h.bnd⟩
/-- the same stamps in another order -/
theorem StoreT.perm {T' : List OpG} (h : StoreT w s A W T F) (hp : T.Perm T') : StoreT w s A W T' F := by
  obtain ⟨tb, db, va, vw, h⟩ := h
  refine ⟨tb, db, va, vw, h.top, h.all, h.wait, ?_, h.done, h.two, h.nA, h.nW, h.fs⟩
  rw [← hp.length_eq]
  exact h.there.eqv (thF_same fun p => (Cz.ids_perm (M := MO) hp).mem_iff)
/-- is a stamp there | done -/
theorem StoreG.lookD (h : StoreG w s tb db va vw A D kv W T F) (n r : Int) : (Instr.lookup 53 (.map (some db)) (.agg #[.int .i64 n, .int .i64 r]) false).run Tryd.prog w = .ok (.bool (decide ((n, r) ∈ Cz.ids MO D))) w := by
  obtain ⟨m, hd⟩ := h.done
  have := hd.lookup (P := Tryd.prog) keyIs_stamp Tryd.underlying53 (Tryd.zeroValue4 w) (n, r)
  refine this.trans ?_
  unfold thF
  by_cases hm : (n, r) ∈ Cz.ids MO D <;> simp [hm]
theorem StoreG.lookT (h : StoreG w s tb db va vw A D kv W T F) (n r : Int) : (Instr.lookup 53 (.map (some tb)) (.agg #[.int .i64 n, .int .i64 r]) false).run Tryd.prog w = .ok (.bool (decide ((n, r) ∈ Cz.ids MO T))) w := by
  have := h.there.lookup (P := Tryd.prog) keyIs_stamp Tryd.underlying53 (Tryd.zeroValue4 w) (n, r)
  refine this.trans ?_
  unfold thF
  by_cases hm : (n, r) ∈ Cz.ids MO T <;> simp [hm]
end
end Go.Proofs.YtiamohfpohjdpaaDoor
