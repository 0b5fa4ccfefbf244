/- A TEXT IN MEMORY: what Insert does to it, stage by stage. -/
import Derived.Test.YtohpablkgfkelaaFPlace
namespace Go.Proofs.Ytohpablkgfkelaa
open Go.RowKit Go.Joins
set_option linter.unusedSimpArgs false
set_option linter.unusedVariables false

theorem Rope.bound {F : Nat → Prop} {w : World} {r : Nat} {L : List St} {hid : St → Bool} (h : Rope w r L hid F) : Rope w r L hid (fun x => F x ∧ x < w.heap.size) := by
  obtain ⟨h4, wb, hb, rs, G, hR', hf, hF, hs⟩ := h
  exact ⟨h4, wb, hb, rs, G, hR', hf, fun x hx => ⟨hF x hx, foot_lt hR' x hx⟩, hs⟩
def setSl (sl : St → Int → Value) (p : St) (s : Int) (v : Value) : St → Int → Value := fun q u => if q = p ∧ u = s then v else sl q u
theorem insAt_ne {l : List St} {i : Nat} {x : St} : insAt l i x ≠ [] := by unfold insAt; simp
theorem insAt_length {l : List St} {i : Nat} {x : St} (h : i ≤ l.length) : (insAt l i x).length = l.length + 1 := by unfold insAt; simp; omega
theorem insAt_cells (ks : List St) (i : Nat) (x : St) : (stL ks).take (i * 2) ++ [.int .i64 x.1, .int .i64 x.2] ++ (stL ks).drop (i * 2) = stL (insAt ks i x) := by
  rw [insKs_ints]
  unfold insKs insAt
  simp
/-- Insert's stages -/
structure InsSt (w y y2 y3 y4 y5 : World) (t kb cb gb r : Nat) (sl : St → Int → Value) (S : Tx) (F0 : Nat → Prop) (x p : St) (s c : Int) (i : Nat) (A B : List St) (v : Value) (g : Nat) : Prop where
  b : Below w.heap.size w y
  rope : Rope y2 r (A ++ x :: B) S.gone (fun z => F0 z ∨ y.heap.size ≤ z)
  c2 : Ch F0 y y2
  c3 : Ch (fun z => (sl p s).ownBlock = some z) y2 y3
  own : y3.ownsRow 0 30 2 v (insAt (S.K p s) i x).length (stL (insAt (S.K p s) i x))
  hv : v.ownBlock = some g
  hg : (sl p s).ownBlock = some g ∨ y2.heap.size ≤ g
  hg3 : g < y3.heap.size
  m4 : ∃ n, MapIs y4 kb encP (upd (kidF S.K sl) (p, s) v) n
  c4 : Ch (fun z => z = kb) y3 y4
  m5 : ∃ n, MapIs y5 cb encS (upd (chF S) x (.int .i64 c)) n
  c5 : Ch (fun z => z = cb) y4 y5
theorem InsSt.text {w y y2 y3 y4 y5 : World} {t kb cb gb r : Nat} {sl : St → Int → Value} {S : Tx} {F F0 : Nat → Prop} {x p : St} {s c : Int} {i : Nat} {A B : List St} {v : Value} {g : Nat}
    (h : InsSt w y y2 y3 y4 y5 t kb cb gb r sl S F0 x p s c i A B v g) (hT : TextAt w t kb cb gb r sl S F0) (hF : F t ∧ F kb ∧ F cb ∧ F gb ∧ (∀ x, F0 x → F x) ∧ ∀ p s x, (sl p s).ownBlock = some x → F x)
    (hok : (S.ins x p s c i A B).Ok) (hxL : ∀ y, y ∈ A ++ x :: B ↔ y = x ∨ y ∈ S.L) (hx : x ∉ S.L) : Text y5 t (S.ins x p s c i A B) (fun z => F z ∨ w.heap.size ≤ z) ∧ Ch F w y5 := by
  obtain ⟨d1, d2, d3, d4, d5, d6⟩ := hT.dis
  obtain ⟨n1, n2, n3, n4⟩ := hT.nF
  have ht := heap_lt hT.top
  obtain ⟨nk, mk⟩ := hT.kids
  obtain ⟨nc, mc⟩ := hT.chs
  obtain ⟨ng, mg⟩ := hT.gones
  have hkb := mk.lt
  have hcb := mc.lt
  have hgb := mg.lt
  have hy := h.b.size
  have hy2 := h.c2.size
  have hy3 := h.c3.size
  have hy4 := h.c4.size
  have hy5 := h.c5.size
  have s1 := fun z e => hT.sF p s z e
  have slt : ∀ q u z, (sl q u).ownBlock = some z → z < w.heap.size := fun q u z e => ((hT.own q u).lt z e).2
  have T1 := hT.later h.b
  -- the chain from y on: what does not lie in F0, nor is the slice's, nor a map
  have cyz : ∀ z, z < y.heap.size → ¬ F0 z → (sl p s).ownBlock ≠ some z → z ≠ kb → z ≠ cb → y5.heap[z]? = y.heap[z]? := fun z hz h1 h2 h3 h4 =>
    ((h.c5.block z (by omega) h4).trans ((h.c4.block z (by omega) h3).trans ((h.c3.block z (by omega) h2).trans (h.c2.block z hz h1))))
  refine ⟨⟨kb, cb, gb, r, setSl sl p s v, fun z => (F0 z ∨ y.heap.size ≤ z) ∧ z < y2.heap.size, ?_, .inl hF.1, .inl hF.2.1, .inl hF.2.2.1, .inl hF.2.2.2.1, fun z hz => hz.1.imp (hF.2.2.2.2.1 z) (fun e => by omega), fun q u z e => ?_⟩, ?_⟩
  · refine ⟨hok, ?_, ?_, ?_, ?_, ?_, ?_, ?_, hT.dis, fun z hz => by omega, ?_, ?_, ?_⟩
    · exact (cyz t (by omega) n1 (fun e => (s1 t e).1 rfl) d1 d2).trans T1.top
    · obtain ⟨n, m⟩ := h.m4
      refine ⟨n, (m.ch h.c5 d4).eqv fun k => ?_⟩
      unfold upd kidF Tx.ins setK setSl
      by_cases e : k = (p, s)
      · subst e
        simp [insAt_ne]
      · have e2 : ¬ (k.1 = p ∧ k.2 = s) := fun h => e (Prod.ext h.1 h.2)
        simp [e, e2]
    · obtain ⟨n, m⟩ := h.m5
      refine ⟨n, m.eqv fun k => ?_⟩
      unfold upd chF Tx.ins setC
      by_cases e : k = x
      · subst e
        simp
      · simp only [if_neg e]
        by_cases hk : k ∈ S.L
        · rw [if_pos hk, if_pos ((hxL k).2 (.inr hk))]
        · rw [if_neg hk, if_neg (fun h => ((hxL k).1 h).elim e hk)]
    · obtain ⟨n, m⟩ := T1.gones
      exact ⟨n, m.at (cyz gb (by omega) n4 (fun e => (s1 gb e).2.2.2.1 rfl) (fun e => d5 e.symm) (fun e => d6 e.symm))⟩
    · intro q u
      show y5.ownsRow 0 30 2 (setSl sl p s v q u) (setK S.K p s (insAt (S.K p s) i x) q u).length (stL (setK S.K p s (insAt (S.K p s) i x) q u))
      unfold setSl setK
      by_cases e : q = p ∧ u = s
      · rw [if_pos e, if_pos e]
        refine own_ch (own_ch h.own h.c4 (fun z hz e => ?_)) h.c5 (fun z hz e => ?_)
        · rw [h.hv] at hz
          cases hz
          rcases h.hg with e2 | e2
          · exact (s1 _ e2).2.1 e
          · omega
        · rw [h.hv] at hz
          cases hz
          rcases h.hg with e2 | e2
          · exact (s1 _ e2).2.2.1 e
          · omega
      · rw [if_neg e, if_neg e]
        have hne : ∀ z, (sl q u).ownBlock = some z → (sl p s).ownBlock ≠ some z := fun z h1 h2 => e (hT.two q u p s z h1 h2)
        refine own_ch (own_ch (own_ch (own_ch (T1.own q u) h.c2 (fun z hz e => ?_)) h.c3 (fun z hz e => hne z hz e)) h.c4 (fun z hz e => ?_)) h.c5 (fun z hz e => ?_)
        · exact (hT.sF q u z hz).2.2.2.2 e
        · exact (hT.sF q u z hz).2.1 e
        · exact (hT.sF q u z hz).2.2.1 e
    · intro q u hq
      change setK S.K p s (insAt (S.K p s) i x) q u = [] at hq
      unfold setK at hq
      unfold setSl
      split at hq
      · exact absurd hq insAt_ne
      · rename_i e
        rw [if_neg e]
        exact hT.nil q u hq
    · refine ((h.rope.bound.ch h.c3 (fun z hz e => ?_)).ch h.c4 (fun z hz e => ?_)).ch h.c5 (fun z hz e => ?_)
      · rcases hz.1 with e2 | e2
        · exact (s1 z e).2.2.2.2 e2
        · have := slt p s z e; omega
      · subst e
        rcases hz.1 with e2 | e2
        · exact n2 e2
        · omega
      · subst e
        rcases hz.1 with e2 | e2
        · exact n3 e2
        · omega
    · exact ⟨fun e => e.1.elim n1 (fun e => by omega), fun e => e.1.elim n2 (fun e => by omega), fun e => e.1.elim n3 (fun e => by omega), fun e => e.1.elim n4 (fun e => by omega)⟩
    · intro q u z hz
      unfold setSl at hz
      split at hz
      · rw [h.hv] at hz
        cases hz
        rcases h.hg with e2 | e2
        · obtain ⟨a1, a2, a3, a4, a5⟩ := s1 _ e2
          have := slt p s _ e2
          exact ⟨a1, a2, a3, a4, fun e => e.1.elim a5 (fun e => by omega)⟩
        · exact ⟨by omega, by omega, by omega, by omega, fun e => by omega⟩
      · obtain ⟨a1, a2, a3, a4, a5⟩ := hT.sF q u z hz
        have := slt q u z hz
        exact ⟨a1, a2, a3, a4, fun e => e.1.elim a5 (fun e => by omega)⟩
    · intro q u q2 u2 z h1 h2
      unfold setSl at h1 h2
      split at h1 <;> split at h2
      · rename_i e1 e2
        exact ⟨e1.1.trans e2.1.symm, e1.2.trans e2.2.symm⟩
      · rename_i e1 e2
        rw [h.hv] at h1
        cases h1
        rcases h.hg with e3 | e3
        · exact absurd (hT.two q2 u2 p s _ h2 e3) e2
        · have := slt q2 u2 _ h2; omega
      · rename_i e1 e2
        rw [h.hv] at h2
        cases h2
        rcases h.hg with e3 | e3
        · exact absurd (hT.two q u p s _ h1 e3) e1
        · have := slt q u _ h1; omega
      · exact hT.two q u q2 u2 z h1 h2
  · unfold setSl at e
    split at e
    · rw [h.hv] at e
      cases e
      rcases h.hg with e2 | e2
      · exact .inl (hF.2.2.2.2.2 p s _ e2)
      · right; omega
    · exact .inl (hF.2.2.2.2.2 q u z e)
  · exact ((((Ch.of_below (F := F) h.b).trans h.c2 (fun z _ e => hF.2.2.2.2.1 z e)).trans h.c3 (fun z _ e => hF.2.2.2.2.2 p s z e)).trans h.c4 (fun z _ e => by subst e; exact hF.2.1)).trans h.c5 (fun z _ e => by subst e; exact hF.2.2.1)
end Go.Proofs.Ytohpablkgfkelaa
