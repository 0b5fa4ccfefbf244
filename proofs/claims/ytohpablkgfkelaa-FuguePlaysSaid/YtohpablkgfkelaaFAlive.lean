/- A TEXT IN MEMORY: the live question; two rows of elements held against each other; where one stands. -/
import Derived.Test.YtohpablkgfkelaaFActs
namespace Go.Proofs.Ytohpablkgfkelaa
open Go.RowKit Go.Joins
set_option linter.unusedSimpArgs false
set_option linter.unusedVariables false

theorem Text.bnd {w : World} {t : Nat} {S : Tx} {F : Nat → Prop} (h : Text w t S F) : Text w t S (fun x => F x ∧ x < w.heap.size) := by
  obtain ⟨kb, cb, gb, r, sl, F0, hT, h1, h2, h3, h4, h5, h6⟩ := h
  exact ⟨kb, cb, gb, r, sl, F0, hT, ⟨h1, heap_lt hT.top⟩, ⟨h2, (hT.kids.choose_spec).lt⟩, ⟨h3, (hT.chs.choose_spec).lt⟩, ⟨h4, (hT.gones.choose_spec).lt⟩, fun x hx => ⟨h5 x hx, hT.lt x hx⟩, fun p s x hx => ⟨h6 p s x hx, ((hT.own p s).lt x hx).2⟩⟩
theorem Text.blk {w : World} {t : Nat} {S : Tx} {F : Nat → Prop} (h : Text w t S F) : ∃ cs T, w.heap[t]? = some (.cells cs T (0, 0)) := by
  obtain ⟨kb, cb, gb, r, sl, F0, hT, -⟩ := h
  exact ⟨_, _, hT.top⟩
/-- behind a call that turned only what is new since w0 -/
theorem Ch.deep {w0 w w' : World} {F : Nat → Prop} (b : Below w0.heap.size w0 w) (c : Ch F w w') (hF : ∀ x, F x → w0.heap.size ≤ x) : Below w0.heap.size w0 w' :=
  b.trans (c.below b.size (fun x hx hf => by have := hF x hf; omega))
theorem below_alloc {w0 w : World} (h : Below w0.heap.size w0 w) (o : Obj) : Below w0.heap.size w0 (w.alloc o) :=
  h.trans ((((Ch.refl (fun _ => False) w).alloc o).none).mono h.size)
theorem Stp.ok {S S' : Tx} {x p : St} {s c : Int} (h : Stp S x p s c S') (hok : S.Ok) : S'.Ok := by
  rcases h with ⟨-, rfl⟩ | ⟨hi, A, B, hP, rfl⟩
  · exact hok
  · obtain ⟨h1, h2, h3⟩ := hi
    have hsp : Spot S.L p s := by
      rcases h3 with e | e
      · exact .inl ⟨h1.g.st e, e⟩
      · exact .inr ⟨h1.g.s12, e⟩
    exact hok.ins h2 h1.1 hsp (posS_at (hok.sorted p s) (fun e => h2 (hok.kid p s x e))) hP
theorem Stp.length {S S' : Tx} {x p : St} {s c : Int} (h : Stp S x p s c S') : S'.L.length ≤ S.L.length + 1 := by
  rcases h with ⟨-, rfl⟩ | ⟨hi, A, B, hP, rfl⟩
  · omega
  · show (A ++ x :: B).length ≤ _
    rw [hP.eq]
    simp
    omega
theorem alive_plain {S1 S2 : Tx} (h1 : Stp Tx.new (2, 0) (0, 0) 2 98 S1) (h2 : Stp S1 (3, 0) (2, 0) 1 97 S2) : S2.L = [(3, 0), (2, 0)] ∧ S2.ch (3, 0) = 97 ∧ S2.gone = (fun _ => false) ∧ S1.insE (3, 0) (2, 0) 1 = 0 := by
  have ok1 := h1.ok Tx.new_ok
  have ok2 := h2.ok ok1
  rcases h1 with ⟨hn, _⟩ | ⟨_, A, B, hP, rfl⟩
  · exact absurd ⟨by decide, by simp [Tx.new], .inl rfl⟩ hn
  have hAB : A = [] ∧ B = [] := List.append_eq_nil_iff.1 hP.eq.symm
  obtain ⟨rfl, rfl⟩ := hAB
  have hi2 : InsOk (Tx.new.ins (2, 0) (0, 0) 2 98 (posS (Tx.new.K (0, 0) 2) (2, 0)) [] []) (3, 0) (2, 0) 1 := ⟨by decide, by simp [Tx.ins], .inr (by simp [Tx.ins])⟩
  have hE := insE_zero.2 hi2
  rcases h2 with ⟨hn, _⟩ | ⟨_, A, B, hP2, rfl⟩
  · exact absurd hi2 hn
  refine ⟨?_, by simp [Tx.ins, setC], rfl, hE⟩
  have hf := ok2.fl
  generalize hK : (Tx.ins _ (3, 0) (2, 0) 1 97 _ A B).K = K at hf
  have k1 : K (0, 0) 2 = [(2, 0)] := by subst hK; rfl
  have k2 : K (2, 0) 1 = [(3, 0)] := by subst hK; rfl
  have k3 : K (2, 0) 2 = [] := by subst hK; rfl
  have k4 : K (3, 0) 1 = [] := by subst hK; rfl
  have k5 : K (3, 0) 2 = [] := by subst hK; rfl
  rw [k1] at hf
  have e3 : Fl K [(3, 0)] ([] ++ (3, 0) :: ([] ++ [])) := .cons (by rw [k4]; exact .nil) (by rw [k5]; exact .nil) .nil
  have e2 : Fl K [(2, 0)] ([(3, 0)] ++ (2, 0) :: ([] ++ [])) := .cons (by rw [k2]; exact e3) (by rw [k3]; exact .nil) .nil
  exact hf.det e2
set_option maxHeartbeats 2000000 in
set_option maxRecDepth 20000 in
theorem alive_any (w : World) : Calls Try.prog 12 #[] w fun e w' => e = .returned (.bool true) ∧ Below w.heap.size w w' := by
  have H := Lib.hid (new_text w)
  go_enter Try.func12, Try.ntmps12
  go_wp2_with fail
  with_reducible refine H.out.mono ?_
  rintro e w1 ⟨t, rfl, hT, hB⟩
  have HT := Lib.hid hT
  have HB := Lib.hid hB
  have HI := Lib.hid (insert_text w1 t Tx.new _ hT (by decide) (2, 0) (0, 0) 2 98)
  obtain ⟨cs, T, htp⟩ := hT.blk
  clear hT hB H
  go_wp2_with fail
  with_reducible refine HI.out.mono ?_
  rintro e w2 ⟨rfl, S1, hS1, hT1, hc1⟩
  rw [show Tx.new.insE (2, 0) (0, 0) 2 = 0 from insE_zero.2 ⟨by decide, by simp [Tx.new], .inl rfl⟩]
  have hl1 := hS1.length
  have hB1 := Ch.deep HB.out hc1 (fun x hx => hx.1)
  have HI2 := Lib.hid (insert_text w2 t S1 _ hT1 (by have : Tx.new.L.length = 0 := rfl; omega) (3, 0) (2, 0) 1 97)
  have HS1 := Lib.hid hS1
  have HB1 := Lib.hid hB1
  have HBw := HB.out.size
  clear hS1 hT1 hc1 hl1 hB1 HI htp HT
  go_wp2_with fail
  with_reducible refine HI2.out.mono ?_
  rintro e w3 ⟨rfl, S2, hS2, hT2, hc2⟩
  obtain ⟨p1, p2, p3, p4⟩ := alive_plain HS1.out hS2
  rw [p4]
  have hs2 := HB1.out.size
  have hB2 := Ch.deep HB1.out hc2 (fun x hx => by rcases hx with h | h <;> omega)
  have ha := at_text w3 t S2 _ hT2 0
  have e1 : atTV S2 0 = .agg #[.int .i64 3, .int .i64 0, .int .i64 97, .bool false] := by
    have hc : cnt S2.gone S2.L = 2 := by rw [p1, p3]; decide
    have hv : nthV S2.L S2.gone 0 = (3, 0) := by rw [p1, p3]; decide
    unfold atTV
    rw [hc, hv, if_pos (by decide)]
    show Value.agg #[.int .i64 3, .int .i64 0, .int .i64 (S2.ch (3, 0)), .bool (S2.gone (3, 0))] = _
    rw [p2, p3]
  have e2 : atTE S2 0 = 0 := by
    have hc : cnt S2.gone S2.L = 2 := by rw [p1, p3]; decide
    unfold atTE
    rw [hc, if_pos (by decide)]
  rw [e1, e2] at ha
  have HA := Lib.hid ha
  have HT2 := Lib.hid hT2
  have HB2 := Lib.hid hB2
  have HC := Lib.hid (show (cnt S2.gone S2.L : Int) = 2 by rw [p1, p3]; decide)
  clear hS2 hT2 hc2 p1 p2 p3 p4 e1 e2 ha hB2 HI2
  go_wp2_with fail
  with_reducible refine HA.out.mono ?_
  rintro e w4 ⟨rfl, hb⟩
  have HB4 := Lib.hid hb
  have hlen := len_text _ t S2 _ ((HT2.out.later hb).later ((Below.refl _ _).alloc (Nat.le_refl _) (.cells #[.int .i64 3, .int .i64 0, .int .i64 97, .bool false] 44)))
  rw [HC.out] at hlen
  have HL := Lib.hid hlen
  clear hb hlen HA
  go_wp2_with (with_reducible refine HL.out.mono ?_; rintro e w' ⟨rfl, rfl⟩)
  go_ret
  exact ⟨rfl, below_alloc (HB2.out.trans (HB4.out.mono HB2.out.size)) _⟩
end Go.Proofs.Ytohpablkgfkelaa
