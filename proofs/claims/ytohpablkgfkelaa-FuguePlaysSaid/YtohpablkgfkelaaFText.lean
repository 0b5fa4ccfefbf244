/- A TEXT IN MEMORY: what it is, and what the functions that only read it answer: has, element, Len, Index. -/
import Derived.Test.YtohpablkgfkelaaFTx
import Derived.Deep.RegionWith
namespace Go.Proofs.Ytohpablkgfkelaa
open Go.RowKit Go.Joins
set_option linter.unusedSimpArgs false
set_option linter.unusedVariables false

/-- a spot as a key -/
abbrev encP (k : St × Int) : Value := .agg #[.int .i64 k.1.1, .int .i64 k.1.2, .int .i64 k.2]
theorem eqSpot_run (d : Nat) (a1 a2 a3 b1 b2 b3 : Int) (w : World) : (Op.equalIn (d + 3) 77 (.agg #[.int .i64 a1, .int .i64 a2, .int .i64 a3]) (.agg #[.int .i64 b1, .int .i64 b2, .int .i64 b3])).run Try.prog w = .ok (a1 == b1 && a2 == b2 && a3 == b3) w := by
  have h := eqS_run (P := Try.prog) (w := w) (d := d + 2) (t := 77) (xs := #[.int .i64 a1, .int .i64 a2, .int .i64 a3]) (ys := #[.int .i64 b1, .int .i64 b2, .int .i64 b3]) Try.underlying77 (by kernel_rfl) (bs := [a1 == b1 && a2 == b2, a3 == b3])
    (.cons ⟨by decide, st a1 a2, st b1 b2, by kernel_rfl, by kernel_rfl, eqSt_run d a1 a2 b1 b2 w⟩ (.cons ⟨by decide, .int .i64 a3, .int .i64 b3, by kernel_rfl, by kernel_rfl, eqI_run Try.underlying31 a3 b3⟩ .nil))
  simpa [Bool.and_assoc] using h
theorem keyP : KeyIs Try.prog 77 encP :=
  keyIs_struct Try.underlying77 (fun k e w => by kernel_rfl) (fun a b w => by
    refine (eqSpot_run 9997 a.1.1 a.1.2 a.2 b.1.1 b.1.2 b.2 w).trans ?_
    congr 1
    rw [Bool.eq_iff_iff]
    simp [Prod.ext_iff, and_assoc]) (fun k => by
    show Instr.sameBits (9998 + 1 + 1) (.agg #[.int .i64 k.1.1, .int .i64 k.1.2, .int .i64 k.2]) (.agg #[.int .i64 k.1.1, .int .i64 k.1.2, .int .i64 k.2]) = true
    generalize 9998 = d
    simp [Instr.sameBits])
def kidF (K : Kd) (sl : St → Int → Value) (k : St × Int) : Option Value := if K k.1 k.2 = [] then none else some (sl k.1 k.2)
def chF (S : Tx) (k : St) : Option Value := if k ∈ S.L then some (.int .i64 (S.ch k)) else none
def goneF (S : Tx) (k : St) : Option Value := if S.gone k then some (.bool true) else none
abbrev elV (S : Tx) (k : St) : Value := .agg #[.int .i64 k.1, .int .i64 k.2, .int .i64 (S.ch k), .bool (S.gone k)]
structure TextAt (w : World) (t kb cb gb r : Nat) (sl : St → Int → Value) (S : Tx) (F : Nat → Prop) : Prop where
  ok : S.Ok
  top : w.heap[t]? = some (.cells #[.map (some kb), .map (some cb), .map (some gb), ptr r] 74 (0, 0))
  kids : ∃ n, MapIs w kb encP (kidF S.K sl) n
  chs : ∃ n, MapIs w cb encS (chF S) n
  gones : ∃ n, MapIs w gb encS (goneF S) n
  own : ∀ p s, w.ownsRow 0 30 2 (sl p s) (S.K p s).length (stL (S.K p s))
  nil : ∀ p s, S.K p s = [] → sl p s = .slice none 0 0
  rope : Rope w r S.L S.gone F
  dis : t ≠ kb ∧ t ≠ cb ∧ t ≠ gb ∧ kb ≠ cb ∧ kb ≠ gb ∧ cb ≠ gb
  lt : ∀ x, F x → x < w.heap.size
  nF : ¬ F t ∧ ¬ F kb ∧ ¬ F cb ∧ ¬ F gb
  sF : ∀ p s x, (sl p s).ownBlock = some x → x ≠ t ∧ x ≠ kb ∧ x ≠ cb ∧ x ≠ gb ∧ ¬ F x
  two : ∀ p s q u x, (sl p s).ownBlock = some x → (sl q u).ownBlock = some x → p = q ∧ s = u
/-- a text, its blocks among F -/
def Text (w : World) (t : Nat) (S : Tx) (F : Nat → Prop) : Prop :=
  ∃ kb cb gb r sl F0, TextAt w t kb cb gb r sl S F0 ∧ F t ∧ F kb ∧ F cb ∧ F gb ∧ (∀ x, F0 x → F x) ∧ ∀ p s x, (sl p s).ownBlock = some x → F x
theorem TextAt.ch {w w' : World} {t kb cb gb r : Nat} {sl : St → Int → Value} {S : Tx} {F G : Nat → Prop} (h : TextAt w t kb cb gb r sl S F) (c : Ch G w w') (hG : ¬ G t ∧ ¬ G kb ∧ ¬ G cb ∧ ¬ G gb ∧ (∀ x, F x → ¬ G x) ∧ ∀ p s x, (sl p s).ownBlock = some x → ¬ G x) : TextAt w' t kb cb gb r sl S F where
  ok := h.ok
  top := c.at h.top hG.1
  kids := let ⟨n, k⟩ := h.kids; ⟨n, k.ch c hG.2.1⟩
  chs := let ⟨n, k⟩ := h.chs; ⟨n, k.ch c hG.2.2.1⟩
  gones := let ⟨n, k⟩ := h.gones; ⟨n, k.ch c hG.2.2.2.1⟩
  own := fun p s => own_ch (h.own p s) c (hG.2.2.2.2.2 p s)
  nil := h.nil
  rope := h.rope.ch c hG.2.2.2.2.1
  dis := h.dis
  lt := fun x hx => Nat.lt_of_lt_of_le (h.lt x hx) c.size
  nF := h.nF
  sF := h.sF
  two := h.two
theorem TextAt.later {w w' : World} {t kb cb gb r : Nat} {sl : St → Int → Value} {S : Tx} {F : Nat → Prop} (h : TextAt w t kb cb gb r sl S F) (b : Below w.heap.size w w') : TextAt w' t kb cb gb r sl S F :=
  h.ch (Ch.of_below (F := fun _ => False) b) ⟨id, id, id, id, fun _ _ => id, fun _ _ _ _ => id⟩
theorem Text.ch {w w' : World} {t : Nat} {S : Tx} {F G : Nat → Prop} (h : Text w t S F) (c : Ch G w w') (hG : ∀ x, F x → ¬ G x) : Text w' t S F := by
  obtain ⟨kb, cb, gb, r, sl, F0, hT, h1, h2, h3, h4, h5, h6⟩ := h
  exact ⟨kb, cb, gb, r, sl, F0, hT.ch c ⟨hG _ h1, hG _ h2, hG _ h3, hG _ h4, fun x hx => hG x (h5 x hx), fun p s x hx => hG x (h6 p s x hx)⟩, h1, h2, h3, h4, h5, h6⟩
theorem Text.later {w w' : World} {t : Nat} {S : Tx} {F : Nat → Prop} (h : Text w t S F) (b : Below w.heap.size w w') : Text w' t S F := h.ch (Ch.of_below (F := fun _ => False) b) (fun _ _ => id)
theorem Text.mono {w : World} {t : Nat} {S : Tx} {F G : Nat → Prop} (h : Text w t S F) (hG : ∀ x, F x → G x) : Text w t S G := by
  obtain ⟨kb, cb, gb, r, sl, F0, hT, h1, h2, h3, h4, h5, h6⟩ := h
  exact ⟨kb, cb, gb, r, sl, F0, hT, hG _ h1, hG _ h2, hG _ h3, hG _ h4, fun x hx => hG x (h5 x hx), fun p s x hx => hG x (h6 p s x hx)⟩
theorem Text.ok {w : World} {t : Nat} {S : Tx} {F : Nat → Prop} (h : Text w t S F) : S.Ok := by
  obtain ⟨kb, cb, gb, r, sl, F0, hT, _⟩ := h
  exact hT.ok
theorem Text.bound {w : World} {t : Nat} {S : Tx} {F : Nat → Prop} (h : Text w t S F) : S.L.length < 4294967296 := by
  obtain ⟨kb, cb, gb, r, sl, F0, hT, _⟩ := h
  exact hT.rope.1
theorem zero_int (w : World) : (zeroValue 3).run Try.prog w = .ok (.int .i64 0) w := by kernel_rfl
theorem zero_row (w : World) : (zeroValue 80).run Try.prog w = .ok (.slice none 0 0) w := by kernel_rfl
section
variable {w : World} {t kb cb gb r : Nat} {sl : St → Int → Value} {S : Tx} {F : Nat → Prop}
theorem TextAt.kid_run (h : TextAt w t kb cb gb r sl S F) (p : St) (s : Int) :
    (Instr.lookup 68 (.map (some kb)) (.agg #[.int .i64 p.1, .int .i64 p.2, .int .i64 s]) false).run Try.prog w = .ok (sl p s) w := by
  obtain ⟨n, k⟩ := h.kids
  have := k.lookup keyP Try.underlying68 (zero_row w) (p, s)
  refine this.trans ?_
  unfold kidF
  by_cases e : S.K p s = []
  · rw [if_pos e, h.nil p s e]; rfl
  · rw [if_neg e]; rfl
theorem TextAt.ch_run (h : TextAt w t kb cb gb r sl S F) {k : St} (hk : k ∈ S.L) :
    (Instr.lookup 69 (.map (some cb)) (.agg #[.int .i64 k.1, .int .i64 k.2]) false).run Try.prog w = .ok (.int .i64 (S.ch k)) w := by
  obtain ⟨n, m⟩ := h.chs
  have := m.lookup keyS Try.underlying69 (zero_int w) k
  refine this.trans ?_
  unfold chF
  rw [if_pos hk]; rfl
theorem TextAt.has_run (h : TextAt w t kb cb gb r sl S F) (k : St) :
    (Instr.lookup 69 (.map (some cb)) (.agg #[.int .i64 k.1, .int .i64 k.2]) true).run Try.prog w = .ok (.tuple #[.int .i64 (if k ∈ S.L then S.ch k else 0), .bool (decide (k ∈ S.L))]) w := by
  obtain ⟨n, m⟩ := h.chs
  have := m.lookupOk keyS Try.underlying69 (zero_int w) k
  refine this.trans ?_
  unfold chF
  by_cases e : k ∈ S.L
  · simp [e]
  · simp [e]
theorem TextAt.gone_run (h : TextAt w t kb cb gb r sl S F) (k : St) :
    (Instr.lookup 70 (.map (some gb)) (.agg #[.int .i64 k.1, .int .i64 k.2]) false).run Try.prog w = .ok (.bool (S.gone k)) w := by
  obtain ⟨n, m⟩ := h.gones
  have := m.lookup keyS Try.underlying70 (zero_bool w) k
  refine this.trans ?_
  unfold goneF
  cases e : S.gone k
  · simp
  · simp
end
theorem Text.below {w w' : World} {t : Nat} {S : Tx} {F : Nat → Prop} (h : Text w t S F) (b : Below w.heap.size w w') : Text w' t S F := h.later b
set_option maxHeartbeats 1000000 in
set_option maxRecDepth 20000 in
theorem has_any (w : World) (t : Nat) (S : Tx) (F : Nat → Prop) (h : Text w t S F) (k : St) : Calls Try.prog 33 #[ptr t, encS k] w fun e w' => e = .returned (.bool (decide (k ∈ S.L))) ∧ Below w.heap.size w w' := by
  obtain ⟨kb, cb, gb, r, sl, F0, hT, -⟩ := h
  have HT := Lib.hid hT
  clear hT
  generalize hd : decide (k ∈ S.L) = d
  have HD := Lib.hid hd
  clear hd
  go_enter Try.func33, Try.ntmps33
  go_upto_region 1 with fail
  refine wp_let (KB w k w.heap.size) (KB.new w k) (fun x hx => ?_)
  have HX := Lib.hid hx
  have hT2 := HT.out.later hx.drew.b
  have hl := hT2.has_run k
  rw [HD.out] at hl
  generalize (if k ∈ S.L then S.ch k else 0) = c at hl
  have e1 := blk_cell hT2.top 1
  have c0 := hx.drew.c0
  have c1 := hx.drew.c1
  clear hT2 hx
  go_region
  go_wp2
  go_ret
  exact ⟨rfl, HX.out.drew.b⟩
set_option maxHeartbeats 1000000 in
set_option maxRecDepth 20000 in
theorem len_text (w : World) (t : Nat) (S : Tx) (F : Nat → Prop) (h : Text w t S F) : Calls Try.prog 17 #[ptr t] w fun e w' => e = .returned (.int .i64 (cnt S.gone S.L)) ∧ w = w' := by
  obtain ⟨kb, cb, gb, r, sl, F0, hT, -⟩ := h
  have e1 := blk_cell hT.top 3
  have f1 := blk_free hT.top 3
  have H := Lib.hid (count_any w r S.L S.gone F0 hT.rope)
  clear hT
  go_enter Try.func17, Try.ntmps17
  go_wp2_with (go_at_call 42; with_reducible refine H.out.mono ?_; rintro e w' ⟨rfl, rfl⟩)
  go_ret
  exact ⟨rfl, rfl⟩
end Go.Proofs.Ytohpablkgfkelaa
