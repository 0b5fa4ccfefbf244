/- A TEXT IN MEMORY: Insert, whole; Delete; New. -/
import Derived.Test.YtohpablkgfkelaaFIns2
namespace Go.Proofs.Ytohpablkgfkelaa
open Go.RowKit Go.Joins
set_option linter.unusedSimpArgs false
set_option linter.unusedVariables false

/-- what Insert answers -/
def Tx.insE (S : Tx) (x p : St) (s : Int) : Int := if ¬ ArgOk x p s then 1 else if x ∈ S.L then 122 else if p ≠ (0, 0) ∧ p ∉ S.L then 121 else 0
/-- it is done -/
def InsOk (S : Tx) (x p : St) (s : Int) : Prop := ArgOk x p s ∧ x ∉ S.L ∧ (p = (0, 0) ∨ p ∈ S.L)
theorem insE_zero {S : Tx} {x p : St} {s : Int} : S.insE x p s = 0 ↔ InsOk S x p s := by
  unfold Tx.insE InsOk
  by_cases h1 : ArgOk x p s
  · by_cases h2 : x ∈ S.L
    · simp [h1, h2]
    · by_cases h3 : p = (0, 0)
      · simp [h1, h2, h3]
      · by_cases h4 : p ∈ S.L
        · simp [h1, h2, h3, h4]
        · simp [h1, h2, h3, h4]
  · simp [h1]
/-- Insert's step -/
def Stp (S : Tx) (x p : St) (s c : Int) (S' : Tx) : Prop :=
  (¬ InsOk S x p s ∧ S' = S) ∨ (InsOk S x p s ∧ ∃ A B, Put S.K S.L p s (posS (S.K p s) x) A B ∧ S' = S.ins x p s c (posS (S.K p s) x) A B)
def InsT (t : Nat) (S : Tx) (F : Nat → Prop) (x p : St) (s c : Int) (w : World) (e : Ending) (w' : World) : Prop :=
  e = .returned (.int .i64 (S.insE x p s)) ∧ ∃ S', Stp S x p s c S' ∧ Text w' t S' (fun z => F z ∨ w.heap.size ≤ z) ∧ Ch F w w'
theorem insert_text (w : World) (t : Nat) (S : Tx) (F : Nat → Prop) (h : Text w t S F) (hL : S.L.length + 1 < 4294967296) (x p : St) (s c : Int) :
    Calls Try.prog 13 #[ptr t, encS x, encS p, .int .i64 s, .int .i64 c] w (InsT t S F x p s c w) := by
  by_cases hd : InsOk S x p s
  · obtain ⟨h1, h2, h3⟩ := hd
    refine (ins_ok w t S F h hL x p s c h1 h2 h3).mono ?_
    rintro e w' ⟨rfl, A, B, hP, hT, hc⟩
    exact ⟨by rw [insE_zero.2 ⟨h1, h2, h3⟩], _, .inr ⟨⟨h1, h2, h3⟩, A, B, hP, rfl⟩, hT, hc⟩
  · have fin : ∀ w', Below w.heap.size w w' → ∃ S', Stp S x p s c S' ∧ Text w' t S' (fun z => F z ∨ w.heap.size ≤ z) ∧ Ch F w w' := fun w' hb => ⟨S, .inl ⟨hd, rfl⟩, (h.later hb).mono (fun _ => .inl), Ch.of_below hb⟩
    unfold InsT Tx.insE
    by_cases h1 : ArgOk x p s
    · by_cases h2 : x ∈ S.L
      · refine (ins_twice w t S F h x p s c h1 h2).mono ?_
        rintro e w' ⟨rfl, hb⟩
        exact ⟨by simp [h1, h2], fin w' hb⟩
      · have h3 : p ≠ (0, 0) ∧ p ∉ S.L := by
          constructor
          · exact fun e => hd ⟨h1, h2, .inl e⟩
          · exact fun e => hd ⟨h1, h2, .inr e⟩
        refine (ins_ref w t S F h x p s c h1 h2 h3.1 h3.2).mono ?_
        rintro e w' ⟨rfl, hb⟩
        exact ⟨by simp [h1, h2, h3], fin w' hb⟩
    · refine (ins_arg w t S F h x p s c h1).mono ?_
      rintro e w' ⟨rfl, hb⟩
      exact ⟨by simp [h1], fin w' hb⟩
def Tx.dele (S : Tx) (k : St) : Tx := if k ∈ S.L then S.del k else S
def DelT (t : Nat) (S : Tx) (F : Nat → Prop) (k : St) (w : World) (e : Ending) (w' : World) : Prop :=
  e = .returned (.int .i64 (if k ∈ S.L then 0 else 121)) ∧ Text w' t (S.dele k) F ∧ Ch F w w'
theorem del_fin {w y z y2 : World} {t kb cb gb r : Nat} {sl : St → Int → Value} {S : Tx} {F F0 : Nat → Prop} {k : St} (hT : TextAt w t kb cb gb r sl S F0) (hF : F t ∧ F kb ∧ F cb ∧ F gb ∧ (∀ x, F0 x → F x) ∧ ∀ p s x, (sl p s).ownBlock = some x → F x) (hk : k ∈ S.L)
    (hb : Below w.heap.size w y) {n : Nat} (m : MapIs z gb encS (upd (goneF S) k (.bool true)) n) (c1 : Ch (fun u => u = gb) y z) (hr : Rope y2 r S.L (showH S.L S.gone k false) F0) (c2 : Ch F0 z y2) : Text y2 t (S.del k) F ∧ Ch F w y2 := by
  obtain ⟨d1, d2, d3, d4, d5, d6⟩ := hT.dis
  obtain ⟨n1, n2, n3, n4⟩ := hT.nF
  have c : Ch (fun u => u = gb ∨ F0 u) w y2 := ((Ch.of_below (F := fun u => u = gb ∨ F0 u) hb).trans c1 (fun _ _ h => .inl h)).trans c2 (fun _ _ h => .inr h)
  refine ⟨⟨kb, cb, gb, r, sl, F0, ?_, hF⟩, c.mono (fun z _ e => e.elim (fun h => h ▸ hF.2.2.2.1) (hF.2.2.2.2.1 z))⟩
  refine ⟨hT.ok.del hk, c.at hT.top (fun e => e.elim d3 n1), ?_, ?_, ⟨n, (m.ch c2 n4).eqv fun x => ?_⟩, fun p s => own_ch (hT.own p s) c (fun x hx e => ?_), hT.nil, ?_, hT.dis, fun x hx => Nat.lt_of_lt_of_le (hT.lt x hx) c.size, hT.nF, hT.sF, hT.two⟩
  · obtain ⟨n, m⟩ := hT.kids
    exact ⟨n, m.ch c (fun e => e.elim d5 n2)⟩
  · obtain ⟨n, m⟩ := hT.chs
    exact ⟨n, (m.ch c (fun e => e.elim d6 n3))⟩
  · unfold upd goneF Tx.del setH
    by_cases e : x = k <;> simp [e]
  · obtain ⟨a1, a2, a3, a4, a5⟩ := hT.sF p s x hx
    exact e.elim a4 a5
  · unfold showH at hr
    rw [if_pos hk] at hr
    exact hr
set_option maxHeartbeats 2000000 in
set_option maxRecDepth 20000 in
theorem delete_text (w : World) (t : Nat) (S : Tx) (F : Nat → Prop) (h : Text w t S F) (k : St) :
    Calls Try.prog 14 #[ptr t, encS k] w (DelT t S F k w) := by
  have H0 := Lib.hid h
  obtain ⟨kb, cb, gb, r, sl, F0, hT, hFF⟩ := h
  have HT := Lib.hid hT
  have HFF := Lib.hid hFF
  have htp := hT.top
  have HTP := Lib.hid htp
  clear hT hFF htp
  unfold DelT Tx.dele
  by_cases hk : k ∈ S.L
  · rw [if_pos hk, if_pos hk]
    have HK := Lib.hid hk
    have HKD := Lib.hid (decide_eq_true hk)
    clear hk
    go_enter Try.func14, Try.ntmps14
    go_upto_region 1 with fail
    refine wp_let (KB w k w.heap.size) (KB.new w k) (fun x hx => ?_)
    have HX := Lib.hid hx
    have c0 := hx.c0
    have c1 := hx.c1
    have HHC := Lib.hid (show Calls Try.prog 33 #[ptr t, encS k] x fun e w' => e = .returned (.bool true) ∧ Below x.heap.size x w' by rw [← HKD.out]; exact has_any x t S F (H0.out.later hx.b) k)
    clear hx
    go_upto_region 5 with (go_at_call 33; with_reducible refine HHC.out.mono ?_; rintro e z ⟨rfl, hb⟩; have HB := Lib.hid (HX.out.later hb); clear hb)
    clear HHC c0 c1
    have hzd := HB.out.drew
    have hTz := HT.out.later hzd.b
    obtain ⟨n, mg⟩ := hTz.gones
    obtain ⟨w1, hrun, m1, ch1, sz1⟩ := mg.update keyS Try.underlying70 k (.bool true)
    have hgw := (HT.out.gones.choose_spec).lt
    have htop1 := ch1.at hTz.top HT.out.dis.2.2.1
    have hbx1 := ch1.at hzd.bx (fun e => by omega)
    have hrope1 := hTz.rope.ch ch1 (fun x hx e => HT.out.nF.2.2.2 (e ▸ hx))
    have e2 := blk_cell hTz.top 2
    have c0 := hzd.c0
    have c1 := hzd.c1
    have HM := Lib.hid (And.intro m1 (And.intro ch1 hzd.b))
    have HR1 := Lib.hid hrope1
    have HT1 := Lib.hid (And.intro htop1 hbx1)
    clear hzd hTz mg m1 ch1 sz1 hgw htop1 hbx1 hrope1
    go_region
    clear hrun e2 c0 c1
    go_upto_region 6 with fail
    have e3 := blk_cell (blk_drew HT1.out.1) 3
    have c0 := blk_cell (blk_drew HT1.out.2) 0
    have c1 := blk_cell (blk_drew HT1.out.2) 1
    have HSH := Lib.hid (show_any w1.drew r S.L S.gone F0 (HR1.out.later (Below.refl _ _).drew) k false)
    unfold itemE at HSH
    rw [if_pos HK.out] at HSH
    go_region_held3 (fun w' => w'.cell? ⟨t, 3, none⟩ = some (ptr r) ∧ w'.cell? ⟨w.heap.size, 0, none⟩ = some (.int .i64 k.1) ∧ w'.cell? ⟨w.heap.size, 1, none⟩ = some (.int .i64 k.2)) (first | exact ⟨e3, c0, c1⟩ | exact ⟨l0, l1, l2⟩) (first | (go_at_call 39; (with_reducible refine HSH.out.mono ?_); rintro e y2 ⟨rfl, hr2, hc2⟩; have l0 := blk_cell (hc2.at (blk_drew HT1.out.1) HT.out.nF.1) 3; have l1 := blk_cell (hc2.at (blk_drew HT1.out.2) (fun e => absurd (HT.out.lt _ e) (Nat.lt_irrefl _))) 0; have l2 := blk_cell (hc2.at (blk_drew HT1.out.2) (fun e => absurd (HT.out.lt _ e) (Nat.lt_irrefl _))) 1; have HR2 := Lib.hid (And.intro hr2 hc2); clear hr2 hc2))
    go_wp2
    go_ret
    exact ⟨rfl, del_fin HT.out HFF.out HK.out HM.out.2.2 HM.out.1 HM.out.2.1 HR2.out.1 (((Ch.refl F0 w1).drew).trans HR2.out.2 (fun _ _ h => h))⟩
  · rw [if_neg hk, if_neg hk]
    have HKD := Lib.hid (decide_eq_false hk)
    clear hk
    go_enter Try.func14, Try.ntmps14
    go_upto_region 1 with fail
    refine wp_let (KB w k w.heap.size) (KB.new w k) (fun x hx => ?_)
    have HX := Lib.hid hx
    have c0 := hx.c0
    have c1 := hx.c1
    have HHC := Lib.hid (show Calls Try.prog 33 #[ptr t, encS k] x fun e w' => e = .returned (.bool false) ∧ Below x.heap.size x w' by rw [← HKD.out]; exact has_any x t S F (H0.out.later hx.b) k)
    clear hx
    go_wp2_with (go_at_call 33; with_reducible refine HHC.out.mono ?_; rintro e z ⟨rfl, hb⟩; have HB := Lib.hid (HX.out.later hb); clear hb)
    go_ret
    exact ⟨rfl, H0.out.later HB.out.b, Ch.of_below HB.out.b⟩
end Go.Proofs.Ytohpablkgfkelaa
