/- A SCRIPT PLAYED ON A TEXT: written. -/
import Derived.Test.YtohpablkgfkelaaFSame
import Derived.Deep.AppendLies
namespace Go.Proofs.Ytohpablkgfkelaa
open Go.RowKit Go.Joins
set_option linter.unusedSimpArgs false
set_option linter.unusedVariables false

/-- an act that is done -/
def StepA (S : Tx) (a : ActG) (S' : Tx) : Prop := (a.kd = 1 ∧ InsOk S a.id a.par a.side ∧ Stp S a.id a.par a.side a.ch S') ∨ (a.kd = 2 ∧ a.id ∈ S.L ∧ S' = S.del a.id)
/-- a text of acts that were done -/
inductive Came : List ActG → Tx → Prop
  | nil : Came [] Tx.new
  | step {l : List ActG} {S S' : Tx} {a : ActG} : Came l S → StepA S a S' → Came (l ++ [a]) S'
theorem StepA.length {S S' : Tx} {a : ActG} (h : StepA S a S') : S'.L.length ≤ S.L.length + 1 := by
  rcases h with ⟨-, -, h⟩ | ⟨-, -, rfl⟩
  · exact h.length
  · show S.L.length ≤ _; omega
theorem Came.length {l : List ActG} {S : Tx} (h : Came l S) : S.L.length ≤ l.length := by
  induction h with
  | nil => simp [Tx.new]
  | step h hs ih => have := hs.length; simp; omega
theorem RowAct.ch {F : Nat → Prop} {w w' : World} {base : Nat} {v : Value} {l : List ActG} (h : RowAct w base v l) (c : Ch F w w') (hd : ∀ b, v.ownBlock = some b → ¬ F b) : RowAct w' base v l := own_ch h c hd
theorem RowAct.later {w w' : World} {base : Nat} {v : Value} {l : List ActG} (h : RowAct w base v l) (b : Below w.heap.size w w') : RowAct w' base v l := h.ch (Ch.of_below (F := fun _ => False) b) (fun _ _ h => h)
/-- a text and the row of its acts, apart from each other -/
structure Wr (w z : World) (t : Nat) (S : Tx) (v : Value) (l : List ActG) : Prop where
  text : Text z t S (fun x => w.heap.size ≤ x ∧ v.ownBlock ≠ some x)
  row : RowAct z w.heap.size v l
  b : Below w.heap.size w z
theorem Wr.later {w z z' : World} {t : Nat} {S : Tx} {v : Value} {l : List ActG} (h : Wr w z t S v l) (b : Below z.heap.size z z') : Wr w z' t S v l := ⟨h.text.later b, h.row.later b, h.b.trans (b.mono h.b.size)⟩
/-- behind a call that turned the text -/
theorem Wr.turn {w z z' : World} {t : Nat} {S S' : Tx} {v : Value} {l : List ActG} (h : Wr w z t S v l) (hT : Text z' t S' (fun x => (w.heap.size ≤ x ∧ v.ownBlock ≠ some x) ∨ z.heap.size ≤ x)) (c : Ch (fun x => w.heap.size ≤ x ∧ v.ownBlock ≠ some x) z z') : Wr w z' t S' v l :=
  ⟨hT.mono (fun x hx => hx.elim id (fun e => ⟨by have := h.b.size; omega, fun hv => by have := (h.row.lt x hv).2; omega⟩)), h.row.ch c (fun b hb e => e.2 hb), Ch.deep h.b c (fun x hx => hx.1)⟩
theorem Wr.turn2 {w z z' : World} {t : Nat} {S S' : Tx} {v : Value} {l : List ActG} (h : Wr w z t S v l) (hT : Text z' t S' (fun x => w.heap.size ≤ x ∧ v.ownBlock ≠ some x)) (c : Ch (fun x => w.heap.size ≤ x ∧ v.ownBlock ≠ some x) z z') : Wr w z' t S' v l :=
  ⟨hT, h.row.ch c (fun b hb e => e.2 hb), Ch.deep h.b c (fun x hx => hx.1)⟩
/-- behind an append to the row -/
theorem Wr.more {w z z' : World} {t : Nat} {S : Tx} {v v' : Value} {l l' : List ActG} (h : Wr w z t S v l) (ho : RowAct z' w.heap.size v' l') (g : z.grownBy z' v.ownBlock) (hv' : ∀ b, v'.ownBlock = some b → v.ownBlock = some b ∨ z.heap.size ≤ b) : Wr w z' t S v' l' := by
  refine ⟨(h.text.bnd.ch (Ch.of_grown g) (fun x hx e => hx.1.2 e.symm)).mono (fun x hx => ⟨hx.1.1, fun e => ?_⟩), ho, h.b.grown g h.b.size (fun x hx => (h.row.lt x hx).1)⟩
  rcases hv' x e with e2 | e2
  · exact hx.1.2 e2
  · omega
/-- what written answers -/
def WrittenP (A : List ActG) (w : World) (e : Ending) (w' : World) : Prop :=
  ∃ t S v l, e = .returned (.tuple #[ptr t, v]) ∧ Wr w w' t S v l ∧ Came l S ∧ l.length ≤ 80
theorem stp_no {S S' : Tx} {x p : St} {s c : Int} (h : Stp S x p s c S') (hn : ¬ InsOk S x p s) : S' = S := by
  rcases h with ⟨-, e⟩ | ⟨e, -⟩
  · exact e
  · exact absurd e hn
theorem insE_no {S : Tx} {x p : St} {s : Int} (hn : ¬ InsOk S x p s) : S.insE x p s ≠ 0 := fun e => hn (insE_zero.1 e)
set_option maxHeartbeats 8000000 in
set_option maxRecDepth 20000 in
theorem written_any (w : World) (ao : Option Addr) (cap : Nat) (A : List ActG) (hlen : A.length ≤ maxLen) (hA : ActsAt w ao A) :
    Calls Try.prog 10 #[.slice ao A.length cap] w (WrittenP A w) := by
  obtain ⟨i0, hi, hz0, hz1, hz2⟩ := info_parts infoAct
  have HN := Lib.hid (new_text w)
  have HA := Lib.hid hA
  unfold maxLen at hlen
  clear hA
  go_enter Try.func10, Try.ntmps10
  go_wp2_with fail
  with_reducible refine HN.out.mono ?_
  rintro e w1 ⟨t, rfl, hT, hB⟩
  have HW := Lib.hid (show Wr w w1 t Tx.new (.slice none 0 0) [] from ⟨hT.mono (fun x hx => ⟨hx.1, fun h => by cases h⟩), World.ownsRow_nil _ _ _ _, hB⟩)
  clear hT hB HN
  go_wp2
  go_loopw [5, 6] (fun v i wr => ∃ (n : Nat) (S : Tx) (l : List ActG), i = .int .i64 n ∧ n ≤ A.length ∧ n ≤ 80 ∧ l.length ≤ n ∧ Aside (Came l S) ∧ Aside (Wr w wr t S v l)) (fun _ i _ => 81 - (intOf i).toNat)
  case atStart => exact ⟨0, _, [], rfl, by omega, by omega, by simp, Came.nil, HW.out⟩
  case round =>
    obtain ⟨n, S, l, rfl, hk1, hk2, hl, HC, HWr⟩ := hrel
    obtain ⟨cs, T, htp⟩ := HWr.out.text.blk
    have HTP := Lib.hid htp
    by_cases hk : n < A.length ∧ n < 80
    · obtain ⟨hk, h3⟩ := hk
      obtain ⟨a, ha⟩ : ∃ a, A[n]? = some a := ⟨_, List.getElem?_eq_getElem hk⟩
      obtain ⟨b, off, rfl, hbw, hc⟩ := HA.out.below HWr.out.b n a ha
      have c0 := hc 0 _ rfl
      have c1 := hc 1 _ rfl
      have c2 := hc 2 _ rfl
      have c3 := hc 3 _ rfl
      have c4 := hc 4 _ rfl
      have c5 := hc 5 _ rfl
      have c6 := hc 6 _ rfl
      have c7 := hc 7 _ rfl
      simp only [Nat.add_zero] at c0
      clear hc ha
      go_upto_region 7 with fail
      refine wp_let (fun z => Wr w z t S u5 l ∧ Below wr.heap.size wr z ∧ z.heap[wr.heap.size]? = some (.cells a.cells 33 (0, 0))) ⟨HWr.out.later ((Below.refl _ _).alloc (Nat.le_refl _) _), (Below.refl _ _).alloc (Nat.le_refl _) _, blk_new _ _⟩ (fun x hx => ?_)
      have HX := Lib.hid (And.intro hx.1 hx.2.2)
      have HX2 := Lib.hid hx.2.1
      clear c0 c1 c2 c3 c4 c5 c6 c7 htp
      have c0 := blk_cell hx.2.2 0
      have c1 := blk_cell hx.2.2 1
      have c2 := blk_cell hx.2.2 2
      have c3 := blk_cell hx.2.2 3
      have c4 := blk_cell hx.2.2 4
      have c5 := blk_cell hx.2.2 5
      have c6 := blk_cell hx.2.2 6
      clear hx
      have hLb := HC.out.length
      have HXT := Lib.hid ((HWr.out.text.bnd).later (HX2.out))
      have HI := Lib.hid (insert_text x t S _ HXT.out (by omega) a.id a.par a.side a.ch)
      have HD := Lib.hid (delete_text x t S _ HXT.out a.id)
      have hbx : ∀ z, Ch (fun y => (w.heap.size ≤ y ∧ u5.ownBlock ≠ some y) ∧ y < wr.heap.size) x z → z.heap[wr.heap.size]? = some (.cells a.cells 33 (0, 0)) := fun z c => c.at HX.out.2 (fun e => by omega)
      have HBX := Lib.hid hbx
      have hti : ∀ z S', Text z t S' (fun y => ((w.heap.size ≤ y ∧ u5.ownBlock ≠ some y) ∧ y < wr.heap.size) ∨ x.heap.size ≤ y) → Ch (fun y => (w.heap.size ≤ y ∧ u5.ownBlock ≠ some y) ∧ y < wr.heap.size) x z → Wr w z t S' u5 l := fun z S' h c => HX.out.1.turn (h.mono (fun y hy => hy.imp (fun h => h.1) id)) (c.mono (fun y _ h => h.1))
      have HTI := Lib.hid hti
      clear hbx hti
      go_cut [54] (fun v z => ∃ S' ok, v = .bool ok ∧ Wr w z t S' u5 l ∧ z.heap[wr.heap.size]? = some (.cells a.cells 33 (0, 0)) ∧ (ok = true → StepA S a S') ∧ (ok = false → S' = S))
      case first =>
        by_cases hkd : a.kd = 1
        · have d1 : (a.kd == 1) = true := beq_iff_eq.2 hkd
          have d2 : (a.kd == 2) = false := beq_eq_false_iff_ne.2 (by omega)
          by_cases hok : InsOk S a.id a.par a.side
          · have hi0 := HI.out
            have e0 : (S.insE a.id a.par a.side == 0) = true := beq_iff_eq.2 (insE_zero.2 hok)
            have HOK := Lib.hid hok
            have HKD := Lib.hid hkd
            clear hok hi0 hkd
            go_wp2_with fail
            with_reducible refine HI.out.mono ?_
            rintro e z ⟨rfl, S', hS, hT', hc⟩
            have HZ := Lib.hid (And.intro hS (And.intro hT' hc))
            clear hS hT' hc
            go_wp2_with fail
            go_meet
            exact ⟨S', true, rfl, HTI.out _ _ HZ.out.2.1 HZ.out.2.2, HBX.out _ HZ.out.2.2, fun _ => .inl ⟨HKD.out, HOK.out, HZ.out.1⟩, fun h => by cases h⟩
          · have e0 : (S.insE a.id a.par a.side == 0) = false := beq_eq_false_iff_ne.2 (insE_no hok)
            have HOK := Lib.hid hok
            clear hok hkd
            go_wp2_with fail
            with_reducible refine HI.out.mono ?_
            rintro e z ⟨rfl, S', hS, hT', hc⟩
            have hb0 := HBX.out _ hc
            have k0 := blk_cell hb0 0
            have k1 := blk_cell hb0 1
            have k2 := blk_cell hb0 2
            have HZ := Lib.hid (And.intro hS (And.intro hT' hc))
            clear hS hT' hc hb0
            go_wp2_with fail
            go_meet
            exact ⟨S', false, rfl, HTI.out _ _ HZ.out.2.1 HZ.out.2.2, HBX.out _ HZ.out.2.2, fun h => (by cases h), fun _ => stp_no HZ.out.1 HOK.out⟩
        · have d1 : (a.kd == 1) = false := beq_eq_false_iff_ne.2 hkd
          by_cases hk2 : a.kd = 2
          · have d2 : (a.kd == 2) = true := beq_iff_eq.2 hk2
            by_cases hm : a.id ∈ S.L
            · have hd := HD.out
              unfold DelT Tx.dele at hd
              rw [if_pos hm, if_pos hm] at hd
              have HD := Lib.hid hd
              have HM := Lib.hid hm
              have HKD := Lib.hid hk2
              clear hd hm hkd hk2
              go_wp2_with fail
              with_reducible refine HD.out.mono ?_
              rintro e z ⟨rfl, hT', hc⟩
              have HZ := Lib.hid (And.intro hT' hc)
              clear hT' hc
              go_wp2_with fail
              go_meet
              exact ⟨_, true, rfl, HTI.out _ _ (HZ.out.1.mono (fun _ h => .inl h)) HZ.out.2, HBX.out _ HZ.out.2, fun _ => .inr ⟨HKD.out, HM.out, rfl⟩, fun h => by cases h⟩
            · have hd := HD.out
              unfold DelT Tx.dele at hd
              rw [if_neg hm, if_neg hm] at hd
              have HD := Lib.hid hd
              clear hd hm hkd hk2
              go_wp2_with fail
              with_reducible refine HD.out.mono ?_
              rintro e z ⟨rfl, hT', hc⟩
              have HZ := Lib.hid (And.intro hT' hc)
              clear hT' hc
              go_wp2_with fail
              go_meet
              exact ⟨S, false, rfl, HTI.out _ _ (HZ.out.1.mono (fun _ h => .inl h)) HZ.out.2, HBX.out _ HZ.out.2, fun h => (by cases h), fun _ => rfl⟩
          · have d2 : (a.kd == 2) = false := beq_eq_false_iff_ne.2 hk2
            clear hkd hk2
            go_wp2_with fail
            go_meet
            exact ⟨S, false, rfl, HX.out.1, HX.out.2, fun h => (by cases h), fun _ => rfl⟩
      case rest =>
        obtain ⟨S', ok, rfl, hW', hbox, hyes, hno⟩ := hcut
        generalize wc = z at *
        have HW' := Lib.hid hW'
        have HYES := Lib.hid hyes
        have HNO := Lib.hid hno
        clear c0 c1 c2 c3 c4 c5 c6 HI HD HXT HBX HTI hyes hno hW'
        cases ok with
        | true =>
          have HS := Lib.hid (HYES.out rfl)
          have c0 := blk_cell hbox 0
          have c1 := blk_cell hbox 1
          have c2 := blk_cell hbox 2
          have c3 := blk_cell hbox 3
          have c4 := blk_cell hbox 4
          have c5 := blk_cell hbox 5
          have c6 := blk_cell hbox 6
          have c7 := blk_cell hbox 7
          clear hbox
          have HRA := Lib.hid ((HW'.out.later ((Below.refl _ _).alloc (Nat.le_refl _) (.cells a.cells 33))))
          go_wp2_with (at_builtin; refine wpList_append_lies _ rfl (.tmp 55) (.tmp 57) 22 rfl w.heap.size 33 i0 _ 8 64 Try.underlying22 hi hz0 hz1 hz2 rfl (by decide) u5 _ _ rfl HRA.out.row ⟨z.heap.size, 0, none⟩ 1 1 a.cells.toList rfl rfl (fun j u hj => by
                        rw [Addr.add_lit, Nat.zero_add, blk_cell (blk_new _ _), ← Array.getElem?_toList]
                        exact hj) (act_one _) (by omega) (by unfold maxLen; omega) (by omega) HRA.out.b.size (z.heap.size + 1) (by simp) ?_; intro g cap' w2 hown1 hgrow1 hat hlt)
          go_roundw
          case rel => exact ⟨n + 1, S', l ++ [a], by go_num, by omega, by omega, by simp; omega, HC.out.step HS.out, HRA.out.more (by
            unfold RowAct
            rw [actL_append, List.length_append]
            have e : actL [a] = a.cells.toList := by simp [actL]
            rw [e]
            exact hown1) hgrow1 (fun b hb => by cases hb; exact hat.imp id (fun e => by simp; omega))⟩
          case measure => simp [intOf]; omega
        | false =>
          obtain rfl := HNO.out rfl
          clear hbox
          go_wp2
          go_roundw
          case rel => exact ⟨n + 1, S', l, by go_num, by omega, by omega, by omega, HC.out, HW'.out⟩
          case measure => simp [intOf]; omega
    · have hlt : (n < A.length ∧ ¬ n < 80) ∨ ¬ n < A.length := by omega
      clear htp
      rcases hlt with ⟨h1, h2⟩ | h1
      all_goals
        go_wp2
        go_ret2
        exact ⟨t, S, _, l, rfl, HWr.out, HC.out, by omega⟩
end Go.Proofs.Ytohpablkgfkelaa
