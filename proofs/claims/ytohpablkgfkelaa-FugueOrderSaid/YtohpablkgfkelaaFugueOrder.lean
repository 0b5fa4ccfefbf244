/- THE LAW FugueOrder. -/
import Derived.Test.YtohpablkgfkelaaFApp
import Derived.Test.YtohpablkgfkelaaRows
import Derived.ProofKit
import Derived.OpenShut
import Derived.ShutString
import Derived.ChangeOld
import Derived.Below
namespace Go.Proofs.Ytohpablkgfkelaa
open Go.ChangeShapes Go.WideShapes Go.ChangeAt Go.RowKit
open Go.ChangeMaps (open_string shut_string)
set_option linter.unusedVariables false
set_option linter.unusedSimpArgs false

open Go.Joins
/-- the first text, the second one, the row of what is left: apart -/
structure OL (w w1 z : World) (t u : Nat) (S U : Tx) (v : Value) (m : List ActG) : Prop where
  tt : Text z t S (fun y => w.heap.size ≤ y ∧ y < w1.heap.size)
  ut : Text z u U (fun y => w1.heap.size ≤ y ∧ v.ownBlock ≠ some y)
  row : RowAct z w.heap.size v m
  b : Below w1.heap.size w1 z
theorem OL.later {w w1 z z' : World} {t u : Nat} {S U : Tx} {v : Value} {m : List ActG} (h : OL w w1 z t u S U v m) (b : Below z.heap.size z z') : OL w w1 z' t u S U v m :=
  ⟨h.tt.later b, h.ut.later b, h.row.later b, h.b.trans (b.mono h.b.size)⟩
theorem OL.turn {w w1 z z' : World} {t u : Nat} {S U U' : Tx} {v : Value} {m : List ActG} (h : OL w w1 z t u S U v m) (hT : Text z' u U' (fun x => (w1.heap.size ≤ x ∧ v.ownBlock ≠ some x) ∨ z.heap.size ≤ x)) (c : Ch (fun x => w1.heap.size ≤ x ∧ v.ownBlock ≠ some x) z z') : OL w w1 z' t u S U' v m :=
  ⟨h.tt.ch c (fun y hy e => by omega), hT.mono (fun x hx => hx.elim id (fun e => ⟨by have := h.b.size; omega, fun hv => by have := (h.row.lt x hv).2; omega⟩)), h.row.ch c (fun b hb e => e.2 hb), Ch.deep h.b c (fun x hx => hx.1)⟩
/-- a new row, of new blocks -/
theorem OL.row' {w w1 z z' : World} {t u : Nat} {S U : Tx} {v v' : Value} {m m' : List ActG} (h : OL w w1 z t u S U v m) (hw : w.heap.size ≤ w1.heap.size) (b : Below z.heap.size z z') (ho : RowAct z' z.heap.size v' m') : OL w w1 z' t u S U v' m' :=
  ⟨h.tt.later b, (h.ut.bnd.later b).mono (fun x hx => ⟨hx.1.1, fun e => by have := (ho.lt x e).1; omega⟩), own_le ho (by have := h.b.size; omega), h.b.trans (b.mono h.b.size)⟩
set_option maxHeartbeats 100000000 in
set_option maxRecDepth 200000 in
theorem fugueOrder_walk (ao : Option Addr) (cap : Nat) (A : List ActG) (oo : Option Addr) (on oc : Nat) (zs : List Int) (w : World) (hlen : A.length ≤ maxLen) (hA : ActsAt w ao A)
    (hz1 : ∀ i, i < on → ∃ b off, oo = some ⟨b, off, none⟩ ∧ w.cell? ⟨b, off + i, none⟩ = some (.int .i64 (zs.getD i 0))) (hz2 : ∀ i, i < on → -9223372036854775808 ≤ zs.getD i 0 ∧ zs.getD i 0 ≤ 9223372036854775807) :
    Calls Try.prog 3 #[.slice ao A.length cap, .slice oo on oc] w fun e w' => e = .returned (.bool true) ∧ Below w.heap.size w w' := by
  obtain ⟨i0, hi, hzz0, hzz1, hzz2⟩ := info_parts infoAct
  have HW := Lib.hid (written_any w ao cap A hlen hA)
  have HZ1 := Lib.hid hz1
  have HZ2 := Lib.hid hz2
  clear hA hlen hz1 hz2
  go_enter Try.func3, Try.ntmps3
  go_wp2_with fail
  with_reducible refine HW.out.mono ?_
  rintro e w1 ⟨t, S, v, l, rfl, hWr, hC, hl80⟩
  have HWr := Lib.hid hWr
  have HC := Lib.hid hC
  have HNW := Lib.hid (new_text w1)
  clear hWr hC HW
  go_wp2_with fail
  with_reducible refine HNW.out.mono ?_
  rintro e w2 ⟨u, rfl, hTu, hbu⟩
  have HU := Lib.hid (And.intro hTu hbu)
  have HAL := Lib.hid (alive_any w2)
  obtain ⟨cs, T, htp⟩ := (HWr.out.text.later hbu).blk
  obtain ⟨cs2, T2, hup⟩ := hTu.blk
  clear hTu hbu HNW
  go_wp2_with fail
  with_reducible refine HAL.out.mono ?_
  rintro e w3 ⟨rfl, hb3⟩
  have hw1 := HWr.out.b.size
  have hb13 : Below w1.heap.size w1 w3 := HU.out.2.trans (hb3.mono HU.out.2.size)
  have HOL := Lib.hid (show OL w w1 w3 t u S Tx.new v l from ⟨(HWr.out.text.bnd.later hb13).mono (fun y hy => ⟨hy.1.1, hy.2⟩), (HU.out.1.later hb3).mono (fun y hy => ⟨hy.1, fun e => by have := (HWr.out.row.lt y e).2; omega⟩), HWr.out.row.later hb13, hb13⟩)
  have HTL := Lib.hid HC.out.told
  clear htp hup hb3 hb13 HAL HU
  go_wp2
  go_loopw [6, 8] (fun lv i wr => ∃ (n : Nat) (U : Tx) (d m : List ActG), i = .int .i64 n ∧ n + m.length = l.length ∧ d.length = n ∧ Aside (Rest l d m) ∧ Aside (Came d U) ∧ Aside (OL w w1 wr t u S U lv m)) (fun _ i _ => 81 - (intOf i).toNat)
  case atStart => exact ⟨0, _, [], l, rfl, by omega, rfl, Rest.start l, Came.nil, HOL.out⟩
  case round =>
    obtain ⟨n, U, d, m, rfl, hnm, hdn, AR, AC, AO⟩ := hrel
    obtain ⟨al, cl, hlv, hnil, hoff, hcl1, hcl2, hacts⟩ := AO.out.row.form
    subst hlv
    rcases Nat.eq_zero_or_pos m.length with h0 | h0
    · have hm0 := List.eq_nil_of_length_eq_zero h0
      have hds : ∀ a, a ∈ d ↔ a ∈ l := fun a => ⟨AR.out.done a, fun ha => (AR.out.all a ha).elim id (fun h => by rw [hm0] at h; cases h)⟩
      obtain ⟨he, hcn⟩ := told_same HTL.out AC.out.told hds
      have hLl := HC.out.length
      have hUl := AC.out.length
      have HA1 := Lib.hid (all_text wr t S _ AO.out.tt)
      have HE := Lib.hid he
      have HCN := Lib.hid hcn
      clear hnil hoff hcl1 hcl2 hacts hds he hcn hm0
      go_wp2_with fail
      with_reducible refine HA1.out.mono ?_
      rintro e w5 ⟨v5, rfl, hrow5, hb5⟩
      obtain ⟨a5, c5, rfl, hels5⟩ := hrow5.formS rfl
      have HE5 := Lib.hid hels5
      have HT5 := Lib.hid (AO.out.tt.later hb5)
      have HU5 := Lib.hid (AO.out.ut.later hb5)
      have HB5 := Lib.hid (AO.out.b.trans (hb5.mono AO.out.b.size))
      have HA2 := Lib.hid (all_text w5 u U _ HU5.out)
      clear hrow5 hels5 hb5 HA1
      go_wp2_with fail
      with_reducible refine HA2.out.mono ?_
      rintro e w6 ⟨v6, rfl, hrow6, hb6⟩
      obtain ⟨a6, c6, rfl, hels6⟩ := hrow6.formS rfl
      have HSM := Lib.hid (same_els w6 a5 a6 c5 c6 S U _ _ (HE5.out.below hb6) hels6 rfl rfl (by omega) (by omega) true (decide_eq_true HE.out))
      have HT6 := Lib.hid (HT5.out.later hb6)
      have HU6 := Lib.hid (HU5.out.later hb6)
      have HB6 := Lib.hid (HB5.out.trans (hb6.mono HB5.out.size))
      clear hrow6 hels6 hb6 HA2
      go_wp2_with fail
      with_reducible refine HSM.out.mono ?_
      rintro e w7 ⟨rfl, hb7⟩
      have HL1 := Lib.hid (len_text w7 t S _ (HT6.out.later hb7))
      have hl2 := len_text w7 u U _ (HU6.out.later hb7)
      rw [← HCN.out] at hl2
      have HL2 := Lib.hid hl2
      have HB7 := Lib.hid (HB6.out.trans (hb7.mono HB6.out.size))
      clear hb7 hl2
      go_wp2_with (first | (with_reducible refine HL1.out.mono ?_; rintro e w' ⟨rfl, rfl⟩) | (with_reducible refine HL2.out.mono ?_; rintro e w' ⟨rfl, rfl⟩))
      go_ret
      exact ⟨rfl, HWr.out.b.trans (HB7.out.mono HWr.out.b.size)⟩
    · obtain ⟨B, rfl⟩ : ∃ B, al = some ⟨B, 0, none⟩ := by
        cases al with
        | none => have := (hnil rfl).2; rw [this] at h0; simp at h0
        | some a => obtain ⟨b, off, sp⟩ := a; have := hoff _ rfl; simp at this; obtain ⟨h1, h2⟩ := this; subst h1; subst h2; exact ⟨b, rfl⟩
      have HACT := Lib.hid hacts
      have hcl3 : cl < 9223372036854775808 := by unfold maxLen at hcl2; omega
      clear hnil hoff hacts hcl2
      have hm80 : m.length ≤ 80 := by omega
      have HNM := Lib.hid hnm
      have hn80 : n ≤ 80 := by omega
      have HDN := Lib.hid hdn
      have HCL := Lib.hid hcl1
      clear hnm hcl1 hdn
      go_upto_if 41 with fail
      go_cut [9] (fun v z => ∃ k : Nat, v = .int .i64 k ∧ k < m.length ∧ z = wr)
      case first =>
        by_cases hno : n < on
        · obtain ⟨b, off, rfl, hcell⟩ := HZ1.out n hno
          have hc2 : wr.cell? ⟨b, off + n, none⟩ = some (.int .i64 (zs.getD n 0)) := ((HWr.out.b.trans (AO.out.b.mono HWr.out.b.size)).cell (World.block_lt_of_cell? _ _ hcell)).trans hcell
          obtain ⟨hr1, hr2⟩ := HZ2.out n hno
          generalize zs.getD n 0 = z0 at *
          clear hcell
          go_upto_if 47 with fail
          go_cut [9] (fun v z => (∃ nn : Nat, v = .int .i64 nn ∧ nn < 9223372036854775808) ∧ z = wr)
          case first =>
            by_cases hneg : z0 < 0
            · go_wp2_with fail
              go_meet
              exact ⟨⟨(-(z0 + 1)).toNat, congrArg (Value.int .i64) (by omega), by omega⟩, rfl⟩
            · go_wp2_with fail
              go_meet
              exact ⟨⟨z0.toNat, congrArg (Value.int .i64) (by omega), by omega⟩, rfl⟩
          case rest =>
            obtain ⟨⟨nn, rfl, hnn⟩, rfl⟩ := hcut
            obtain ⟨k, hk⟩ : ∃ k, nn % m.length = k := ⟨_, rfl⟩
            have hkl : k < m.length := by rw [← hk]; exact Nat.mod_lt _ h0
            have hk2 : (nn : Int).tmod (m.length : Int) = (k : Int) := by rw [← hk]; rfl
            have hk3 : (nn : Int) % (m.length : Int) = (k : Int) := by rw [← hk]; rfl
            clear hc2
            go_wp2_with fail
            go_meet
            exact ⟨k, rfl, hkl, rfl⟩
        · go_wp2_with fail
          go_meet
          exact ⟨0, rfl, h0, rfl⟩
      case rest =>
        obtain ⟨k0, rfl, hk0, rfl⟩ := hcut
        have hz2' : AO = AO := rfl
        clear hz2'
        go_wp2
        go_loopw [9, 10] (fun kv qv wr2 => ∃ (k q : Nat), kv = .int .i64 k ∧ k < m.length ∧ qv = .int .i64 q ∧ q ≤ m.length ∧ Aside (k = (k0 + q) % m.length) ∧ Aside (∀ j, j < q → ∀ a, m[(k0 + j) % m.length]? = some a → ¬ Can U a) ∧ Aside (OL w w1 wr2 t u S U (.slice (some ⟨B, 0, none⟩) m.length cl) m)) (fun _ qv _ => m.length - (intOf qv).toNat)
        case atStart => exact ⟨k0, 0, rfl, hk0, rfl, Nat.zero_le _, (Nat.mod_eq_of_lt hk0).symm, fun j hj => absurd hj (Nat.not_lt_zero _), AO.out⟩
        case round =>
          obtain ⟨k, q, rfl, hkl, rfl, hq, AK, AT, AP⟩ := hrel
          by_cases hql : q < m.length
          · obtain ⟨a, ha⟩ : ∃ a, m[k]? = some a := ⟨_, List.getElem?_eq_getElem hkl⟩
            obtain ⟨B2, off, hB2, -, hc⟩ := (show ActsAt wr (some ⟨B, 0, none⟩) m from by
              obtain ⟨a9, c9, e9, -, -, -, -, h9⟩ := AP.out.row.form
              cases e9
              exact h9) k a ha
            cases hB2
            have c0 := hc 0 _ rfl
            have c1 := hc 1 _ rfl
            have c2 := hc 2 _ rfl
            have c3 := hc 3 _ rfl
            have c4 := hc 4 _ rfl
            have c5 := hc 5 _ rfl
            have c6 := hc 6 _ rfl
            have c7 := hc 7 _ rfl
            simp only [Nat.add_zero, Nat.zero_add] at c0 c1 c2 c3 c4 c5 c6 c7
            have b0 : (0 : Int) ≤ (k : Int) := by omega
            have b1 : (k : Int) < (m.length : Int) := by omega
            have HAK := Lib.hid ha
            clear hc ha
            go_upto_region 18 with fail
            refine wp_let (fun z => OL w w1 z t u S U (.slice (some ⟨B, 0, none⟩) m.length cl) m ∧ Below wr.heap.size wr z ∧ z.heap[wr.heap.size]? = some (.cells a.cells 33 (0, 0))) ⟨AP.out.later ((Below.refl _ _).alloc (Nat.le_refl _) _), (Below.refl _ _).alloc (Nat.le_refl _) _, blk_new _ _⟩ (fun x hx => ?_)
            have HX := Lib.hid (And.intro hx.1 hx.2.2)
            have HX2 := Lib.hid hx.2.1
            clear c0 c1 c2 c3 c4 c5 c6 c7
            have c0 := blk_cell hx.2.2 0
            have c1 := blk_cell hx.2.2 1
            have c2 := blk_cell hx.2.2 2
            have c3 := blk_cell hx.2.2 3
            have c4 := blk_cell hx.2.2 4
            have c5 := blk_cell hx.2.2 5
            have c6 := blk_cell hx.2.2 6
            clear hx
            have hLb := AC.out.length
            have HXT := Lib.hid ((AP.out.ut.bnd).later (HX2.out))
            have hdl : d.length ≤ 80 := by rw [HDN.out]; exact hn80
            have HI := Lib.hid (insert_text x u U _ HXT.out (by omega) a.id a.par a.side a.ch)
            have HD := Lib.hid (delete_text x u U _ HXT.out a.id)
            have hti : ∀ z U', Text z u U' (fun y => ((w1.heap.size ≤ y ∧ (Value.slice (some ⟨B, 0, none⟩) m.length cl).ownBlock ≠ some y) ∧ y < wr.heap.size) ∨ x.heap.size ≤ y) → Ch (fun y => (w1.heap.size ≤ y ∧ (Value.slice (some ⟨B, 0, none⟩) m.length cl).ownBlock ≠ some y) ∧ y < wr.heap.size) x z → OL w w1 z t u S U' (.slice (some ⟨B, 0, none⟩) m.length cl) m := fun z U' h c => HX.out.1.turn (h.mono (fun y hy => hy.imp (fun h => h.1) id)) (c.mono (fun y _ h => h.1))
            have HTI := Lib.hid hti
            have hbx : ∀ z, Ch (fun y => (w1.heap.size ≤ y ∧ (Value.slice (some ⟨B, 0, none⟩) m.length cl).ownBlock ≠ some y) ∧ y < wr.heap.size) x z → z.heap[wr.heap.size]? = some (.cells a.cells 33 (0, 0)) := fun z c => c.at HX.out.2 (fun e => by omega)
            have HBX := Lib.hid hbx
            clear hti hbx
            go_cut [92] (fun v z => ∃ U' ok, v = .bool ok ∧ OL w w1 z t u S U' (.slice (some ⟨B, 0, none⟩) m.length cl) m ∧ (ok = true → StepA U a U') ∧ (ok = false → U' = U ∧ ¬ Can U a))
            case first =>
              by_cases hkd : a.kd = 1
              · have d1 : (a.kd == 1) = true := beq_iff_eq.2 hkd
                have d2 : (a.kd == 2) = false := beq_eq_false_iff_ne.2 (by omega)
                by_cases hok : InsOk U a.id a.par a.side
                · have e0 : (U.insE a.id a.par a.side == 0) = true := beq_iff_eq.2 (insE_zero.2 hok)
                  have HOK := Lib.hid hok
                  have HKD := Lib.hid hkd
                  clear hok hkd
                  go_wp2_with fail
                  with_reducible refine HI.out.mono ?_
                  rintro e z ⟨rfl, U', hS, hT', hc⟩
                  have HZ := Lib.hid (And.intro hS (And.intro hT' hc))
                  clear hS hT' hc
                  go_wp2_with fail
                  go_meet
                  exact ⟨U', true, rfl, HTI.out _ _ HZ.out.2.1 HZ.out.2.2, fun _ => .inl ⟨HKD.out, HOK.out, HZ.out.1⟩, fun h => by cases h⟩
                · have e0 : (U.insE a.id a.par a.side == 0) = false := beq_eq_false_iff_ne.2 (insE_no hok)
                  have HNC := Lib.hid (show ¬ Can U a from fun h => h.elim (fun h => hok h.2) (fun h => by omega))
                  have HOK := Lib.hid hok
                  clear hok hkd
                  go_wp2_with fail
                  with_reducible refine HI.out.mono ?_
                  rintro e z ⟨rfl, U', hS, hT', hc⟩
                  have hb0 := HBX.out _ hc
                  have k0 := blk_cell hb0 0
                  have k1 := blk_cell hb0 1
                  have k2 := blk_cell hb0 2
                  have HZ := Lib.hid (And.intro hS (And.intro hT' hc))
                  clear hS hT' hc hb0
                  go_wp2_with fail
                  go_meet
                  exact ⟨U', false, rfl, HTI.out _ _ HZ.out.2.1 HZ.out.2.2, fun h => (by cases h), fun _ => ⟨stp_no HZ.out.1 HOK.out, HNC.out⟩⟩
              · have d1 : (a.kd == 1) = false := beq_eq_false_iff_ne.2 hkd
                by_cases hk2 : a.kd = 2
                · have d2 : (a.kd == 2) = true := beq_iff_eq.2 hk2
                  by_cases hm : a.id ∈ U.L
                  · have hd := HD.out
                    unfold DelT Tx.dele at hd
                    rw [if_pos hm, if_pos hm] at hd
                    have HD := Lib.hid hd
                    have HM := Lib.hid hm
                    have HKD := Lib.hid hk2
                    clear hd hm hkd hk2
                    go_wp2_with fail
                    with_reducible refine HD.out.mono ?_
                    rintro e z ⟨rfl, hT', hc⟩
                    have HZ := Lib.hid (And.intro hT' hc)
                    clear hT' hc
                    go_wp2_with fail
                    go_meet
                    exact ⟨_, true, rfl, HTI.out _ _ (HZ.out.1.mono (fun _ h => .inl h)) HZ.out.2, fun _ => .inr ⟨HKD.out, HM.out, rfl⟩, fun h => by cases h⟩
                  · have hd := HD.out
                    unfold DelT Tx.dele at hd
                    rw [if_neg hm, if_neg hm] at hd
                    have HD := Lib.hid hd
                    have HNC := Lib.hid (show ¬ Can U a from fun h => h.elim (fun h => by omega) (fun h => hm h.2))
                    clear hd hm hkd hk2
                    go_wp2_with fail
                    with_reducible refine HD.out.mono ?_
                    rintro e z ⟨rfl, hT', hc⟩
                    have HZ := Lib.hid (And.intro hT' hc)
                    clear hT' hc
                    go_wp2_with fail
                    go_meet
                    exact ⟨U, false, rfl, HTI.out _ _ (HZ.out.1.mono (fun _ h => .inl h)) HZ.out.2, fun h => (by cases h), fun _ => ⟨rfl, HNC.out⟩⟩
                · have d2 : (a.kd == 2) = false := beq_eq_false_iff_ne.2 hk2
                  have HNC := Lib.hid (show ¬ Can U a from fun h => h.elim (fun h => by omega) (fun h => by omega))
                  clear hkd hk2
                  go_wp2_with fail
                  go_meet
                  exact ⟨U, false, rfl, HX.out.1, fun h => (by cases h), fun _ => ⟨rfl, HNC.out⟩⟩
            case rest =>
              obtain ⟨U', ok, rfl, hW', hyes, hno⟩ := hcut
              generalize wc = z at *
              have HW' := Lib.hid hW'
              have HYES := Lib.hid hyes
              have HNO := Lib.hid hno
              clear c0 c1 c2 c3 c4 c5 c6 HI HD HXT HBX HTI hyes hno hW' HX HX2
              cases ok with
              | true =>
                have HS := Lib.hid (HYES.out rfl)
                have hro := HW'.out.row
                unfold RowAct at hro
                have HRO := Lib.hid hro
                have HCLL := Lib.hid (show k + 1 ≤ m.length from hkl)
                have hkc : k + 1 ≤ cl := by have := HCL.out; omega
                clear hro
                go_upto_region 22 with (at_builtin; refine append_any rfl (.tmp 98) (.tmp 101) 22 rfl z.heap.size 33 i0 _ 8 64 Try.underlying22 hi hzz0 hzz1 hzz2 rfl (by decide) (.slice none 0 0) _ _ rfl (World.ownsRow_nil _ _ _ _) (some ⟨B, 0, none⟩) k cl (actL (m.take k)) rfl (by rw [actL_length]; simp; omega) (by intro h; cases h) (act_take HRO.out k) (actL_one _) (by unfold maxLen; omega) (by omega) (Nat.le_refl _) ?_; intro v1 wx own1 grow1; have b1 := (Below.refl z.heap.size z).grown grow1 (Nat.le_refl _) (fun x hx => by cases hx); have HO1 := Lib.hid own1; have HB1 := Lib.hid b1; clear own1 grow1 b1)
                go_cut [12] (fun v2 wy => RowAct wy z.heap.size v2 (m.take k ++ m.drop (k + 1)) ∧ Below z.heap.size z wy)
                case first =>
                  rcases Nat.lt_or_ge (k + 1) cl with hcc | hcc
                  · go_wp2_with (at_builtin; refine append_any rfl (.tmp 103) (.tmp 107) 22 rfl z.heap.size 33 i0 _ 8 64 Try.underlying22 hi hzz0 hzz1 hzz2 rfl (by decide) v1 _ _ rfl HO1.out (some ⟨B, (k + 1) * 8, none⟩) (m.length - (k + 1)) (cl - (k + 1)) (actL (m.drop (k + 1))) rfl (by rw [actL_length]; simp) (by intro h; cases h) (act_drop ((OL.later HW'.out HB1.out).row) (k + 1) _ (by intro ad h; cases h; rfl)) (actL_one _) (by unfold maxLen; omega) (by omega) HB1.out.size ?_; intro v2 wy own2 grow2; have b2 := HB1.out.grown grow2 HB1.out.size (fun x hx => (HO1.out.lt x hx).1); have HO2 := Lib.hid own2; have HB2 := Lib.hid b2; clear own2 grow2 b2)
                    go_meet
                    exact ⟨by
                      have h := HO2.out
                      unfold RowAct
                      rw [actL_append]
                      have e : 0 + k + (m.length - (k + 1)) = (m.take k ++ m.drop (k + 1)).length := by simp; omega
                      rw [List.nil_append] at h
                      rw [e] at h
                      exact h, HB2.out⟩
                  · obtain rfl : cl = k + 1 := by omega
                    have HDNIL := Lib.hid (show m.drop (k + 1) = [] from List.drop_eq_nil_of_le (by have := HCL.out; omega))
                    have HML := Lib.hid (show m.length = k + 1 by have := HCL.out; omega)
                    go_wp2_with (at_builtin; refine append_any rfl (.tmp 103) (.tmp 107) 22 rfl z.heap.size 33 i0 _ 8 64 Try.underlying22 hi hzz0 hzz1 hzz2 rfl (by decide) v1 _ _ rfl HO1.out (some ⟨B, 0, none⟩) (m.length - (k + 1)) 0 (actL (m.drop (k + 1))) rfl (by rw [HDNIL.out, HML.out]; simp [actL]) (by intro h; cases h) (fun ad _ j u hj => by rw [HDNIL.out] at hj; simp [actL] at hj) (actL_one _) (by unfold maxLen; omega) (by omega) HB1.out.size ?_; intro v2 wy own2 grow2; have b2 := HB1.out.grown grow2 HB1.out.size (fun x hx => (HO1.out.lt x hx).1); have HO2 := Lib.hid own2; have HB2 := Lib.hid b2; clear own2 grow2 b2)
                    go_meet
                    exact ⟨by
                      have h := HO2.out
                      unfold RowAct
                      rw [actL_append]
                      have e : 0 + k + (m.length - (k + 1)) = (m.take k ++ m.drop (k + 1)).length := by simp; omega
                      rw [List.nil_append] at h
                      rw [e] at h
                      exact h, HB2.out⟩
                case rest =>
                  obtain ⟨hrow2, hb2⟩ := hcut
                  generalize wc = wy at *
                  have HROW := Lib.hid hrow2
                  have HB2 := Lib.hid hb2
                  have hlen2 : (m.take k ++ m.drop (k + 1)).length = m.length - 1 := by simp; omega
                  have HL2 := Lib.hid hlen2
                  have hml1 := HNM.out
                  clear hlen2 hrow2 hb2
                  go_wp2
                  go_roundw
                  case rel => exact ⟨n + 1, U', d ++ [a], m.take k ++ m.drop (k + 1), by go_num, by rw [HL2.out]; omega, by rw [List.length_append, HDN.out]; rfl, AR.out.step HTL.out.uniq HAK.out, AC.out.step HS.out, HW'.out.row' hw1 HB2.out HROW.out⟩
                  case measure => simp [intOf]; omega
              | false =>
                obtain ⟨rfl, hnc⟩ := HNO.out rfl
                have HNC := Lib.hid hnc
                clear hnc
                obtain ⟨k2, hk2⟩ : ∃ k2, (k + 1) % m.length = k2 := ⟨_, rfl⟩
                have hk2l : k2 < m.length := by rw [← hk2]; exact Nat.mod_lt _ h0
                have hk3 : ((k : Int) + 1).tmod (m.length : Int) = (k2 : Int) := by rw [← hk2]; rfl
                have hk4 : ((k : Int) + 1) % (m.length : Int) = (k2 : Int) := by rw [← hk2]; rfl
                have HK2 := Lib.hid hk2
                clear hk2
                go_wp2
                go_roundw
                case rel => exact ⟨k2, q + 1, rfl, hk2l, by go_num, by omega, by
                  show k2 = (k0 + (q + 1)) % m.length
                  rw [← HK2.out, AK.out, Nat.mod_add_mod, Nat.add_assoc], fun j hj b hb => by
                  rcases Nat.lt_or_ge j q with e | e
                  · exact AT.out j e b hb
                  · obtain rfl : j = q := by omega
                    have e2 := AK.out
                    rw [← e2, HAK.out] at hb
                    obtain rfl := Option.some.inj hb
                    exact HNC.out, HW'.out⟩
                case measure => simp [intOf]; omega
          · exfalso
            obtain rfl : q = m.length := by omega
            obtain ⟨a0, ha0⟩ : ∃ a0, m[0]? = some a0 := ⟨_, List.getElem?_eq_getElem h0⟩
            have hcan := AR.out.can HC.out AC.out ha0
            rcases Nat.eq_zero_or_pos k0 with e | e
            · subst e
              exact AT.out 0 h0 a0 (by rw [Nat.zero_add, Nat.zero_mod]; exact ha0) hcan
            · refine AT.out (m.length - k0) (by omega) a0 ?_ hcan
              rw [show k0 + (m.length - k0) = m.length by omega, Nat.mod_self]
              exact ha0

set_option maxRecDepth 100000 in
theorem fugueOrder_lifted (os : Os) (started : os.Started) (H : Type) (enc : TypeId × Value → H) :
    ReturnsInHanded {} Try.checked os 3 .any (Rows.fugueOrderSpec.pre6 enc Try.prog Try.f3 Rows.fugueOrderRow.domain false) (Rows.fugueOrderSpec.post enc Try.prog Try.f3 false true false false) := by
  refine returnsInHanded_of_change (C := Try.checked) own started (by kernel_rfl) Try.func3
    (ChangeSpec.witness6 (enc := enc) (C := Try.checked) false ⟨#[], #[.slice none 0 0, .slice none 0 0], []⟩ 8 (by kernel_rfl) (by kernel_rfl) (by kernel_rfl) (by kernel_rfl)) ?_
  intro W base args ds gs before hval0 hW hcnd _
  have hval : ∀ (j : Nat) t v, Try.f3.params[j]? = some t → args[j]? = some v → Value.okWide Try.prog W .any base t v := hval0
  have hW' := hW
  obtain ⟨p, q, hA0, hV, rfl, hfz, hnd⟩ := hW
  have hA : DataW.TrodAll enc Try.prog W 0 (fun _ => true) true Try.f3.params.toList args.toList ds p := hA0
  rw [Try.params3] at hA hval
  obtain ⟨v0, vs0, d0, ds0, p0, q0, hargs, rfl, rfl, h0, r0⟩ := trodAll_cons hA
  obtain ⟨v1, vs1, d1, ds1, p1, q1, rfl, rfl, rfl, h1, r1⟩ := trodAll_cons r0
  obtain ⟨rfl, rfl, rfl⟩ := trodAll_nil r1
  obtain rfl : args = #[v0, v1] := by cases args; simp_all
  obtain ⟨rfl, rfl⟩ := trodVars_none hV
  have lt0 : ∀ x ∈ p0, x.block < W.heap.size := by obtain ⟨m, hm⟩ := h0; exact DataW.trod_lt m _ _ _ hm
  have lt1 : ∀ x ∈ p1, x.block < W.heap.size := by obtain ⟨m, hm⟩ := h1; exact DataW.trod_lt m _ _ _ hm
  obtain ⟨ao, cap, A, rfl, hlen, hacts⟩ := open_acts (hval 0 22 v0 rfl rfl) h0
  obtain ⟨oo, on, oc, zs, rfl, hz1, hz2⟩ := open_ints_arg Try.underlying23 Try.underlying3 (by kernel_rfl) (hval 1 23 v1 rfl rfl) h1
  clear hA0 hval0
  refine (fugueOrder_walk ao cap A oo on oc zs W hlen hacts hz1 hz2).mono fun e W' ⟨he, bel⟩ => ?_
  subst he
  exact ⟨_, rfl, _, _, _, [], _, [], hW', trodAll_mk1 (shut_bool Try.underlying4 _), (trodAll_cons_mk (Below.trod laidOut (by kernel_rfl) (of_decide_eq_true (by kernel_rfl)) h0 bel lt0) (trodAll_cons_mk (Below.trod laidOut (by kernel_rfl) (of_decide_eq_true (by kernel_rfl)) h1 bel lt1) trodAll_mk0)), rfl, bel.frame _, fun h => by cases h⟩

theorem fugueOrder_holds : Rows.FugueOrderSaid :=
  OpenClaim.holds_of_wide 3 Try.f3 rfl rfl rfl rfl rfl rfl rfl ⟨rfl, rfl, rfl, rfl, rfl⟩ rfl rfl rfl rfl rfl (by kernel_rfl) Try.func3 (by kernel_rfl)
    (of_decide_eq_true (by kernel_rfl)) (by unfold Func.isWrapper; first | (rw [if_pos (by decide +kernel)]; kernel_rfl) | (rw [if_neg (by decide +kernel)]; exact ⟨rfl, rfl⟩))
    (fun os started H enc _ => fugueOrder_lifted os started H enc)

end Go.Proofs.Ytohpablkgfkelaa
