/- THE LAW FugueRuns. -/
import Derived.Test.YtohpablkgfkelaaFRunsC
import Derived.Test.YtohpablkgfkelaaRows
import Derived.Deep.RegionHeld3
import Derived.ProofKit
import Derived.OpenShut
import Derived.ShutString
import Derived.ChangeOld
import Derived.Below
namespace Go.Proofs.Ytohpablkgfkelaa
open Go.ChangeShapes Go.WideShapes Go.ChangeAt Go.RowKit
open Go.ChangeMaps (open_string shut_string)
set_option linter.unusedVariables false
set_option linter.unusedSimpArgs false

open Go.Joins
theorem int_in {z : Int} (h : (Lit.int .i64 z).wf = true) : -9223372036854775808 ≤ z ∧ z ≤ 9223372036854775807 := by
  have hmin : IntKind.i64.min = -9223372036854775808 := by decide
  have hmax : IntKind.i64.max = 9223372036854775807 := by decide
  simp only [Lit.wf, hmin, hmax, Bool.and_eq_true, decide_eq_true_eq] at h
  exact h
abbrev twoC (x0 : Int) (b0 : Bool) (x1 : Int) (b1 : Bool) : Array Value := #[.int .i64 x0, .bool b0, .int .i64 x1, .bool b1]
/-- a text, two rows of acts that are apart from it, and the box -/
structure RR (w x w2 w5 z : World) (t : Nat) (T : Tx) (va vb : Value) (La Lb : List ActG) (two : Array Value) : Prop where
  text : Text z t T (fun y => (x.heap.size ≤ y ∧ y < w2.heap.size) ∨ w5.heap.size ≤ y)
  ra : RowAct z w2.heap.size va La
  rb : RowAct z w2.heap.size vb Lb
  la : ∀ b, va.ownBlock = some b → b < w5.heap.size
  lb : ∀ b, vb.ownBlock = some b → b < w5.heap.size
  b : Below x.heap.size x z
  box : z.heap[w.heap.size]? = some (.cells two 50 (0, 0))
  s5 : w5.heap.size ≤ z.heap.size
theorem RR.later {w x w2 w5 z z' : World} {t : Nat} {T : Tx} {va vb : Value} {La Lb : List ActG} {two : Array Value} (h : RR w x w2 w5 z t T va vb La Lb two) (b : Below z.heap.size z z') : RR w x w2 w5 z' t T va vb La Lb two :=
  ⟨h.text.later b, h.ra.later b, h.rb.later b, h.la, h.lb, h.b.trans (b.mono h.b.size), (b.block _ (heap_lt h.box)).trans h.box, Nat.le_trans h.s5 b.size⟩
theorem RR.turn {w x w2 w5 z z' : World} {t : Nat} {T T' : Tx} {va vb : Value} {La Lb : List ActG} {two : Array Value} (h : RR w x w2 w5 z t T va vb La Lb two) (hwx : w.heap.size < x.heap.size) (hx5 : x.heap.size ≤ w5.heap.size)
    (hT : Text z' t T' (fun y => ((x.heap.size ≤ y ∧ y < w2.heap.size) ∨ w5.heap.size ≤ y) ∨ z.heap.size ≤ y)) (c : Ch (fun y => (x.heap.size ≤ y ∧ y < w2.heap.size) ∨ w5.heap.size ≤ y) z z') : RR w x w2 w5 z' t T' va vb La Lb two := by
  have h5 := h.s5
  refine ⟨hT.mono (fun y hy => hy.elim id (fun e => .inr (by omega))), h.ra.ch c (fun b hb e => ?_), h.rb.ch c (fun b hb e => ?_), h.la, h.lb, Ch.deep h.b c (fun y hy => by omega), c.at h.box (fun e => by omega), Nat.le_trans h5 c.size⟩
  · have := h.la b hb
    have := (h.ra.lt b hb).1
    omega
  · have := h.lb b hb
    have := (h.rb.lt b hb).1
    omega
/-- as far as they have come, and what the first one's elements bear -/
structure MgC (S : Tx) (A B : List St) (p : St) (s : Int) (ba bb : Bool) (i j : Nat) (T : Tx) : Prop extends Mg S A B p s ba bb i j T where
  c6 : ∀ k, k < i → T.ch (rid 6 k) = 103
theorem stp_ch {T T' : Tx} {x q : St} {u c : Int} (hs : Stp T x q u c T') (hi : InsOk T x q u) : T'.ch = setC T.ch x c := by
  obtain ⟨A, B, _, rfl⟩ := stp_yes hs hi
  rfl
theorem MgC.stepA {S : Tx} {A B : List St} {p : St} {s : Int} {ba bb : Bool} {i j : Nat} {T T' : Tx} (h : MgC S A B p s ba bb i j T) (ha : At A B p s) (hij : i = 0 → j = 0) {c : Int}
    (hi : InsOk T (rid 6 i) (runA p s ba 6 i).par (runA p s ba 6 i).side) (hs : Stp T (rid 6 i) (runA p s ba 6 i).par (runA p s ba 6 i).side c T') (hc : c = 103) : MgC S A B p s ba bb (i + 1) j T' := by
  refine ⟨h.toMg.stepA ha hij hi hs, fun k hk => ?_⟩
  rw [stp_ch hs hi]
  unfold setC
  by_cases e : k = i
  · subst e
    rw [if_pos rfl, hc]
  · rw [if_neg (fun e2 => e (rid_inj e2))]
    exact h.c6 k (by omega)
theorem MgC.stepB {S : Tx} {A B : List St} {p : St} {s : Int} {ba bb : Bool} {i j : Nat} {T T' : Tx} (h : MgC S A B p s ba bb i j T) (ha : At A B p s) (hij : j = 0 → i ≤ 1) {c : Int}
    (hi : InsOk T (rid 7 j) (runA p s bb 7 j).par (runA p s bb 7 j).side) (hs : Stp T (rid 7 j) (runA p s bb 7 j).par (runA p s bb 7 j).side c T') : MgC S A B p s ba bb i (j + 1) T' := by
  refine ⟨h.toMg.stepB ha hij hi hs, fun k hk => ?_⟩
  rw [stp_ch hs hi]
  unfold setC
  rw [if_neg (rid_67 k j)]
  exact h.c6 k hk
theorem row_at {z : World} {base : Nat} {ao : Option Addr} {n cap : Nat} {L : List ActG} (h : RowAct z base (.slice ao n cap) L) {q : Nat} {a : ActG} (ha : L[q]? = some a) : ∃ B, ao = some ⟨B, 0, none⟩ ∧ ∀ (j : Nat) (v : Value), a.cells[j]? = some v → z.cell? ⟨B, q * 8 + j, none⟩ = some v := by
  obtain ⟨ao', cap', e, -, hoff, -, -, hacts⟩ := h.form
  cases e
  obtain ⟨b, off, e2, -, hc⟩ := hacts q a ha
  subst e2
  have h0 := (hoff _ rfl).1
  simp only at h0
  subst h0
  exact ⟨b, rfl, fun j v hv => by have := hc j v hv; rwa [Nat.zero_add] at this⟩
theorem runL_get {p : St} {s : Int} {b : Bool} {r : Int} {m q : Nat} (h : q < m) : (runL p s b r m)[q]? = some (runA p s b r q) := by
  unfold runL
  rw [List.getElem?_map, List.getElem?_range h]
  rfl
theorem runA_ch (p : St) (s : Int) (b : Bool) (r : Int) (i : Nat) : (runA p s b r i).ch = 97 + r := by cases i <;> rfl
set_option maxHeartbeats 64000000 in
set_option maxRecDepth 200000 in
theorem fugueRuns_walk (ao : Option Addr) (cap : Nat) (A : List ActG) (at' : Int) (hat : -9223372036854775808 ≤ at' ∧ at' ≤ 9223372036854775807) (x0 : Int) (hx0 : -9223372036854775808 ≤ x0 ∧ x0 ≤ 9223372036854775807) (b0 : Bool) (x1 : Int) (hx1 : -9223372036854775808 ≤ x1 ∧ x1 ≤ 9223372036854775807) (b1 : Bool) (w : World) (hlen : A.length ≤ maxLen) (hA : ActsAt w ao A) :
    Calls Try.prog 6 #[.slice ao A.length cap, .int .i64 at', .agg (twoC x0 b0 x1 b1)] w fun e w' => e = .returned (.bool true) ∧ Below w.heap.size w w' := by
  have HA := Lib.hid hA
  have HLEN := Lib.hid hlen
  clear hA hlen
  go_enter Try.func6, Try.ntmps6
  go_upto_region 1 with fail
  refine wp_let (fun z => Below w.heap.size w z ∧ z.heap[w.heap.size]? = some (.cells (twoC x0 b0 x1 b1) 50 (0, 0))) ⟨(Below.refl _ _).alloc (Nat.le_refl _) _, blk_new _ _⟩ (fun x hx => ?_)
  have HX := Lib.hid hx
  have HW := Lib.hid (written2_any x ao cap A HLEN.out (HA.out.below hx.1))
  have hwx := heap_lt hx.2
  clear hx
  go_wp2_with fail
  with_reducible refine HW.out.mono ?_
  rintro e w1 ⟨t, S, v, l, rfl, hWr, hC, hl80⟩
  have HWr := Lib.hid hWr
  have HC := Lib.hid hC
  have HAL := Lib.hid (alive_any w1)
  obtain ⟨cs, T, htp⟩ := hWr.text.blk
  clear hWr hC HW
  go_wp2_with fail
  with_reducible refine HAL.out.mono ?_
  rintro e w2 ⟨rfl, hb2⟩
  have HT2 := Lib.hid ((HWr.out.text.later hb2).bnd)
  have HB2 := Lib.hid (HWr.out.b.trans (hb2.mono HWr.out.b.size))
  have HBX2 := Lib.hid ((HB2.out.block _ (heap_lt HX.out.2)).trans HX.out.2)
  have HL2 := Lib.hid (len_text w2 t S _ HT2.out)
  have hcl := cnt_le S.gone S.L
  have hLl := HC.out.came.length
  clear hb2 HAL htp
  go_upto_if 36 with fail
  go_cut [1] (fun v z => (∃ nn : Nat, v = .int .i64 nn ∧ nn < 9223372036854775808) ∧ z = w2)
  case first =>
    by_cases hneg : at' < 0
    · go_wp2_with fail
      go_meet
      exact ⟨⟨(-(at' + 1)).toNat, congrArg (Value.int .i64) (by omega), by omega⟩, rfl⟩
    · go_wp2_with fail
      go_meet
      exact ⟨⟨at'.toNat, congrArg (Value.int .i64) (by omega), by omega⟩, rfl⟩
  case rest =>
  obtain ⟨⟨nn, rfl, hnn⟩, rfl⟩ := hcut
  generalize wc = wq at *
  obtain ⟨n, hn⟩ : ∃ n, nn % (cnt S.gone S.L + 1) = n := ⟨_, rfl⟩
  have hnc : n ≤ cnt S.gone S.L := by rw [← hn]; exact Nat.le_of_lt_succ (Nat.mod_lt _ (by omega))
  have hn2 : (nn : Int).tmod ((cnt S.gone S.L : Int) + 1) = (n : Int) := by rw [← hn]; rfl
  have hn3 : (nn : Int) % ((cnt S.gone S.L : Int) + 1) = (n : Int) := by rw [← hn]; rfl
  have HTY0 := Lib.hid (fun (z : World) (hz : Below w.heap.size w z) => typed_any z ao cap A HLEN.out (HA.out.below hz) S l HC.out n hnc x0 hx0 b0 6 (.inl rfl))
  have HTY1 := Lib.hid (fun (z : World) (hz : Below w.heap.size w z) => typed_any z ao cap A HLEN.out (HA.out.below hz) S l HC.out n hnc x1 hx1 b1 7 (.inr rfl))
  have HW2 := Lib.hid (HX.out.1.trans (HB2.out.mono HX.out.1.size))
  have k0 := blk_cell HBX2.out 0
  have k1 := blk_cell HBX2.out 1
  have HT0 := Lib.hid (HTY0.out wq HW2.out)
  go_wp2_with (with_reducible refine HL2.out.mono ?_; rintro e w' ⟨rfl, rfl⟩)
  with_reducible refine HT0.out.mono ?_
  rintro e w3 ⟨va, oka, rfl, hb3, hva0, hva⟩
  have HVA := Lib.hid hva
  have HVA0 := Lib.hid hva0
  have HB3 := Lib.hid hb3
  have HW3 := Lib.hid (HW2.out.trans (hb3.mono HW2.out.size))
  have hbx3 := (hb3.block _ (heap_lt HBX2.out)).trans HBX2.out
  have HBX3 := Lib.hid hbx3
  have k2 := blk_cell hbx3 2
  have k3 := blk_cell hbx3 3
  have HT1 := Lib.hid (HTY1.out w3 HW3.out)
  clear hva hva0 hb3 k0 k1 HT0 hn2 hn3 hbx3
  go_wp2_with fail
  with_reducible refine HT1.out.mono ?_
  rintro e w4 ⟨vb, okb, rfl, hb4, hvb0, hvb⟩
  have HVB := Lib.hid hvb
  have HB4 := Lib.hid hb4
  have HW4 := Lib.hid (HW3.out.trans (hb4.mono HW3.out.size))
  have HBX4 := Lib.hid ((hb4.block _ (heap_lt HBX3.out)).trans HBX3.out)
  clear hvb hb4 k2 k3 HT1 hvb0
  by_cases hboth : oka = true ∧ okb = true
  · obtain ⟨rfl, rfl⟩ := hboth
    obtain ⟨hra, hfa⟩ := HVA.out rfl
    obtain ⟨hrb, hfb⟩ := HVB.out rfl
    have ho : ¬ betOut S n := by unfold betOut; omega
    have hok := HC.out.came.told.ok
    obtain ⟨hk, -, -, -⟩ := bet_pos hok ho
    obtain ⟨hps, hcn⟩ := bet_in hok ho
    have hsp : Spot S.L (betP S n) (betS S n) := by
      rcases hps with ⟨e1, e2⟩ | ⟨e1, e2⟩
      · exact .inl ⟨e2, e1⟩
      · exact .inr ⟨e2, e1⟩
    obtain ⟨A', B', hPut⟩ := hok.put hsp 0
    have HATT := Lib.hid (At.of hk hsp hPut)
    have HEQ := Lib.hid hPut.eq
    have HCA := Lib.hid (show cnt S.gone A' = n by
      have := hcn (0, 0) A' B' (by rw [hk, posS_nil]; exact hPut)
      omega)
    have HMG := Lib.hid (show MgC S A' B' (betP S n) (betS S n) b0 b1 0 0 S from ⟨Mg.start hok ⟨rfl, rfl, rfl, fun _ _ => rfl⟩ hk hPut.eq b0 b1, fun k h => absurd h (Nat.not_lt_zero _)⟩)
    have HZ0 := Lib.hid (show (0, 0) ∉ A' ++ B' by rw [← hPut.eq]; exact hok.zero)
    have HF6 := Lib.hid (show ∀ i, i < runN x0 → rid 6 i ∉ A' ++ B' by rw [← hPut.eq]; exact hfa)
    have HF7 := Lib.hid (show ∀ i, i < runN x1 → rid 7 i ∉ A' ++ B' by rw [← hPut.eq]; exact hfb)
    have HOK := Lib.hid hok
    generalize betP S n = p at *
    generalize betS S n = s at *
    have hma : 1 ≤ runN x0 ∧ runN x0 ≤ 9 := by unfold runN; have := Nat.mod_lt (if x0 < 0 then (-(x0 + 1)).toNat else x0.toNat) (show 9 > 0 by omega); omega
    have hmb : 1 ≤ runN x1 ∧ runN x1 ≤ 9 := by unfold runN; have := Nat.mod_lt (if x1 < 0 then (-(x1 + 1)).toNat else x1.toNat) (show 9 > 0 by omega); omega
    generalize runN x0 = ma at *
    generalize runN x1 = mb at *
    have hn80 : n ≤ 80 := by omega
    have hra4 := hra.later HB4.out
    have hrb4 : RowAct w4 wq.heap.size vb (runL p s b1 7 mb) := own_le hrb HB3.out.size
    have HRR := Lib.hid (show RR w x wq w4 w4 t S va vb (runL p s b0 6 ma) (runL p s b1 7 mb) (twoC x0 b0 x1 b1) from
      ⟨((HT2.out.later HB3.out).later HB4.out).mono (fun y hy => .inl ⟨hy.1.1, hy.2⟩), hra4, hrb4, fun b hb => Nat.lt_of_lt_of_le (hra.lt b hb).2 HB4.out.size, fun b hb => (hrb.lt b hb).2, (HB2.out.trans (HB3.out.mono HB2.out.size)).trans (HB4.out.mono (Nat.le_trans HB2.out.size HB3.out.size)), HBX4.out, Nat.le_refl _⟩)
    obtain ⟨aa, ca, hva1, -, -, -, -, -⟩ := hra4.form
    obtain ⟨ab, cb, hvb1, -, -, -, -, -⟩ := hrb4.form
    rw [runL_length] at hva1 hvb1
    subst hva1
    subst hvb1
    have HX5 := Lib.hid (show x.heap.size ≤ w4.heap.size from HRR.out.b.size)
    obtain ⟨La, hLa⟩ : ∃ La, runL p s b0 6 ma = La := ⟨_, rfl⟩
    obtain ⟨Lb, hLb⟩ : ∃ Lb, runL p s b1 7 mb = Lb := ⟨_, rfl⟩
    rw [hLa, hLb] at HRR
    have HLA := Lib.hid hLa
    have HLB := Lib.hid hLb
    clear hra hrb hfa hfb ho hok hk hps hcn hsp hPut hra4 hrb4 hLa hLb HVA HVB HVA0 HTY0 HTY1 hn hnc hcl
    go_wp2
    go_loopw [13] (fun iv wr => ∃ (q : Nat) (T : Tx), iv = .int .i64 q ∧ q ≤ 9 ∧ (q ≤ ma ∨ q ≤ mb) ∧ Aside (MgC S A' B' p s b0 b1 (min q ma) (min q mb) T) ∧ Aside (RR w x wq w4 wr t T (.slice aa ma ca) (.slice ab mb cb) La Lb (twoC x0 b0 x1 b1))) (fun iv _ => 12 - (intOf iv).toNat)
    case atStart => exact ⟨0, S, rfl, by omega, .inl (Nat.zero_le _), by simpa [Aside] using HMG.out, HRR.out⟩
    case round =>
      obtain ⟨q, T, rfl, hq9, hqm, AM, AW⟩ := hrel
      by_cases hgo : q < ma ∨ q < mb
      · go_upto_region 12 with fail
        go_cut [76] (fun v z => v = .bool true ∧ z = wr)
        case first =>
          by_cases hqa : q < ma
          · go_wp2_with fail
            go_meet
            exact ⟨rfl, rfl⟩
          · have hqb : q < mb := hgo.resolve_left hqa
            go_wp2_with fail
            go_meet
            exact ⟨rfl, rfl⟩
        case rest =>
        obtain ⟨rfl, hwz⟩ := hcut
        subst hwz
        generalize wc = wr at *
        have hq1 : q + 1 ≤ 9 ∧ (q + 1 ≤ ma ∨ q + 1 ≤ mb) := by omega
        have HQ1 := Lib.hid hq1
        clear hgo hq1
        go_upto_region 14 with fail
        go_cut [107] (fun v z => v = .bool false ∧ ∃ T', MgC S A' B' p s b0 b1 (min (q + 1) ma) (min q mb) T' ∧ RR w x wq w4 z t T' (.slice aa ma ca) (.slice ab mb cb) La Lb (twoC x0 b0 x1 b1))
        case first =>
          by_cases hqa : q < ma
          · have ha : La[q]? = some (runA p s b0 6 q) := by rw [← HLA.out]; exact runL_get hqa
            obtain ⟨B1, hB1, hcc⟩ := row_at (AW.out.later (Below.refl _ _).drew).ra ha
            subst hB1
            have hTl : T.L.length ≤ 200 := by
              have h1 := congrArg List.length AM.out.L
              have h2 := congrArg List.length HEQ.out
              simp only [List.length_append, runS_length] at h1 h2
              omega
            have hij : min q ma = q := by omega
            have hmg := AM.out
            rw [hij] at hmg
            have hokk := hmg.okA HATT.out HZ0.out (by omega) (HF6.out q hqa)
            obtain ⟨a, haa⟩ : ∃ a, runA p s b0 6 q = a := ⟨_, rfl⟩
            have hid := runA_id p s b0 6 q
            have hch := runA_ch p s b0 6 q
            rw [haa] at hokk hcc hid ha hch
            rw [← hid] at hokk
            have c1 := hcc 1 _ rfl
            have c2 := hcc 2 _ rfl
            have c3 := hcc 3 _ rfl
            have c4 := hcc 4 _ rfl
            have c5 := hcc 5 _ rfl
            have c6 := hcc 6 _ rfl
            have HI := Lib.hid (insert_text wr.drew t T _ (AW.out.later (Below.refl _ _).drew).text (by omega) a.id a.par a.side a.ch)
            have e0 : (T.insE a.id a.par a.side != 0) = false := by simp [insE_zero.2 hokk]
            have e1 : (T.insE a.id a.par a.side == 0) = true := beq_iff_eq.2 (insE_zero.2 hokk)
            have HST := Lib.hid (fun (T' : Tx) (hS : Stp T a.id a.par a.side a.ch T') => (show MgC S A' B' p s b0 b1 (min (q + 1) ma) (min q mb) T' by
              have h := hmg.stepA (c := a.ch) (T' := T') HATT.out (fun h => by omega) (by rw [haa, ← hid]; exact hokk) (by rw [haa, ← hid]; exact hS) (hch.trans (by decide))
              have e2 : q + 1 = min (q + 1) ma := by omega
              rw [← e2]
              exact h))
            have HAR := Lib.hid ha
            have b0' : (0 : Int) ≤ (q : Int) := by omega
            have b1' : (q : Int) < (ma : Int) := by omega
            clear hcc hokk hmg hij hid ha haa hch
            go_region_held3 (fun w' => w'.cell? ⟨B1, q * 8 + 1, none⟩ = some (.int .i64 a.id.1) ∧ w'.cell? ⟨B1, q * 8 + 2, none⟩ = some (.int .i64 a.id.2) ∧ w'.cell? ⟨B1, q * 8 + 3, none⟩ = some (.int .i64 a.par.1) ∧ w'.cell? ⟨B1, q * 8 + 4, none⟩ = some (.int .i64 a.par.2) ∧ w'.cell? ⟨B1, q * 8 + 5, none⟩ = some (.int .i64 a.side) ∧ w'.cell? ⟨B1, q * 8 + 6, none⟩ = some (.int .i64 a.ch)) (first | exact ⟨c1, c2, c3, c4, c5, c6⟩ | exact ⟨hz2 1 _ rfl, hz2 2 _ rfl, hz2 3 _ rfl, hz2 4 _ rfl, hz2 5 _ rfl, hz2 6 _ rfl⟩) (first | (go_at_call 13; (with_reducible refine HI.out.mono ?_); rintro e z2 ⟨rfl, T', hS, hT', hc⟩; have HRZ := Lib.hid ((AW.out.later (Below.refl _ _).drew).turn hwx HX5.out hT' hc); have HS := Lib.hid hS; obtain ⟨B2, hB2, hz2⟩ := row_at HRZ.out.ra HAR.out; cases hB2; clear hS hT' hc))
            all_goals
              go_wp2_with fail
              go_meet
              exact ⟨rfl, T', HST.out T' HS.out, HRZ.out⟩
          · have hmm : min (q + 1) ma = min q ma := by omega
            have HMM := Lib.hid hmm
            clear hmm
            go_region
            go_wp2_with fail
            go_meet
            exact ⟨rfl, T, by rw [HMM.out]; exact AM.out, AW.out.later (Below.refl _ _).drew⟩
        case rest =>
        obtain ⟨rfl, T2, hm2, hw2⟩ := hcut
        generalize wc = wz at *
        have AM2 := Lib.hid hm2
        have AW2 := Lib.hid hw2
        clear hm2 hw2
        go_upto_region 16 with fail
        go_cut [136] (fun v z => v = .bool false ∧ ∃ T2', MgC S A' B' p s b0 b1 (min (q + 1) ma) (min (q + 1) mb) T2' ∧ RR w x wq w4 z t T2' (.slice aa ma ca) (.slice ab mb cb) La Lb (twoC x0 b0 x1 b1))
        case first =>
          by_cases hqa : q < mb
          · have ha : Lb[q]? = some (runA p s b1 7 q) := by rw [← HLB.out]; exact runL_get hqa
            obtain ⟨B1, hB1, hcc⟩ := row_at (AW2.out.later (Below.refl _ _).drew).rb ha
            subst hB1
            have hTl : T2.L.length ≤ 200 := by
              have h1 := congrArg List.length AM2.out.L
              have h2 := congrArg List.length HEQ.out
              simp only [List.length_append, runS_length] at h1 h2
              omega
            have hij : min q mb = q := by omega
            have hmg := AM2.out
            rw [hij] at hmg
            have hokk := hmg.okB HATT.out HZ0.out (by omega) (HF7.out q hqa)
            obtain ⟨a, haa⟩ : ∃ a, runA p s b1 7 q = a := ⟨_, rfl⟩
            have hid := runA_id p s b1 7 q
            rw [haa] at hokk hcc hid ha
            rw [← hid] at hokk
            have c1 := hcc 1 _ rfl
            have c2 := hcc 2 _ rfl
            have c3 := hcc 3 _ rfl
            have c4 := hcc 4 _ rfl
            have c5 := hcc 5 _ rfl
            have c6 := hcc 6 _ rfl
            have HI := Lib.hid (insert_text wz.drew t T2 _ (AW2.out.later (Below.refl _ _).drew).text (by omega) a.id a.par a.side a.ch)
            have e0 : (T2.insE a.id a.par a.side != 0) = false := by simp [insE_zero.2 hokk]
            have e1 : (T2.insE a.id a.par a.side == 0) = true := beq_iff_eq.2 (insE_zero.2 hokk)
            have HST := Lib.hid (fun (T2' : Tx) (hS : Stp T2 a.id a.par a.side a.ch T2') => (show MgC S A' B' p s b0 b1 (min (q + 1) ma) (min (q + 1) mb) T2' by
              have h := hmg.stepB (c := a.ch) (T' := T2') HATT.out (fun h => by omega) (by rw [haa, ← hid]; exact hokk) (by rw [haa, ← hid]; exact hS)
              have e2 : q + 1 = min (q + 1) mb := by omega
              rw [← e2]
              exact h))
            have HAR := Lib.hid ha
            have b0' : (0 : Int) ≤ (q : Int) := by omega
            have b1' : (q : Int) < (mb : Int) := by omega
            clear hcc hokk hmg hij hid ha haa
            go_region_held3 (fun w' => w'.cell? ⟨B1, q * 8 + 1, none⟩ = some (.int .i64 a.id.1) ∧ w'.cell? ⟨B1, q * 8 + 2, none⟩ = some (.int .i64 a.id.2) ∧ w'.cell? ⟨B1, q * 8 + 3, none⟩ = some (.int .i64 a.par.1) ∧ w'.cell? ⟨B1, q * 8 + 4, none⟩ = some (.int .i64 a.par.2) ∧ w'.cell? ⟨B1, q * 8 + 5, none⟩ = some (.int .i64 a.side) ∧ w'.cell? ⟨B1, q * 8 + 6, none⟩ = some (.int .i64 a.ch)) (first | exact ⟨c1, c2, c3, c4, c5, c6⟩ | exact ⟨hz2 1 _ rfl, hz2 2 _ rfl, hz2 3 _ rfl, hz2 4 _ rfl, hz2 5 _ rfl, hz2 6 _ rfl⟩) (first | (go_at_call 13; (with_reducible refine HI.out.mono ?_); rintro e z2 ⟨rfl, T2', hS, hT', hc⟩; have HRZ := Lib.hid ((AW2.out.later (Below.refl _ _).drew).turn hwx HX5.out hT' hc); have HS := Lib.hid hS; obtain ⟨B2, hB2, hz2⟩ := row_at HRZ.out.rb HAR.out; cases hB2; clear hS hT' hc))
            all_goals
              go_wp2_with fail
              go_meet
              exact ⟨rfl, T2', HST.out T2' HS.out, HRZ.out⟩
          · have hmm : min (q + 1) mb = min q mb := by omega
            have HMM := Lib.hid hmm
            clear hmm
            go_region
            go_wp2_with fail
            go_meet
            exact ⟨rfl, T2, by rw [HMM.out]; exact AM2.out, AW2.out.later (Below.refl _ _).drew⟩
        case rest =>
        obtain ⟨rfl, T3, hm3, hw3⟩ := hcut
        generalize wc = wy at *
        have AM3 := Lib.hid hm3
        have AW3 := Lib.hid hw3
        clear hm3 hw3
        go_wp2
        go_roundw
        case rel => exact ⟨q + 1, T3, by go_num, HQ1.out.1, HQ1.out.2, AM3.out, AW3.out⟩
        case measure => simp [intOf]; omega
      · have hqa : min q ma = ma := by omega
        have hqb : min q mb = mb := by omega
        have hm := AM.out
        rw [hqa, hqb] at hm
        have HM := Lib.hid hm
        have hstand : ∀ (i : Nat) (y : St), (runS b0 6 ma ++ runS b1 7 mb)[i]? = some y → (∀ z : World, RR w x wq w4 z t T (.slice aa ma ca) (.slice ab mb cb) La Lb (twoC x0 b0 x1 b1) → Calls Try.prog 21 #[ptr t, .int .i64 ((n : Int) + (i : Int))] z fun e w' => e = .returned (.tuple #[elV T y, .int .i64 0]) ∧ Below z.heap.size z w') := fun i y hy z hz => by
          obtain ⟨s1, s2⟩ := hm.toMg.stand HOK.out HEQ.out HCA.out hy
          have h := at_text z t T _ hz.text ((n : Int) + (i : Int))
          unfold atTV atTE at h
          rw [← Int.natCast_add, if_pos ⟨by omega, by omega⟩, if_pos ⟨by omega, by omega⟩, s1] at h
          rw [← Int.natCast_add]
          exact h
        have HST := Lib.hid hstand
        obtain ⟨y0, hy0, hc0⟩ : ∃ y, (runS b0 6 ma ++ runS b1 7 mb)[0]? = some y ∧ T.ch y = 103 := by
          refine ⟨_, by rw [List.getElem?_append_left (by rw [runS_length]; omega), runS_get b0 6 ma 0 (by omega)], ?_⟩
          cases b0
          · exact hm.c6 0 (by omega)
          · exact hm.c6 _ (by omega)
        have hat0 := hstand 0 y0 hy0 wr AW.out
        simp only [Int.natCast_zero, Int.add_zero] at hat0
        have HAT0 := Lib.hid hat0
        have HC0 := Lib.hid hc0
        obtain ⟨hnqa, hnqb⟩ := not_or.1 hgo
        clear hm hstand hat0 hy0 hc0 hgo hqm
        go_upto_region 19 with (with_reducible refine HAT0.out.mono ?_; rintro e z1 ⟨rfl, hb⟩; have HZ1 := Lib.hid hb; clear hb)
        refine wp_let (fun z => Below wr.heap.size wr z ∧ z.heap[z1.heap.size]? = some (.cells #[.int .i64 y0.1, .int .i64 y0.2, .int .i64 (T.ch y0), .bool (T.gone y0)] 44 (0, 0))) ⟨HZ1.out.alloc HZ1.out.size _, blk_new _ _⟩ (fun w6 hw6 => ?_)
        have hW6 := AW.out.later hw6.1
        have HW6 := Lib.hid hW6
        have f1 := blk_cell hw6.2 2
        rw [show (#[Value.int .i64 y0.1, .int .i64 y0.2, .int .i64 (T.ch y0), .bool (T.gone y0)] : Array Value)[2]? = some (.int .i64 103) by rw [HC0.out]; rfl] at f1
        have k1 := blk_cell hW6.box 1
        have k3 := blk_cell hW6.box 3
        clear hw6 hW6
        go_wp2
        clear f1 k1 k3
        go_loopw [20] (fun iv wv => ∃ i : Nat, iv = .int .i64 i ∧ i ≤ ma + mb ∧ Aside (Below w6.heap.size w6 wv)) (fun iv _ => 20 - (intOf iv).toNat)
        case atStart => exact ⟨0, rfl, Nat.zero_le _, Below.refl _ _⟩
        case round =>
          obtain ⟨i, rfl, hi', AB⟩ := hrel
          have AWv := Lib.hid (HW6.out.later AB.out)
          by_cases hil : i < ma + mb
          · obtain ⟨y, hy⟩ : ∃ y, (runS b0 6 ma ++ runS b1 7 mb)[i]? = some y := ⟨_, List.getElem?_eq_getElem (by simp [runS_length]; omega)⟩
            have HATi := Lib.hid (HST.out i y hy wr AWv.out)
            have HY := Lib.hid hy
            clear hy
            go_upto_region 34 with (with_reducible refine HATi.out.mono ?_; rintro e z2 ⟨rfl, hb⟩; have HZ2 := Lib.hid hb; clear hb)
            refine wp_let (fun z => Below w6.heap.size w6 z ∧ z.heap[z2.heap.size]? = some (.cells #[.int .i64 y.1, .int .i64 y.2, .int .i64 (T.ch y), .bool (T.gone y)] 44 (0, 0)) ∧ z.heap[z2.heap.size + 1]? = some (.cells #[.int .i64 0, .int .i64 0] 30 (0, 0))) ⟨?_, blk_alloc (blk_new _ _), blk_at _ _ _ (by simp)⟩ (fun z hz => ?_)
            · have h1 := AB.out.trans (HZ2.out.mono AB.out.size)
              exact (h1.alloc h1.size _).alloc ((h1.alloc h1.size _).size) _
            have hz6 : w6.heap.size ≤ z2.heap.size := Nat.le_trans AB.out.size HZ2.out.size
            have HZ := Lib.hid hz.1
            have hRz := HW6.out.later hz.1
            have l0 := blk_cell hz.2.1 0
            have l1 := blk_cell hz.2.1 1
            have m0 := blk_cell hz.2.2 0
            have m1 := blk_cell hz.2.2 1
            have g0 := blk_free hz.2.2 0
            have g1 := blk_free hz.2.2 1
            have heq := fun w => st_eq (a := y) (b := y) (decide_eq_true rfl) w
            have hgs := run_stGuardN
            have hfin : ∀ (v0 v1 : Value), Below w6.heap.size w6 ((z.setCell ⟨z2.heap.size + 1, 0, none⟩ v0).setCell ⟨z2.heap.size + 1, 1, none⟩ v1) := fun v0 v1 => (HZ.out.setCell (p := ⟨z2.heap.size + 1, 0, none⟩) (by simp; omega) _).setCell (p := ⟨z2.heap.size + 1, 1, none⟩) (by simp; omega) _
            have HFIN := Lib.hid hfin
            have HRZ := Lib.hid hRz
            clear hz hRz hfin
            by_cases hia : i < ma
            · have hye : y = if b0 then rid 6 (ma - 1 - i) else rid 6 i := by
                have h := HY.out
                rw [List.getElem?_append_left (by rw [runS_length]; exact hia), runS_get b0 6 ma i hia] at h
                exact (Option.some.inj h).symm
              cases b0 with
              | true =>
                have hye2 : y = rid 6 (ma - 1 - i) := by simpa using hye
                have ha : La[ma - 1 - i]? = some (runA p s true 6 (ma - 1 - i)) := by rw [← HLA.out]; exact runL_get (by omega)
                obtain ⟨B1, hB1, hcc⟩ := row_at HRZ.out.ra ha
                subst hB1
                have hid := runA_id p s true 6 (ma - 1 - i)
                rw [← hye2] at hid
                obtain ⟨ix, hix⟩ : ∃ ix, ma - 1 - i = ix := ⟨_, rfl⟩
                rw [hix] at hcc hid
                have hixi : (ma : Int) - 1 - (i : Int) = (ix : Int) := by omega
                have b0' : (0 : Int) ≤ (ix : Int) := by omega
                have b1' : (ix : Int) < (ma : Int) := by omega
                have c1 := hcc 1 (.int .i64 (runA p s true 6 ix).id.1) rfl
                have c2 := hcc 2 (.int .i64 (runA p s true 6 ix).id.2) rfl
                rw [hid] at c1 c2
                clear hcc hid ha hye hye2 hix
                go_wp2
                go_roundw
                case rel => exact ⟨i + 1, by go_num, by omega, HFIN.out _ _⟩
                case measure => simp [intOf]; omega
              | false =>
                have hye2 : y = rid 6 (i) := by simpa using hye
                have ha : La[i]? = some (runA p s false 6 (i)) := by rw [← HLA.out]; exact runL_get (by omega)
                obtain ⟨B1, hB1, hcc⟩ := row_at HRZ.out.ra ha
                subst hB1
                have hid := runA_id p s false 6 (i)
                rw [← hye2] at hid
                obtain ⟨ix, hix⟩ : ∃ ix, i = ix := ⟨_, rfl⟩
                rw [hix] at hcc hid
                have hixi : (i : Int) = (ix : Int) := by omega
                have b0' : (0 : Int) ≤ (ix : Int) := by omega
                have b1' : (ix : Int) < (ma : Int) := by omega
                have c1 := hcc 1 (.int .i64 (runA p s false 6 ix).id.1) rfl
                have c2 := hcc 2 (.int .i64 (runA p s false 6 ix).id.2) rfl
                rw [hid] at c1 c2
                clear hcc hid ha hye hye2 hix
                go_wp2
                go_roundw
                case rel => exact ⟨i + 1, by go_num, by omega, HFIN.out _ _⟩
                case measure => simp [intOf]; omega
            · have hye : y = if b1 then rid 7 (mb - 1 - (i - ma)) else rid 7 (i - ma) := by
                have h := HY.out
                rw [List.getElem?_append_right (by rw [runS_length]; omega), runS_length, runS_get b1 7 mb (i - ma) (by omega)] at h
                exact (Option.some.inj h).symm
              cases b1 with
              | true =>
                have hye2 : y = rid 7 (mb - 1 - (i - ma)) := by simpa using hye
                have ha : Lb[mb - 1 - (i - ma)]? = some (runA p s true 7 (mb - 1 - (i - ma))) := by rw [← HLB.out]; exact runL_get (by omega)
                obtain ⟨B1, hB1, hcc⟩ := row_at HRZ.out.rb ha
                subst hB1
                have hid := runA_id p s true 7 (mb - 1 - (i - ma))
                rw [← hye2] at hid
                obtain ⟨ix, hix⟩ : ∃ ix, mb - 1 - (i - ma) = ix := ⟨_, rfl⟩
                rw [hix] at hcc hid
                have hixi : (ma : Int) + (mb : Int) - 1 - (i : Int) = (ix : Int) := by omega
                have b0' : (0 : Int) ≤ (ix : Int) := by omega
                have b1' : (ix : Int) < (mb : Int) := by omega
                have c1 := hcc 1 (.int .i64 (runA p s true 7 ix).id.1) rfl
                have c2 := hcc 2 (.int .i64 (runA p s true 7 ix).id.2) rfl
                rw [hid] at c1 c2
                clear hcc hid ha hye hye2 hix
                go_wp2
                go_roundw
                case rel => exact ⟨i + 1, by go_num, by omega, HFIN.out _ _⟩
                case measure => simp [intOf]; omega
              | false =>
                have hye2 : y = rid 7 (i - ma) := by simpa using hye
                have ha : Lb[i - ma]? = some (runA p s false 7 (i - ma)) := by rw [← HLB.out]; exact runL_get (by omega)
                obtain ⟨B1, hB1, hcc⟩ := row_at HRZ.out.rb ha
                subst hB1
                have hid := runA_id p s false 7 (i - ma)
                rw [← hye2] at hid
                obtain ⟨ix, hix⟩ : ∃ ix, i - ma = ix := ⟨_, rfl⟩
                rw [hix] at hcc hid
                have hixi : (i : Int) - (ma : Int) = (ix : Int) := by omega
                have b0' : (0 : Int) ≤ (ix : Int) := by omega
                have b1' : (ix : Int) < (mb : Int) := by omega
                have c1 := hcc 1 (.int .i64 (runA p s false 7 ix).id.1) rfl
                have c2 := hcc 2 (.int .i64 (runA p s false 7 ix).id.2) rfl
                rw [hid] at c1 c2
                clear hcc hid ha hye hye2 hix
                go_wp2
                go_roundw
                case rel => exact ⟨i + 1, by go_num, by omega, HFIN.out _ _⟩
                case measure => simp [intOf]; omega
          · obtain rfl : i = ma + mb := by omega
            go_wp2
            go_ret
            exact ⟨rfl, HX.out.1.trans ((HW6.out.b.trans (AB.out.mono HW6.out.b.size)).mono HX.out.1.size)⟩
  · cases oka with
    | false =>
      go_wp2
      go_ret
      exact ⟨rfl, HW4.out⟩
    | true =>
      cases okb with
      | false =>
        go_wp2
        go_ret
        exact ⟨rfl, HW4.out⟩
      | true => exact absurd ⟨rfl, rfl⟩ hboth
end Go.Proofs.Ytohpablkgfkelaa
