/- THE STABLE SORT's WALKS (package slices): two sorted ranges merged, at large. (Written by gen_sort.py.) -/
import Derived.Test.YtiamohfpohjdpaaDoorSortC
import Derived.Deep.DeepCutAuto
namespace Go.Proofs.YtiamohfpohjdpaaDoor
open Go.Shelf Go.RowKit Go.Lib Go.Sort
set_option linter.unusedVariables false
set_option linter.unusedSimpArgs false
section
variable {P : Program} {α : Type} [Inhabited α]
def SymIs (P : Program) (enc : α → List Value) (k : Nat) (cf : α → α → Int) (g : Nat) (cb : Array Value) (blk off cap : Nat) (d0 : Array α) (w0 : World) (N : Nat) : Prop :=
  ∀ (a m b : Nat) (d : Array α) (w : World), b - a ≤ N → a < m → m < b → b ≤ d.size → d.size = d0.size → SWK enc k w0 blk off d w → SortedIn (ltOf cf) a m d → SortedIn (ltOf cf) m b d →
    Calls P 78 #[.slice (some ⟨blk, off, none⟩) d0.size cap, .int .i64 a, .int .i64 m, .int .i64 b, .func (.func g) #[] cb] w fun e w' => e = .returned (.tuple #[]) ∧ ∃ d', Aside (Merged (ltOf cf) a b d d') ∧ SWK enc k w0 blk off d' w'
set_option maxHeartbeats 8000000 in
set_option maxRecDepth 1000000 in
theorem symBig_gen (T : TY P) (hf63 : P.funcs[(88 : Nat)]? = some Tryd.f88) (hf59 : P.funcs[(84 : Nat)]? = some Tryd.f84) (hf54 : P.funcs[(78 : Nat)]? = some Tryd.f78) (k : Nat) (aE : ∀ w, (isAgg 39).run P w = .ok true w) (zE : ∀ w, (Go.sizeOf 39).run P w = .ok k w) (enc : α → List Value) (cf : α → α → Int) (g : Nat) (cb : Array Value) (blk off cap a m b N : Nat) (d0 d : Array α) (w0 w : World)
    (eg : ∀ args w, (callFunc g args).run P w = .ok (.enter g args) w) (hcmp : CmpLays P g cb enc k cf blk off d0.size w0) (hS : SWO (ltOf cf)) (R : RowK enc k w0 blk off d0) (hs : d0.size = d.size) (S : SWK enc k w0 blk off d w) (IH : SymIs P enc k cf g cb blk off cap d0 w0 N) (hN : b - a ≤ N + 1) (ham : a + 1 < m) (hmb : m + 1 < b) (hb : b ≤ d.size) (hl : SortedIn (ltOf cf) a m d) (hr : SortedIn (ltOf cf) m b d) (hsz : d.size < 4611686018427387904) :
    Calls P 78 #[.slice (some ⟨blk, off, none⟩) d.size cap, .int .i64 a, .int .i64 m, .int .i64 b, .func (.func g) #[] cb] w fun e w' => e = .returned (.tuple #[]) ∧ ∃ d', Aside (Merged (ltOf cf) a b d d') ∧ SWK enc k w0 blk off d' w' := by
  have rot : ∀ (x y z : Nat) (W : World), SWK enc k w0 blk off d W → x < y → y < z → z ≤ d.size → Calls P 84 #[.slice (some ⟨blk, off, none⟩) d.size cap, .int .i64 x, .int .i64 y, .int .i64 z, .func (.func g) #[] cb] W fun e w' => e = .returned (.tuple #[]) ∧ ∃ d', Aside (Rotated x y z d d') ∧ SWK enc k w0 blk off d' w' := fun x y z W h1 h2 h3 h4 => rotate_gen T hf63 hf59 k aE zE enc g cb blk off cap x y z d0 d w0 W R hs h1 h2 h3 h4 hsz
  have sym : ∀ (x y z : Nat) (dk : Array α) (W : World), z - x ≤ N → x < y → y < z → z ≤ d.size → dk.size = d.size → SWK enc k w0 blk off dk W → SortedIn (ltOf cf) x y dk → SortedIn (ltOf cf) y z dk →
      Calls P 78 #[.slice (some ⟨blk, off, none⟩) d.size cap, .int .i64 x, .int .i64 y, .int .i64 z, .func (.func g) #[] cb] W fun e w' => e = .returned (.tuple #[]) ∧ ∃ d', Aside (Merged (ltOf cf) x z dk d') ∧ SWK enc k w0 blk off d' w' := fun x y z dk W h1 h2 h3 h4 h5 h6 h7 h8 => by
    have := IH x y z dk W h1 h2 h3 (by omega) (by omega) h6 h7 h8
    rwa [hs] at this
  have e59 : ∀ args w, (callFunc 84 args).run P w = .ok (.enter 84 args) w := enters_of hf59 (by kernel_rfl) rfl
  have e54 : ∀ args w, (callFunc 78 args).run P w = .ok (.enter 78 args) w := enters_of hf54 (by kernel_rfl) rfl
  have mixed := T.mixed; have t0 := T.t0; have a0 := T.a0; have z0 := T.z0; have v0 := T.v0; have t3 := T.t3; have a3 := T.a3; have z3 := T.z3; have v3 := T.v3; have t4 := T.t4; have a4 := T.a4; have z4 := T.z4; have v4 := T.v4; have t22 := T.t22; have a22 := T.a22; have z22 := T.z22; have v22 := T.v22; have t25 := T.t25; have a25 := T.a25; have z25 := T.z25; have v25 := T.v25; have t39 := T.t39; have a39 := T.a39; have z39 := T.z39; have v39 := T.v39
  have HC : Aside _ := hcmp
  have S0 : Aside (SWK enc k w0 blk off d w) := S
  have ROT := Lib.hid rot
  have SYM := Lib.hid sym
  have HL := Lib.hid hl
  have HR := Lib.hid hr
  have q1 : ((m : Int) - (a : Int) == 1) = false := by simp; omega
  have q3 : ((b : Int) - (m : Int) == 1) = false := by simp; omega
  have q0 : (0 : Int) ≤ (m : Int) - (a : Int) := by omega
  have q2 : (0 : Int) ≤ (b : Int) - (m : Int) := by omega
  obtain ⟨mid, hmid⟩ : ∃ mid, mid = (a + b) / 2 := ⟨_, rfl⟩
  have m1 : mid + mid ≤ a + b := by omega
  have m2 : a + b ≤ mid + mid + 1 := by omega
  have MI := Lib.hid (show ((a : Int) + (b : Int)) / 2 = (mid : Int) by omega)
  clear hcmp S hl hr rot sym hf63 hf59 hmid IH
  go_enter hf54, Tryd.ntmps78
  go_upto_if 140 with fail
  go_cut [18, 19, 20, 21] (fun s18 s19 s20 s21 wx => ∃ lo hi : Nat, s18 = .int .i64 (mid : Int) ∧ s19 = .int .i64 ((mid : Int) + (m : Int)) ∧ s20 = .int .i64 lo ∧ s21 = .int .i64 hi ∧ wx = w ∧ a ≤ lo ∧ lo ≤ hi ∧ hi ≤ m ∧ hi ≤ mid ∧ mid + m ≤ lo + b ∧ (a = lo ∨ lo + b = mid + m) ∧ (m = hi ∨ mid = hi))
  case first =>
    have MM := MI.out
    by_cases hm : mid < m
    · have hmz : ((a : Int) + (b : Int)) / 2 < (m : Int) := by omega
      go_wp2_with fail
      go_meet
      exact ⟨mid + m - b, mid, by first | rfl | rw [MM], by first | rfl | rw [MM], by rw [show ((mid + m - b : Nat) : Int) = (mid : Int) + (m : Int) - (b : Int) by omega], by first | rfl | rw [MM], rfl, by omega, by omega, by omega, by omega, by omega, by omega, by omega⟩
    · have hmz : ¬ ((a : Int) + (b : Int)) / 2 < (m : Int) := by omega
      go_wp2_with fail
      go_meet
      exact ⟨a, m, by first | rfl | rw [MM], by first | rfl | rw [MM], rfl, rfl, rfl, by omega, by omega, by omega, by omega, by omega, by omega, by omega⟩
  case rest => as_aux_lemma =>
    obtain ⟨lo, hi, rfl, rfl, rfl, rfl, rfl, f1, f2, f3, f4, f5, f6, f7⟩ := hcut
    clear q1 q3 q0 q2
    go_wp2_with fail
    go_loopg [20, 21] (hi - lo) (fun kx s20 s21 wr => ∃ i j : Nat, s20 = .int .i64 i ∧ s21 = .int .i64 j ∧ lo ≤ i ∧ i ≤ j ∧ j ≤ hi ∧ j - i ≤ kx ∧ Aside (SWK enc k w0 blk off d wr) ∧ Aside ((lo < i → ltOf cf d[mid + m - 1 - (i - 1)]! d[i - 1]! = false) ∧ (j < hi → ltOf cf d[mid + m - 1 - j]! d[j]! = true)))
    case atStart => exact ⟨lo, hi, rfl, rfl, Nat.le_refl _, f2, Nat.le_refl _, Nat.le_refl _, S0, (⟨fun h => absurd h (Nat.lt_irrefl _), fun h => absurd h (Nat.lt_irrefl _)⟩ : (lo < lo → ltOf cf d[mid + m - 1 - (lo - 1)]! d[lo - 1]! = false) ∧ (hi < hi → ltOf cf d[mid + m - 1 - hi]! d[hi]! = true))⟩
    case round =>
      clear S0
      obtain ⟨i, j, rfl, rfl, hmi, hij, hjb, hkx, S1, I1⟩ := hrel
      by_cases hlt : i < j
      · have hltz : (i : Int) < (j : Int) := by omega
        cases hL : ltOf cf d[mid + m - 1 - (i + j) / 2]! d[(i + j) / 2]! with
        | false => as_aux_lemma =>
          have zp : ((i : Int) + (j : Int)) / 2 ≤ (mid : Int) + (m : Int) - 1 := by omega
          have epa : ((mid : Int) + (m : Int) - 1 - ((i : Int) + (j : Int)) / 2).toNat = mid + m - 1 - (i + j) / 2 := by omega
          have ppa : (0 : Int) ≤ (mid : Int) + (m : Int) - 1 - ((i : Int) + (j : Int)) / 2 := by omega
          have bpa : (mid : Int) + (m : Int) - 1 - ((i : Int) + (j : Int)) / 2 < (d.size : Int) := by omega
          have rpa : IntKind.i64.wrap ((mid : Int) + (m : Int) - 1 - ((i : Int) + (j : Int)) / 2) = (mid : Int) + (m : Int) - 1 - ((i : Int) + (j : Int)) / 2 := by rw [IntKind.wrap_i64]; omega
          have epc : (((i : Int) + (j : Int)) / 2).toNat = (i + j) / 2 := by omega
          have ppc : (0 : Int) ≤ ((i : Int) + (j : Int)) / 2 := by omega
          have bpc : ((i : Int) + (j : Int)) / 2 < (d.size : Int) := by omega
          have rpc : IntKind.i64.wrap (((i : Int) + (j : Int)) / 2) = ((i : Int) + (j : Int)) / 2 := by rw [IntKind.wrap_i64]; omega
          obtain ⟨xp, hxp⟩ : ∃ x, x = d[mid + m - 1 - (i + j) / 2]! := ⟨_, rfl⟩
          obtain ⟨yp, hyp⟩ : ∃ x, x = d[(i + j) / 2]! := ⟨_, rfl⟩
          have lpa := S1.out.ld R (by omega) P (mid + m - 1 - (i + j) / 2) (by omega)
          have lpb := S1.out.ld R (by omega) P ((i + j) / 2) (by omega)
          rw [← hxp] at lpa
          rw [← hyp] at lpb
          have hcp := S1.out.cmp HC.out (by omega) xp yp
          have hvp : ¬ cf xp yp < 0 := by rw [hxp, hyp]; exact of_decide_eq_false hL
          have hdp : decide (cf xp yp < 0) = false := decide_eq_false hvp
          clear hxp hyp
          go_wp2_with fail
          go_quiet_grown (first | (go_at_fn g; refine Calls.grown_of (hcp _ _)))
          have S2 : Aside (SWK enc k w0 blk off d (grow (wr.drewN nq) osq)) := S1.out.grown nq osq
          clear lpa lpb hcp S1
          generalize grow (wr.drewN nq) osq = w2 at S2 ⊢
          clear nq osq
          have I2 : Aside ((lo < (i + j) / 2 + 1 → ltOf cf d[mid + m - 1 - ((i + j) / 2 + 1 - 1)]! d[(i + j) / 2 + 1 - 1]! = false) ∧ (j < hi → ltOf cf d[mid + m - 1 - j]! d[j]! = true)) := ⟨fun _ => hL, I1.out.2⟩
          clear I1 hL
          go_wp2
          go_roundg (j - ((i + j) / 2 + 1))
          case measure => omega
          case rel => exact ⟨(i + j) / 2 + 1, j, by rw [show ((i : Int) + (j : Int)) / 2 + 1 = (((i + j) / 2 + 1 : Nat) : Int) by omega], rfl, by omega, by omega, hjb, Nat.le_refl _, S2, I2⟩
        | true => as_aux_lemma =>
          have zp : ((i : Int) + (j : Int)) / 2 ≤ (mid : Int) + (m : Int) - 1 := by omega
          have epa : ((mid : Int) + (m : Int) - 1 - ((i : Int) + (j : Int)) / 2).toNat = mid + m - 1 - (i + j) / 2 := by omega
          have ppa : (0 : Int) ≤ (mid : Int) + (m : Int) - 1 - ((i : Int) + (j : Int)) / 2 := by omega
          have bpa : (mid : Int) + (m : Int) - 1 - ((i : Int) + (j : Int)) / 2 < (d.size : Int) := by omega
          have rpa : IntKind.i64.wrap ((mid : Int) + (m : Int) - 1 - ((i : Int) + (j : Int)) / 2) = (mid : Int) + (m : Int) - 1 - ((i : Int) + (j : Int)) / 2 := by rw [IntKind.wrap_i64]; omega
          have epc : (((i : Int) + (j : Int)) / 2).toNat = (i + j) / 2 := by omega
          have ppc : (0 : Int) ≤ ((i : Int) + (j : Int)) / 2 := by omega
          have bpc : ((i : Int) + (j : Int)) / 2 < (d.size : Int) := by omega
          have rpc : IntKind.i64.wrap (((i : Int) + (j : Int)) / 2) = ((i : Int) + (j : Int)) / 2 := by rw [IntKind.wrap_i64]; omega
          obtain ⟨xp, hxp⟩ : ∃ x, x = d[mid + m - 1 - (i + j) / 2]! := ⟨_, rfl⟩
          obtain ⟨yp, hyp⟩ : ∃ x, x = d[(i + j) / 2]! := ⟨_, rfl⟩
          have lpa := S1.out.ld R (by omega) P (mid + m - 1 - (i + j) / 2) (by omega)
          have lpb := S1.out.ld R (by omega) P ((i + j) / 2) (by omega)
          rw [← hxp] at lpa
          rw [← hyp] at lpb
          have hcp := S1.out.cmp HC.out (by omega) xp yp
          have hvp : cf xp yp < 0 := by rw [hxp, hyp]; exact of_decide_eq_true hL
          have hdp : decide (cf xp yp < 0) = true := decide_eq_true hvp
          clear hxp hyp
          go_wp2_with fail
          go_quiet_grown (first | (go_at_fn g; refine Calls.grown_of (hcp _ _)))
          have S2 : Aside (SWK enc k w0 blk off d (grow (wr.drewN nq) osq)) := S1.out.grown nq osq
          clear lpa lpb hcp S1
          generalize grow (wr.drewN nq) osq = w2 at S2 ⊢
          clear nq osq
          have I2 : Aside ((lo < i → ltOf cf d[mid + m - 1 - (i - 1)]! d[i - 1]! = false) ∧ ((i + j) / 2 < hi → ltOf cf d[mid + m - 1 - (i + j) / 2]! d[(i + j) / 2]! = true)) := ⟨I1.out.1, fun _ => hL⟩
          clear I1 hL
          go_wp2
          go_roundg ((i + j) / 2 - i)
          case measure => omega
          case rel => exact ⟨i, (i + j) / 2, rfl, by rw [show ((i : Int) + (j : Int)) / 2 = (((i + j) / 2 : Nat) : Int) by omega], by omega, by omega, by omega, Nat.le_refl _, S2, I2⟩
      · as_aux_lemma =>
        obtain rfl : j = i := by omega
        have hltz : ¬ (j : Int) < (j : Int) := by omega
        obtain ⟨e, he⟩ : ∃ e, e = mid + m - j := ⟨_, rfl⟩
        have g1 : m ≤ e := by omega
        have g2 : e ≤ b := by omega
        have g3 : a ≤ j := by omega
        have g4 : j ≤ m := by omega
        have g5 : mid = j + (e - m) := by omega
        have F : Found (ltOf cf) a m b j e d := ⟨HL.out, HR.out, g3, g4, g1, g2, fun h1 h2 => by
          have := I1.out.1 (by omega)
          rwa [show mid + m - 1 - (j - 1) = e by omega] at this, fun h1 h2 => by
          have := I1.out.2 (by omega)
          rwa [show mid + m - 1 - j = e - 1 by omega] at this⟩
        have EE := Lib.hid (show (mid : Int) + (m : Int) - (j : Int) = (e : Int) by omega)
        have FF := Lib.hid F
        have G5 := Lib.hid g5
        have hea : j + e = mid + m := by omega
        clear he g5 F I1
        go_upto_region 38 with fail
        go_cut [24] (fun s24 wx => s24 = .int .i64 e ∧ Aside (SWK enc k w0 blk off d wx))
        case first =>
          go_wp2_with fail
          go_meet
          exact ⟨by rw [EE.out], S1⟩
        case rest => as_aux_lemma =>
          obtain ⟨rfl, S2⟩ := hcut
          clear S1 hltz
          obtain ⟨wk, hwk⟩ : ∃ wk, wk = wc := ⟨_, rfl⟩
          subst hwk
          go_upto_region 39 with fail
          go_cut [185] (fun s185 wx => s185 = .bool (decide (j < m) && decide (m < e)) ∧ Aside (SWK enc k w0 blk off d wx))
          case first =>
            by_cases hx : j < m
            · have hxz : (j : Int) < (m : Int) := by omega
              by_cases hy : m < e
              · have hyz : (m : Int) < (e : Int) := by omega
                go_wp2_with fail
                go_meet
                exact ⟨by rw [decide_eq_true hx, decide_eq_true hy]; rfl, S2⟩
              · have hyz : ¬ (m : Int) < (e : Int) := by omega
                go_wp2_with fail
                go_meet
                exact ⟨by rw [decide_eq_true hx, decide_eq_false hy]; rfl, S2⟩
            · have hxz : ¬ (j : Int) < (m : Int) := by omega
              go_wp2_with fail
              go_meet
              exact ⟨by rw [decide_eq_false hx]; rfl, S2⟩
          case rest => as_aux_lemma =>
            obtain ⟨rfl, S3⟩ := hcut
            clear S2
            obtain ⟨wl, hwl⟩ : ∃ wl, wl = wc := ⟨_, rfl⟩
            subst hwl
            go_upto_if 185 with fail
            go_cut [] (fun wx => ∃ d1, Aside (Rotated j m e d d1) ∧ Aside (SWK enc k w0 blk off d1 wx))
            case first =>
              cases hb1 : (decide (j < m) && decide (m < e)) with
              | true => as_aux_lemma =>
                rw [Bool.and_eq_true, decide_eq_true_eq, decide_eq_true_eq] at hb1
                have C1 := Lib.hid (ROT.out j m e wl S3.out hb1.1 hb1.2 (by omega))
                clear hb1 S3
                go_wp2_with (go_at_fn 84; with_reducible refine C1.out.mono ?_; rintro e w' ⟨rfl, d', W2, S4⟩)
                go_meet
                exact ⟨d', W2, S4⟩
              | false => as_aux_lemma =>
                have RT : Aside (Rotated j m e d d) := Rotated.none (by
                  by_cases h1 : j = m
                  · exact .inl h1
                  · by_cases h2 : m = e
                    · exact .inr h2
                    · rw [decide_eq_true (show j < m by omega), decide_eq_true (show m < e by omega)] at hb1
                      cases hb1) g4 g1
                clear hb1
                go_wp2_with fail
                go_meet
                exact ⟨d, RT, S3⟩
            case rest => as_aux_lemma =>
              obtain ⟨d1, R1, S4⟩ := hcut
              clear S3
              obtain ⟨wm, hwm⟩ : ∃ wm, wm = wc := ⟨_, rfl⟩
              subst hwm
              go_upto_region 41 with fail
              go_cut [199] (fun s199 wx => s199 = .bool (decide (a < j) && decide (j < mid)) ∧ Aside (SWK enc k w0 blk off d1 wx))
              case first =>
                by_cases hx : a < j
                · have hxz : (a : Int) < (j : Int) := by omega
                  by_cases hy : j < mid
                  · have hyz : (j : Int) < (mid : Int) := by omega
                    go_wp2_with fail
                    go_meet
                    exact ⟨by rw [decide_eq_true hx, decide_eq_true hy]; rfl, S4⟩
                  · have hyz : ¬ (j : Int) < (mid : Int) := by omega
                    go_wp2_with fail
                    go_meet
                    exact ⟨by rw [decide_eq_true hx, decide_eq_false hy]; rfl, S4⟩
                · have hxz : ¬ (a : Int) < (j : Int) := by omega
                  go_wp2_with fail
                  go_meet
                  exact ⟨by rw [decide_eq_false hx]; rfl, S4⟩
              case rest => as_aux_lemma =>
                obtain ⟨rfl, S5⟩ := hcut
                clear S4
                obtain ⟨wn, hwn⟩ : ∃ wn, wn = wc := ⟨_, rfl⟩
                subst hwn
                go_upto_if 199 with fail
                go_cut [] (fun wx => ∃ d2, Aside (Merged (ltOf cf) a mid d1 d2) ∧ Aside (SWK enc k w0 blk off d2 wx))
                case first =>
                  cases hb1 : (decide (a < j) && decide (j < mid)) with
                  | true => as_aux_lemma =>
                    rw [Bool.and_eq_true, decide_eq_true_eq, decide_eq_true_eq] at hb1
                    have hv := FF.out.left_halves hS R1.out hb G5.out
                    have C1 := Lib.hid (SYM.out a j mid d1 wn (by omega) hb1.1 hb1.2 (by omega) R1.out.size S5.out hv.1 hv.2)
                    clear hb1 S5 hv
                    go_wp2_with (go_at_fn 78; with_reducible refine C1.out.mono ?_; rintro e w' ⟨rfl, d', W2, S6⟩)
                    go_meet
                    exact ⟨d', W2, S6⟩
                  | false => as_aux_lemma =>
                    have MG : Aside (Merged (ltOf cf) a mid d1 d1) := FF.out.left_same hS R1.out hb G5.out (fun h => by
                      rw [decide_eq_true h.1, decide_eq_true h.2] at hb1
                      cases hb1)
                    clear hb1
                    go_wp2_with fail
                    go_meet
                    exact ⟨d1, MG, S5⟩
                case rest => as_aux_lemma =>
                  obtain ⟨d2, M2, S6⟩ := hcut
                  clear S5
                  obtain ⟨wo, hwo⟩ : ∃ wo, wo = wc := ⟨_, rfl⟩
                  subst hwo
                  go_upto_region 43 with fail
                  go_cut [213] (fun s213 wx => s213 = .bool (decide (mid < e) && decide (e < b)) ∧ Aside (SWK enc k w0 blk off d2 wx))
                  case first =>
                    by_cases hx : mid < e
                    · have hxz : (mid : Int) < (e : Int) := by omega
                      by_cases hy : e < b
                      · have hyz : (e : Int) < (b : Int) := by omega
                        go_wp2_with fail
                        go_meet
                        exact ⟨by rw [decide_eq_true hx, decide_eq_true hy]; rfl, S6⟩
                      · have hyz : ¬ (e : Int) < (b : Int) := by omega
                        go_wp2_with fail
                        go_meet
                        exact ⟨by rw [decide_eq_true hx, decide_eq_false hy]; rfl, S6⟩
                    · have hxz : ¬ (mid : Int) < (e : Int) := by omega
                      go_wp2_with fail
                      go_meet
                      exact ⟨by rw [decide_eq_false hx]; rfl, S6⟩
                  case rest => as_aux_lemma =>
                    obtain ⟨rfl, S7⟩ := hcut
                    clear S6
                    have FIN : ∀ d3, Merged (ltOf cf) mid b d2 d3 → Aside (Merged (ltOf cf) a b d d3) := fun d3 h => FF.out.merged hS R1.out hb G5.out M2.out h
                    have FIN := Lib.hid FIN
                    cases hb1 : (decide (mid < e) && decide (e < b)) with
                    | true => as_aux_lemma =>
                      rw [Bool.and_eq_true, decide_eq_true_eq, decide_eq_true_eq] at hb1
                      have hv := FF.out.right_halves hS R1.out hb G5.out M2.out.perm
                      have C1 := Lib.hid (SYM.out mid e b d2 wc (by omega) hb1.1 hb1.2 (by omega) (M2.out.perm.1.trans R1.out.size) S7.out hv.1 hv.2)
                      clear hb1 S7 hv R1 M2
                      go_wp2_with (go_at_fn 78; with_reducible refine C1.out.mono ?_; rintro e w' ⟨rfl, d', W2, S8⟩)
                      go_end0
                      exact ⟨rfl, d', FIN.out d' W2.out, S8⟩
                    | false => as_aux_lemma =>
                      have MG : Aside (Merged (ltOf cf) a b d d2) := FIN.out d2 (FF.out.right_same hS R1.out hb G5.out M2.out.perm (fun h => by
                        rw [decide_eq_true h.1, decide_eq_true h.2] at hb1
                        cases hb1))
                      clear hb1 R1 M2
                      go_wp2_with fail
                      go_end0
                      exact ⟨rfl, d2, MG, S7.out⟩
end
end Go.Proofs.YtiamohfpohjdpaaDoor
