/- THE STABLE SORT's WALKS (package slices): two sorted ranges merged, one of them of one element. (Written by gen_sort.py.) -/
import Derived.Test.YtiamohfpohjdpaaDoorSortB
namespace Go.Proofs.YtiamohfpohjdpaaDoor
open Go.Shelf Go.RowKit Go.Lib Go.Sort
set_option linter.unusedVariables false
set_option linter.unusedSimpArgs false
section
variable {P : Program} {α : Type} [Inhabited α]
set_option maxHeartbeats 8000000 in
set_option maxRecDepth 1000000 in
theorem symUp_gen (T : TY P) (hf54 : P.funcs[(78 : Nat)]? = some Tryd.f78) (k : Nat) (aE : ∀ w, (isAgg 39).run P w = .ok true w) (zE : ∀ w, (Go.sizeOf 39).run P w = .ok k w) (enc : α → List Value) (cf : α → α → Int) (g : Nat) (cb : Array Value) (blk off cap a m b : Nat) (d0 d : Array α) (w0 w : World)
    (eg : ∀ args w, (callFunc g args).run P w = .ok (.enter g args) w) (hcmp : CmpLays P g cb enc k cf blk off d0.size w0) (hS : SWO (ltOf cf)) (R : RowK enc k w0 blk off d0) (hs : d0.size = d.size) (S : SWK enc k w0 blk off d w) (ham : m = a + 1) (hmb : m < b) (hb : b ≤ d.size) (hr : SortedIn (ltOf cf) m b d) (hsz : d.size < 4611686018427387904) :
    Calls P 78 #[.slice (some ⟨blk, off, none⟩) d.size cap, .int .i64 a, .int .i64 m, .int .i64 b, .func (.func g) #[] cb] w fun e w' => e = .returned (.tuple #[]) ∧ ∃ d', Aside (Merged (ltOf cf) a b d d') ∧ SWK enc k w0 blk off d' w' := by
  have mixed := T.mixed; have t0 := T.t0; have a0 := T.a0; have z0 := T.z0; have v0 := T.v0; have t3 := T.t3; have a3 := T.a3; have z3 := T.z3; have v3 := T.v3; have t4 := T.t4; have a4 := T.a4; have z4 := T.z4; have v4 := T.v4; have t22 := T.t22; have a22 := T.a22; have z22 := T.z22; have v22 := T.v22; have t25 := T.t25; have a25 := T.a25; have z25 := T.z25; have v25 := T.v25; have t39 := T.t39; have a39 := T.a39; have z39 := T.z39; have v39 := T.v39
  have HC : Aside _ := hcmp
  have S0 : Aside (SWK enc k w0 blk off d w) := S
  have HR := Lib.hid hr
  have HAM := Lib.hid ham
  have am1 : a + 1 ≤ m := by omega
  have am2 : m ≤ a + 1 := by omega
  have q1 : ((m : Int) - (a : Int) == 1) = true := by simp; omega
  have q0 : (0 : Int) ≤ (m : Int) - (a : Int) := by omega
  clear hcmp S hr ham
  go_enter hf54, Tryd.ntmps78
  go_wp2
  go_loopg [10, 11] (b - m) (fun kx s10 s11 wr => ∃ i j : Nat, s10 = .int .i64 i ∧ s11 = .int .i64 j ∧ m ≤ i ∧ i ≤ j ∧ j ≤ b ∧ j - i ≤ kx ∧ Aside (SWK enc k w0 blk off d wr) ∧ Aside ((m < i → ltOf cf d[i - 1]! d[a]! = true) ∧ (j < b → ltOf cf d[j]! d[a]! = false)))
  case atStart => exact ⟨m, b, rfl, rfl, Nat.le_refl _, by omega, Nat.le_refl _, Nat.le_refl _, S0, (⟨fun h => absurd h (Nat.lt_irrefl _), fun h => absurd h (Nat.lt_irrefl _)⟩ : (m < m → ltOf cf d[m - 1]! d[a]! = true) ∧ (b < b → ltOf cf d[b]! d[a]! = false))⟩
  case round =>
    clear S0 q1 q0
    obtain ⟨i, j, rfl, rfl, hmi, hij, hjb, hkx, S1, I1⟩ := hrel
    by_cases hlt : i < j
    · have hltz : (i : Int) < (j : Int) := by omega
      cases hL : ltOf cf d[(i + j) / 2]! d[a]! with
      | true =>
        have epa : (((i : Int) + (j : Int)) / 2).toNat = (i + j) / 2 := by omega
        have ppa : (0 : Int) ≤ ((i : Int) + (j : Int)) / 2 := by omega
        have bpa : ((i : Int) + (j : Int)) / 2 < (d.size : Int) := by omega
        have rpa : IntKind.i64.wrap (((i : Int) + (j : Int)) / 2) = ((i : Int) + (j : Int)) / 2 := by rw [IntKind.wrap_i64]; omega
        have epc : ((a : Int)).toNat = a := by omega
        have ppc : (0 : Int) ≤ (a : Int) := by omega
        have bpc : (a : Int) < (d.size : Int) := by omega
        have rpc : IntKind.i64.wrap ((a : Int)) = (a : Int) := by rw [IntKind.wrap_i64]; omega
        obtain ⟨xp, hxp⟩ : ∃ x, x = d[(i + j) / 2]! := ⟨_, rfl⟩
        obtain ⟨yp, hyp⟩ : ∃ x, x = d[a]! := ⟨_, rfl⟩
        have lpa := S1.out.ld R (by omega) P ((i + j) / 2) (by omega)
        have lpb := S1.out.ld R (by omega) P (a) (by omega)
        rw [← hxp] at lpa
        rw [← hyp] at lpb
        have hcp := S1.out.cmp HC.out (by omega) xp yp
        have hvp : cf xp yp < 0 := by rw [hxp, hyp]; exact of_decide_eq_true hL
        have hdp : decide (cf xp yp < 0) = true := decide_eq_true hvp
        clear hxp hyp
        go_wp2_with fail
        go_quiet_grown (first | (go_at_fn g; refine Calls.grown_of (hcp _ _)))
        have S2 : Aside (SWK enc k w0 blk off d (grow (wr.drewN nq) osq)) := S1.out.grown nq osq
        clear lpa lpb hcp S1
        generalize grow (wr.drewN nq) osq = w2 at S2 ⊢
        clear nq osq
        have I2 : Aside ((m < (i + j) / 2 + 1 → ltOf cf d[(i + j) / 2 + 1 - 1]! d[a]! = true) ∧ (j < b → ltOf cf d[j]! d[a]! = false)) := ⟨fun _ => hL, I1.out.2⟩
        clear I1 hL
        go_wp2
        go_roundg (j - ((i + j) / 2 + 1))
        case measure => omega
        case rel => exact ⟨(i + j) / 2 + 1, j, by rw [show ((i : Int) + (j : Int)) / 2 + 1 = (((i + j) / 2 + 1 : Nat) : Int) by omega], rfl, by omega, by omega, hjb, Nat.le_refl _, S2, I2⟩
      | false =>
        have epa : (((i : Int) + (j : Int)) / 2).toNat = (i + j) / 2 := by omega
        have ppa : (0 : Int) ≤ ((i : Int) + (j : Int)) / 2 := by omega
        have bpa : ((i : Int) + (j : Int)) / 2 < (d.size : Int) := by omega
        have rpa : IntKind.i64.wrap (((i : Int) + (j : Int)) / 2) = ((i : Int) + (j : Int)) / 2 := by rw [IntKind.wrap_i64]; omega
        have epc : ((a : Int)).toNat = a := by omega
        have ppc : (0 : Int) ≤ (a : Int) := by omega
        have bpc : (a : Int) < (d.size : Int) := by omega
        have rpc : IntKind.i64.wrap ((a : Int)) = (a : Int) := by rw [IntKind.wrap_i64]; omega
        obtain ⟨xp, hxp⟩ : ∃ x, x = d[(i + j) / 2]! := ⟨_, rfl⟩
        obtain ⟨yp, hyp⟩ : ∃ x, x = d[a]! := ⟨_, rfl⟩
        have lpa := S1.out.ld R (by omega) P ((i + j) / 2) (by omega)
        have lpb := S1.out.ld R (by omega) P (a) (by omega)
        rw [← hxp] at lpa
        rw [← hyp] at lpb
        have hcp := S1.out.cmp HC.out (by omega) xp yp
        have hvp : ¬ cf xp yp < 0 := by rw [hxp, hyp]; exact of_decide_eq_false hL
        have hdp : decide (cf xp yp < 0) = false := decide_eq_false hvp
        clear hxp hyp
        go_wp2_with fail
        go_quiet_grown (first | (go_at_fn g; refine Calls.grown_of (hcp _ _)))
        have S2 : Aside (SWK enc k w0 blk off d (grow (wr.drewN nq) osq)) := S1.out.grown nq osq
        clear lpa lpb hcp S1
        generalize grow (wr.drewN nq) osq = w2 at S2 ⊢
        clear nq osq
        have I2 : Aside ((m < i → ltOf cf d[i - 1]! d[a]! = true) ∧ ((i + j) / 2 < b → ltOf cf d[(i + j) / 2]! d[a]! = false)) := ⟨I1.out.1, fun _ => hL⟩
        clear I1 hL
        go_wp2
        go_roundg ((i + j) / 2 - i)
        case measure => omega
        case rel => exact ⟨i, (i + j) / 2, rfl, by rw [show ((i : Int) + (j : Int)) / 2 = (((i + j) / 2 : Nat) : Int) by omega], by omega, by omega, by omega, Nat.le_refl _, S2, I2⟩
    · obtain rfl : j = i := by omega
      have RT : Aside (Rotated a (a + 1) (a + 1) d d) := Rotated.none (Or.inr rfl) (by omega) (by omega)
      have hltz : ¬ (j : Int) < (j : Int) := by omega
      have c1 : (1 : Int) ≤ (j : Int) := by omega
      go_wp2
      go_loopg [13] (j - a) (fun kx s13 wr => ∃ (q : Nat) (dk : Array α), s13 = .int .i64 q ∧ a ≤ q ∧ q + 1 ≤ j ∧ j - 1 - q ≤ kx ∧ dk.size = d.size ∧ Aside (SWK enc k w0 blk off dk wr) ∧ Aside (Rotated a (a + 1) (q + 1) d dk))
      case atStart => exact ⟨a, d, rfl, Nat.le_refl _, by omega, by omega, rfl, S1, RT⟩
      case round =>
        clear S1 RT
        obtain ⟨q, dk, rfl, haq, hqj, hkq, hds, S3, W3⟩ := hrel
        by_cases hq : q + 1 < j
        · have hqz : (q : Int) < (j : Int) - 1 := by omega
          have esa : ((q : Int)).toNat = q := by omega
          have psa : (0 : Int) ≤ (q : Int) := by omega
          have bsa : (q : Int) < (d.size : Int) := by omega
          have rsa : IntKind.i64.wrap ((q : Int)) = (q : Int) := by rw [IntKind.wrap_i64]; omega
          have esc : ((q : Int) + 1).toNat = q + 1 := by omega
          have psc : (0 : Int) ≤ (q : Int) + 1 := by omega
          have bsc : (q : Int) + 1 < (d.size : Int) := by omega
          have rsc : IntKind.i64.wrap ((q : Int) + 1) = (q : Int) + 1 := by rw [IntKind.wrap_i64]; omega
          have S4 : Aside (SWK enc k w0 blk off (swp dk (q) (q + 1)) ((wr.drew.setCells blk (off + (q) * k) (enc dk[q + 1]!)).setCells blk (off + (q + 1) * k) (enc dk[q]!))) := S3.out.swapped R (q) (q + 1) (by omega) (by omega)
          have lsa := S3.out.ld1 R (by omega) P (q) (by omega)
          have lsb := S3.out.ld1 R (by omega) P (q + 1) (by omega)
          have ssa := S3.out.st1 R (by omega) P (q) (by omega) dk[q + 1]!
          have ssb := S3.out.st2 R (by omega) P (q) (q + 1) (by omega) (by omega) dk[q + 1]! dk[q]!
          have nsa : (enc dk[q]!).length = k := R.hk _
          have nsb : (enc dk[q + 1]!).length = k := R.hk _
          generalize enc dk[q]! = cIs at S4 lsa ssb nsa
          generalize enc dk[q + 1]! = cJs at S4 lsb ssa ssb nsb
          clear S3
          go_wp2_with fail
          go_big_region_o
          clear lsa lsb ssa ssb
          generalize (wr.drew.setCells blk (off + (q) * k) cJs).setCells blk (off + (q + 1) * k) cIs = w2 at S4 ⊢
          have W4 : Aside (Rotated a (a + 1) (q + 1 + 1) d (swp dk q (q + 1))) := by
            have h1 := W3.out.up (by omega) (by omega)
            rw [Nat.add_sub_cancel] at h1
            exact h1
          clear W3
          go_wp2
          go_roundg (j - 1 - (q + 1))
          case measure => omega
          case rel => exact ⟨q + 1, swp dk q (q + 1), by simp, by omega, by omega, Nat.le_refl _, by rw [size_swp]; exact hds, S4, W4⟩
        · have hqz : ¬ (q : Int) < (j : Int) - 1 := by omega
          obtain rfl : j = q + 1 := by omega
          have M : Aside (Merged (ltOf cf) a b d dk) := merged_up hS (by rw [← HAM.out]; exact HR.out) (by omega) (by omega) hb (fun h => I1.out.1 (by omega)) I1.out.2 W3.out
          clear W3 I1
          go_wp2
          (try simp only [Exit.inBlock, Exit.then]); refine bodyPost_ret (results_none rfl _ _ _) rfl ?_
          exact ⟨rfl, dk, M, S3.out⟩
set_option maxHeartbeats 8000000 in
set_option maxRecDepth 1000000 in
theorem symDown_gen (T : TY P) (hf54 : P.funcs[(78 : Nat)]? = some Tryd.f78) (k : Nat) (aE : ∀ w, (isAgg 39).run P w = .ok true w) (zE : ∀ w, (Go.sizeOf 39).run P w = .ok k w) (enc : α → List Value) (cf : α → α → Int) (g : Nat) (cb : Array Value) (blk off cap a m b : Nat) (d0 d : Array α) (w0 w : World)
    (eg : ∀ args w, (callFunc g args).run P w = .ok (.enter g args) w) (hcmp : CmpLays P g cb enc k cf blk off d0.size w0) (hS : SWO (ltOf cf)) (R : RowK enc k w0 blk off d0) (hs : d0.size = d.size) (S : SWK enc k w0 blk off d w) (ham : a < m) (hmb : b = m + 1) (ha1 : ¬ m = a + 1) (hb : b ≤ d.size) (hl : SortedIn (ltOf cf) a m d) (hsz : d.size < 4611686018427387904) :
    Calls P 78 #[.slice (some ⟨blk, off, none⟩) d.size cap, .int .i64 a, .int .i64 m, .int .i64 b, .func (.func g) #[] cb] w fun e w' => e = .returned (.tuple #[]) ∧ ∃ d', Aside (Merged (ltOf cf) a b d d') ∧ SWK enc k w0 blk off d' w' := by
  have mixed := T.mixed; have t0 := T.t0; have a0 := T.a0; have z0 := T.z0; have v0 := T.v0; have t3 := T.t3; have a3 := T.a3; have z3 := T.z3; have v3 := T.v3; have t4 := T.t4; have a4 := T.a4; have z4 := T.z4; have v4 := T.v4; have t22 := T.t22; have a22 := T.a22; have z22 := T.z22; have v22 := T.v22; have t25 := T.t25; have a25 := T.a25; have z25 := T.z25; have v25 := T.v25; have t39 := T.t39; have a39 := T.a39; have z39 := T.z39; have v39 := T.v39
  have HC : Aside _ := hcmp
  have S0 : Aside (SWK enc k w0 blk off d w) := S
  have HL := Lib.hid hl
  have HMB := Lib.hid hmb
  have am1 : m + 1 ≤ b := by omega
  have am2 : b ≤ m + 1 := by omega
  have q1 : ((m : Int) - (a : Int) == 1) = false := by simp; omega
  have q3 : ((b : Int) - (m : Int) == 1) = true := by simp; omega
  have q0 : (0 : Int) ≤ (m : Int) - (a : Int) := by omega
  have q2 : (0 : Int) ≤ (b : Int) - (m : Int) := by omega
  clear hcmp S hl hmb ha1
  go_enter hf54, Tryd.ntmps78
  go_wp2
  go_loopg [14, 15] (m - a) (fun kx s14 s15 wr => ∃ i j : Nat, s14 = .int .i64 i ∧ s15 = .int .i64 j ∧ a ≤ i ∧ i ≤ j ∧ j ≤ m ∧ j - i ≤ kx ∧ Aside (SWK enc k w0 blk off d wr) ∧ Aside ((a < i → ltOf cf d[m]! d[i - 1]! = false) ∧ (j < m → ltOf cf d[m]! d[j]! = true)))
  case atStart => exact ⟨a, m, rfl, rfl, Nat.le_refl _, by omega, Nat.le_refl _, Nat.le_refl _, S0, (⟨fun h => absurd h (Nat.lt_irrefl _), fun h => absurd h (Nat.lt_irrefl _)⟩ : (a < a → ltOf cf d[m]! d[a - 1]! = false) ∧ (m < m → ltOf cf d[m]! d[m]! = true))⟩
  case round =>
    clear S0 q1 q0 q2 q3
    obtain ⟨i, j, rfl, rfl, hmi, hij, hjb, hkx, S1, I1⟩ := hrel
    by_cases hlt : i < j
    · have hltz : (i : Int) < (j : Int) := by omega
      cases hL : ltOf cf d[m]! d[(i + j) / 2]! with
      | false =>
        have epa : ((m : Int)).toNat = m := by omega
        have ppa : (0 : Int) ≤ (m : Int) := by omega
        have bpa : (m : Int) < (d.size : Int) := by omega
        have rpa : IntKind.i64.wrap ((m : Int)) = (m : Int) := by rw [IntKind.wrap_i64]; omega
        have epc : (((i : Int) + (j : Int)) / 2).toNat = (i + j) / 2 := by omega
        have ppc : (0 : Int) ≤ ((i : Int) + (j : Int)) / 2 := by omega
        have bpc : ((i : Int) + (j : Int)) / 2 < (d.size : Int) := by omega
        have rpc : IntKind.i64.wrap (((i : Int) + (j : Int)) / 2) = ((i : Int) + (j : Int)) / 2 := by rw [IntKind.wrap_i64]; omega
        obtain ⟨xp, hxp⟩ : ∃ x, x = d[m]! := ⟨_, rfl⟩
        obtain ⟨yp, hyp⟩ : ∃ x, x = d[(i + j) / 2]! := ⟨_, rfl⟩
        have lpa := S1.out.ld R (by omega) P (m) (by omega)
        have lpb := S1.out.ld R (by omega) P ((i + j) / 2) (by omega)
        rw [← hxp] at lpa
        rw [← hyp] at lpb
        have hcp := S1.out.cmp HC.out (by omega) xp yp
        have hvp : ¬ cf xp yp < 0 := by rw [hxp, hyp]; exact of_decide_eq_false hL
        have hdp : decide (cf xp yp < 0) = false := decide_eq_false hvp
        clear hxp hyp
        go_wp2_with fail
        go_quiet_grown (first | (go_at_fn g; refine Calls.grown_of (hcp _ _)))
        have S2 : Aside (SWK enc k w0 blk off d (grow (wr.drewN nq) osq)) := S1.out.grown nq osq
        clear lpa lpb hcp S1
        generalize grow (wr.drewN nq) osq = w2 at S2 ⊢
        clear nq osq
        have I2 : Aside ((a < (i + j) / 2 + 1 → ltOf cf d[m]! d[(i + j) / 2 + 1 - 1]! = false) ∧ (j < m → ltOf cf d[m]! d[j]! = true)) := ⟨fun _ => hL, I1.out.2⟩
        clear I1 hL
        go_wp2
        go_roundg (j - ((i + j) / 2 + 1))
        case measure => omega
        case rel => exact ⟨(i + j) / 2 + 1, j, by rw [show ((i : Int) + (j : Int)) / 2 + 1 = (((i + j) / 2 + 1 : Nat) : Int) by omega], rfl, by omega, by omega, hjb, Nat.le_refl _, S2, I2⟩
      | true =>
        have epa : ((m : Int)).toNat = m := by omega
        have ppa : (0 : Int) ≤ (m : Int) := by omega
        have bpa : (m : Int) < (d.size : Int) := by omega
        have rpa : IntKind.i64.wrap ((m : Int)) = (m : Int) := by rw [IntKind.wrap_i64]; omega
        have epc : (((i : Int) + (j : Int)) / 2).toNat = (i + j) / 2 := by omega
        have ppc : (0 : Int) ≤ ((i : Int) + (j : Int)) / 2 := by omega
        have bpc : ((i : Int) + (j : Int)) / 2 < (d.size : Int) := by omega
        have rpc : IntKind.i64.wrap (((i : Int) + (j : Int)) / 2) = ((i : Int) + (j : Int)) / 2 := by rw [IntKind.wrap_i64]; omega
        obtain ⟨xp, hxp⟩ : ∃ x, x = d[m]! := ⟨_, rfl⟩
        obtain ⟨yp, hyp⟩ : ∃ x, x = d[(i + j) / 2]! := ⟨_, rfl⟩
        have lpa := S1.out.ld R (by omega) P (m) (by omega)
        have lpb := S1.out.ld R (by omega) P ((i + j) / 2) (by omega)
        rw [← hxp] at lpa
        rw [← hyp] at lpb
        have hcp := S1.out.cmp HC.out (by omega) xp yp
        have hvp : cf xp yp < 0 := by rw [hxp, hyp]; exact of_decide_eq_true hL
        have hdp : decide (cf xp yp < 0) = true := decide_eq_true hvp
        clear hxp hyp
        go_wp2_with fail
        go_quiet_grown (first | (go_at_fn g; refine Calls.grown_of (hcp _ _)))
        have S2 : Aside (SWK enc k w0 blk off d (grow (wr.drewN nq) osq)) := S1.out.grown nq osq
        clear lpa lpb hcp S1
        generalize grow (wr.drewN nq) osq = w2 at S2 ⊢
        clear nq osq
        have I2 : Aside ((a < i → ltOf cf d[m]! d[i - 1]! = false) ∧ ((i + j) / 2 < m → ltOf cf d[m]! d[(i + j) / 2]! = true)) := ⟨I1.out.1, fun _ => hL⟩
        clear I1 hL
        go_wp2
        go_roundg ((i + j) / 2 - i)
        case measure => omega
        case rel => exact ⟨i, (i + j) / 2, rfl, by rw [show ((i : Int) + (j : Int)) / 2 = (((i + j) / 2 : Nat) : Int) by omega], by omega, by omega, by omega, Nat.le_refl _, S2, I2⟩
    · obtain rfl : j = i := by omega
      have RT : Aside (Rotated m m (m + 1) d d) := Rotated.none (Or.inl rfl) (by omega) (by omega)
      have hltz : ¬ (j : Int) < (j : Int) := by omega
      go_wp2
      go_loopg [17] (m - j) (fun kx s17 wr => ∃ (q : Nat) (dk : Array α), s17 = .int .i64 q ∧ j ≤ q ∧ q ≤ m ∧ q - j ≤ kx ∧ dk.size = d.size ∧ Aside (SWK enc k w0 blk off dk wr) ∧ Aside (Rotated q m (m + 1) d dk))
      case atStart => exact ⟨m, d, rfl, hjb, Nat.le_refl _, Nat.le_refl _, rfl, S1, RT⟩
      case round =>
        clear S1 RT
        obtain ⟨q, dk, rfl, haq, hqm, hkq, hds, S3, W3⟩ := hrel
        by_cases hq : j < q
        · have hqz : (j : Int) < (q : Int) := by omega
          have c1 : (1 : Int) ≤ (q : Int) := by omega
          have esa : ((q : Int)).toNat = q := by omega
          have psa : (0 : Int) ≤ (q : Int) := by omega
          have bsa : (q : Int) < (d.size : Int) := by omega
          have rsa : IntKind.i64.wrap ((q : Int)) = (q : Int) := by rw [IntKind.wrap_i64]; omega
          have esc : ((q : Int) - 1).toNat = q - 1 := by omega
          have psc : (0 : Int) ≤ (q : Int) - 1 := by omega
          have bsc : (q : Int) - 1 < (d.size : Int) := by omega
          have rsc : IntKind.i64.wrap ((q : Int) - 1) = (q : Int) - 1 := by rw [IntKind.wrap_i64]; omega
          have S4 : Aside (SWK enc k w0 blk off (swp dk (q) (q - 1)) ((wr.drew.setCells blk (off + (q) * k) (enc dk[q - 1]!)).setCells blk (off + (q - 1) * k) (enc dk[q]!))) := S3.out.swapped R (q) (q - 1) (by omega) (by omega)
          have lsa := S3.out.ld1 R (by omega) P (q) (by omega)
          have lsb := S3.out.ld1 R (by omega) P (q - 1) (by omega)
          have ssa := S3.out.st1 R (by omega) P (q) (by omega) dk[q - 1]!
          have ssb := S3.out.st2 R (by omega) P (q) (q - 1) (by omega) (by omega) dk[q - 1]! dk[q]!
          have nsa : (enc dk[q]!).length = k := R.hk _
          have nsb : (enc dk[q - 1]!).length = k := R.hk _
          generalize enc dk[q]! = cIs at S4 lsa ssb nsa
          generalize enc dk[q - 1]! = cJs at S4 lsb ssa ssb nsb
          clear S3
          go_wp2_with fail
          go_big_region_o
          clear lsa lsb ssa ssb
          generalize (wr.drew.setCells blk (off + (q) * k) cJs).setCells blk (off + (q - 1) * k) cIs = w2 at S4 ⊢
          have W4 : Aside (Rotated (q - 1) m (m + 1) d (swp dk q (q - 1))) := W3.out.down (by omega) hqm (by omega)
          clear W3
          go_wp2
          go_roundg (q - 1 - j)
          case measure => omega
          case rel => exact ⟨q - 1, swp dk q (q - 1), by rw [show ((q - 1 : Nat) : Int) = (q : Int) - 1 by omega], by omega, by omega, Nat.le_refl _, by rw [size_swp]; exact hds, S4, W4⟩
        · have hqz : ¬ (j : Int) < (q : Int) := by omega
          obtain rfl : q = j := by omega
          have M : Aside (Merged (ltOf cf) a b d dk) := by
            have := merged_down hS HL.out hmi hqm (by omega) I1.out.1 I1.out.2 W3.out
            rw [HMB.out]; exact this
          clear W3 I1
          go_wp2
          (try simp only [Exit.inBlock, Exit.then]); refine bodyPost_ret (results_none rfl _ _ _) rfl ?_
          exact ⟨rfl, dk, M, S3.out⟩
end
end Go.Proofs.YtiamohfpohjdpaaDoor
