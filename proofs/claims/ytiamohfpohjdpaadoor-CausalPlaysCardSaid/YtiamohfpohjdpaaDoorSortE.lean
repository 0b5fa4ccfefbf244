/- THE STABLE SORT's WALKS (package slices): the insertion sort of a block; the stable sort. (Written by gen_sort.py.) -/
import Derived.Test.YtiamohfpohjdpaaDoorSortD
namespace Go.Proofs.YtiamohfpohjdpaaDoor
open Go.Shelf Go.RowKit Go.Lib Go.Sort
set_option linter.unusedVariables false
set_option linter.unusedSimpArgs false
section
variable {P : Program} {α : Type} [Inhabited α]
set_option maxHeartbeats 8000000 in
set_option maxRecDepth 1000000 in
theorem insert_gen (T : TY P) (hf53 : P.funcs[(77 : Nat)]? = some Tryd.f77) (k : Nat) (aE : ∀ w, (isAgg 39).run P w = .ok true w) (zE : ∀ w, (Go.sizeOf 39).run P w = .ok k w) (enc : α → List Value) (cf : α → α → Int) (g : Nat) (cb : Array Value) (blk off cap a b : Nat) (d0 d : Array α) (w0 w : World)
    (eg : ∀ args w, (callFunc g args).run P w = .ok (.enter g args) w) (hcmp : CmpLays P g cb enc k cf blk off d0.size w0) (hS : SWO (ltOf cf)) (R : RowK enc k w0 blk off d0) (hs : d0.size = d.size) (S : SWK enc k w0 blk off d w) (hab : a ≤ b) (hb : b ≤ d.size) (hsz : d.size < 4611686018427387904) :
    Calls P 77 #[.slice (some ⟨blk, off, none⟩) d.size cap, .int .i64 a, .int .i64 b, .func (.func g) #[] cb] w fun e w' => e = .returned (.tuple #[]) ∧ ∃ d', Aside (Merged (ltOf cf) a b d d') ∧ SWK enc k w0 blk off d' w' := by
  have mixed := T.mixed; have t0 := T.t0; have a0 := T.a0; have z0 := T.z0; have v0 := T.v0; have t3 := T.t3; have a3 := T.a3; have z3 := T.z3; have v3 := T.v3; have t4 := T.t4; have a4 := T.a4; have z4 := T.z4; have v4 := T.v4; have t22 := T.t22; have a22 := T.a22; have z22 := T.z22; have v22 := T.v22; have t25 := T.t25; have a25 := T.a25; have z25 := T.z25; have v25 := T.v25; have t39 := T.t39; have a39 := T.a39; have z39 := T.z39; have v39 := T.v39
  have HC : Aside _ := hcmp
  have S0 : Aside (SWK enc k w0 blk off d w) := S
  clear hcmp S
  go_enter hf53, Tryd.ntmps77
  go_wp2
  go_loopg [8] (b - a) (fun kx s8 wr => ∃ (i : Nat) (dk : Array α), s8 = .int .i64 i ∧ a < i ∧ i ≤ b + 1 ∧ b + 1 - i ≤ kx + 1 ∧ dk.size = d.size ∧ Aside (SWK enc k w0 blk off dk wr) ∧ Hid (insOuter (ltOf cf) a b i dk = insOuter (ltOf cf) a b (a + 1) d))
  case atStart => exact ⟨a + 1, d, by go_num, by omega, by omega, by omega, rfl, S0, rfl⟩
  case round =>
    clear S0
    obtain ⟨i, dk, rfl, hai, hib, hkx, hsk, S1, HO⟩ := hrel
    by_cases hlt : i < b
    · have hltz : (i : Int) < (b : Int) := by omega
      go_wp2
      go_loopg [9] i (fun g2 s9 wr2 => ∃ (j : Nat) (dj : Array α), s9 = .int .i64 j ∧ a ≤ j ∧ j ≤ i ∧ j ≤ g2 ∧ dj.size = d.size ∧ Aside (SWK enc k w0 blk off dj wr2) ∧ Hid (insInner (ltOf cf) a j dj = insInner (ltOf cf) a i dk))
      case atStart => exact ⟨i, dk, rfl, by omega, Nat.le_refl _, Nat.le_refl _, hsk, S1, rfl⟩
      case round =>
        clear S1
        obtain ⟨j, dj, rfl, haj, hji, hg2, hsj, S2, HI⟩ := hrel
        have out : (j ≤ a ∨ ltOf cf dj[j]! dj[j - 1]! = false) → Hid (insOuter (ltOf cf) a b (i + 1) dj = insOuter (ltOf cf) a b (a + 1) d) := fun hs => by
          show _ = _
          rw [← HO.out, insOuter_go _ _ _ _ _ hlt, ← HI.out, insInner_stop _ _ _ _ hs]
        have OUT : Aside _ := out
        clear out
        by_cases hja : a < j
        · obtain ⟨jp, rfl⟩ : ∃ jp, j = jp + 1 := ⟨j - 1, by omega⟩
          have hjaz' : (a : Int) < (jp : Int) + 1 := by omega
          cases hL : ltOf cf dj[jp + 1]! dj[jp]! with
          | true =>
            have epa : ((jp : Int) + 1).toNat = jp + 1 := by omega
            have ppa : (0 : Int) ≤ (jp : Int) + 1 := by omega
            have bpa : (jp : Int) + 1 < (d.size : Int) := by omega
            have rpa : IntKind.i64.wrap ((jp : Int) + 1) = (jp : Int) + 1 := by rw [IntKind.wrap_i64]; omega
            have epc : ((jp : Int)).toNat = jp := by omega
            have ppc : (0 : Int) ≤ (jp : Int) := by omega
            have bpc : (jp : Int) < (d.size : Int) := by omega
            have rpc : IntKind.i64.wrap ((jp : Int)) = (jp : Int) := by rw [IntKind.wrap_i64]; omega
            obtain ⟨xp, hxp⟩ : ∃ x, x = dj[jp + 1]! := ⟨_, rfl⟩
            obtain ⟨yp, hyp⟩ : ∃ x, x = dj[jp]! := ⟨_, rfl⟩
            have lpa := S2.out.ld R (by omega) P (jp + 1) (by omega)
            have lpb := S2.out.ld R (by omega) P (jp) (by omega)
            rw [← hxp] at lpa
            rw [← hyp] at lpb
            have hcp := S2.out.cmp HC.out (by omega) xp yp
            have hvp : cf xp yp < 0 := by rw [hxp, hyp]; exact of_decide_eq_true hL
            have hdp : decide (cf xp yp < 0) = true := decide_eq_true hvp
            clear hxp hyp
            go_wp2_with fail
            go_quiet_grown (first | (go_at_fn g; refine Calls.grown_of (hcp _ _)))
            have S3 : Aside (SWK enc k w0 blk off dj (grow (wr.drewN nq) osq)) := S2.out.grown nq osq
            clear lpa lpb hcp S2
            generalize grow (wr.drewN nq) osq = w2 at S3 ⊢
            clear nq osq
            have esa : ((jp : Int) + 1).toNat = jp + 1 := by omega
            have psa : (0 : Int) ≤ (jp : Int) + 1 := by omega
            have bsa : (jp : Int) + 1 < (d.size : Int) := by omega
            have rsa : IntKind.i64.wrap ((jp : Int) + 1) = (jp : Int) + 1 := by rw [IntKind.wrap_i64]; omega
            have esc : ((jp : Int)).toNat = jp := by omega
            have psc : (0 : Int) ≤ (jp : Int) := by omega
            have bsc : (jp : Int) < (d.size : Int) := by omega
            have rsc : IntKind.i64.wrap ((jp : Int)) = (jp : Int) := by rw [IntKind.wrap_i64]; omega
            have S4 : Aside (SWK enc k w0 blk off (swp dj (jp + 1) (jp)) ((w2.drew.setCells blk (off + (jp + 1) * k) (enc dj[jp]!)).setCells blk (off + (jp) * k) (enc dj[jp + 1]!))) := S3.out.swapped R (jp + 1) (jp) (by omega) (by omega)
            have lsa := S3.out.ld1 R (by omega) P (jp + 1) (by omega)
            have lsb := S3.out.ld1 R (by omega) P (jp) (by omega)
            have ssa := S3.out.st1 R (by omega) P (jp + 1) (by omega) dj[jp]!
            have ssb := S3.out.st2 R (by omega) P (jp + 1) (jp) (by omega) (by omega) dj[jp]! dj[jp + 1]!
            have nsa : (enc dj[jp + 1]!).length = k := R.hk _
            have nsb : (enc dj[jp]!).length = k := R.hk _
            generalize enc dj[jp + 1]! = cIs at S4 lsa ssb nsa
            generalize enc dj[jp]! = cJs at S4 lsb ssa ssb nsb
            clear S3
            go_wp2_with fail
            go_big_region_o
            clear lsa lsb ssa ssb
            generalize (w2.drew.setCells blk (off + (jp + 1) * k) cJs).setCells blk (off + (jp) * k) cIs = w3 at S4 ⊢
            have HI2 : Hid (insInner (ltOf cf) a jp (swp dj (jp + 1) jp) = insInner (ltOf cf) a i dk) := by
              show _ = _
              have := insInner_go (ltOf cf) a (jp + 1) dj hja (by simpa using hL)
              simp only [Nat.add_sub_cancel] at this
              rw [← HI.out, this]
            clear HI OUT hL
            go_wp2
            go_roundg jp
            case measure => omega
            case rel => exact ⟨jp, swp dj (jp + 1) jp, by first | rfl | go_num | (congr 1; omega), by omega, by omega, Nat.le_refl _, by rw [size_swp]; exact hsj, S4, HI2⟩
          | false =>
            have epa : ((jp : Int) + 1).toNat = jp + 1 := by omega
            have ppa : (0 : Int) ≤ (jp : Int) + 1 := by omega
            have bpa : (jp : Int) + 1 < (d.size : Int) := by omega
            have rpa : IntKind.i64.wrap ((jp : Int) + 1) = (jp : Int) + 1 := by rw [IntKind.wrap_i64]; omega
            have epc : ((jp : Int)).toNat = jp := by omega
            have ppc : (0 : Int) ≤ (jp : Int) := by omega
            have bpc : (jp : Int) < (d.size : Int) := by omega
            have rpc : IntKind.i64.wrap ((jp : Int)) = (jp : Int) := by rw [IntKind.wrap_i64]; omega
            obtain ⟨xp, hxp⟩ : ∃ x, x = dj[jp + 1]! := ⟨_, rfl⟩
            obtain ⟨yp, hyp⟩ : ∃ x, x = dj[jp]! := ⟨_, rfl⟩
            have lpa := S2.out.ld R (by omega) P (jp + 1) (by omega)
            have lpb := S2.out.ld R (by omega) P (jp) (by omega)
            rw [← hxp] at lpa
            rw [← hyp] at lpb
            have hcp := S2.out.cmp HC.out (by omega) xp yp
            have hvp : ¬ cf xp yp < 0 := by rw [hxp, hyp]; exact of_decide_eq_false hL
            have hdp : decide (cf xp yp < 0) = false := decide_eq_false hvp
            clear hxp hyp
            go_wp2_with fail
            go_quiet_grown (first | (go_at_fn g; refine Calls.grown_of (hcp _ _)))
            have S3 : Aside (SWK enc k w0 blk off dj (grow (wr.drewN nq) osq)) := S2.out.grown nq osq
            clear lpa lpb hcp S2
            generalize grow (wr.drewN nq) osq = w2 at S3 ⊢
            clear nq osq
            have HO2 := OUT.out (Or.inr (by simpa using hL))
            clear HI OUT hL
            go_wp2
            go_roundg (b - (i + 1))
            case measure => omega
            case rel => exact ⟨i + 1, dj, by go_num, by omega, by omega, by omega, hsj, S3, HO2⟩
        · have hjaz : decide ((j : Int) > (a : Int)) = false := decide_eq_false (by omega)
          have hjaz' : ¬ (a : Int) < (j : Int) := by omega
          have S3 : Aside (SWK enc k w0 blk off dj wr.drew) := S2.out.drew
          have HO2 := OUT.out (Or.inl (by omega))
          clear HI OUT S2
          go_wp2_with fail
          go_big_region_o
          all_goals go_wp2
          go_roundg (b - (i + 1))
          case measure => omega
          case rel => exact ⟨i + 1, dj, by go_num, by omega, by omega, by omega, hsj, S3, HO2⟩
    · have hltz : ¬ (i : Int) < (b : Int) := by omega
      have M : Aside (Merged (ltOf cf) a b d dk) := by
        have e : dk = insertionSort (ltOf cf) d a b := by unfold Sort.insertionSort; rw [← HO.out, insOuter_stop _ _ _ _ _ hlt]
        rw [e]
        exact inserted hS hab hb
      clear HO
      go_wp2
      go_end0
      exact ⟨rfl, dk, M, S1.out⟩
/-- symMerge, whatever it is handed -/
theorem sym_all (T : TY P) (hf63 : P.funcs[(88 : Nat)]? = some Tryd.f88) (hf59 : P.funcs[(84 : Nat)]? = some Tryd.f84) (hf54 : P.funcs[(78 : Nat)]? = some Tryd.f78) (k : Nat) (aE : ∀ w, (isAgg 39).run P w = .ok true w) (zE : ∀ w, (Go.sizeOf 39).run P w = .ok k w) (enc : α → List Value) (cf : α → α → Int) (g : Nat) (cb : Array Value) (blk off cap : Nat) (d0 : Array α) (w0 : World)
    (eg : ∀ args w, (callFunc g args).run P w = .ok (.enter g args) w) (hcmp : CmpLays P g cb enc k cf blk off d0.size w0) (hS : SWO (ltOf cf)) (R : RowK enc k w0 blk off d0) (hsz : d0.size < 4611686018427387904) : ∀ N, SymIs P enc k cf g cb blk off cap d0 w0 N
  | 0 => fun a m b d w h1 h2 h3 _ _ _ _ _ => absurd h1 (by omega)
  | N + 1 => fun a m b d w h1 h2 h3 h4 h5 h6 h7 h8 => by
    by_cases e1 : m = a + 1
    · have := symUp_gen T hf54 k aE zE enc cf g cb blk off cap a m b d0 d w0 w eg hcmp hS R h5.symm h6 e1 h3 h4 h8 (by omega)
      rwa [h5] at this
    · by_cases e2 : b = m + 1
      · have := symDown_gen T hf54 k aE zE enc cf g cb blk off cap a m b d0 d w0 w eg hcmp hS R h5.symm h6 h2 e2 e1 h4 h7 (by omega)
        rwa [h5] at this
      · have := symBig_gen T hf63 hf59 hf54 k aE zE enc cf g cb blk off cap a m b N d0 d w0 w eg hcmp hS R h5.symm h6 (sym_all T hf63 hf59 hf54 k aE zE enc cf g cb blk off cap d0 w0 eg hcmp hS R hsz N) (by omega) (by omega) (by omega) h4 h7 h8 (by omega)
        rwa [h5] at this
theorem way_size {lt : α → α → Bool} {n : Nat} {d dk : Array α} (h : Way lt n d dk) : dk.size = d.size := h.perm.1
set_option maxHeartbeats 8000000 in
set_option maxRecDepth 1000000 in
theorem stable_gen (T : TY P) (hf63 : P.funcs[(88 : Nat)]? = some Tryd.f88) (hf59 : P.funcs[(84 : Nat)]? = some Tryd.f84) (hf54 : P.funcs[(78 : Nat)]? = some Tryd.f78) (hf53 : P.funcs[(77 : Nat)]? = some Tryd.f77) (hf43 : P.funcs[(67 : Nat)]? = some Tryd.f67) (k : Nat) (aE : ∀ w, (isAgg 39).run P w = .ok true w) (zE : ∀ w, (Go.sizeOf 39).run P w = .ok k w) (enc : α → List Value) (cf : α → α → Int) (g : Nat) (cb : Array Value) (blk off cap n : Nat) (d0 d : Array α) (w0 w : World)
    (eg : ∀ args w, (callFunc g args).run P w = .ok (.enter g args) w) (hcmp : CmpLays P g cb enc k cf blk off d0.size w0) (hS : SWO (ltOf cf)) (R : RowK enc k w0 blk off d0) (hs : d0.size = d.size) (S : SWK enc k w0 blk off d w) (hn : d.size = n) (hsz : d.size < 4611686018427387904) :
    Calls P 67 #[.slice (some ⟨blk, off, none⟩) n cap, .int .i64 n, .func (.func g) #[] cb] w fun e w' => e = .returned (.tuple #[]) ∧ ∃ d', Aside (Way (ltOf cf) n d d' ∧ SortedIn (ltOf cf) 0 n d') ∧ SWK enc k w0 blk off d' w' := by
  have ins : ∀ (x y : Nat) (dk : Array α) (W : World), x ≤ y → y ≤ n → dk.size = n → SWK enc k w0 blk off dk W →
      Calls P 77 #[.slice (some ⟨blk, off, none⟩) n cap, .int .i64 x, .int .i64 y, .func (.func g) #[] cb] W fun e w' => e = .returned (.tuple #[]) ∧ ∃ d', Aside (Merged (ltOf cf) x y dk d') ∧ SWK enc k w0 blk off d' w' := fun x y dk W h1 h2 h3 h4 => by
    have := insert_gen T hf53 k aE zE enc cf g cb blk off cap x y d0 dk w0 W eg hcmp hS R (by omega) h4 h1 (by omega) (by omega)
    rwa [h3] at this
  have sym : ∀ (x y z : Nat) (dk : Array α) (W : World), x < y → y < z → z ≤ n → dk.size = n → SWK enc k w0 blk off dk W → SortedIn (ltOf cf) x y dk → SortedIn (ltOf cf) y z dk →
      Calls P 78 #[.slice (some ⟨blk, off, none⟩) n cap, .int .i64 x, .int .i64 y, .int .i64 z, .func (.func g) #[] cb] W fun e w' => e = .returned (.tuple #[]) ∧ ∃ d', Aside (Merged (ltOf cf) x z dk d') ∧ SWK enc k w0 blk off d' w' := fun x y z dk W h2 h3 h4 h5 h6 h7 h8 => by
    have := sym_all T hf63 hf59 hf54 k aE zE enc cf g cb blk off cap d0 w0 eg hcmp hS R (by omega) (z - x) x y z dk W (Nat.le_refl _) h2 h3 (by omega) (by omega) h6 h7 h8
    rwa [hs, hn] at this
  have e53 : ∀ args w, (callFunc 77 args).run P w = .ok (.enter 77 args) w := enters_of hf53 (by kernel_rfl) rfl
  have e54 : ∀ args w, (callFunc 78 args).run P w = .ok (.enter 78 args) w := enters_of hf54 (by kernel_rfl) rfl
  have mixed := T.mixed; have t0 := T.t0; have a0 := T.a0; have z0 := T.z0; have v0 := T.v0; have t3 := T.t3; have a3 := T.a3; have z3 := T.z3; have v3 := T.v3; have t4 := T.t4; have a4 := T.a4; have z4 := T.z4; have v4 := T.v4; have t22 := T.t22; have a22 := T.a22; have z22 := T.z22; have v22 := T.v22; have t25 := T.t25; have a25 := T.a25; have z25 := T.z25; have v25 := T.v25; have t39 := T.t39; have a39 := T.a39; have z39 := T.z39; have v39 := T.v39
  have S0 : Aside (SWK enc k w0 blk off d w) := S
  have INS := Lib.hid ins
  have SYM := Lib.hid sym
  have HN := Lib.hid hn
  have hnz : n < 4611686018427387904 := by omega
  have HS := Lib.hid hs
  have B0 : Aside (∃ q, 0 = q * 20 ∧ BlkTo (ltOf cf) 20 q d ∧ Way (ltOf cf) n d d) := ⟨0, by omega, fun q hq => absurd hq (Nat.not_lt_zero _), Way.start n d⟩
  clear ins sym S hcmp hsz hs hn hf63 hf59 hf54 hf53
  go_enter hf43, Tryd.ntmps67
  go_wp2
  go_loopg [7, 8] n (fun kx s7 s8 wr => ∃ (x : Nat) (dk : Array α), s7 = .int .i64 x ∧ s8 = .int .i64 ((x : Int) + 20) ∧ x ≤ n ∧ n - x ≤ kx ∧ Aside (SWK enc k w0 blk off dk wr) ∧ Aside (∃ q, x = q * 20 ∧ BlkTo (ltOf cf) 20 q dk ∧ Way (ltOf cf) n d dk))
  case atStart => exact ⟨0, d, rfl, rfl, by omega, by omega, S0, B0⟩
  case round =>
    clear S0 B0
    obtain ⟨x, dk, rfl, rfl, hxn, hkx, S1, B1⟩ := hrel
    by_cases hlt : x + 20 ≤ n
    · have hltz : (x : Int) + 20 ≤ (n : Int) := by omega
      have C1 := Lib.hid (INS.out x (x + 20) dk wr (by omega) hlt (by obtain ⟨q, _, _, h⟩ := B1.out; exact (way_size h).trans HN.out) S1.out)
      rw [show ((x + 20 : Nat) : Int) = (x : Int) + 20 by omega] at C1
      have STEP : ∀ d', Aside (Merged (ltOf cf) x (x + 20) dk d') → Aside (∃ q, x + 20 = q * 20 ∧ BlkTo (ltOf cf) 20 q d' ∧ Way (ltOf cf) n d d') := fun d' h => by
        obtain ⟨q, e, h1, h2⟩ := B1.out
        subst e
        exact ⟨q + 1, by omega, blkTo_step h1 h.out, h2.step (by have := HN.out; omega) hlt h.out⟩
      have STEP := Lib.hid STEP
      clear S1 B1
      go_wp2_with (go_at_fn 77; with_reducible refine C1.out.mono ?_; rintro e w' ⟨rfl, d', W2, S2⟩)
      go_roundg (n - (x + 20))
      case measure => omega
      case rel => exact ⟨x + 20, d', by rw [show ((x + 20 : Nat) : Int) = (x : Int) + 20 by omega], by rw [show ((x + 20 : Nat) : Int) = (x : Int) + 20 by omega], hlt, Nat.le_refl _, S2, STEP.out d' W2⟩
    · have hltz : ¬ (x : Int) + 20 ≤ (n : Int) := by omega
      have C1 := Lib.hid (INS.out x n dk wr hxn (Nat.le_refl _) (by obtain ⟨q, _, _, h⟩ := B1.out; exact (way_size h).trans HN.out) S1.out)
      have STEP : ∀ d', Aside (Merged (ltOf cf) x n dk d') → Aside (BlkFrom (ltOf cf) 20 n 0 d' ∧ Way (ltOf cf) n d d') := fun d' h => by
        obtain ⟨q, e, h1, h2⟩ := B1.out
        subst e
        exact ⟨blk_all h1 (by omega) hxn h.out, h2.step (by have := HN.out; omega) (Nat.le_refl _) h.out⟩
      have STEP := Lib.hid STEP
      clear S1 B1
      go_wp2_with (go_at_fn 77; with_reducible refine C1.out.mono ?_; rintro e w' ⟨rfl, d', W2, S2⟩)
      have B2 := STEP.out d' W2
      clear STEP W2 C1 hltz hlt hkx hxn
      go_loopg [6] n (fun kx s6 wr => ∃ (s : Nat) (dk : Array α), s6 = .int .i64 s ∧ 20 ≤ s ∧ s ≤ 2 * n + 20 ∧ n - s ≤ kx ∧ Aside (SWK enc k w0 blk off dk wr) ∧ Aside (BlkFrom (ltOf cf) s n 0 dk ∧ Way (ltOf cf) n d dk))
      case atStart => exact ⟨20, d', rfl, by omega, by omega, by omega, S2, B2⟩
      case round =>
        clear S2 B2
        obtain ⟨s, dl, rfl, hs20, hsn, hkx, S3, B3⟩ := hrel
        by_cases hlt : s < n
        · have hltz : (s : Int) < (n : Int) := by omega
          have B4 : Aside (∃ q, 0 = q * (2 * s) ∧ BlkTo (ltOf cf) (2 * s) q dl ∧ BlkFrom (ltOf cf) s n (2 * q) dl ∧ Way (ltOf cf) n d dl) := ⟨0, by omega, fun q hq => absurd hq (Nat.not_lt_zero _), B3.out.1, B3.out.2⟩
          clear B3
          go_wp2_with fail
          go_loopg [7, 8] n (fun kx s7 s8 wr => ∃ (x : Nat) (dk : Array α), s7 = .int .i64 x ∧ s8 = .int .i64 ((x : Int) + 2 * (s : Int)) ∧ x ≤ n ∧ n - x ≤ kx ∧ Aside (SWK enc k w0 blk off dk wr) ∧ Aside (∃ q, x = q * (2 * s) ∧ BlkTo (ltOf cf) (2 * s) q dk ∧ BlkFrom (ltOf cf) s n (2 * q) dk ∧ Way (ltOf cf) n d dk))
          case atStart => exact ⟨0, dl, rfl, by simp, by omega, by omega, S3, B4⟩
          case round =>
            clear S3 B4
            obtain ⟨x, dm, rfl, rfl, hxn, hkx2, S5, B5⟩ := hrel
            have hds : dm.size = n := by obtain ⟨q, _, _, _, h⟩ := B5.out; exact (way_size h).trans HN.out
            by_cases hx : x + 2 * s ≤ n
            · have hxz : (x : Int) + 2 * (s : Int) ≤ (n : Int) := by omega
              have PR : SortedIn (ltOf cf) x (x + s) dm ∧ SortedIn (ltOf cf) (x + s) (x + 2 * s) dm := by
                obtain ⟨q, e, h1, h2, h3⟩ := B5.out
                subst e
                exact blk_pair h2 hx
              have C2 := Lib.hid (SYM.out x (x + s) (x + 2 * s) dm wr (by omega) (by omega) hx hds S5.out PR.1 PR.2)
              rw [show ((x + s : Nat) : Int) = (x : Int) + (s : Int) by omega, show ((x + 2 * s : Nat) : Int) = (x : Int) + 2 * (s : Int) by omega] at C2
              have STEP : ∀ d', Aside (Merged (ltOf cf) x (x + 2 * s) dm d') → Aside (∃ q, x + 2 * s = q * (2 * s) ∧ BlkTo (ltOf cf) (2 * s) q d' ∧ BlkFrom (ltOf cf) s n (2 * q) d' ∧ Way (ltOf cf) n d d') := fun d' h => by
                obtain ⟨q, e, h1, h2, h3⟩ := B5.out
                subst e
                exact ⟨q + 1, by rw [Nat.add_mul, Nat.one_mul], blkTo_step h1 h.out, blkFrom_step h2 h.out.perm, h3.step (by have := HN.out; omega) hx h.out⟩
              have STEP := Lib.hid STEP
              clear S5 B5 PR hds
              go_wp2_with (go_at_fn 78; with_reducible refine C2.out.mono ?_; rintro e w' ⟨rfl, d3, W2, S6⟩)
              go_roundg (n - (x + 2 * s))
              case measure => omega
              case rel => exact ⟨x + 2 * s, d3, by rw [show ((x + 2 * s : Nat) : Int) = (x : Int) + 2 * (s : Int) by omega], by rw [show ((x + 2 * s : Nat) : Int) = (x : Int) + 2 * (s : Int) by omega], hx, Nat.le_refl _, S6, STEP.out d3 W2⟩
            · have hxz : ¬ (x : Int) + 2 * (s : Int) ≤ (n : Int) := by omega
              have STEP : ∀ d', Aside (Merged (ltOf cf) x n dm d') → Aside (BlkFrom (ltOf cf) (2 * s) n 0 d' ∧ Way (ltOf cf) n d d') := fun d' h => by
                obtain ⟨q, e, h1, h2, h3⟩ := B5.out
                subst e
                exact ⟨blk_all h1 (by omega) hxn h.out, h3.step (by have := HN.out; omega) (Nat.le_refl _) h.out⟩
              have STEP := Lib.hid STEP
              have PR : SortedIn (ltOf cf) x (min (x + s) n) dm ∧ SortedIn (ltOf cf) (x + s) (min (x + 2 * s) n) dm := by
                obtain ⟨q, e, h1, h2, h3⟩ := B5.out
                subst e
                exact blk_rest h2
              rw [Nat.min_eq_right (show n ≤ x + 2 * s by omega)] at PR
              by_cases hm : x + s < n
              · have hmz : (x : Int) + (s : Int) < (n : Int) := by omega
                rw [Nat.min_eq_left (show x + s ≤ n by omega)] at PR
                have C2 := Lib.hid (SYM.out x (x + s) n dm wr (by omega) hm (Nat.le_refl _) hds S5.out PR.1 PR.2)
                rw [show ((x + s : Nat) : Int) = (x : Int) + (s : Int) by omega] at C2
                clear S5 B5 PR hds
                go_wp2_with (go_at_fn 78; with_reducible refine C2.out.mono ?_; rintro e w' ⟨rfl, d3, W2, S6⟩)
                have B6 := STEP.out d3 W2
                go_roundg (n - 2 * s)
                case measure => omega
                case rel => exact ⟨2 * s, d3, by rw [show ((2 * s : Nat) : Int) = (s : Int) * 2 by omega], by omega, by omega, Nat.le_refl _, S6, B6⟩
              · have hmz : ¬ (x : Int) + (s : Int) < (n : Int) := by omega
                rw [Nat.min_eq_right (show n ≤ x + s by omega)] at PR
                have B6 := STEP.out dm (Merged.same PR.1)
                clear B5 PR hds
                go_wp2_with fail
                go_roundg (n - 2 * s)
                case measure => omega
                case rel => exact ⟨2 * s, dm, by rw [show ((2 * s : Nat) : Int) = (s : Int) * 2 by omega], by omega, by omega, Nat.le_refl _, S5, B6⟩
        · have hltz : ¬ (s : Int) < (n : Int) := by omega
          have E : Aside (Way (ltOf cf) n d dl ∧ SortedIn (ltOf cf) 0 n dl) := ⟨B3.out.2, blk_done B3.out.1 (by omega)⟩
          clear B3
          go_wp2
          go_end0
          exact ⟨rfl, dl, E, S3.out⟩
end
end Go.Proofs.YtiamohfpohjdpaaDoor
