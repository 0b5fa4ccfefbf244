/- THE REFERENCE's PARSE. -/
import Derived.Test.YtpkbkcjegbpifaaDoorDRef
import Derived.Test.YtpkbkcjegbpifaaDoorDCut
import Derived.Deep.RegionHeld3
namespace Go.Proofs.YtpkbkcjegbpifaaDoor
open Go.RowKit Go.Lib
set_option linter.unusedSimpArgs false
set_option linter.unusedVariables false

def numA (s : ByteArray) (k : Nat) : Int := rnum (s.extract 0 k).data.toList
def numB (s : ByteArray) (k : Nat) : Int := rnum (s.extract (k + 1) s.size).data.toList
/-- what the reference's Parse answers -/
structure RP (s : ByteArray) (n r e : Int) : Prop where
  eq : ∀ k (hk : k < s.size), k < 20 → s[k] = 46 → (∀ j (hj : j < s.size), j < k → s[j] ≠ 46) → txt (numA s k) (numB s k) = s → n = numA s k ∧ r = numB s k ∧ e = 0
  ne : ∀ k (hk : k < s.size), k < 20 → s[k] = 46 → (∀ j (hj : j < s.size), j < k → s[j] ≠ 46) → ¬ txt (numA s k) (numB s k) = s → n = 0 ∧ r = 0 ∧ e = 12
  no : (∀ j (hj : j < s.size), j < 20 → s[j] ≠ 46) → n = 0 ∧ r = 0 ∧ e = 12
theorem toList_eq_iff (s t : ByteArray) : s.toList = t.toList ↔ s = t := by
  rw [ByteArray.toList_eq, ByteArray.toList_eq]
  exact ⟨data_ext, fun h => by rw [h]⟩
theorem extract_size (s : ByteArray) (a b : Nat) (h : s.size ≤ maxLen) : (s.extract a b).size ≤ maxLen := by
  rw [ByteArray.size_extract]; omega
set_option maxHeartbeats 2000000 in
theorem refParse_any (s : ByteArray) (hs : s.size ≤ maxLen) (n r e : Int) (h : RP s n r e) (w : World) :
    Calls Tryd.prog 10 #[.string s] w fun en w' => en = .returned (.tuple #[st n r, .int .i64 e]) ∧ Below w.heap.size w w' := by
  have HS := Lib.hid hs
  have H := Lib.hid h
  unfold maxLen at hs
  clear h
  have t0 := Tr.nil w
  go_enter Tryd.func10, Tryd.ntmps10
  go_wp2
  refine wp_let (fun x => Tr w x [(w.heap.size, #[.int .i64 0, .int .i64 0], 23)]) (by repeat (first | with_reducible assumption | with_reducible apply Tr.alloc | with_reducible apply Tr.drew | with_reducible apply Tr.drewN | with_reducible apply Tr.ext | with_reducible apply Tr.other)) (fun x tx => ?_)
  have rx := tx.rules
  simp only [Rules] at rx
  go_loop [4] (fun i => ∃ k : Nat, k ≤ s.size ∧ k ≤ 20 ∧ i = .int .i64 k ∧ ∀ j (hj : j < s.size), j < k → s[j] ≠ 46) (fun i => s.size - (RowKit.intOf i).toNat)
  case atStart => exact ⟨0, by omega, by omega, rfl, fun j _ h => by omega⟩
  case round =>
    obtain ⟨k, hk, hk20, rfl, hbefore⟩ := hrel
    have HB := Lib.hid hbefore
    clear hbefore
    by_cases hlt : k < s.size
    · by_cases h20 : k < 20
      · by_cases hc : s[k] = 46
        · have c1 : (((s[k]'hlt).toNat : Int) == 46) = true := by rw [hc]; rfl
          have HC := Lib.hid hc
          clear hc
          have b0 : (0 : Int) ≤ (k : Int) := by omega
          have b1 : (k : Int) ≤ (s.size : Int) := by omega
          have b2 : IntKind.i64.wrap ((k : Int) + 1) = (k : Int) + 1 := by rw [IntKind.wrap_i64]; omega
          have b3 : (0 : Int) ≤ (k : Int) + 1 := by omega
          have b4 : (k : Int) + 1 ≤ (s.size : Int) := by omega
          have b5 : ((k : Int) + 1).toNat = k + 1 := by omega
          have b6 : k ≤ s.size := by omega
          have b7 : k + 1 ≤ s.size := by omega
          have hN1 : ∀ w, Calls Tryd.prog 16 #[.string (s.extract 0 k)] w fun e w' => e = .returned (.int .i64 (numA s k)) ∧ w = w' := fun w => number_any _ (extract_size s _ _ HS.out) w
          have hN2 : ∀ w, Calls Tryd.prog 16 #[.string (s.extract (k + 1) s.size)] w fun e w' => e = .returned (.int .i64 (numB s k)) ∧ w = w' := fun w => number_any _ (extract_size s _ _ HS.out) w
          have HN1 := Lib.hid hN1
          have HN2 := Lib.hid hN2
          clear hN1 hN2
          have heq := H.out.eq k hlt h20 HC.out HB.out
          have hne := H.out.ne k hlt h20 HC.out HB.out
          obtain ⟨f1, f2⟩ := full_of s (by omega)
          generalize numA s k = A at *
          generalize numB s k = B at *
          have f0 := (tx.rules : Rules x [(w.heap.size, #[.int .i64 0, .int .i64 0], 23)]).2.2.2.2.1
          have f3 : ¬ x.heap.size = w.heap.size := by omega
          have f4 : ¬ w.heap.size = x.heap.size := by omega
          have f5 : w.heap.size ≤ x.heap.size := by omega
          by_cases hte : txt A B = s
          · have HR := Lib.hid (heq hte)
            have g1 : ((txt A B).toList == s.toList) = true := by rw [hte]; simp
            clear heq hne hte
            go_wp2
            go_region_held3 (fun w' => True) (trivial) (first | ((go_at_call 16; first | (with_reducible refine (HN1.out _).mono ?_) | (with_reducible refine (HN2.out _).mono ?_)); rintro e' w' ⟨rfl, rfl⟩))
            all_goals
              go_wp2_with (go_at_call 11; with_reducible refine (refText_any A B _).mono ?_; rintro e w1 ⟨rfl, hb⟩; have t1 := Tr.later (W0 := w) (by repeat (first | with_reducible assumption | with_reducible apply Tr.alloc | with_reducible apply Tr.drew | with_reducible apply Tr.drewN | with_reducible apply Tr.ext | with_reducible apply Tr.other)) hb; have r1 := t1.rules; simp only [Rules, World.size_alloc, World.size_drew, World.size_setCell] at r1; clear hb)
              refine bodyPost_ret (v := .tuple #[st A B, .int .i64 0]) (by simp [results, Tryd.results10, go_sem, rx, r1]) rfl ⟨by rw [HR.out.1, HR.out.2.1, HR.out.2.2], ?_⟩
              exact (Tr.below (W0 := w) (by repeat' (first | with_reducible assumption | with_reducible apply Tr.alloc | with_reducible apply Tr.drew | with_reducible apply Tr.drewN | with_reducible apply Tr.ext | with_reducible apply Tr.other | with_reducible apply Tr.setN | exact Nat.le_refl _ | exact Nat.le_succ _)))
          · have HR := Lib.hid (hne hte)
            have g1 : ((txt A B).toList == s.toList) = false := beq_eq_false_iff_ne.2 (fun h => hte ((toList_eq_iff _ _).1 h))
            clear heq hne hte
            go_wp2
            go_region_held3 (fun w' => True) (trivial) (first | ((go_at_call 16; first | (with_reducible refine (HN1.out _).mono ?_) | (with_reducible refine (HN2.out _).mono ?_)); rintro e' w' ⟨rfl, rfl⟩))
            all_goals
              go_wp2_with (go_at_call 11; with_reducible refine (refText_any A B _).mono ?_; rintro e w1 ⟨rfl, hb⟩; have t1 := Tr.later (W0 := w) (by repeat (first | with_reducible assumption | with_reducible apply Tr.alloc | with_reducible apply Tr.drew | with_reducible apply Tr.drewN | with_reducible apply Tr.ext | with_reducible apply Tr.other)) hb; have r1 := t1.rules; simp only [Rules, World.size_alloc, World.size_drew, World.size_setCell] at r1; clear hb)
              refine bodyPost_ret (v := .tuple #[st 0 0, .int .i64 12]) (by simp [results, Tryd.results10, go_sem, rx, r1]) rfl ⟨by rw [HR.out.1, HR.out.2.1, HR.out.2.2], ?_⟩
              exact (Tr.below (W0 := w) (by repeat' (first | with_reducible assumption | with_reducible apply Tr.alloc | with_reducible apply Tr.drew | with_reducible apply Tr.drewN | with_reducible apply Tr.ext | with_reducible apply Tr.other | with_reducible apply Tr.setN | exact Nat.le_refl _ | exact Nat.le_succ _)))
        · have c1 : (((s[k]'hlt).toNat : Int) == 46) = false := beq_eq_false_iff_ne.2 (fun h => hc (UInt8.toNat_inj.1 (show (s[k]'hlt).toNat = 46 by omega)))
          have HC := Lib.hid hc
          clear hc
          go_wp2
          go_round
          case rel => exact ⟨k + 1, by omega, by omega, by go_num, fun j hj h => by
            rcases Nat.lt_succ_iff_lt_or_eq.1 h with h | h
            · exact HB.out j hj h
            · subst h; exact HC.out⟩
          case measure => simp [RowKit.intOf]; omega
      · have d20 : decide ((k : Int) < 20) = false := decide_eq_false (by omega)
        obtain ⟨rfl, rfl, rfl⟩ := H.out.no (fun j hj h => HB.out j hj (by omega))
        go_wp2
        refine bodyPost_ret (v := .tuple #[st 0 0, .int .i64 12]) (by simp [results, Tryd.results10, go_sem, rx]) rfl ⟨rfl, ?_⟩
        exact (Tr.below (W0 := w) (by repeat' (first | with_reducible assumption | with_reducible apply Tr.alloc | with_reducible apply Tr.drew | with_reducible apply Tr.drewN | with_reducible apply Tr.ext | with_reducible apply Tr.other | with_reducible apply Tr.setN | exact Nat.le_refl _ | exact Nat.le_succ _)))
    · have d : decide ((k : Int) < (s.size : Int)) = false := decide_eq_false (by omega)
      obtain ⟨rfl, rfl, rfl⟩ := H.out.no (fun j hj h => HB.out j hj (by omega))
      go_wp2
      refine bodyPost_ret (v := .tuple #[st 0 0, .int .i64 12]) (by simp [results, Tryd.results10, go_sem, rx]) rfl ⟨rfl, ?_⟩
      exact (Tr.below (W0 := w) (by repeat' (first | with_reducible assumption | with_reducible apply Tr.alloc | with_reducible apply Tr.drew | with_reducible apply Tr.drewN | with_reducible apply Tr.ext | with_reducible apply Tr.other | with_reducible apply Tr.setN | exact Nat.le_refl _ | exact Nat.le_succ _)))
end Go.Proofs.YtpkbkcjegbpifaaDoor
