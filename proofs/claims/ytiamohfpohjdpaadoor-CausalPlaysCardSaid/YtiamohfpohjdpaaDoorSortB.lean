/- THE STABLE SORT's WALKS (package slices): a range turned round. -/
import Derived.Test.YtiamohfpohjdpaaDoorSortA
import Derived.Shelf.Abstract
namespace Go.Proofs.YtiamohfpohjdpaaDoor
open Go.Shelf Go.RowKit Go.Lib Go.Sort
set_option linter.unusedVariables false
set_option linter.unusedSimpArgs false
theorem int_sub {a b : Nat} (h : b ≤ a) : (Value.int .i64 ((a - b : Nat) : Int)) = .int .i64 ((a : Int) - (b : Int)) := by rw [show ((a - b : Nat) : Int) = (a : Int) - (b : Int) by omega]
section
variable {P : Program} {α : Type} [Inhabited α]
set_option maxHeartbeats 4000000 in
set_option maxRecDepth 1000000 in
theorem rotate_gen (T : TY P) (hf : P.funcs[(88 : Nat)]? = some Tryd.f88) (hr : P.funcs[(84 : Nat)]? = some Tryd.f84) (k : Nat) (aE : ∀ w, (isAgg 39).run P w = .ok true w) (zE : ∀ w, (Go.sizeOf 39).run P w = .ok k w) (enc : α → List Value) (g : Nat) (cb : Array Value) (blk off cap a m b : Nat) (d0 d : Array α) (w0 w : World)
    (R : RowK enc k w0 blk off d0) (hs : d0.size = d.size) (S : SWK enc k w0 blk off d w) (ham : a < m) (hmb : m < b) (hb : b ≤ d.size) (hsz : d.size < 4611686018427387904) :
    Calls P 84 #[.slice (some ⟨blk, off, none⟩) d.size cap, .int .i64 a, .int .i64 m, .int .i64 b, .func (.func g) #[] cb] w fun e w' => e = .returned (.tuple #[]) ∧ ∃ d', Aside (Rotated a m b d d') ∧ SWK enc k w0 blk off d' w' := by
  have hcall : ∀ (x y n : Nat) (dk : Array α) (W : World), dk.size = d.size → SWK enc k w0 blk off dk W → x + n ≤ y → y + n ≤ d.size → Calls P 88 #[.slice (some ⟨blk, off, none⟩) d.size cap, .int .i64 x, .int .i64 y, .int .i64 n, .func (.func g) #[] cb] W fun e w' => e = .returned (.tuple #[]) ∧ ∃ d', Aside (Swapped x y n dk d') ∧ SWK enc k w0 blk off d' w' := by
    intro x y n dk W h1 h2 h3 h4
    have := swapRange_gen T hf k aE zE enc g cb blk off cap x y n d0 dk w0 W R (hs.trans h1.symm) h2 h3 (by omega) (by omega)
    rwa [h1] at this
  have e63 : ∀ args w, (callFunc 88 args).run P w = .ok (.enter 88 args) w := enters_of hf (by kernel_rfl) rfl
  have mixed := T.mixed; have t0 := T.t0; have a0 := T.a0; have z0 := T.z0; have v0 := T.v0; have t3 := T.t3; have a3 := T.a3; have z3 := T.z3; have v3 := T.v3; have t4 := T.t4; have a4 := T.a4; have z4 := T.z4; have v4 := T.v4; have t22 := T.t22; have a22 := T.a22; have z22 := T.z22; have v22 := T.v22; have t25 := T.t25; have a25 := T.a25; have z25 := T.z25; have v25 := T.v25
  have S0 : Aside (SWK enc k w0 blk off d w) := S
  have HC := Lib.hid hcall
  have T0 : Aside (Turning a m b (m - a) (b - m) d d) := Turning.start d (by omega) (by omega)
  clear S hcall hf
  have c1 : (0 : Int) ≤ (m : Int) - (a : Int) := by omega
  have c2 : (0 : Int) ≤ (b : Int) - (m : Int) := by omega
  go_enter hr, Tryd.ntmps84
  go_wp2
  go_loopg [10, 11] (b - a) (fun kx s10 s11 wr => ∃ (i j : Nat) (dk : Array α), s10 = .int .i64 i ∧ s11 = .int .i64 j ∧ 0 < i ∧ 0 < j ∧ a + i ≤ m ∧ m + j ≤ b ∧ i + j ≤ kx ∧ dk.size = d.size ∧ Aside (SWK enc k w0 blk off dk wr) ∧ Aside (Turning a m b i j d dk))
  case atStart => exact ⟨m - a, b - m, d, (int_sub (by omega)).symm, (int_sub (by omega)).symm, by omega, by omega, by omega, by omega, by omega, rfl, S0, T0⟩
  case round =>
    clear S0 T0 c1 c2
    obtain ⟨i, j, dk, rfl, rfl, hi0, hj0, hai, hjb, hkx, hds, S1, W1⟩ := hrel
    have HDS := Lib.hid hds
    clear hds
    by_cases hij : i = j
    · subst hij
      have C0 := Lib.hid (HC.out (m - i) m i dk wr HDS.out S1.out (by omega) (by omega))
      rw [int_sub (by omega)] at C0
      have q0 : (0 : Int) ≤ (m : Int) - (i : Int) := by omega
      have hend : ∀ d', Aside (Swapped (m - i) m i dk d') → Rotated a m b d d' := fun d' h => W1.out.both hb h.out
      have HE := Lib.hid hend
      clear hend S1 W1
      go_wp2_with (go_at_fn 88; with_reducible refine C0.out.mono ?_; rintro e w' ⟨rfl, d', W2, S2⟩)
      go_end0
      exact ⟨rfl, d', HE.out d' W2, S2⟩
    · have hne : ¬ ((i : Int) = (j : Int)) := by omega
      have hne2 : ((i : Int) != (j : Int)) = true := by simpa using hne
      by_cases hlt : j < i
      · have hltz : (j : Int) < (i : Int) := by omega
        have C0 := Lib.hid (HC.out (m - i) m j dk wr HDS.out S1.out (by omega) (by omega))
        rw [int_sub (by omega)] at C0
        have hend : ∀ d', Aside (Swapped (m - i) m j dk d') → Aside (Turning a m b (i - j) j d d') ∧ d'.size = d.size := fun d' h => ⟨W1.out.left hb hlt h.out, h.out.size.trans HDS.out⟩
        have HE := Lib.hid hend
        clear hend S1 W1
        have q0 : (0 : Int) ≤ (m : Int) - (i : Int) := by omega
        have q1 : (0 : Int) ≤ (i : Int) - (j : Int) := by omega
        go_wp2_with (go_at_fn 88; with_reducible refine C0.out.mono ?_; rintro e w' ⟨rfl, d', W2, S2⟩)
        go_roundg (i - j + j)
        case measure => omega
        case rel => exact ⟨i - j, j, d', (int_sub (by omega)).symm, rfl, by omega, hj0, by omega, hjb, Nat.le_refl _, (HE.out d' W2).2, S2, (HE.out d' W2).1⟩
      · have hltz : ¬ (j : Int) < (i : Int) := by omega
        have C0 := Lib.hid (HC.out (m - i) (m + j - i) i dk wr HDS.out S1.out (by omega) (by omega))
        rw [int_sub (by omega), show (Value.int .i64 ((m + j - i : Nat) : Int)) = .int .i64 ((m : Int) + (j : Int) - (i : Int)) by rw [show ((m + j - i : Nat) : Int) = (m : Int) + (j : Int) - (i : Int) by omega]] at C0
        have hend : ∀ d', Aside (Swapped (m - i) (m + j - i) i dk d') → Aside (Turning a m b i (j - i) d d') ∧ d'.size = d.size := fun d' h => ⟨W1.out.right hb (by omega) h.out, h.out.size.trans HDS.out⟩
        have HE := Lib.hid hend
        clear hend S1 W1
        have q0 : (0 : Int) ≤ (m : Int) - (i : Int) := by omega
        have q1 : (0 : Int) ≤ (j : Int) - (i : Int) := by omega
        have q2 : (0 : Int) ≤ (m : Int) + (j : Int) - (i : Int) := by omega
        go_wp2_with (go_at_fn 88; with_reducible refine C0.out.mono ?_; rintro e w' ⟨rfl, d', W2, S2⟩)
        go_roundg (i + (j - i))
        case measure => omega
        case rel => exact ⟨i, j - i, d', rfl, (int_sub (by omega)).symm, hi0, by omega, hai, by omega, Nat.le_refl _, (HE.out d' W2).2, S2, (HE.out d' W2).1⟩
end
end Go.Proofs.YtiamohfpohjdpaaDoor
