/- THE STABLE SORT's WALKS (package slices): two ranges exchanged, a range turned round: over whatever program that bears these functions, at elements of k cells. -/
import Derived.Test.YtiamohfpohjdpaaDoorSortPlain
import Derived.Test.YtiamohfpohjdpaaDoorChecked
import Derived.Shelf.SlSortCmp.KitK
import Derived.Sort.WalkB2
import Derived.Deep.LoopGhost
import Derived.Lib.Hide
namespace Go.Proofs.YtiamohfpohjdpaaDoor
open Go.Shelf Go.RowKit Go.Lib Go.Sort
set_option linter.unusedVariables false
set_option linter.unusedSimpArgs false
/-- what these walks are told of the program's types -/
structure TY (P : Program) : Prop where
  mixed : P.follows .mixedOrders = true
  t0 : P.underlying 0 = some (TypeDesc.tuple #[])
  a0 : ∀ w, (isAgg 0).run P w = .ok false w
  z0 : ∀ w, (Go.sizeOf 0).run P w = .ok 1 w
  v0 : ∀ w, (zeroValue 0).run P w = .ok (Value.tuple #[]) w
  t3 : P.underlying 3 = some (TypeDesc.int IntKind.i64)
  a3 : ∀ w, (isAgg 3).run P w = .ok false w
  z3 : ∀ w, (Go.sizeOf 3).run P w = .ok 1 w
  v3 : ∀ w, (zeroValue 3).run P w = .ok (Value.int IntKind.i64 0) w
  t4 : P.underlying 4 = some (TypeDesc.bool)
  a4 : ∀ w, (isAgg 4).run P w = .ok false w
  z4 : ∀ w, (Go.sizeOf 4).run P w = .ok 1 w
  v4 : ∀ w, (zeroValue 4).run P w = .ok (Value.bool false) w
  t22 : P.underlying 22 = some (TypeDesc.slice 39)
  a22 : ∀ w, (isAgg 22).run P w = .ok false w
  z22 : ∀ w, (Go.sizeOf 22).run P w = .ok 1 w
  v22 : ∀ w, (zeroValue 22).run P w = .ok (Value.slice none 0 0) w
  t25 : P.underlying 76 = some (TypeDesc.func #[39, 39] #[3] false)
  a25 : ∀ w, (isAgg 76).run P w = .ok false w
  z25 : ∀ w, (Go.sizeOf 76).run P w = .ok 1 w
  v25 : ∀ w, (zeroValue 76).run P w = .ok (Value.nilFunc) w
  t39 : P.underlying 101 = some (TypeDesc.int IntKind.u64)
  a39 : ∀ w, (isAgg 101).run P w = .ok false w
  z39 : ∀ w, (Go.sizeOf 101).run P w = .ok 1 w
  v39 : ∀ w, (zeroValue 101).run P w = .ok (Value.int IntKind.u64 0) w
theorem ty_here : TY Tryd.prog where
  mixed := by kernel_rfl
  t0 := by kernel_rfl
  a0 := fun w => by kernel_rfl
  z0 := fun w => by kernel_rfl
  v0 := fun w => by kernel_rfl
  t3 := by kernel_rfl
  a3 := fun w => by kernel_rfl
  z3 := fun w => by kernel_rfl
  v3 := fun w => by kernel_rfl
  t4 := by kernel_rfl
  a4 := fun w => by kernel_rfl
  z4 := fun w => by kernel_rfl
  v4 := fun w => by kernel_rfl
  t22 := by kernel_rfl
  a22 := fun w => by kernel_rfl
  z22 := fun w => by kernel_rfl
  v22 := fun w => by kernel_rfl
  t25 := by kernel_rfl
  a25 := fun w => by kernel_rfl
  z25 := fun w => by kernel_rfl
  v25 := fun w => by kernel_rfl
  t39 := by kernel_rfl
  a39 := fun w => by kernel_rfl
  z39 := fun w => by kernel_rfl
  v39 := fun w => by kernel_rfl
section
variable {P : Program} {α : Type} [Inhabited α]
set_option maxHeartbeats 4000000 in
set_option maxRecDepth 1000000 in
theorem swapRange_gen (T : TY P) (hf : P.funcs[(88 : Nat)]? = some Tryd.f88) (k : Nat) (aE : ∀ w, (isAgg 39).run P w = .ok true w) (zE : ∀ w, (Go.sizeOf 39).run P w = .ok k w) (enc : α → List Value) (g : Nat) (cb : Array Value) (blk off cap a b n : Nat) (d0 d : Array α) (w0 w : World)
    (R : RowK enc k w0 blk off d0) (hs : d0.size = d.size) (S : SWK enc k w0 blk off d w) (hab : a + n ≤ b) (hb : b + n ≤ d.size) (hsz : d.size < 4611686018427387904) :
    Calls P 88 #[.slice (some ⟨blk, off, none⟩) d.size cap, .int .i64 a, .int .i64 b, .int .i64 n, .func (.func g) #[] cb] w fun e w' => e = .returned (.tuple #[]) ∧ ∃ d', Aside (Swapped a b n d d') ∧ SWK enc k w0 blk off d' w' := by
  have mixed := T.mixed; have t0 := T.t0; have a0 := T.a0; have z0 := T.z0; have v0 := T.v0; have t3 := T.t3; have a3 := T.a3; have z3 := T.z3; have v3 := T.v3; have t4 := T.t4; have a4 := T.a4; have z4 := T.z4; have v4 := T.v4; have t22 := T.t22; have a22 := T.a22; have z22 := T.z22; have v22 := T.v22; have t25 := T.t25; have a25 := T.a25; have z25 := T.z25; have v25 := T.v25
  have S0 : Aside (SWK enc k w0 blk off d w) := S
  clear S
  go_enter hf, Tryd.ntmps88
  go_wp2
  go_loopg [10] n (fun kx s10 wr => ∃ (i : Nat) (dk : Array α), s10 = .int .i64 i ∧ i ≤ n ∧ n - i ≤ kx ∧ dk.size = d.size ∧ Aside (SWK enc k w0 blk off dk wr) ∧ Aside (Swapped a b i d dk))
  case atStart => exact ⟨0, d, rfl, by omega, by omega, rfl, S0, Swapped.zero a b d⟩
  case round =>
    clear S0
    obtain ⟨i, dk, rfl, hin, hkx, hds, S1, W1⟩ := hrel
    by_cases hlt : i < n
    · have hltz : (i : Int) < (n : Int) := by omega
      go_wp2_with fail
      have e0 : ((a : Int) + (i : Int)).toNat = a + i := by omega
      have p0 : (0 : Int) ≤ (a : Int) + (i : Int) := by omega
      have b0 : (a : Int) + (i : Int) < (d.size : Int) := by omega
      have r0 : IntKind.i64.wrap ((a : Int) + (i : Int)) = (a : Int) + (i : Int) := by rw [IntKind.wrap_i64]; omega
      have e1 : ((b : Int) + (i : Int)).toNat = b + i := by omega
      have p1 : (0 : Int) ≤ (b : Int) + (i : Int) := by omega
      have b1 : (b : Int) + (i : Int) < (d.size : Int) := by omega
      have r1 : IntKind.i64.wrap ((b : Int) + (i : Int)) = (b : Int) + (i : Int) := by rw [IntKind.wrap_i64]; omega
      have S2 : Aside (SWK enc k w0 blk off (swp dk (a + i) (b + i)) ((wr.drew.setCells blk (off + (a + i) * k) (enc dk[b + i]!)).setCells blk (off + (b + i) * k) (enc dk[a + i]!))) := S1.out.swapped R (a + i) (b + i) (by omega) (by omega)
      have W2 : Aside (Swapped a b (i + 1) d (swp dk (a + i) (b + i))) := W1.out.step (by omega) (by omega)
      have l0 := S1.out.ld1 R (by omega) P (a + i) (by omega)
      have l1 := S1.out.ld1 R (by omega) P (b + i) (by omega)
      have s0 := S1.out.st1 R (by omega) P (a + i) (by omega) dk[b + i]!
      have s1 := S1.out.st2 R (by omega) P (a + i) (b + i) (by omega) (by omega) dk[b + i]! dk[a + i]!
      have n0 : (enc dk[a + i]!).length = k := R.hk _
      have n1 : (enc dk[b + i]!).length = k := R.hk _
      generalize enc dk[a + i]! = c0 at S2 l0 s1 n0
      generalize enc dk[b + i]! = c1 at S2 l1 s0 s1 n1
      clear S1 W1
      go_wp2_with fail
      go_big_region_o
      clear l0 l1 s0 s1
      generalize (wr.drew.setCells blk (off + (a + i) * k) c1).setCells blk (off + (b + i) * k) c0 = w2 at S2 ⊢
      go_wp2
      go_roundg (n - (i + 1))
      case measure => omega
      case rel => exact ⟨i + 1, swp dk (a + i) (b + i), by simp, by omega, Nat.le_refl _, by rw [size_swp]; exact hds, S2, W2⟩
    · obtain rfl : i = n := by omega
      go_wp2
      go_end0
      exact ⟨rfl, dk, W1, S1.out⟩
end
end Go.Proofs.YtiamohfpohjdpaaDoor
