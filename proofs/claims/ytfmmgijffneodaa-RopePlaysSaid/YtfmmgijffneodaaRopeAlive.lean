/- A ROPE IN MEMORY: the live question. -/
import Derived.Test.YtfmmgijffneodaaRopeWhole
namespace Go.Proofs.Ytfmmgijffneodaa
open Go.RowKit Go.Joins
set_option linter.unusedSimpArgs false
set_option linter.unusedVariables false

def noH : Int → Bool := fun _ => false
/-- behind a call that turned only what is new since w0 -/
theorem Ch.deep {w0 w w' : World} {F : Nat → Prop} (b : Below w0.heap.size w0 w) (c : Ch F w w') (hF : ∀ x, F x → w0.heap.size ≤ x) : Below w0.heap.size w0 w' :=
  b.trans (c.below b.size (fun x hx hf => by have := hF x hf; omega))
set_option maxHeartbeats 2000000 in
theorem alive_any (w : World) : Calls Try.prog 9 #[] w fun e w' => e = .returned (.bool true) ∧ Below w.heap.size w w' := by
  have H := Lib.hid (new_any w)
  go_enter Try.func9, Try.ntmps9
  go_wp2_with fail
  with_reducible refine H.out.mono ?_
  rintro e w1 ⟨r, rfl, hR, hB⟩
  have R1 := (hR noH).mono (F' := fun x => w.heap.size ≤ x) (fun x hx => hx.1)
  have HI := Lib.hid (insert_any w1 r [] noH _ R1 (by decide) 0 7 true)
  have HB := Lib.hid hB
  clear hR hB R1
  go_wp2_with fail
  with_reducible refine HI.out.mono ?_
  rintro e w2 ⟨rfl, hR, hc⟩
  have B2 := Ch.deep HB.out hc (fun x hx => hx)
  have hs2 := HB.out.size
  have R2 : Rope w2 r [7] (insH [] noH 0 7 true) (fun x => w.heap.size ≤ x) := hR.mono (fun x hx => by rcases hx with h | h <;> omega)
  have E2 : insE [] 0 7 = 0 := by decide
  rw [E2]
  clear hR hc HB
  have HI := Lib.hid (insert_any w2 r [7] _ _ R2 (by decide) 0 8 false)
  have HB := Lib.hid B2
  clear R2 B2
  go_wp2_with fail
  with_reducible refine HI.out.mono ?_
  rintro e w3 ⟨rfl, hR, hc⟩
  have B3 := Ch.deep HB.out hc (fun x hx => hx)
  have hs3 := HB.out.size
  have R3 : Rope w3 r [8, 7] (insH [7] (insH [] noH 0 7 true) 0 8 false) (fun x => w.heap.size ≤ x) := hR.mono (fun x hx => by rcases hx with h | h <;> omega)
  have E3 : insE [7] 0 8 = 0 := by decide
  rw [E3]
  have HB := Lib.hid B3
  have N := nth_any w3 r _ _ _ R3 0
  have P := place_any w3 r _ _ _ R3 7
  have Le := len_any w3 r _ _ _ R3
  have Co := count_any w3 r _ _ _ R3
  rw [show nthV [8, 7] (insH [7] (insH [] noH 0 7 true) 0 8 false) 0 = 7 from by decide, show nthE [8, 7] (insH [7] (insH [] noH 0 7 true) 0 8 false) 0 = 0 from by decide] at N
  rw [show placeV [8, 7] 7 = 1 from by decide, show itemE [8, 7] 7 = 0 from by decide] at P
  rw [show cnt (insH [7] (insH [] noH 0 7 true) 0 8 false) [8, 7] = 1 from by decide] at Co
  have N := Lib.hid N
  have P := Lib.hid P
  have Le := Lib.hid Le
  have Co := Lib.hid Co
  clear hR hc B3 R3
  go_wp2_with (first | (with_reducible refine N.out.mono ?_; rintro e w' ⟨rfl, rfl⟩) | (with_reducible refine P.out.mono ?_; rintro e w' ⟨rfl, rfl⟩) | (with_reducible refine Le.out.mono ?_; rintro e w' ⟨rfl, rfl⟩) | (with_reducible refine Co.out.mono ?_; rintro e w' ⟨rfl, rfl⟩))
  go_ret
  exact ⟨rfl, HB.out⟩
end Go.Proofs.Ytfmmgijffneodaa
