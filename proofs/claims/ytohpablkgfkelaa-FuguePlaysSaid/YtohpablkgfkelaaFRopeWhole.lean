/- A ROPE IN MEMORY: Insert, whole; and on no rope. -/
import Derived.Test.YtohpablkgfkelaaFRopeFresh
namespace Go.Proofs.Ytohpablkgfkelaa
open Go.RowKit Go.Joins
set_option linter.unusedSimpArgs false
set_option linter.unusedVariables false

def outL (L : List St) (a : Int) : Prop := a < 0 ∨ (L.length : Int) < a
instance (L : List St) (a : Int) : Decidable (outL L a) := by unfold outL; infer_instance
def insE (L : List St) (a : Int) (k : St) : Int := if k ∈ L then 111 else if outL L a then 112 else 0
def insL (L : List St) (a : Int) (k : St) : List St := if k ∈ L ∨ outL L a then L else L.take a.toNat ++ k :: L.drop a.toNat
def insH (L : List St) (hid : St → Bool) (a : Int) (k : St) (s : Bool) : St → Bool := if k ∈ L ∨ outL L a then hid else setH hid k (!s)
def InsW (r : Nat) (L : List St) (hid : St → Bool) (a : Int) (k : St) (s : Bool) (F : Nat → Prop) (w : World) (e : Ending) (w' : World) : Prop :=
  e = .returned (.int .i64 (insE L a k)) ∧ Rope w' r (insL L a k) (insH L hid a k s) (fun z => F z ∨ w.heap.size ≤ z) ∧ Ch F w w'
set_option maxHeartbeats 1000000 in
theorem insert_known (w : World) (r : Nat) (L : List St) (hid : St → Bool) (F : Nat → Prop) (h : Rope w r L hid F) (a : Int) (k : St) (s : Bool) (hk : k ∈ L) :
    Calls Try.prog 36 #[ptr r, .int .i64 a, encS k, .bool s] w fun e w' => e = .returned (.int .i64 111) ∧ Below w.heap.size w w' := by
  obtain ⟨hL, wb, hb, rs, G, hR, rfl, hF⟩ := h
  obtain ⟨j, hj, hkj⟩ := mem_run hk
  have HR := Lib.hid hR
  have HKJ := Lib.hid hkj
  clear hR hk hkj
  go_enter Try.func36, Try.ntmps36
  go_upto_region 3 with fail
  refine wp_let (KB w k w.heap.size) (KB.new w k) (fun x hx => ?_)
  have HX := Lib.hid hx
  have hR2 := HR.out.later hx.drew.b
  have hl := where_run hR2 k
  rw [whereF_some hR2.nodup hj HKJ.out] at hl
  have e1 := blk_cell hR2.top 1
  have c0 := hx.drew.c0
  have c1 := hx.drew.c1
  clear hR2 hx
  go_region
  go_wp2
  go_ret
  exact ⟨rfl, HX.out.drew.b⟩
set_option maxHeartbeats 1000000 in
theorem insert_out (w : World) (r : Nat) (L : List St) (hid : St → Bool) (F : Nat → Prop) (h : Rope w r L hid F) (a : Int) (k : St) (s : Bool) (hk : k ∉ L) (ha : outL L a) :
    Calls Try.prog 36 #[ptr r, .int .i64 a, encS k, .bool s] w fun e w' => e = .returned (.int .i64 112) ∧ Below w.heap.size w w' := by
  have H0 := Lib.hid h
  obtain ⟨hL, wb, hb, rs, G, hR, rfl, hF⟩ := h
  have HR := Lib.hid hR
  have HK := Lib.hid hk
  have HA := Lib.hid ha
  clear hR hk ha
  go_enter Try.func36, Try.ntmps36
  go_upto_region 3 with fail
  refine wp_let (KB w k w.heap.size) (KB.new w k) (fun x hx => ?_)
  have HX := Lib.hid hx.drew
  have hR2 := HR.out.later hx.drew.b
  have hl := where_run hR2 k
  rw [whereF_none HK.out] at hl
  have e1 := blk_cell hR2.top 1
  have c0 := hx.drew.c0
  have c1 := hx.drew.c1
  clear hR2 hx
  go_region
  clear hl e1 c0 c1
  generalize x.drew = x2 at *
  have H := Lib.hid (len_any x2 r (flat G) hid F (H0.out.later HX.out.b))
  by_cases h0 : a < 0
  · go_wp2_with (go_at_call 52; with_reducible refine H.out.mono ?_; rintro e w' ⟨rfl, rfl⟩)
    go_ret
    exact ⟨rfl, HX.out.b⟩
  · have h1 : ((flat G).length : Int) < a := by have := HA.out; unfold outL at this; omega
    have d0 : decide (a < 0) = false := decide_eq_false h0
    clear h0
    go_wp2_with (go_at_call 52; with_reducible refine H.out.mono ?_; rintro e w' ⟨rfl, rfl⟩)
    go_ret
    exact ⟨rfl, HX.out.b⟩
theorem InsP.weak {w w' : World} {r : Nat} {L : List St} {hid : St → Bool} {F F2 : Nat → Prop} {e : Ending} (h : InsP r L hid F w e w') (hF : ∀ x, F x → F2 x) : InsP r L hid F2 w e w' := by
  obtain ⟨h1, F', h2, h3, h4⟩ := h
  exact ⟨h1, F', h2, h3.mono (fun z _ e => hF z e), fun x hx => (h4 x hx).imp (hF x) id⟩
theorem insert_any (w : World) (r : Nat) (L : List St) (hid : St → Bool) (F : Nat → Prop) (h : Rope w r L hid F) (hL : L.length + 1 < 4294967296) (a : Int) (k : St) (s : Bool) :
    Calls Try.prog 36 #[ptr r, .int .i64 a, encS k, .bool s] w (InsW r L hid a k s F w) := by
  by_cases hk : k ∈ L
  · refine (insert_known w r L hid F h a k s hk).mono ?_
    rintro e w' ⟨rfl, hb⟩
    unfold InsW insE insL insH
    rw [if_pos hk, if_pos (Or.inl hk), if_pos (Or.inl hk)]
    exact ⟨rfl, (h.later hb).mono (fun x hx => Or.inl hx), Ch.of_below hb⟩
  by_cases ha : outL L a
  · refine (insert_out w r L hid F h a k s hk ha).mono ?_
    rintro e w' ⟨rfl, hb⟩
    unfold InsW insE insL insH
    rw [if_neg hk, if_pos ha, if_pos (Or.inr ha), if_pos (Or.inr ha)]
    exact ⟨rfl, (h.later hb).mono (fun x hx => Or.inl hx), Ch.of_below hb⟩
  have ha' : 0 ≤ a ∧ a ≤ L.length := by unfold outL at ha; omega
  obtain ⟨n, rfl⟩ : ∃ n : Nat, a = n := ⟨a.toNat, by omega⟩
  obtain ⟨-, wb, hb, rs, G, hR, rfl, hF, hS⟩ := h
  have key : ∀ e w', InsP r ((flat G).take n ++ k :: (flat G).drop n) (setH hid k (!s)) F w e w' → InsW r (flat G) hid n k s F w e w' := by
    rintro e w' ⟨h1, F', h2, h3, h4⟩
    unfold InsW insE insL insH
    rw [if_neg hk, if_neg ha, if_neg (not_or.2 ⟨hk, ha⟩), if_neg (not_or.2 ⟨hk, ha⟩)]
    exact ⟨h1, h2.mono h4, h3⟩
  rcases Nat.eq_zero_or_pos G.length with hG | hG
  · obtain rfl := List.length_eq_zero_iff.1 hG
    have hn : n = 0 := by simp [flat] at ha'; omega
    subst hn
    exact (insert_fresh w r wb hb rs hid (fun z => z ∈ foot r wb hb rs []) hR (fun x hx => hx) (fun hm => by have := foot_lt hR _ hm; omega) k s).mono (fun e w' h => key e w' (h.weak hF))
  · exact (insert_in w r wb hb rs G hid (fun z => z ∈ foot r wb hb rs G) hR hS (fun x hx => hx) (fun hm => by have := foot_lt hR _ hm; omega) hL hG k hk n (by omega) s).mono (fun e w' h => key e w' (h.weak hF))
end Go.Proofs.Ytohpablkgfkelaa
