/- A ROPE IN MEMORY: Insert, whole; and on no rope. -/
import Derived.Test.YtfmmgijffneodaaRopeFresh
namespace Go.Proofs.Ytfmmgijffneodaa
open Go.RowKit Go.Joins
set_option linter.unusedSimpArgs false
set_option linter.unusedVariables false

def outL (L : List Int) (a : Int) : Prop := a < 0 ∨ (L.length : Int) < a
instance (L : List Int) (a : Int) : Decidable (outL L a) := by unfold outL; infer_instance
def insE (L : List Int) (a k : Int) : Int := if k ∈ L then 111 else if outL L a then 112 else 0
def insL (L : List Int) (a k : Int) : List Int := if k ∈ L ∨ outL L a then L else L.take a.toNat ++ k :: L.drop a.toNat
def insH (L : List Int) (hid : Int → Bool) (a k : Int) (s : Bool) : Int → Bool := if k ∈ L ∨ outL L a then hid else setH hid k (!s)
def InsQ (r : Nat) (L : List Int) (hid : Int → Bool) (a k : Int) (s : Bool) (F : Nat → Prop) (w : World) (e : Ending) (w' : World) : Prop :=
  e = .returned (.int .i64 (insE L a k)) ∧ Rope w' r (insL L a k) (insH L hid a k s) (fun z => F z ∨ w.heap.size ≤ z) ∧ Ch F w w'
set_option maxHeartbeats 1000000 in
theorem insert_known (w : World) (r : Nat) (L : List Int) (hid : Int → Bool) (F : Nat → Prop) (h : Rope w r L hid F) (a k : Int) (s : Bool) (hk : k ∈ L) :
    Calls Try.prog 10 #[ptr r, .int .i64 a, .int .i64 k, .bool s] w fun e w' => e = .returned (.int .i64 111) ∧ w = w' := by
  obtain ⟨hL, wb, hb, rs, G, hR, rfl, hF⟩ := h
  obtain ⟨j, hj, hkj⟩ := mem_run hk
  have hl := where_run hR k
  rw [whereF_some hR.nodup hj hkj] at hl
  have e1 := blk_cell hR.top 1
  have f1 := blk_free hR.top 1
  clear hR hk hkj
  go_enter Try.func10, Try.ntmps10
  go_wp2
  go_ret
  exact ⟨rfl, rfl⟩
set_option maxHeartbeats 1000000 in
theorem insert_out (w : World) (r : Nat) (L : List Int) (hid : Int → Bool) (F : Nat → Prop) (h : Rope w r L hid F) (a k : Int) (s : Bool) (hk : k ∉ L) (ha : outL L a) :
    Calls Try.prog 10 #[ptr r, .int .i64 a, .int .i64 k, .bool s] w fun e w' => e = .returned (.int .i64 112) ∧ w = w' := by
  have H := Lib.hid (len_any w r L hid F h)
  obtain ⟨hL, wb, hb, rs, G, hR, rfl, hF⟩ := h
  have hl := where_run hR k
  rw [whereF_none hk] at hl
  have e1 := blk_cell hR.top 1
  have f1 := blk_free hR.top 1
  clear hR hk
  by_cases h0 : a < 0
  · clear ha
    go_enter Try.func10, Try.ntmps10
    go_wp2_with (go_at_call 25; with_reducible refine H.out.mono ?_; rintro e w' ⟨rfl, rfl⟩)
    go_ret
    exact ⟨rfl, rfl⟩
  · have h1 : ((flat G).length : Int) < a := by unfold outL at ha; omega
    have d0 : decide (a < 0) = false := decide_eq_false h0
    clear ha h0
    go_enter Try.func10, Try.ntmps10
    go_wp2_with (go_at_call 25; with_reducible refine H.out.mono ?_; rintro e w' ⟨rfl, rfl⟩)
    go_ret
    exact ⟨rfl, rfl⟩
theorem insert_any (w : World) (r : Nat) (L : List Int) (hid : Int → Bool) (F : Nat → Prop) (h : Rope w r L hid F) (hL : L.length + 1 < 4294967296) (a k : Int) (s : Bool) :
    Calls Try.prog 10 #[ptr r, .int .i64 a, .int .i64 k, .bool s] w (InsQ r L hid a k s F w) := by
  by_cases hk : k ∈ L
  · refine (insert_known w r L hid F h a k s hk).mono ?_
    rintro e w' ⟨rfl, rfl⟩
    unfold InsQ insE insL insH
    rw [if_pos hk, if_pos (Or.inl hk), if_pos (Or.inl hk)]
    exact ⟨rfl, h.mono (fun x hx => Or.inl hx), Ch.refl _ _⟩
  by_cases ha : outL L a
  · refine (insert_out w r L hid F h a k s hk ha).mono ?_
    rintro e w' ⟨rfl, rfl⟩
    unfold InsQ insE insL insH
    rw [if_neg hk, if_pos ha, if_pos (Or.inr ha), if_pos (Or.inr ha)]
    exact ⟨rfl, h.mono (fun x hx => Or.inl hx), Ch.refl _ _⟩
  have ha' : 0 ≤ a ∧ a ≤ L.length := by unfold outL at ha; omega
  obtain ⟨n, rfl⟩ : ∃ n : Nat, a = n := ⟨a.toNat, by omega⟩
  obtain ⟨-, wb, hb, rs, G, hR, rfl, hF, hS⟩ := h
  have key : ∀ e w', InsP r ((flat G).take n ++ k :: (flat G).drop n) (setH hid k (!s)) F w e w' → InsQ r (flat G) hid n k s F w e w' := by
    rintro e w' ⟨h1, F', h2, h3, h4⟩
    unfold InsQ insE insL insH
    rw [if_neg hk, if_neg ha, if_neg (not_or.2 ⟨hk, ha⟩), if_neg (not_or.2 ⟨hk, ha⟩)]
    exact ⟨h1, h2.mono h4, h3⟩
  rcases Nat.eq_zero_or_pos G.length with hG | hG
  · obtain rfl := List.length_eq_zero_iff.1 hG
    have hn : n = 0 := by simp [flat] at ha'; omega
    subst hn
    exact (insert_fresh w r wb hb rs hid F hR hF k s).mono key
  · exact (insert_in w r wb hb rs G hid F hR hS hF hL hG k hk n (by omega) s).mono key
abbrev nilP : Value := .pointer none
theorem insert_nil (w : World) (a k : Int) (s : Bool) : Calls Try.prog 10 #[nilP, .int .i64 a, .int .i64 k, .bool s] w fun e w' => e = .returned (.int .i64 1) ∧ w = w' := by
  go_enter Try.func10, Try.ntmps10
  go_wp2
  go_ret
  exact ⟨rfl, rfl⟩
theorem show_nil (w : World) (k : Int) (s : Bool) : Calls Try.prog 11 #[nilP, .int .i64 k, .bool s] w fun e w' => e = .returned (.int .i64 1) ∧ w = w' := by
  go_enter Try.func11, Try.ntmps11
  go_wp2
  go_ret
  exact ⟨rfl, rfl⟩
theorem len_nil (w : World) : Calls Try.prog 25 #[nilP] w fun e w' => e = .returned (.int .i64 0) ∧ w = w' := by
  go_enter Try.func25, Try.ntmps25
  go_wp2
  go_ret
  exact ⟨rfl, rfl⟩
theorem count_nil (w : World) : Calls Try.prog 13 #[nilP] w fun e w' => e = .returned (.int .i64 0) ∧ w = w' := by
  go_enter Try.func13, Try.ntmps13
  go_wp2
  go_ret
  exact ⟨rfl, rfl⟩
theorem all_nil (w : World) : Calls Try.prog 12 #[nilP] w fun e w' => e = .returned (.slice none 0 0) ∧ w = w' := by
  go_enter Try.func12, Try.ntmps12
  go_wp2
  go_ret
  exact ⟨rfl, rfl⟩
theorem at_nil (w : World) (i : Int) : Calls Try.prog 21 #[nilP, .int .i64 i] w fun e w' => e = .returned (.tuple #[.int .i64 0, .int .i64 1]) ∧ w = w' := by
  go_enter Try.func21, Try.ntmps21
  go_wp2
  go_ret2
  exact ⟨rfl, rfl⟩
theorem nth_nil (w : World) (i : Int) : Calls Try.prog 23 #[nilP, .int .i64 i] w fun e w' => e = .returned (.tuple #[.int .i64 0, .int .i64 1]) ∧ w = w' := by
  go_enter Try.func23, Try.ntmps23
  go_wp2
  go_ret2
  exact ⟨rfl, rfl⟩
theorem ahead_nil (w : World) (k : Int) : Calls Try.prog 31 #[nilP, .int .i64 k] w fun e w' => e = .returned (.tuple #[.int .i64 0, .int .i64 0, .int .i64 1]) ∧ w = w' := by
  go_enter Try.func31, Try.ntmps31
  go_wp2
  go_ret3
  exact ⟨rfl, rfl⟩
theorem place_nil (w : World) (k : Int) : Calls Try.prog 14 #[nilP, .int .i64 k] w fun e w' => e = .returned (.tuple #[.int .i64 0, .int .i64 1]) ∧ w = w' := by
  have H := Lib.hid (ahead_nil w k)
  go_enter Try.func14, Try.ntmps14
  go_wp2_with (go_at_call 31; with_reducible refine H.out.mono ?_; rintro e w' ⟨rfl, rfl⟩)
  go_ret2
  exact ⟨rfl, rfl⟩
theorem rank_nil (w : World) (k : Int) : Calls Try.prog 16 #[nilP, .int .i64 k] w fun e w' => e = .returned (.tuple #[.int .i64 0, .int .i64 1]) ∧ w = w' := by
  have H := Lib.hid (ahead_nil w k)
  go_enter Try.func16, Try.ntmps16
  go_wp2_with (go_at_call 31; with_reducible refine H.out.mono ?_; rintro e w' ⟨rfl, rfl⟩)
  go_ret2
  exact ⟨rfl, rfl⟩
end Go.Proofs.Ytfmmgijffneodaa
