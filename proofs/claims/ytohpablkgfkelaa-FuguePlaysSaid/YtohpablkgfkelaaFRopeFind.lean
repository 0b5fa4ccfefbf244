/- A ROPE IN MEMORY: find. -/
import Derived.Test.YtohpablkgfkelaaFRope
namespace Go.Proofs.Ytohpablkgfkelaa
open Go.RowKit Go.Joins
set_option linter.unusedSimpArgs false
set_option linter.unusedVariables false

def FindP (G : List RunG) (a : Nat) (w : World) (e : Ending) (w' : World) : Prop :=
  (∃ (i o : Nat) (hi : i < G.length), e = .returned (.tuple #[.int .i64 i, .int .i64 o]) ∧ offs G i + o = a ∧ (o < G[i].ks.length ∨ (i + 1 = G.length ∧ o ≤ G[i].ks.length))) ∧ w = w'
theorem FindP.mk {G : List RunG} {a : Nat} {w : World} (i o : Nat) (hi : i < G.length) (h1 : offs G i + o = a) (h2 : o < G[i].ks.length ∨ (i + 1 = G.length ∧ o ≤ G[i].ks.length)) : FindP G a w (.returned (.tuple #[.int .i64 i, .int .i64 o])) w :=
  ⟨⟨i, o, hi, rfl, h1, h2⟩, rfl⟩
set_option maxHeartbeats 2000000 in
set_option maxRecDepth 20000 in
theorem find_any (w : World) (r wb hb : Nat) (rs : Value) (G : List RunG) (hid : St → Bool) (hR : RopeAt w r wb hb rs G hid) (hG : 0 < G.length) (hL : (flat G).length < 4294967296) (a : Nat) (ha : a ≤ (flat G).length) :
    Calls Try.prog 53 #[ptr r, .int .i64 a] w (FindP G a w) := by
  obtain ⟨B, cap, rfl, hcell⟩ := runs_form hR hG
  have hlen := len_le_flat (w := w) (r := r) (wb := wb) (hb := hb) (rs := Value.nilFunc) (hid := hid) hR.ne
  have hfl := flat_length G
  have e0 := blk_cell hR.top 0
  have f0 := blk_free hR.top 0
  have HR := Lib.hid hR
  have HC := Lib.hid hcell
  have HF := Lib.hid hfl
  clear hR hcell hfl
  go_enter Try.func53, Try.ntmps53
  go_wp2
  go_loop [1, 13] (fun x i => ∃ k m : Nat, k ≤ G.length ∧ i = .int .i64 k ∧ x = .int .i64 m ∧ offs G k + m = a ∧ (k = G.length → False)) (fun _ i => G.length - (intOf i).toNat)
  case atStart => exact ⟨0, a, Nat.zero_le _, rfl, rfl, by rw [offs_zero]; omega, fun h => by omega⟩
  case round =>
    obtain ⟨k, m, hk, rfl, rfl, hm, hne⟩ := hrel
    have hlt : k < G.length := by
      rcases Nat.lt_or_eq_of_le hk with h | h
      · exact h
      · exact (hne h).elim
    have hg := List.getElem_mem hlt
    have hc := HC.out k hlt
    have hos := offs_succ G k hlt
    have hol := offs_le G (k + 1)
    obtain ⟨A, cp, hsl, -, -, -⟩ := items_form HR.out G[k] hg
    have hrun := (HR.out.run G[k] hg).1
    rw [hsl] at hrun
    have e1 := blk_cell hrun 0
    have f1 := blk_free hrun 0
    have hpos := List.length_pos_iff.2 (HR.out.ne G[k] hg)
    have HOS := Lib.hid hos
    have HM := Lib.hid hm
    have hmk : m ≤ (flat G).length := by omega
    have fin : (m < G[k].ks.length ∨ (k + 1 = G.length ∧ m ≤ G[k].ks.length)) → FindP G a w (.returned (.tuple #[.int .i64 k, .int .i64 m])) w := fun h => FindP.mk k m hlt hm h
    have FIN := Lib.hid fin
    have hgl : G[k].ks.length ≤ (flat G).length := by omega
    generalize G[k] = g at *
    clear hsl hrun hm hos hne fin
    by_cases h1 : m < g.ks.length
    · have d1 : decide ((m : Int) < (g.ks.length : Int)) = true := decide_eq_true (by omega)
      go_wp2
      go_ret2
      exact FIN.out (Or.inl h1)
    · have d1 : decide ((m : Int) < (g.ks.length : Int)) = false := decide_eq_false (by omega)
      by_cases h2 : k + 1 = G.length
      · have d2 : ((k : Int) == (G.length : Int) - 1) = true := beq_iff_eq.2 (by omega)
        have hle : m ≤ g.ks.length := by
          have h3 := HF.out; have h4 := HOS.out; have h5 := HM.out
          rw [h2] at h4
          omega
        have HH := Lib.hid h2
        clear h2
        go_wp2
        go_ret2
        exact FIN.out (Or.inr ⟨HH.out, hle⟩)
      · have d2 : ((k : Int) == (G.length : Int) - 1) = false := beq_eq_false_iff_ne.2 (by omega)
        go_wp2
        go_round
        case rel => exact ⟨k + 1, m - g.ks.length, by omega, by go_num, congrArg (Value.int .i64) (by omega), by have h4 := HOS.out; have h5 := HM.out; omega, fun h => h2 h⟩
        case measure => simp [intOf]; omega
end Go.Proofs.Ytohpablkgfkelaa
