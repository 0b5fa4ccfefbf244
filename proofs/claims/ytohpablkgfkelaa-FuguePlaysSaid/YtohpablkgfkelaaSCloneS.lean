/- slices.Clone at slices.Clone[[]stemma/api.Stamp,stemma/api.Stamp]: what it answers, in the words of ownership. -/
import Derived.Test.YtohpablkgfkelaaRow
import Derived.Deep.AppendLies
import Derived.Laws.AppendOwnNone
import Derived.BigGuard
import Derived.WalkSpells
import Derived.Lib.SliceRun
namespace Go.Proofs.Ytohpablkgfkelaa
open Go.RowKit Go.Joins
set_option linter.unusedSimpArgs false
set_option linter.unusedVariables false

def CloneS (n : Nat) (cs : List Value) (w : World) (e : Ending) (w' : World) : Prop :=
  ∃ g cap, e = .returned (.slice (some ⟨g, 0, none⟩) n cap) ∧ w'.ownsRow 0 30 2 (.slice (some ⟨g, 0, none⟩) n cap) n cs ∧ Below w.heap.size w w' ∧ w.heap.size ≤ g
theorem Slot.infoCS : (Try.prog.info? 30).map (fun i => (i.zero, i.size, i.bytes)) = some (some (.agg #[.int .i64 0, .int .i64 0]), 2, 16) := by kernel_rfl
theorem own_emptyS (w : World) : (w.alloc (.cells #[] 30)).ownsRow 0 30 2 (.slice (some ⟨w.heap.size, 0, none⟩) 0 0) 0 [] :=
  ⟨by simp, .inr ⟨w.heap.size, 0, #[], rfl, Nat.zero_le _, blk_new _ _, Nat.le_refl _, Nat.zero_le _, by simp, by simp⟩⟩
set_option maxHeartbeats 1000000 in
theorem clone_anyS (A o n c : Nat) (cs : List Value) (w : World) (hn : 0 < n) (hn2 : n < 1099511627776) (hcl : cs.length = n * 2) (hc : ∀ j u, cs[j]? = some u → w.cell? ⟨A, o + j, none⟩ = some u) (h1 : ∀ u ∈ cs, u.oneCell' = true) :
    Calls Try.prog 63 #[.slice (some ⟨A, o, none⟩) n c] w (CloneS n cs w) := by
  obtain ⟨i0, hi, hz0, hz1, hz2⟩ := info_parts Slot.infoCS
  have hA : A < w.heap.size := by
    obtain ⟨u, hu⟩ : ∃ u, cs[0]? = some u := ⟨cs[0]'(by omega), List.getElem?_eq_getElem (by omega)⟩
    exact World.block_lt_of_cell? _ _ (hc 0 u hu)
  have HL := Lib.hid hcl
  have HC := Lib.hid hc
  have H1 := Lib.hid h1
  clear hcl hc h1
  have hnil := fun (w : World) => Lib.run_eql_slice_nil (P := Try.prog) w 80 30 (some ⟨A, o, none⟩) n c 0 0 Try.underlying80
  go_enter Try.func63, Try.ntmps63
  go_wp2_with (at_builtin; refine wpList_append_lies _ rfl (.tmp 5) (.tmp 6) 80 rfl 0 30 i0 (.agg #[.int .i64 0, .int .i64 0]) 2 16 Try.underlying80 hi hz0 hz1 hz2 rfl (by decide) (.slice (some ⟨w.heap.size, 0, none⟩) 0 0) 0 [] rfl (own_emptyS w) ⟨A, o, none⟩ n c cs rfl (by rw [HL.out]) (fun j u hj => by rw [Addr.add_lit]; exact (((Below.refl _ w).alloc (Nat.le_refl _) _).cell (p := ⟨A, o + j, none⟩) hA).trans (HC.out j u hj)) H1.out hn (by unfold maxLen; omega) (by omega) (Nat.zero_le _) (w.heap.size + 1) (by simp) ?_; intro g cap w1 hown hgrow hat hlt)
  go_ret
  rw [List.nil_append] at hown
  refine ⟨g, cap, by simp, by simpa using hown, ?_, ?_⟩
  · exact ((Below.refl _ w).alloc (Nat.le_refl _) _).grown hgrow (by simp) (fun k hk => by cases hk; exact Nat.le_refl _)
  · rcases hat with h | h
    · have : w.heap.size = g := by simpa [Value.ownBlock] using h
      omega
    · omega
end Go.Proofs.Ytohpablkgfkelaa
