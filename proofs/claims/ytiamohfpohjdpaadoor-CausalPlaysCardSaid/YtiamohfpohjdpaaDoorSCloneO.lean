/- slices.Clone at slices.Clone[[]stemma/api.Op,stemma/api.Op]: what it answers, in the words of ownership. -/
import Derived.Test.YtiamohfpohjdpaaDoorRow
import Derived.Deep.AppendLies
import Derived.Laws.AppendOwnNone
import Derived.BigGuard
import Derived.WalkSpells
import Derived.Lib.SliceRun
namespace Go.Proofs.YtiamohfpohjdpaaDoor
open Go.RowKit Go.Joins
set_option linter.unusedSimpArgs false
set_option linter.unusedVariables false

def CloneO (n : Nat) (cs : List Value) (w : World) (e : Ending) (w' : World) : Prop :=
  ∃ g cap, e = .returned (.slice (some ⟨g, 0, none⟩) n cap) ∧ w'.ownsRow 0 39 26 (.slice (some ⟨g, 0, none⟩) n cap) n cs ∧ Below w.heap.size w w' ∧ w.heap.size ≤ g
theorem Slot.infoCO : (Tryd.prog.info? 39).map (fun i => (i.zero, i.size, i.bytes)) = some (some (.agg #[.int .i64 0, .int .i64 0, .int .i64 0, .int .i64 0, .int .i64 0, .int .i64 0, .int .i64 0, .int .i64 0, .int .i64 0, .int .i64 0, .int .i64 0, .int .i64 0, .int .i64 0, .int .i64 0, .int .i64 0, .int .i64 0, .int .i64 0, .string ⟨#[]⟩, .string ⟨#[]⟩, .string ⟨#[]⟩, .int .i64 0, .int .i64 0, .bool false, .int .i64 0, .int .i64 0, .bool false]), 26, 232) := by kernel_rfl
theorem own_emptyO (w : World) : (w.alloc (.cells #[] 39)).ownsRow 0 39 26 (.slice (some ⟨w.heap.size, 0, none⟩) 0 0) 0 [] :=
  ⟨by simp, .inr ⟨w.heap.size, 0, #[], rfl, Nat.zero_le _, blk_new _ _, Nat.le_refl _, Nat.zero_le _, by simp, by simp⟩⟩
set_option maxHeartbeats 1000000 in
theorem clone_anyO (A o n c : Nat) (cs : List Value) (w : World) (hn : 0 < n) (hn2 : n < 4294967296) (hcl : cs.length = n * 26) (hc : ∀ j u, cs[j]? = some u → w.cell? ⟨A, o + j, none⟩ = some u) (h1 : ∀ u ∈ cs, u.oneCell' = true) :
    Calls Tryd.prog 29 #[.slice (some ⟨A, o, none⟩) n c] w (CloneO n cs w) := by
  obtain ⟨i0, hi, hz0, hz1, hz2⟩ := info_parts Slot.infoCO
  have hA : A < w.heap.size := by
    obtain ⟨u, hu⟩ : ∃ u, cs[0]? = some u := ⟨cs[0]'(by omega), List.getElem?_eq_getElem (by omega)⟩
    exact World.block_lt_of_cell? _ _ (hc 0 u hu)
  have HL := Lib.hid hcl
  have HC := Lib.hid hc
  have H1 := Lib.hid h1
  clear hcl hc h1
  have hnil := fun (w : World) => Lib.run_eql_slice_nil (P := Tryd.prog) w 22 39 (some ⟨A, o, none⟩) n c 0 0 Tryd.underlying22
  go_enter Tryd.func29, Tryd.ntmps29
  go_wp2_with (at_builtin; refine wpList_append_lies _ rfl (.tmp 5) (.tmp 6) 22 rfl 0 39 i0 (.agg #[.int .i64 0, .int .i64 0, .int .i64 0, .int .i64 0, .int .i64 0, .int .i64 0, .int .i64 0, .int .i64 0, .int .i64 0, .int .i64 0, .int .i64 0, .int .i64 0, .int .i64 0, .int .i64 0, .int .i64 0, .int .i64 0, .int .i64 0, .string ⟨#[]⟩, .string ⟨#[]⟩, .string ⟨#[]⟩, .int .i64 0, .int .i64 0, .bool false, .int .i64 0, .int .i64 0, .bool false]) 26 232 Tryd.underlying22 hi hz0 hz1 hz2 rfl (by decide) (.slice (some ⟨w.heap.size, 0, none⟩) 0 0) 0 [] rfl (own_emptyO w) ⟨A, o, none⟩ n c cs rfl (by rw [HL.out]) (fun j u hj => by rw [Addr.add_lit]; exact (((Below.refl _ w).alloc (Nat.le_refl _) _).cell (p := ⟨A, o + j, none⟩) hA).trans (HC.out j u hj)) H1.out hn (by unfold maxLen; omega) (by omega) (Nat.zero_le _) (w.heap.size + 1) (by simp) ?_; intro g cap w1 hown hgrow hat hlt)
  go_ret
  rw [List.nil_append] at hown
  refine ⟨g, cap, by simp, by simpa using hown, ?_, ?_⟩
  · exact ((Below.refl _ w).alloc (Nat.le_refl _) _).grown hgrow (by simp) (fun k hk => by cases hk; exact Nat.le_refl _)
  · rcases hat with h | h
    · have : w.heap.size = g := by simpa [Value.ownBlock] using h
      omega
    · omega
end Go.Proofs.YtiamohfpohjdpaaDoor
