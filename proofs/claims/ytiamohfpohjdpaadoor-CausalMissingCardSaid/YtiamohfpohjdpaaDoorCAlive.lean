/- CAUSAL'S LAWS: the live question. -/
import Derived.Test.YtiamohfpohjdpaaDoorCFns
namespace Go.Proofs.YtiamohfpohjdpaaDoor
open Go.RowKit Go.Joins
set_option linter.unusedSimpArgs false
set_option linter.unusedVariables false
open Classical

/-- an operation of replica 0, the n-th, and on what it leans -/
def oneO (n : Int) : OpG := ⟨n, 0, ⟨n - 1, 0, 0, 0, 0, 0, 0, 0⟩, 1, 0, 0, 2, 97, 0, 0, ⟨#[]⟩, ⟨#[]⟩, ⟨#[]⟩, 0, 0, false, 0, 0, false⟩
theorem oneO_fine (n : Int) : (oneO n).fine := ⟨Nat.zero_le _, Nat.zero_le _, Nat.zero_le _⟩
theorem bldOne (n m : Int) (w : World) : (Instr.build 39 #[(0, .agg #[.int .i64 n, .int .i64 0]), (1, .agg #[.int .i64 m, .int .i64 0, .int .i64 0, .int .i64 0, .int .i64 0, .int .i64 0, .int .i64 0, .int .i64 0]), (2, .int .i64 1), (4, .int .i64 2), (5, .int .i64 97)]).run Tryd.prog w =
    .ok (OpG.val ⟨n, 0, ⟨m, 0, 0, 0, 0, 0, 0, 0⟩, 1, 0, 0, 2, 97, 0, 0, ⟨#[]⟩, ⟨#[]⟩, ⟨#[]⟩, 0, 0, false, 0, 0, false⟩) w := run_build w 39 _ _ (by kernel_rfl)
theorem bldSt1 (n : Int) (w : World) : (Instr.build 31 #[(0, .int .i64 n)]).run Tryd.prog w = .ok (st n 0) w := run_build w 31 _ _ (by kernel_rfl)
theorem bldVe1 (n : Int) (w : World) : (Instr.build 33 #[(0, .int .i64 n)]).run Tryd.prog w = .ok (V8.val ⟨n, 0, 0, 0, 0, 0, 0, 0⟩) w := run_build w 33 _ _ (by kernel_rfl)
set_option maxRecDepth 100000 in
theorem one_any (n : Int) (h1 : 0 < n) (h2 : n < 100) (w : World) : Calls Tryd.prog 20 #[.int .i64 n] w fun e w' => e = .returned (oneO n).val ∧ Below w.heap.size w w' := by
  have hw : IntKind.i64.wrap (n - 1) = n - 1 := by rw [IntKind.wrap_i64]; omega
  have g1 := bldSt1 n
  have g2 := bldVe1 (n - 1)
  have g3 := bldOne n (n - 1)
  go_enter Tryd.func20, Tryd.ntmps20
  go_wp2_with (refine wpList_store_fresh rfl (.tmp 2) (.tmp 8) 39 rfl (w.heap.size) _ _ rfl (by simp) rfl (by kernel_rfl) (by kernel_rfl) (by kernel_rfl) ?_)
  refine bodyPost_ret (results_cell (b := w.heap.size) rfl rfl (run_loadAt_whole Tryd.underlying39 (by kernel_rfl) (blk_new _ _))) rfl ?_
  exact ⟨rfl, (Below.refl _ _).alloc (Nat.le_refl _) _⟩
theorem one_right1 : (oneO 1).rightP = true := by kernel_rfl
theorem one_right2 : (oneO 2).rightP = true := by kernel_rfl
theorem one_dep (n : Int) (r : Int) (h0 : 0 ≤ r) (h8 : r < 8) : MO.dep (oneO n) r = if r = 0 then n - 1 else 0 := by
  show (oneO n).d.at r = _
  rcases known8 h0 h8 with rfl | rfl | rfl | rfl | rfl | rfl | rfl | rfl <;> rfl
theorem one_ok {n : Int} (h : (oneO n).rightP = true) : MO.ok (oneO n) := ⟨h, oneO_fine n⟩
theorem one_id (n : Int) : MO.id (oneO n) = (n, 0) := rfl
theorem alive_two {res A W : List OpG} {e : Int} (h : Cz.AddR MO SortOf [] [] (oneO 2) res e A W) : res = [] ∧ e = 0 ∧ A = [] ∧ W = [oneO 2] := by
  have hnr : ¬ Cz.Ready MO [] (oneO 2) := fun h => by
    have := h.1 0 (by omega) (by omega) (by rw [one_dep _ _ (by omega) (by omega)]; decide)
    cases this
  have hnl : ¬ Cz.Late MO [] (oneO 2) := by
    rintro (⟨r, h0, h8, hne, hle, -⟩ | h)
    · rw [one_dep _ _ h0 h8] at hne hle
      rw [Cz.known_nil] at hle
      split at hle
      · omega
      · simp_all
    · rw [one_id, one_dep _ _ (by decide) (by decide), Cz.known_nil] at h
      simp at h
  cases h with
  | bad h => exact absurd (one_ok one_right2) h
  | there _ h => cases h
  | late _ _ h => exact absurd h hnl
  | pend _ _ _ _ h => simp at h
  | wait _ _ _ _ _ hs => exact ⟨rfl, rfl, rfl, by have := hs.perm; simpa using this⟩
  | done _ _ _ h => exact absurd h hnr
theorem alive_one {res A W : List OpG} {e : Int} (h : Cz.AddR MO SortOf [] [oneO 2] (oneO 1) res e A W) : res.length = 2 ∧ e = 0 ∧ A = [oneO 1, oneO 2] := by
  have hr : Cz.Ready MO [] (oneO 1) := ⟨fun r h0 h8 hne => by
    rw [one_dep _ _ h0 h8] at hne
    split at hne <;> simp at hne, by rw [one_id, one_dep _ _ (by decide) (by decide)]; rfl⟩
  have hnl : ¬ Cz.Late MO [] (oneO 1) := by
    rintro (⟨r, h0, h8, hne, hle, -⟩ | h)
    · rw [one_dep _ _ h0 h8] at hne
      split at hne <;> simp at hne
    · rw [one_id, one_dep _ _ (by decide) (by decide), Cz.known_nil] at h
      simp at h
  have hid : MO.id (oneO 1) ∉ Cz.ids MO ([] ++ [oneO 2]) := by
    intro h
    obtain ⟨y, hy, e⟩ := Cz.mem_ids.1 h
    simp at hy
    subst hy
    rw [one_id, one_id] at e
    cases e
  have hr2 : Cz.Ready MO ([] ++ [oneO 1]) (oneO 2) := ⟨fun r h0 h8 hne => by
    rw [one_dep _ _ h0 h8] at hne ⊢
    split at hne
    · rename_i h
      subst h
      simp
      exact Cz.mem_ids.2 ⟨oneO 1, by simp, rfl⟩
    · simp at hne, by rw [one_id, one_dep _ _ (by decide) (by decide)]; rfl⟩
  cases h with
  | bad h => exact absurd (one_ok one_right1) h
  | there _ h => exact absurd h hid
  | late _ _ h => exact absurd h hnl
  | pend _ _ _ h => exact absurd hr h
  | wait _ _ _ h => exact absurd hr h
  | @done A1 W1 _ _ _ _ hd =>
    have hdr := hd.drn
    obtain ⟨B, hB⟩ := hdr.ext
    generalize hAW : [oneO 2] = W0 at hd
    cases hd with
    | stop h => exact absurd hr2 (h _ (by rw [← hAW]; simp))
    | @step _ U V _ _ x hU hx hd =>
      cases U with
      | nil =>
        simp at hAW
        obtain ⟨rfl, rfl⟩ := hAW
        obtain ⟨rfl, rfl⟩ := hd.nil
        exact ⟨rfl, rfl, rfl⟩
      | cons u U => simp at hAW
theorem run_eqV (a b : V8) (w : World) : (Op.equalIn 10000 33 a.val b.val).run Tryd.prog w = .ok (a.beq b) w := run_eqv _ _ _ _ _ _ _ _ _ _ _ _ _ _ _ _ w
theorem AddT.deep {s : Nat} {A W : List OpG} {F : Nat → Prop} {o : OpG} {w w' : World} {e : Ending} {B : Nat} (h : AddT s A W F o w e w') (hB : B ≤ w.heap.size) (hF : ∀ x, F x → B ≤ x) :
    ∃ ao n c res err A' W', e = .returned (.tuple #[.slice ao n c, .int .i64 err]) ∧ n = res.length ∧ Cz.AddR MO SortOf A W o res err A' W' ∧ StoreIs w' s A' W' (fun x => F x ∨ w.heap.size ≤ x) ∧ Ch F w w' ∧ Below B w w' := by
  obtain ⟨v, res, err, A', W', rfl, h1, h2, h3, h4, h5⟩ := h
  obtain ⟨ao, c, rfl, -, -⟩ := h4.at'
  exact ⟨ao, _, c, res, err, A', W', rfl, rfl, h1, h2, h3, h3.below hB (fun x hx h => by have := hF x h; omega)⟩
set_option maxHeartbeats 8000000 in
set_option maxRecDepth 100000 in
theorem alive_any (w : World) : Calls Tryd.prog 9 #[] w fun e w' => e = .returned (.bool true) ∧ Below w.heap.size w w' := by
  have NS := Lib.hid (newS_any w)
  have O2 := Lib.hid (fun z => one_any 2 (by decide) (by decide) z)
  have O1 := Lib.hid (fun z => one_any 1 (by decide) (by decide) z)
  go_enter Tryd.func9, Tryd.ntmps9
  go_wp2_with fail
  with_reducible refine NS.out.mono ?_
  rintro e w1 ⟨rfl, hS, hb⟩
  have H1 := Lib.hid (And.intro hS hb)
  clear hS hb NS
  go_wp2_with fail
  with_reducible refine (O2.out _).mono ?_
  rintro e w2 ⟨rfl, hb⟩
  have H2 := Lib.hid (And.intro (H1.out.1.later hb) (H1.out.2.trans (hb.mono H1.out.2.size)))
  clear hb H1
  have H2S := H2.out.2.size
  have HA := Lib.hid (add_any w2 (w.heap.size + 2) [] [] _ H2.out.1 Cz.Stb.nil (by simp) (oneO 2) (oneO_fine 2))
  go_wp2_with fail
  with_reducible refine HA.out.mono ?_
  intro e w3 hT
  obtain ⟨ao, n, c, res, err, A', W', rfl, hn, hR, hS3, hc3, hb3⟩ := hT.deep (B := w.heap.size) H2.out.2.size (fun x h => h)
  obtain ⟨rfl, rfl, rfl, rfl⟩ := alive_two hR
  subst hn
  have H3 := Lib.hid (And.intro hS3 (And.intro (H2.out.2.trans hb3) (hR.stb (fun l l2 h => h.perm) Cz.Stb.nil).1))
  clear hT hR hS3 hc3 hb3 HA H2
  go_wp2_with fail
  with_reducible refine (O1.out _).mono ?_
  rintro e w4 ⟨rfl, hb⟩
  have H4 := Lib.hid (And.intro (H3.out.1.later hb) (And.intro (H3.out.2.1.trans (hb.mono H3.out.2.1.size)) H3.out.2.2))
  clear hb
  have HA := Lib.hid (add_any w4 (w.heap.size + 2) [] [oneO 2] _ H4.out.1 H4.out.2.2 (by simp) (oneO 1) (oneO_fine 1))
  clear H3
  go_wp2_with fail
  with_reducible refine HA.out.mono ?_
  intro e w5 hT
  obtain ⟨ao2, n2, c2, res2, err2, A2, W2, rfl, hn2, hR, hS5, hc5, hb5⟩ := hT.deep (B := w.heap.size) H4.out.2.1.size (fun x h => h.elim id (fun h => Nat.le_trans H2S h))
  obtain ⟨hl, rfl, rfl⟩ := alive_one hR
  rw [hl] at hn2
  subst hn2
  have H5 := Lib.hid (And.intro hS5 (H4.out.2.1.trans hb5))
  clear hT hR hS5 hc5 hb5 HA hl H4
  have hkv : knownV [oneO 1, oneO 2] = ⟨2, 0, 0, 0, 0, 0, 0, 0⟩ := rfl
  have HKN := Lib.hid (knownS_any w5 _ _ _ _ H5.out.1)
  rw [hkv] at HKN
  have hev : ∀ y, (Op.equalIn 10000 33 (.agg #[.int .i64 2, .int .i64 0, .int .i64 0, .int .i64 0, .int .i64 0, .int .i64 0, .int .i64 0, .int .i64 0]) (.agg #[.int .i64 2, .int .i64 0, .int .i64 0, .int .i64 0, .int .i64 0, .int .i64 0, .int .i64 0, .int .i64 0])).run Tryd.prog y = .ok true y := fun y => (run_eqV ⟨2, 0, 0, 0, 0, 0, 0, 0⟩ ⟨2, 0, 0, 0, 0, 0, 0, 0⟩ y).trans rfl
  have hgd := run_guard
  have hbd := bldVe1 2
  go_wp2_with fail
  with_reducible refine HKN.out.mono ?_
  rintro e w6 ⟨rfl, hb⟩
  have H6 := Lib.hid (H5.out.2.trans (hb.mono H5.out.2.size))
  clear hb HKN
  go_wp2
  go_ret
  exact ⟨rfl, H6.out⟩
end Go.Proofs.YtiamohfpohjdpaaDoor
