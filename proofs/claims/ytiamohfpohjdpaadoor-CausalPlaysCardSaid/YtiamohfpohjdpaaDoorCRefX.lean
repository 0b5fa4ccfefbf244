/- WHICH OF TWO STAMPS COMES FIRST, by the document. CAUSAL'S LAWS: the live question. ARE TWO LISTS OF OPERATIONS ONE, by the document: what it answers. CAUSAL'S LAWS: a store that is filled, step by step; the empty operation. CAUSAL, TWICE IS ONCE: the walk; the store of a law that is filled in the law's own world. CAUSAL DELIVERY, plain: the document's Add does what the program's does. THE DOCUMENT'S STORE: in memory; Find, With, Most, Known: what they answer. A REGION THAT DRAWS ITS ORDER, in which one operation, k, turns the world ahead of the store, N (and one, c, may make a block ahead of k): the relation and its steps. THE DOCUMENT'S STORE: Most, Known: what they answer. (printed by gen_crefb.py) THE DOCUMENT'S STORE: Sort: what it answers. THE DOCUMENT'S STORE: Pending, Missing, missing, ready, late: what they answer. THE DOCUMENT'S STORE: ready, late: what they answer. THE DOCUMENT'S STORE: first, Missing: what they answer. THE DOCUMENT'S STORE: its rows grown and put back. THE DOCUMENT'S STORE: Add: what it answers, what it leaves. (printed by gen_crefg.py) CAUSAL, DELIVERED AS THE DOCUMENT SAYS: the walk. -/
import Derived.Test.YtiamohfpohjdpaaDoorStamp
import Derived.Test.YtiamohfpohjdpaaDoorCFns
import Derived.Test.YtiamohfpohjdpaaDoorCApp
import Derived.Deep.CutBlock
import Derived.Test.YtiamohfpohjdpaaDoorCAdd
import Derived.Test.YtiamohfpohjdpaaDoorCLoop
import Derived.Test.YtiamohfpohjdpaaDoorORefC
import Derived.Test.YtiamohfpohjdpaaDoorOSorted
namespace Go.Proofs.YtiamohfpohjdpaaDoor
open Go.RowKit
set_option linter.unusedVariables false
set_option linter.unusedSimpArgs false
def cmpR (n r m q : Int) : Int := if n < m then -1 else if m < n then 1 else if r < q then -1 else if q < r then 1 else 0
theorem cmpR_eq (n r m q : Int) : cmpR n r m q = cmpS n r m q := by
  unfold cmpR cmpS cmpI; repeat (first | omega | split)
set_option maxHeartbeats 2000000 in
theorem refCompare_any (n r m q : Int) (w : World) : Calls Tryd.prog 61 #[st n r, st m q] w fun e w' => e = .returned (.int .i64 (cmpS n r m q)) ∧ Below w.heap.size w w' := by
  rw [← cmpR_eq]
  by_cases h1 : n < m
  · rw [show cmpR n r m q = -1 from if_pos h1]
    go_enter Tryd.func61, Tryd.ntmps61
    go_wp2
    go_ret
    exact ⟨rfl, by (repeat' (first | with_reducible exact Below.refl _ _ | with_reducible assumption | with_reducible refine below_ext ?_ ?_ | with_reducible refine Below.alloc ?_ ?_ _ | with_reducible refine Below.drew ?_ | with_reducible refine below_drewN ?_ _ | with_reducible refine Below.setCell ?_ ?_ _ | go_size))⟩
  · by_cases h2 : m < n
    · rw [show cmpR n r m q = 1 from (if_neg h1).trans (if_pos h2)]
      go_enter Tryd.func61, Tryd.ntmps61
      go_wp2
      go_ret
      exact ⟨rfl, by (repeat' (first | with_reducible exact Below.refl _ _ | with_reducible assumption | with_reducible refine below_ext ?_ ?_ | with_reducible refine Below.alloc ?_ ?_ _ | with_reducible refine Below.drew ?_ | with_reducible refine below_drewN ?_ _ | with_reducible refine Below.setCell ?_ ?_ _ | go_size))⟩
    · by_cases h3 : r < q
      · rw [show cmpR n r m q = -1 from (if_neg h1).trans ((if_neg h2).trans (if_pos h3))]
        go_enter Tryd.func61, Tryd.ntmps61
        go_wp2
        go_ret
        exact ⟨rfl, by (repeat' (first | with_reducible exact Below.refl _ _ | with_reducible assumption | with_reducible refine below_ext ?_ ?_ | with_reducible refine Below.alloc ?_ ?_ _ | with_reducible refine Below.drew ?_ | with_reducible refine below_drewN ?_ _ | with_reducible refine Below.setCell ?_ ?_ _ | go_size))⟩
      · by_cases h4 : q < r
        · rw [show cmpR n r m q = 1 from (if_neg h1).trans ((if_neg h2).trans ((if_neg h3).trans (if_pos h4)))]
          go_enter Tryd.func61, Tryd.ntmps61
          go_wp2
          go_ret
          exact ⟨rfl, by (repeat' (first | with_reducible exact Below.refl _ _ | with_reducible assumption | with_reducible refine below_ext ?_ ?_ | with_reducible refine Below.alloc ?_ ?_ _ | with_reducible refine Below.drew ?_ | with_reducible refine below_drewN ?_ _ | with_reducible refine Below.setCell ?_ ?_ _ | go_size))⟩
        · rw [show cmpR n r m q = 0 from (if_neg h1).trans ((if_neg h2).trans ((if_neg h3).trans (if_neg h4)))]
          go_enter Tryd.func61, Tryd.ntmps61
          go_wp2
          go_ret
          exact ⟨rfl, by (repeat' (first | with_reducible exact Below.refl _ _ | with_reducible assumption | with_reducible refine below_ext ?_ ?_ | with_reducible refine Below.alloc ?_ ?_ _ | with_reducible refine Below.drew ?_ | with_reducible refine below_drewN ?_ _ | with_reducible refine Below.setCell ?_ ?_ _ | go_size))⟩
end Go.Proofs.YtiamohfpohjdpaaDoor
namespace Go.Proofs.YtiamohfpohjdpaaDoor
open Go.RowKit Go.Joins
set_option linter.unusedSimpArgs false
set_option linter.unusedVariables false
open Classical

/-- an operation of replica 0, the n-th, and on what it leans -/
def oneO (n : Int) : OpG := ⟨n, 0, ⟨n - 1, 0, 0, 0, 0, 0, 0, 0⟩, 1, 0, 0, 2, 97, 0, 0, ⟨#[]⟩, ⟨#[]⟩, ⟨#[]⟩, 0, 0, false, 0, 0, false⟩
theorem oneO_fine (n : Int) : (oneO n).fine := ⟨Nat.zero_le _, Nat.zero_le _, Nat.zero_le _⟩
theorem bldOne (n m : Int) (w : World) : (Instr.build 39 #[(0, .agg #[.int .i64 n, .int .i64 0]), (1, .agg #[.int .i64 m, .int .i64 0, .int .i64 0, .int .i64 0, .int .i64 0, .int .i64 0, .int .i64 0, .int .i64 0]), (2, .int .i64 1), (4, .int .i64 2), (5, .int .i64 97)]).run Tryd.prog w =
    .ok (OpG.val ⟨n, 0, ⟨m, 0, 0, 0, 0, 0, 0, 0⟩, 1, 0, 0, 2, 97, 0, 0, ⟨#[]⟩, ⟨#[]⟩, ⟨#[]⟩, 0, 0, false, 0, 0, false⟩) w := run_build w 39 _ _ (by kernel_rfl)
theorem bldSt1 (n : Int) (w : World) : (Instr.build 31 #[(0, .int .i64 n)]).run Tryd.prog w = .ok (st n 0) w := run_build w 31 _ _ (by kernel_rfl)
theorem bldVe1 (n : Int) (w : World) : (Instr.build 33 #[(0, .int .i64 n)]).run Tryd.prog w = .ok (V8.val ⟨n, 0, 0, 0, 0, 0, 0, 0⟩) w := run_build w 33 _ _ (by kernel_rfl)
set_option maxRecDepth 100000 in
theorem one_any (n : Int) (h1 : 0 < n) (h2 : n < 100) (w : World) : Calls Tryd.prog 20 #[.int .i64 n] w fun e w' => e = .returned (oneO n).val ∧ Below w.heap.size w w' := by
  have hw : IntKind.i64.wrap (n - 1) = n - 1 := by rw [IntKind.wrap_i64]; omega
  have g1 := bldSt1 n
  have g2 := bldVe1 (n - 1)
  have g3 := bldOne n (n - 1)
  go_enter Tryd.func20, Tryd.ntmps20
  go_wp2_with (refine wpList_store_fresh rfl (.tmp 2) (.tmp 8) 39 rfl (w.heap.size) _ _ rfl (by simp) rfl (by kernel_rfl) (by kernel_rfl) (by kernel_rfl) ?_)
  refine bodyPost_ret (results_cell (b := w.heap.size) rfl rfl (run_loadAt_whole Tryd.underlying39 (by kernel_rfl) (blk_new _ _))) rfl ?_
  exact ⟨rfl, (Below.refl _ _).alloc (Nat.le_refl _) _⟩
theorem one_right1 : (oneO 1).rightP = true := by kernel_rfl
theorem one_right2 : (oneO 2).rightP = true := by kernel_rfl
theorem one_dep (n : Int) (r : Int) (h0 : 0 ≤ r) (h8 : r < 8) : MO.dep (oneO n) r = if r = 0 then n - 1 else 0 := by
  show (oneO n).d.at r = _
  rcases known8 h0 h8 with rfl | rfl | rfl | rfl | rfl | rfl | rfl | rfl <;> rfl
theorem one_ok {n : Int} (h : (oneO n).rightP = true) : MO.ok (oneO n) := ⟨h, oneO_fine n⟩
theorem one_id (n : Int) : MO.id (oneO n) = (n, 0) := rfl
theorem alive_two {res A W : List OpG} {e : Int} (h : Cz.AddR MO SortOf [] [] (oneO 2) res e A W) : res = [] ∧ e = 0 ∧ A = [] ∧ W = [oneO 2] := by
  have hnr : ¬ Cz.Ready MO [] (oneO 2) := fun h => by
    have := h.1 0 (by omega) (by omega) (by rw [one_dep _ _ (by omega) (by omega)]; decide)
    cases this
  have hnl : ¬ Cz.Late MO [] (oneO 2) := by
    rintro (⟨r, h0, h8, hne, hle, -⟩ | h)
    · rw [one_dep _ _ h0 h8] at hne hle
      rw [Cz.known_nil] at hle
      split at hle
      · omega
      · simp_all
    · rw [one_id, one_dep _ _ (by decide) (by decide), Cz.known_nil] at h
      simp at h
  cases h with
  | bad h => exact absurd (one_ok one_right2) h
  | there _ h => cases h
  | late _ _ h => exact absurd h hnl
  | pend _ _ _ _ h => simp at h
  | wait _ _ _ _ _ hs => exact ⟨rfl, rfl, rfl, by have := hs.perm; simpa using this⟩
  | done _ _ _ h => exact absurd h hnr
theorem alive_one {res A W : List OpG} {e : Int} (h : Cz.AddR MO SortOf [] [oneO 2] (oneO 1) res e A W) : res.length = 2 ∧ e = 0 ∧ A = [oneO 1, oneO 2] := by
  have hr : Cz.Ready MO [] (oneO 1) := ⟨fun r h0 h8 hne => by
    rw [one_dep _ _ h0 h8] at hne
    split at hne <;> simp at hne, by rw [one_id, one_dep _ _ (by decide) (by decide)]; rfl⟩
  have hnl : ¬ Cz.Late MO [] (oneO 1) := by
    rintro (⟨r, h0, h8, hne, hle, -⟩ | h)
    · rw [one_dep _ _ h0 h8] at hne
      split at hne <;> simp at hne
    · rw [one_id, one_dep _ _ (by decide) (by decide), Cz.known_nil] at h
      simp at h
  have hid : MO.id (oneO 1) ∉ Cz.ids MO ([] ++ [oneO 2]) := by
    intro h
    obtain ⟨y, hy, e⟩ := Cz.mem_ids.1 h
    simp at hy
    subst hy
    rw [one_id, one_id] at e
    cases e
  have hr2 : Cz.Ready MO ([] ++ [oneO 1]) (oneO 2) := ⟨fun r h0 h8 hne => by
    rw [one_dep _ _ h0 h8] at hne ⊢
    split at hne
    · rename_i h
      subst h
      simp
      exact Cz.mem_ids.2 ⟨oneO 1, by simp, rfl⟩
    · simp at hne, by rw [one_id, one_dep _ _ (by decide) (by decide)]; rfl⟩
  cases h with
  | bad h => exact absurd (one_ok one_right1) h
  | there _ h => exact absurd h hid
  | late _ _ h => exact absurd h hnl
  | pend _ _ _ h => exact absurd hr h
  | wait _ _ _ h => exact absurd hr h
  | @done A1 W1 _ _ _ _ hd =>
    have hdr := hd.drn
    obtain ⟨B, hB⟩ := hdr.ext
    generalize hAW : [oneO 2] = W0 at hd
    cases hd with
    | stop h => exact absurd hr2 (h _ (by rw [← hAW]; simp))
    | @step _ U V _ _ x hU hx hd =>
      cases U with
      | nil =>
        simp at hAW
        obtain ⟨rfl, rfl⟩ := hAW
        obtain ⟨rfl, rfl⟩ := hd.nil
        exact ⟨rfl, rfl, rfl⟩
      | cons u U => simp at hAW
theorem run_eqV (a b : V8) (w : World) : (Op.equalIn 10000 33 a.val b.val).run Tryd.prog w = .ok (a.beq b) w := run_eqv _ _ _ _ _ _ _ _ _ _ _ _ _ _ _ _ w
theorem AddT.deep {s : Nat} {A W : List OpG} {F : Nat → Prop} {o : OpG} {w w' : World} {e : Ending} {B : Nat} (h : AddT s A W F o w e w') (hB : B ≤ w.heap.size) (hF : ∀ x, F x → B ≤ x) :
    ∃ ao n c res err A' W', e = .returned (.tuple #[.slice ao n c, .int .i64 err]) ∧ n = res.length ∧ Cz.AddR MO SortOf A W o res err A' W' ∧ StoreIs w' s A' W' (fun x => F x ∨ w.heap.size ≤ x) ∧ Ch F w w' ∧ Below B w w' := by
  obtain ⟨v, res, err, A', W', rfl, h1, h2, h3, h4, h5⟩ := h
  obtain ⟨ao, c, rfl, -, -⟩ := h4.at'
  exact ⟨ao, _, c, res, err, A', W', rfl, rfl, h1, h2, h3, h3.below hB (fun x hx h => by have := hF x h; omega)⟩
set_option maxHeartbeats 8000000 in
set_option maxRecDepth 100000 in
theorem alive_any (w : World) : Calls Tryd.prog 9 #[] w fun e w' => e = .returned (.bool true) ∧ Below w.heap.size w w' := by
  have NS := Lib.hid (newS_any w)
  have O2 := Lib.hid (fun z => one_any 2 (by decide) (by decide) z)
  have O1 := Lib.hid (fun z => one_any 1 (by decide) (by decide) z)
  go_enter Tryd.func9, Tryd.ntmps9
  go_wp2_with fail
  with_reducible refine NS.out.mono ?_
  rintro e w1 ⟨rfl, hS, hb⟩
  have H1 := Lib.hid (And.intro hS hb)
  clear hS hb NS
  go_wp2_with fail
  with_reducible refine (O2.out _).mono ?_
  rintro e w2 ⟨rfl, hb⟩
  have H2 := Lib.hid (And.intro (H1.out.1.later hb) (H1.out.2.trans (hb.mono H1.out.2.size)))
  clear hb H1
  have H2S := H2.out.2.size
  have HA := Lib.hid (add_any w2 (w.heap.size + 2) [] [] _ H2.out.1 Cz.Stb.nil (by simp) (oneO 2) (oneO_fine 2))
  go_wp2_with fail
  with_reducible refine HA.out.mono ?_
  intro e w3 hT
  obtain ⟨ao, n, c, res, err, A', W', rfl, hn, hR, hS3, hc3, hb3⟩ := hT.deep (B := w.heap.size) H2.out.2.size (fun x h => h)
  obtain ⟨rfl, rfl, rfl, rfl⟩ := alive_two hR
  subst hn
  have H3 := Lib.hid (And.intro hS3 (And.intro (H2.out.2.trans hb3) (hR.stb (fun l l2 h => h.perm) Cz.Stb.nil).1))
  clear hT hR hS3 hc3 hb3 HA H2
  go_wp2_with fail
  with_reducible refine (O1.out _).mono ?_
  rintro e w4 ⟨rfl, hb⟩
  have H4 := Lib.hid (And.intro (H3.out.1.later hb) (And.intro (H3.out.2.1.trans (hb.mono H3.out.2.1.size)) H3.out.2.2))
  clear hb
  have HA := Lib.hid (add_any w4 (w.heap.size + 2) [] [oneO 2] _ H4.out.1 H4.out.2.2 (by simp) (oneO 1) (oneO_fine 1))
  clear H3
  go_wp2_with fail
  with_reducible refine HA.out.mono ?_
  intro e w5 hT
  obtain ⟨ao2, n2, c2, res2, err2, A2, W2, rfl, hn2, hR, hS5, hc5, hb5⟩ := hT.deep (B := w.heap.size) H4.out.2.1.size (fun x h => h.elim id (fun h => Nat.le_trans H2S h))
  obtain ⟨hl, rfl, rfl⟩ := alive_one hR
  rw [hl] at hn2
  subst hn2
  have H5 := Lib.hid (And.intro hS5 (H4.out.2.1.trans hb5))
  clear hT hR hS5 hc5 hb5 HA hl H4
  have hkv : knownV [oneO 1, oneO 2] = ⟨2, 0, 0, 0, 0, 0, 0, 0⟩ := rfl
  have HKN := Lib.hid (knownS_any w5 _ _ _ _ H5.out.1)
  rw [hkv] at HKN
  have hev : ∀ y, (Op.equalIn 10000 33 (.agg #[.int .i64 2, .int .i64 0, .int .i64 0, .int .i64 0, .int .i64 0, .int .i64 0, .int .i64 0, .int .i64 0]) (.agg #[.int .i64 2, .int .i64 0, .int .i64 0, .int .i64 0, .int .i64 0, .int .i64 0, .int .i64 0, .int .i64 0])).run Tryd.prog y = .ok true y := fun y => (run_eqV ⟨2, 0, 0, 0, 0, 0, 0, 0⟩ ⟨2, 0, 0, 0, 0, 0, 0, 0⟩ y).trans rfl
  have hgd := run_guard
  have hbd := bldVe1 2
  go_wp2_with fail
  with_reducible refine HKN.out.mono ?_
  rintro e w6 ⟨rfl, hb⟩
  have H6 := Lib.hid (H5.out.2.trans (hb.mono H5.out.2.size))
  clear hb HKN
  go_wp2
  go_ret
  exact ⟨rfl, H6.out⟩
end Go.Proofs.YtiamohfpohjdpaaDoor
namespace Go.Proofs.YtiamohfpohjdpaaDoor
open Go.RowKit Go.Joins
set_option linter.unusedSimpArgs false
set_option linter.unusedVariables false
theorem run_opGuardN (xs ys : Array Value) (x y : Operand) (w : World) : (eqGuard .neq 39 x y (.agg xs) (.agg ys)).run Tryd.prog w = .ok () w := by kernel_rfl
theorem op_eq {a b : OpG} {c : Bool} (h : a.beq b = c) (w : World) : (Op.equalIn 10000 39 a.val b.val).run Tryd.prog w = .ok c w := by subst h; exact eqOp_run a b w
/-- a cell of a list, in a later world -/
theorem at_ext {x : World} {b off i : Nat} {o : OpG} (h : ∀ (j : Nat) (v : Value), o.cells[j]? = some v → x.cell? ⟨b, off + i * 26 + j, none⟩ = some v) (hb : b < x.heap.size) : ∀ y, (∃ n, y = ext x n) → ∀ (j : Nat) v, o.cells[j]? = some v → y.cell? ⟨b, off + i * 26 + j, none⟩ = some v := by
  rintro y ⟨n, rfl⟩ j v hv
  exact (ext_cell x n _ hb).trans (h j v hv)
set_option maxHeartbeats 4000000 in
theorem sameOps_any (w : World) (ao bo : Option Addr) (ca cb : Nat) (L M : List OpG) (hA : OpsAt w ao L) (hB : OpsAt w bo M) (hl : L.length < 4294967296) :
    Calls Tryd.prog 14 #[.slice ao L.length ca, .slice bo M.length cb] w fun e w' => e = .returned (.bool (decide (L = M))) ∧ Below w.heap.size w w' := by
  by_cases hn : L.length = M.length
  · have HA := Lib.hid hA
    have HB := Lib.hid hB
    have hgn := run_opGuardN
    have hee : ((L.length : Int) != (M.length : Int)) = false := by simp [hn]
    clear hA hB
    go_enter Tryd.func14, Tryd.ntmps14
    go_wp2
    clear hee
    go_loopw [5] (fun i w' => ∃ k : Nat, i = .int .i64 k ∧ k ≤ L.length ∧ L.take k = M.take k ∧ Below w.heap.size w w') (fun i _ => L.length - (intOf i).toNat)
    case atStart => exact ⟨0, rfl, by omega, by simp, Below.refl _ _⟩
    case round =>
      obtain ⟨k, rfl, hk, htk, hbel⟩ := hrel
      have HBL := Lib.hid hbel
      clear hbel
      by_cases hkl : k < L.length
      · obtain ⟨p, hp⟩ : ∃ p, L[k]? = some p := ⟨_, List.getElem?_eq_getElem hkl⟩
        obtain ⟨q, hq⟩ : ∃ q, M[k]? = some q := ⟨_, List.getElem?_eq_getElem (by omega)⟩
        obtain ⟨b, off, rfl, hb1, hc1⟩ := (HA.out.below HBL.out) k p hp
        obtain ⟨b', off', rfl, hb2, hc2⟩ := (HB.out.below HBL.out) k q hq
        have HT := Lib.hid htk
        have t1 : L.take (k + 1) = L.take k ++ [p] := by
          obtain ⟨h1, rfl⟩ := List.getElem?_eq_some_iff.1 hp
          exact List.take_succ_eq_append_getElem h1
        have t2 : M.take (k + 1) = M.take k ++ [q] := by
          obtain ⟨h1, rfl⟩ := List.getElem?_eq_some_iff.1 hq
          exact List.take_succ_eq_append_getElem h1
        have T1 := Lib.hid t1
        have T2 := Lib.hid t2
        have C1 := Lib.hid (at_ext hc1 hb1)
        have C2 := Lib.hid (at_ext hc2 hb2)
        clear htk t1 t2 hc1 hc2 hb1 hb2 hp hq
        have b0 : (0 : Int) ≤ (k : Int) := by omega
        have b1 : (k : Int) < (L.length : Int) := by omega
        have b2 : (k : Int) < (M.length : Int) := by omega
        by_cases hxy : p = q
        · have heq := fun w => op_eq (show p.beq q = true from (OpG.beq_iff p q).2 hxy) w
          have HXY := Lib.hid hxy
          clear hxy
          go_upto_region 6 with fail
          refine region_ext (by kernel_rfl) (by kernel_rfl) ?_
          iterate 3 (go_big_quiet_step (fail))
          go_big_quiet_want
          refine quiet_loadS (.tmp 19) 39 rfl (b := b) (off := off + k * 26) (cs := OpG.cells p) rfl Tryd.underlying39 (by kernel_rfl) C1.out ?_
          go_big_quiet_on
          simp only [Act.put, List.setIfInBounds_toArray, List.set_cons_zero, List.set_cons_succ]
          iterate 3 (go_big_quiet_step (fail))
          go_big_quiet_want
          refine quiet_loadS (.tmp 23) 39 rfl (b := b') (off := off' + k * 26) (cs := OpG.cells q) rfl Tryd.underlying39 (by kernel_rfl) C2.out ?_
          go_big_quiet_on
          simp only [Act.put, List.setIfInBounds_toArray, List.set_cons_zero, List.set_cons_succ]
          repeat (go_big_quiet_step (fail))
          refine wpQuiet_nil ?_
          rintro _ ⟨nq, rfl⟩
          go_wp2_with fail
          go_roundw
          case rel => exact ⟨k + 1, by go_num, by omega, by rw [T1.out, T2.out, HT.out, HXY.out], HBL.out.trans ((ext_below wr nq).mono HBL.out.size)⟩
          case measure => first | omega | (simp [intOf]; omega) | (simp [RowKit.intOf]; omega)
        · have heq := fun w => op_eq (show p.beq q = false from by rw [Bool.eq_false_iff]; exact fun e => hxy ((OpG.beq_iff p q).1 e)) w
          have HXY := Lib.hid hxy
          have HD := Lib.hid (show decide (L = M) = false from decide_eq_false (fun e => by
            subst e
            have := List.append_inj (T1.out.symm.trans T2.out) rfl
            exact HXY.out (by simpa using this.2)))
          clear hxy
          go_upto_region 6 with fail
          refine region_ext (by kernel_rfl) (by kernel_rfl) ?_
          iterate 3 (go_big_quiet_step (fail))
          go_big_quiet_want
          refine quiet_loadS (.tmp 19) 39 rfl (b := b) (off := off + k * 26) (cs := OpG.cells p) rfl Tryd.underlying39 (by kernel_rfl) C1.out ?_
          go_big_quiet_on
          simp only [Act.put, List.setIfInBounds_toArray, List.set_cons_zero, List.set_cons_succ]
          iterate 3 (go_big_quiet_step (fail))
          go_big_quiet_want
          refine quiet_loadS (.tmp 23) 39 rfl (b := b') (off := off' + k * 26) (cs := OpG.cells q) rfl Tryd.underlying39 (by kernel_rfl) C2.out ?_
          go_big_quiet_on
          simp only [Act.put, List.setIfInBounds_toArray, List.set_cons_zero, List.set_cons_succ]
          repeat (go_big_quiet_step (fail))
          refine wpQuiet_nil ?_
          rintro _ ⟨nq, rfl⟩
          go_wp2_with fail
          go_ret
          exact ⟨ret_bool HD.out.symm, HBL.out.trans ((ext_below wr nq).mono HBL.out.size)⟩
      · have HD := Lib.hid (show decide (L = M) = true from decide_eq_true (by
          have hke : k = L.length := by omega
          rw [hke, List.take_length] at htk
          rw [htk, hn, List.take_length]))
        have dk : decide ((k : Int) < (L.length : Int)) = false := decide_eq_false (by omega)
        clear htk
        go_wp2
        go_ret
        exact ⟨ret_bool HD.out.symm, HBL.out⟩
  · have hne : L ≠ M := fun e => hn (by rw [e])
    have hd : decide (L = M) = false := decide_eq_false hne
    have hee : ((L.length : Int) != (M.length : Int)) = true := by simp; omega
    rw [hd]
    clear hA hB
    go_enter Tryd.func14, Tryd.ntmps14
    go_wp2
    go_ret
    exact ⟨rfl, Below.refl _ _⟩
end Go.Proofs.YtiamohfpohjdpaaDoor
namespace Go.Proofs.YtiamohfpohjdpaaDoor
open Go.RowKit Go.Joins
set_option linter.unusedSimpArgs false
set_option linter.unusedVariables false
open Classical

/-- a store that came about by at most k operations; F: its blocks -/
structure SF (s : Nat) (A W : List OpG) (k : Nat) (F : Nat → Prop) (z : World) : Prop where
  st : StoreIs z s A W F
  bd : ∀ x, F x → x < z.heap.size
  stb : Cz.Stb MO A W
  len : A.length + W.length ≤ k
section
variable {s t k m : Nat} {A W B V : List OpG} {F G : Nat → Prop} {z z' : World}
theorem SF.later (h : SF s A W k F z) (b : Below z.heap.size z z') : SF s A W k F z' := ⟨h.st.later b, fun x hx => Nat.lt_of_lt_of_le (h.bd x hx) b.size, h.stb, h.len⟩
theorem SF.ch (h : SF s A W k F z) (c : Ch G z z') (hG : ∀ x, F x → ¬ G x) : SF s A W k F z' := ⟨h.st.ch c hG, fun x hx => Nat.lt_of_lt_of_le (h.bd x hx) c.size, h.stb, h.len⟩
theorem SF.le (h : SF s A W k F z) (hk : k ≤ m) : SF s A W m F z := ⟨h.st, h.bd, h.stb, Nat.le_trans h.len hk⟩
theorem SF.alen (h : SF s A W k F z) : A.length ≤ k := by have := h.len; omega
theorem SF.wlen (h : SF s A W k F z) : W.length ≤ k := by have := h.len; omega
theorem SF.fine (h : SF s A W k F z) {x : OpG} (hx : x ∈ A ++ W) : x.fine := (h.stb.ok x hx).2
theorem newF_any (w : World) : Calls Tryd.prog 8 #[] w fun e w' => ∃ s, e = .returned (ptr s) ∧ (∃ F, SF s [] [] 0 F w' ∧ ∀ x, F x → w.heap.size ≤ x) ∧ Below w.heap.size w w' := by
  refine (newS_any w).mono ?_
  rintro e w' ⟨rfl, h1, h2⟩
  exact ⟨_, rfl, ⟨_, ⟨h1.bnd, fun x hx => hx.2, Cz.Stb.nil, by simp⟩, fun x hx => hx.1⟩, h2⟩
theorem StoreIs.bnd (h : StoreIs z s A W F) : StoreIs z s A W (fun x => F x ∧ x < z.heap.size) := StoreT.bnd h
theorem SF.add (h : SF s A W k F z) (hk : k < 4000) (o : OpG) (hf : o.fine) : Calls Tryd.prog 10 #[ptr s, o.val] z fun e z' => ∃ ao c n res err A' W' F', e = .returned (.tuple #[.slice ao n c, .int .i64 err]) ∧ n = res.length ∧ Cz.AddR MO SortOf A W o res err A' W' ∧ SF s A' W' (k + 1) F' z' ∧ Ch F z z' ∧ (∀ x, F' x → F x ∨ z.heap.size ≤ x) ∧ OwnO z' z.heap.size (.slice ao n c) res := by
  refine (add_any z s A W F h.st h.stb (by have := h.len; omega) o hf).mono ?_
  rintro e z' ⟨v, res, err, A', W', rfl, h1, h2, h3, h4, h5⟩
  obtain ⟨ao, c, rfl, -, -⟩ := h4.at'
  have hst := h1.stb (fun l l2 h => h.perm) h.stb
  exact ⟨ao, c, _, res, err, A', W', _, rfl, rfl, h1, ⟨StoreT.bnd h2, fun x hx => hx.2, hst.1, by have := hst.2.1; have := h.len; omega⟩, h3, fun x hx => hx.1, h4⟩
theorem SF.all (h : SF s A W k F z) (hk : k < 4000) : Calls Tryd.prog 11 #[ptr s] z fun e z' => ∃ ao n c, e = .returned (.slice ao n c) ∧ n = A.length ∧ OwnO z' z.heap.size (.slice ao n c) A ∧ Below z.heap.size z z' := by
  refine (all_any z s A W F h.st (by have := h.len; omega)).mono ?_
  rintro e z' ⟨v, rfl, h1, h2⟩
  obtain ⟨ao, c, rfl, -, -⟩ := h1.at'
  exact ⟨ao, _, c, rfl, rfl, h1, h2⟩
theorem SF.pending (h : SF s A W k F z) (hk : k < 4000) : Calls Tryd.prog 13 #[ptr s] z fun e z' => ∃ ao n c, e = .returned (.slice ao n c) ∧ n = W.length ∧ OwnO z' z.heap.size (.slice ao n c) W ∧ Below z.heap.size z z' := by
  refine (pending_any z s A W F h.st (by have := h.len; omega)).mono ?_
  rintro e z' ⟨v, rfl, h1, h2⟩
  obtain ⟨ao, c, rfl, -, -⟩ := h1.at'
  exact ⟨ao, _, c, rfl, rfl, h1, h2⟩
theorem SF.known (h : SF s A W k F z) : Calls Tryd.prog 12 #[ptr s] z fun e z' => e = .returned (knownV A).val ∧ Below z.heap.size z z' := knownS_any z s A W F h.st
theorem SF.missing (h : SF s A W k F z) (hk : k < 4000) (v : V8) (n : Int) : Calls Tryd.prog 18 #[ptr s, v.val, .int .i64 n] z fun e z' => ∃ ao m c, e = .returned (.slice ao m c) ∧ m = (missL v n A).length ∧ OwnO z' z.heap.size (.slice ao m c) (missL v n A) ∧ Below z.heap.size z z' := by
  refine (missing_any z s A W F h.st (by have := h.len; omega) v n).mono ?_
  rintro e z' ⟨u, rfl, h1, h2⟩
  obtain ⟨ao, c, rfl, -, -⟩ := h1.at'
  exact ⟨ao, _, c, rfl, rfl, h1, h2⟩
/-- one that is there, once more -/
theorem add_there {o : OpG} {res A' W' : List OpG} {e : Int} (h : Cz.AddR MO SortOf A W o res e A' W') (hok : MO.ok o) (hin : MO.id o ∈ Cz.ids MO (A ++ W)) : res = [] ∧ e = 0 ∧ A' = A ∧ W' = W := by
  cases h with
  | bad h => exact absurd hok h
  | there => exact ⟨rfl, rfl, rfl, rfl⟩
  | late _ h => exact absurd hin h
  | pend _ h => exact absurd hin h
  | wait _ h => exact absurd hin h
  | done _ h => exact absurd hin h
theorem add_bad {o : OpG} {res A' W' : List OpG} {e : Int} (h : Cz.AddR MO SortOf A W o res e A' W') (hok : ¬ MO.ok o) : res = [] ∧ e = 71 ∧ A' = A ∧ W' = W := by
  cases h with
  | bad h => exact ⟨rfl, rfl, rfl, rfl⟩
  | there h => exact absurd h hok
  | late h => exact absurd h hok
  | pend h => exact absurd h hok
  | wait h => exact absurd h hok
  | done h => exact absurd h hok
end
def nulO : OpG := ⟨0, 0, V8.zero, 0, 0, 0, 0, 0, 0, 0, ⟨#[]⟩, ⟨#[]⟩, ⟨#[]⟩, 0, 0, false, 0, 0, false⟩
theorem nulO_bad : ¬ MO.ok nulO := fun h => by have h1 : nulO.rightP = false := by kernel_rfl
                                               rw [h.1] at h1; cases h1
theorem nulO_fine : nulO.fine := ⟨Nat.zero_le _, Nat.zero_le _, Nat.zero_le _⟩
theorem bldO0 (w : World) : (Instr.build 39 #[]).run Tryd.prog w = .ok nulO.val w := run_build w 39 _ _ (by kernel_rfl)
/-- a row of operations that a law keeps -/
structure KR (w0 : Nat) (ao : Option Addr) (n c : Nat) (L : List OpG) (F : Nat → Prop) (z : World) : Prop where
  own : OwnO z w0 (.slice ao n c) L
  nf : ∀ b, (Value.slice ao n c).ownBlock = some b → ¬ F b
section
variable {w0 n c : Nat} {ao : Option Addr} {L : List OpG} {F F' G : Nat → Prop} {z z' : World}
theorem KR.later (h : KR w0 ao n c L F z) (b : Below z.heap.size z z') : KR w0 ao n c L F z' := ⟨h.own.later b, h.nf⟩
theorem KR.step (h : KR w0 ao n c L F z) (c' : Ch F z z') (hF : ∀ x, F' x → F x ∨ z.heap.size ≤ x) : KR w0 ao n c L F' z' :=
  ⟨h.own.ch c' h.nf, fun b hb hx => (hF b hx).elim (h.nf b hb) (fun h2 => by have := own_lt h.own hb; omega)⟩
theorem KR.new (h : OwnO z w0 (.slice ao n c) L) (hF : ∀ x, F x → x < w0) : KR w0 ao n c L F z := ⟨h, fun b hb hx => by have := (World.ownsRow.lt h b hb).1; have := hF b hx; omega⟩
theorem KR.get (h : KR w0 ao n c L F z) {i : Nat} {o : OpG} (hi : L[i]? = some o) : n = L.length ∧ ∃ b off, ao = some ⟨b, off, none⟩ ∧ b < z.heap.size ∧ ∀ (j : Nat) v, o.cells[j]? = some v → z.cell? ⟨b, off + i * 26 + j, none⟩ = some v := by
  obtain ⟨h1, h2⟩ := h.own.at
  exact ⟨h1, h2 i o hi⟩
end
end Go.Proofs.YtiamohfpohjdpaaDoor
namespace Go.Proofs.YtiamohfpohjdpaaDoor
open Go.RowKit Go.Joins
set_option linter.unusedSimpArgs false
set_option linter.unusedVariables false
/-- the store of a law, made in the law's own world -/
structure SL (w : World) (s : Nat) (A W : List OpG) (k : Nat) (F : Nat → Prop) (z : World) : Prop where
  sf : SF s A W k F z
  up : ∀ x, F x → w.heap.size ≤ x
  b : Below w.heap.size w z
section
variable {w z z' : World} {s k m : Nat} {A W A' W' : List OpG} {F F' : Nat → Prop}
theorem SL.later (h : SL w s A W k F z) (b : Below z.heap.size z z') : SL w s A W k F z' := ⟨h.sf.later b, h.up, h.b.trans (b.mono h.b.size)⟩
theorem SL.turn (h : SL w s A W k F z) (h2 : SF s A' W' m F' z') (c : Ch F z z') (hF : ∀ x, F' x → F x ∨ z.heap.size ≤ x) : SL w s A' W' m F' z' :=
  ⟨h2, fun x hx => (hF x hx).elim (h.up x) (fun h3 => Nat.le_trans h.b.size h3), ((Ch.of_below (F := fun _ => False) h.b).trans c (fun x hx e => by have := h.up x e; omega)).none⟩
theorem OpBox.put {o p : OpG} {w y y2 : World} (h : OpBox o w y) (c : Ch (fun x => x = w.heap.size) y y2) (hy : y2.heap[w.heap.size]? = some (.cells p.cells 39 (0, 0))) : OpBox p w y2 :=
  ⟨((Ch.of_below (F := fun _ => False) h.1).trans c (fun x hx e => by omega)).none, hy⟩
end
set_option maxHeartbeats 8000000 in
set_option maxRecDepth 100000 in
theorem ctwice_walk (L : List OpG) (ao : Option Addr) (cap : Nat) (w : World) (hL : L.length ≤ maxLen) (hfi : ∀ o ∈ L, o.fine) (hat : OpsAt w ao L) : Calls Tryd.prog 4 #[.slice ao L.length cap] w fun e w' => e = .returned (.bool true) ∧ Below w.heap.size w w' := by
  have AL := Lib.hid alive_any
  have HA := Lib.hid hat
  have HF := Lib.hid hfi
  unfold maxLen at hL
  clear hat hfi
  go_enter Tryd.func4, Tryd.ntmps4
  go_wp2_with fail
  with_reducible refine (newF_any w).mono ?_
  rintro e w1 ⟨s, rfl, ⟨F0, h1, h2⟩, hb⟩
  have H1 := Lib.hid (show SL w s [] [] 0 F0 w1 from ⟨h1, h2, hb⟩)
  clear h1 h2 hb
  go_wp2_with fail
  with_reducible refine (AL.out _).mono ?_
  rintro e w2 ⟨rfl, hb⟩
  have H2 := Lib.hid (H1.out.later hb)
  clear hb H1
  go_upto_block 0 with fail
  go_cut [] (fun y => ∃ k A W F, k ≤ 200 ∧ SL w s A W k F y)
  case first =>
    go_wp2_with fail
    go_loopw [4] (fun vi wr => ∃ (q : Nat) (A W : List OpG) (F : Nat → Prop), vi = .int .i64 q ∧ q ≤ L.length ∧ q ≤ 200 ∧ SL w s A W q F wr) (fun vi _ => L.length - (intOf vi).toNat)
    case atStart => exact ⟨0, [], [], F0, rfl, Nat.zero_le _, Nat.zero_le _, H2.out⟩
    case round =>
      obtain ⟨q, A, W, F, rfl, hq1, hq2, hs⟩ := hrel
      have HS := Lib.hid hs
      clear hs
      by_cases hk : q < L.length ∧ q < 200
      · obtain ⟨hk, h3⟩ := hk
        obtain ⟨o, ho⟩ : ∃ o, L[q]? = some o := ⟨_, List.getElem?_eq_getElem hk⟩
        obtain ⟨b, off, rfl, hbw, hc⟩ := HA.out.below HS.out.b q o ho
        have HFO := Lib.hid (HF.out o (List.mem_of_getElem? ho))
        have HC := Lib.hid hc
        have b0 : (0 : Int) ≤ (q : Int) := by omega
        have b1 : (q : Int) < (L.length : Int) := by omega
        clear hc hbw ho
        go_wp2_with (refine wpList_load_at (.tmp 35) 39 rfl rfl b (off + q * 26) o.cells rfl Tryd.underlying39 (by kernel_rfl) HC.out ?_)
        with_reducible refine (HS.out.sf.add (by omega) o HFO.out).mono ?_
        rintro e y ⟨ao2, c2, n2, res, err, A2, W2, F2, rfl, rfl, h1, h2, h3', h4, h5⟩
        have HS2 := Lib.hid (HS.out.turn h2 h3' h4)
        clear h1 h2 h3' h4 h5
        go_wp2
        go_roundw
        case rel => exact ⟨q + 1, A2, W2, F2, by go_num, by omega, by omega, HS2.out⟩
        case measure => simp [intOf]; omega
      · rcases (show (q < L.length ∧ ¬ q < 200) ∨ ¬ q < L.length by omega) with ⟨g1, g2⟩ | g1
        all_goals
          go_wp2_with fail
          go_meet
          exact ⟨q, A, W, F, hq2, HS.out⟩
  case rest =>
    obtain ⟨k, A, W, F, hk2, hs⟩ := hcut
    obtain ⟨wk, hwk⟩ : ∃ wk, wk = wc := ⟨_, rfl⟩
    subst hwk
    have HS := Lib.hid hs
    clear hs H2 HA HF
    go_wp2_with fail
    with_reducible refine (HS.out.sf.all (by omega)).mono ?_
    rintro e w3 ⟨aa, na, ca, rfl, rfl, h1, h2⟩
    have HS3 := Lib.hid (HS.out.later h2)
    have HR3 := Lib.hid (show KR wk.heap.size aa A.length ca A F w3 from KR.new h1 HS.out.sf.bd)
    clear h1 h2
    go_wp2_with fail
    with_reducible refine (HS3.out.sf.pending (by omega)).mono ?_
    rintro e w4 ⟨aw, nw, cw, rfl, rfl, h1, h2⟩
    have HS4 := Lib.hid (HS3.out.later h2)
    have HR4 := Lib.hid (HR3.out.later h2)
    have HW4 := Lib.hid (show KR w3.heap.size aw W.length cw W F w4 from KR.new h1 HS3.out.sf.bd)
    clear h1 h2 HS3 HR3 HS
    have hA := HS4.out.sf.alen
    have hW := HS4.out.sf.wlen
    have hbd := bldO0
    go_wp2_with fail
    go_loopw [7] (fun vi wr => ∃ (q : Nat) (G : Nat → Prop), vi = .int .i64 q ∧ q ≤ A.length + W.length ∧ SL w s A W k G wr ∧ KR wk.heap.size aa A.length ca A G wr ∧ KR w3.heap.size aw W.length cw W G wr) (fun vi _ => A.length + W.length - (intOf vi).toNat)
    case atStart => exact ⟨0, F, rfl, Nat.zero_le _, HS4.out, HR4.out, HW4.out⟩
    case round =>
      obtain ⟨q, G, rfl, hq, hs, hr1, hr2⟩ := hrel
      have HS := Lib.hid hs
      have HR1 := Lib.hid hr1
      have HR2 := Lib.hid hr2
      clear hs hr1 hr2 HS4 HR4 HW4
      by_cases hql : q < A.length + W.length
      · obtain ⟨o, ho⟩ : ∃ o, (A ++ W)[q]? = some o := ⟨_, List.getElem?_eq_getElem (by simpa using hql)⟩
        have HOO := Lib.hid ho
        have HFO := Lib.hid (HS.out.sf.fine (List.mem_of_getElem? ho))
        clear ho
        go_upto_region 14 with (refine wpList_store_fresh rfl (.tmp 8) (.tmp 51) 39 rfl (wr.heap.size) _ _ rfl rfl rfl (by kernel_rfl) (by kernel_rfl) (by kernel_rfl) ?_)
        refine wp_let' (OpBox nulO wr) (opBox_new nulO wr) (fun y1 hy1 => ?_)
        have HX1 := Lib.hid hy1
        clear hy1
        simp only [Act.put, List.setIfInBounds_toArray, List.set_cons_zero, List.set_cons_succ]
        go_upto_if 55 with fail
        go_cut [] (fun y => OpBox o wr y)
        case first =>
          by_cases hqa : q < A.length
          · have ho := HOO.out
            rw [List.getElem?_append_left hqa] at ho
            obtain ⟨-, b, off, rfl, hb1, hc⟩ := (HR1.out.later HX1.out.1).get ho
            have HC := Lib.hid hc
            have b0 : (0 : Int) ≤ (q : Int) := by omega
            have b1 : (q : Int) < (A.length : Int) := by omega
            clear ho hc hb1
            go_wp2_with (first | refine wpList_load_at (.tmp 58) 39 rfl rfl b (off + q * 26) o.cells rfl Tryd.underlying39 (by kernel_rfl) HC.out ?_ | (refine wpList_store_row rfl (.tmp 8) (.tmp 59) 39 rfl (wr.heap.size) nulO.cells o.cells rfl rfl HX1.out.2 (by kernel_rfl) (by kernel_rfl) (by kernel_rfl) ?_; intro y2 hc2 hy2; have HY2 := Lib.hid (And.intro hc2 hy2); clear hc2 hy2))
            go_meet
            exact HX1.out.put HY2.out.1 HY2.out.2
          · obtain ⟨j, hj⟩ : ∃ j, q = A.length + j := ⟨q - A.length, by omega⟩
            have ho := HOO.out
            rw [List.getElem?_append_right (by omega), show q - A.length = j by omega] at ho
            obtain ⟨-, b, off, rfl, hb1, hc⟩ := (HR2.out.later HX1.out.1).get ho
            have HC := Lib.hid hc
            have hjl : j < W.length := by omega
            have b0 : (0 : Int) ≤ (j : Int) := by omega
            have b1 : (j : Int) < (W.length : Int) := by omega
            have dq : decide ((q : Int) < (A.length : Int)) = false := decide_eq_false (by omega)
            have ej : (q : Int) - (A.length : Int) = (j : Int) := by omega
            clear ho hc hb1 hj
            go_wp2_with (first | refine wpList_load_at (.tmp 65) 39 rfl rfl b (off + j * 26) o.cells rfl Tryd.underlying39 (by kernel_rfl) HC.out ?_ | (refine wpList_store_row rfl (.tmp 8) (.tmp 66) 39 rfl (wr.heap.size) nulO.cells o.cells rfl rfl HX1.out.2 (by kernel_rfl) (by kernel_rfl) (by kernel_rfl) ?_; intro y2 hc2 hy2; have HY2 := Lib.hid (And.intro hc2 hy2); clear hc2 hy2))
            go_meet
            exact HX1.out.put HY2.out.1 HY2.out.2
        case rest =>
          have HX := Lib.hid hcut
          clear hcut HX1
          have HS1 := Lib.hid (HS.out.later HX.out.1)
          have HR11 := Lib.hid (HR1.out.later HX.out.1)
          have HR21 := Lib.hid (HR2.out.later HX.out.1)
          go_wp2_with (refine wpList_load_whole (.tmp 8) 39 rfl rfl wr.heap.size o.cells rfl Tryd.underlying39 (by kernel_rfl) HX.out.2 ?_)
          with_reducible refine (HS1.out.sf.add (by omega) o HFO.out).mono ?_
          rintro e y ⟨ao2, c2, n2, res, err, A2, W2, F2, rfl, rfl, h1, h2, h3, h4, h5⟩
          obtain ⟨e1, e2, e3, e4⟩ := add_there h1 (HS1.out.sf.stb.ok o (List.mem_of_getElem? HOO.out)) (Cz.mem_ids.2 ⟨o, List.mem_of_getElem? HOO.out, rfl⟩)
          subst e1 e2
          rw [e3, e4] at h2
          have HS2 := Lib.hid (show SL w s A W k F2 y from HS1.out.turn ⟨h2.st, h2.bd, h2.stb, HS.out.sf.len⟩ h3 h4)
          have HR12 := Lib.hid (HR11.out.step h3 h4)
          have HR22 := Lib.hid (HR21.out.step h3 h4)
          clear h1 h2 h3 h4 h5 e3 e4
          go_wp2
          go_roundw
          case rel => exact ⟨q + 1, F2, by go_num, by omega, HS2.out, HR12.out, HR22.out⟩
          case measure => simp [intOf]; omega
      · have dq : decide ((q : Int) < (A.length : Int) + (W.length : Int)) = false := decide_eq_false (by omega)
        go_wp2_with fail
        refine (HS.out.sf.add (by omega) nulO nulO_fine).mono ?_
        rintro e y ⟨ao2, c2, n2, res, err, A2, W2, F2, rfl, rfl, h1, h2, h3, h4, h5⟩
        obtain ⟨e1, e2, e3, e4⟩ := add_bad h1 nulO_bad
        subst e1 e2
        rw [e3, e4] at h2
        have HS2 := Lib.hid (show SL w s A W k F2 y from HS.out.turn ⟨h2.st, h2.bd, h2.stb, HS.out.sf.len⟩ h3 h4)
        have HR12 := Lib.hid (HR1.out.step h3 h4)
        have HR22 := Lib.hid (HR2.out.step h3 h4)
        clear h1 h2 h3 h4 h5 e3 e4
        go_wp2_with fail
        with_reducible refine (HS2.out.sf.all (by omega)).mono ?_
        rintro e y2 ⟨a5, n5, c5, rfl, rfl, h1, h2⟩
        have hsm := sameOps_any y2 a5 aa c5 ca A A h1.at.2 (HR12.out.later h2).own.at.2 (by omega)
        rw [show decide (A = A) = true from decide_eq_true rfl] at hsm
        have HSM := Lib.hid hsm
        have HS3 := Lib.hid (HS2.out.later h2)
        have HR23 := Lib.hid (HR22.out.later h2)
        clear h1 h2 hsm
        go_wp2_with fail
        with_reducible refine HSM.out.mono ?_
        rintro e y3 ⟨rfl, hb⟩
        have HS4 := Lib.hid (HS3.out.later hb)
        have HR24 := Lib.hid (HR23.out.later hb)
        clear hb
        go_wp2_with fail
        with_reducible refine (HS4.out.sf.pending (by omega)).mono ?_
        rintro e y4 ⟨a6, n6, c6, rfl, rfl, h1, h2⟩
        have hsm := sameOps_any y4 a6 aw c6 cw W W h1.at.2 (HR24.out.later h2).own.at.2 (by omega)
        rw [show decide (W = W) = true from decide_eq_true rfl] at hsm
        have HSN := Lib.hid hsm
        have HS5 := Lib.hid (HS4.out.later h2)
        clear h1 h2 hsm
        go_wp2_with fail
        with_reducible refine HSN.out.mono ?_
        rintro e y5 ⟨rfl, hb⟩
        have HS6 := Lib.hid (HS5.out.later hb)
        clear hb
        go_wp2
        go_ret
        exact ⟨rfl, HS6.out.b⟩
end Go.Proofs.YtiamohfpohjdpaaDoor
namespace Go.Proofs.YtiamohfpohjdpaaDoor
set_option linter.unusedVariables false
set_option linter.unusedSimpArgs false
open Classical
theorem ltO_tri {a b : OpG} (h1 : ¬ ltO a b) (h2 : ¬ ltO b a) : a.id = b.id := by
  unfold ltO at h1 h2
  unfold OpG.id
  have e1 : a.n = b.n := by omega
  have e2 : a.r = b.r := by omega
  rw [e1, e2]
/-- the document's drain: among those that are ready the earliest, until none is -/
inductive Drq : List OpG → List OpG → List OpG → List OpG → Prop
  | stop {A W : List OpG} : (∀ x ∈ W, ¬ Cz.Ready MO A x) → Drq A W A W
  | step {A P Q A' W' : List OpG} {x : OpG} : Cz.Ready MO A x → (∀ y ∈ P ++ x :: Q, Cz.Ready MO A y → ¬ ltO y x) → Drq (A ++ [x]) (P ++ Q) A' W' → Drq A (P ++ x :: Q) A' W'
theorem drain_same {A W A1 W1 : List OpG} (h : Cz.Drain MO A W A1 W1) : ∀ {Wr A2 W2 : List OpG}, SortedO W → (Cz.ids MO W).Nodup → Wr.Perm W → Drq A Wr A2 W2 → A2 = A1 ∧ W2.Perm W1 ∧ SortedO W1 := by
  induction h with
  | @stop A W hno =>
    intro Wr A2 W2 hs hn hp hd
    cases hd with
    | stop _ => exact ⟨rfl, hp, hs⟩
    | step hx _ _ => exact absurd hx (hno _ (hp.mem_iff.1 (by simp)))
  | @step A U V A' W' x hU hx hd ih =>
    intro Wr A2 W2 hs hn hp hd2
    cases hd2 with
    | stop hno => exact absurd hx (hno x (hp.mem_iff.2 (by simp)))
    | @step _ P Q _ _ y hy hle hd3 =>
      have hyW : y ∈ U ++ x :: V := hp.mem_iff.1 (by simp)
      have hyx : y = x := by
        rcases List.mem_append.1 hyW with h | h
        · exact absurd hy (hU y h)
        · rcases List.mem_cons.1 h with h | h
          · exact h
          · have h1 : ¬ ltO y x := (List.pairwise_cons.1 (List.pairwise_append.1 hs).2.1).1 y h
            have h2 : ¬ ltO x y := hle x (hp.mem_iff.2 (by simp)) hx
            exact Cz.id_inj hn hyW (by simp) (ltO_tri h1 h2)
      subst hyx
      have hp2 : (P ++ Q).Perm (U ++ V) := ((List.perm_middle.symm.trans hp).trans List.perm_middle).cons_inv
      have hsub : (U ++ V).Sublist (U ++ y :: V) := List.Sublist.append_left (List.sublist_cons_self y V) U
      exact ih (List.Pairwise.sublist hsub hs) (hn.sublist (hsub.map _)) hp2 hd3
/-- the document's Add: what it answers, and what it leaves -/
inductive AddQ (A W : List OpG) (o : OpG) : List OpG → Int → List OpG → List OpG → Prop
  | bad : ¬ MO.ok o → AddQ A W o [] 71 A W
  | there : MO.ok o → MO.id o ∈ Cz.ids MO (A ++ W) → AddQ A W o [] 0 A W
  | late : MO.ok o → MO.id o ∉ Cz.ids MO (A ++ W) → Cz.Late MO A o → AddQ A W o [] 101 A W
  | pend : MO.ok o → MO.id o ∉ Cz.ids MO (A ++ W) → ¬ Cz.Late MO A o → ¬ Cz.Ready MO A o → 64 ≤ W.length → AddQ A W o [] 102 A W
  | wait : MO.ok o → MO.id o ∉ Cz.ids MO (A ++ W) → ¬ Cz.Late MO A o → ¬ Cz.Ready MO A o → W.length < 64 → AddQ A W o [] 0 A (W ++ [o])
  | done {A1 W1 : List OpG} : MO.ok o → MO.id o ∉ Cz.ids MO (A ++ W) → ¬ Cz.Late MO A o → Cz.Ready MO A o → Drq (A ++ [o]) W A1 W1 → AddQ A W o (A1.drop A.length) 0 A1 (W1.filter fun x => !decide (Cz.Late MO A1 x))
theorem nodupW {A W : List OpG} (h : Cz.Stb MO A W) : (Cz.ids MO W).Nodup := by
  have := h.nodup
  rw [Cz.ids_app, List.nodup_append] at this
  exact this.2.1
theorem add_same {A W A' W' Wr A2 W2 res res2 : List OpG} {o : OpG} {e e2 : Int} (h : Cz.AddR MO SortOf A W o res e A' W') (hn : Cz.Stb MO A W) (hs : SortedO W) (hl : W.length ≤ 64) (hp : Wr.Perm W) (hq : AddQ A Wr o res2 e2 A2 W2) :
    res2 = res ∧ e2 = e ∧ A2 = A' ∧ W2.Perm W' ∧ SortedO W' ∧ W'.length ≤ 64 := by
  have hm : MO.id o ∈ Cz.ids MO (A ++ Wr) ↔ MO.id o ∈ Cz.ids MO (A ++ W) := by
    rw [Cz.ids_app, Cz.ids_app, List.mem_append, List.mem_append, (Cz.ids_perm (M := MO) hp).mem_iff]
  cases h with
  | bad a1 =>
    cases hq with
    | bad b1 => exact ⟨rfl, rfl, rfl, hp, hs, hl⟩
    | there b1 b2 => exact absurd b1 a1
    | late b1 b2 b3 => exact absurd b1 a1
    | pend b1 b2 b3 b4 b5 => exact absurd b1 a1
    | wait b1 b2 b3 b4 b5 => exact absurd b1 a1
    | @done A2 W2' b1 b2 b3 b4 b6 => exact absurd b1 a1
  | there a1 a2 =>
    cases hq with
    | bad b1 => exact absurd a1 b1
    | there b1 b2 => exact ⟨rfl, rfl, rfl, hp, hs, hl⟩
    | late b1 b2 b3 => exact absurd (hm.2 a2) b2
    | pend b1 b2 b3 b4 b5 => exact absurd (hm.2 a2) b2
    | wait b1 b2 b3 b4 b5 => exact absurd (hm.2 a2) b2
    | @done A2 W2' b1 b2 b3 b4 b6 => exact absurd (hm.2 a2) b2
  | late a1 a2 a3 =>
    cases hq with
    | bad b1 => exact absurd a1 b1
    | there b1 b2 => exact absurd (hm.1 b2) a2
    | late b1 b2 b3 => exact ⟨rfl, rfl, rfl, hp, hs, hl⟩
    | pend b1 b2 b3 b4 b5 => exact absurd a3 b3
    | wait b1 b2 b3 b4 b5 => exact absurd a3 b3
    | @done A2 W2' b1 b2 b3 b4 b6 => exact absurd a3 b3
  | pend a1 a2 a3 a4 a5 =>
    cases hq with
    | bad b1 => exact absurd a1 b1
    | there b1 b2 => exact absurd (hm.1 b2) a2
    | late b1 b2 b3 => exact absurd b3 a3
    | pend b1 b2 b3 b4 b5 => exact ⟨rfl, rfl, rfl, hp, hs, hl⟩
    | wait b1 b2 b3 b4 b5 => (have := hp.length_eq; omega)
    | @done A2 W2' b1 b2 b3 b4 b6 => exact absurd b4 a4
  | @wait W1 a1 a2 a3 a4 a5 a6 =>
    cases hq with
    | bad b1 => exact absurd a1 b1
    | there b1 b2 => exact absurd (hm.1 b2) a2
    | late b1 b2 b3 => exact absurd b3 a3
    | pend b1 b2 b3 b4 b5 => (have := hp.length_eq; omega)
    | wait b1 b2 b3 b4 b5 => exact ⟨rfl, rfl, rfl, (hp.append_right [o]).trans a6.perm.symm, a6.sorted, by have := a6.perm.length_eq; simp at this; omega⟩
    | @done A2 W2' b1 b2 b3 b4 b6 => exact absurd b4 a4
  | @done A1 W1 a1 a2 a3 a4 a6 =>
    cases hq with
    | bad b1 => exact absurd a1 b1
    | there b1 b2 => exact absurd (hm.1 b2) a2
    | late b1 b2 b3 => exact absurd b3 a3
    | pend b1 b2 b3 b4 b5 => exact absurd a4 b4
    | wait b1 b2 b3 b4 b5 => exact absurd a4 b4
    | @done A2 W2' b1 b2 b3 b4 b6 => 
      obtain ⟨e1, e2, e3⟩ := drain_same a6 hs (nodupW hn) hp b6
      subst e1
      refine ⟨rfl, rfl, rfl, e2.filter _, e3.sublist List.filter_sublist, ?_⟩
      have k1 := a6.drn.sub.length_le
      have k2 := List.length_filter_le (fun x => !decide (Cz.Late MO A2 x)) W1
      omega
/-- one row, by rising stamps -/
theorem sorted_uniq : ∀ {S T : List OpG}, SortedO S → SortedO T → S.Perm T → (Cz.ids MO S).Nodup → S = T
  | [], T, _, _, hp, _ => (List.nil_perm.1 hp).symm
  | a :: S, [], _, _, hp, _ => absurd (List.perm_nil.1 hp) (by simp)
  | a :: S, b :: T, hS, hT, hp, hn => by
    have hS2 := List.pairwise_cons.1 hS
    have hT2 := List.pairwise_cons.1 hT
    have hab : a = b := by
      rcases List.mem_cons.1 (hp.mem_iff.1 (List.mem_cons_self : a ∈ a :: S)) with h | h
      · exact h
      · rcases List.mem_cons.1 (hp.mem_iff.2 (List.mem_cons_self : b ∈ b :: T)) with k | k
        · exact k.symm
        · exact Cz.id_inj hn (by simp) (List.mem_cons_of_mem _ k) (ltO_tri (hT2.1 a h) (hS2.1 b k))
    subst hab
    rw [sorted_uniq hS2.2 hT2.2 hp.cons_inv (hn.sublist ((List.sublist_cons_self a S).map _))]
end Go.Proofs.YtiamohfpohjdpaaDoor
namespace Go.Proofs.YtiamohfpohjdpaaDoor
open Go.RowKit Go.Joins
set_option linter.unusedSimpArgs false
set_option linter.unusedVariables false
/-- the document's store in memory -/
structure RG (w : World) (m : Nat) (va vw : Value) (A W : List OpG) (F : Nat → Prop) : Prop where
  top : w.heap[m]? = some (.cells #[va, vw] 47 (0, 0))
  all : OwnO w 0 va A
  wait : OwnO w 0 vw W
  nA : ∀ b, va.ownBlock = some b → b ≠ m ∧ F b
  nW : ∀ b, vw.ownBlock = some b → b ≠ m ∧ F b ∧ va.ownBlock ≠ some b
  fm : F m
def RS (w : World) (m : Nat) (A W : List OpG) (F : Nat → Prop) : Prop := ∃ va vw, RG w m va vw A W F
section
variable {w w' : World} {m : Nat} {va vw : Value} {A W : List OpG} {F G : Nat → Prop}
theorem RG.ch (h : RG w m va vw A W F) (c : Ch G w w') (hG : ∀ x, F x → ¬ G x) : RG w' m va vw A W F :=
  ⟨c.at h.top (hG _ h.fm), h.all.ch c (fun b hb => hG _ (h.nA b hb).2), h.wait.ch c (fun b hb => hG _ (h.nW b hb).2.1), h.nA, h.nW, h.fm⟩
theorem RG.later (h : RG w m va vw A W F) (b : Below w.heap.size w w') : RG w' m va vw A W F := h.ch (Ch.of_below (F := fun _ => False) b) (fun _ _ => id)
theorem RG.mono (h : RG w m va vw A W F) (hG : ∀ x, F x → G x) : RG w m va vw A W G := ⟨h.top, h.all, h.wait, fun b hb => ⟨(h.nA b hb).1, hG _ (h.nA b hb).2⟩, fun b hb => ⟨(h.nW b hb).1, hG _ (h.nW b hb).2.1, (h.nW b hb).2.2⟩, hG _ h.fm⟩
theorem RG.bnd (h : RG w m va vw A W F) : RG w m va vw A W (fun x => F x ∧ x < w.heap.size) :=
  ⟨h.top, h.all, h.wait, fun b hb => ⟨(h.nA b hb).1, (h.nA b hb).2, own_lt h.all hb⟩, fun b hb => ⟨(h.nW b hb).1, ⟨(h.nW b hb).2.1, own_lt h.wait hb⟩, (h.nW b hb).2.2⟩, ⟨h.fm, heap_lt h.top⟩⟩
theorem RS.later (h : RS w m A W F) (b : Below w.heap.size w w') : RS w' m A W F := by
  obtain ⟨va, vw, h⟩ := h
  exact ⟨va, vw, h.later b⟩
theorem RS.ch (h : RS w m A W F) (c : Ch G w w') (hG : ∀ x, F x → ¬ G x) : RS w' m A W F := by
  obtain ⟨va, vw, h⟩ := h
  exact ⟨va, vw, h.ch c hG⟩
theorem RS.mono (h : RS w m A W F) (hG : ∀ x, F x → G x) : RS w m A W G := by
  obtain ⟨va, vw, h⟩ := h
  exact ⟨va, vw, h.mono hG⟩
theorem RS.bnd (h : RS w m A W F) : RS w m A W (fun x => F x ∧ x < w.heap.size) := by
  obtain ⟨va, vw, h⟩ := h
  exact ⟨va, vw, h.bnd⟩
end
/-! ### Find -/
/-- the first place of a stamp, or -1 -/
def FindR (L : List OpG) (k : Int × Int) (z : Int) : Prop :=
  (∃ q : Nat, z = (q : Int) ∧ (∃ o, L[q]? = some o ∧ o.id = k) ∧ ∀ (j : Nat) p, j < q → L[j]? = some p → p.id ≠ k) ∨ (z = -1 ∧ k ∉ Cz.ids MO L)
theorem findR_ex (k : Int × Int) : ∀ L : List OpG, ∃ z, FindR L k z
  | [] => ⟨-1, .inr ⟨rfl, by simp [Cz.ids]⟩⟩
  | a :: L => by
    by_cases h : a.id = k
    · exact ⟨0, .inl ⟨0, rfl, ⟨a, rfl, h⟩, fun j p hj => by omega⟩⟩
    · obtain ⟨z, hz⟩ := findR_ex k L
      rcases hz with ⟨q, rfl, ⟨o, ho, e⟩, hno⟩ | ⟨rfl, hno⟩
      · refine ⟨((q + 1 : Nat) : Int), .inl ⟨q + 1, rfl, ⟨o, by simpa using ho, e⟩, fun j p hj hp => ?_⟩⟩
        cases j with
        | zero => simp at hp; subst hp; exact h
        | succ j => exact hno j p (by omega) (by simpa using hp)
      · refine ⟨-1, .inr ⟨rfl, fun hm => ?_⟩⟩
        obtain ⟨x, hx, e⟩ := Cz.mem_ids.1 hm
        rcases List.mem_cons.1 hx with rfl | hx
        · exact h e
        · exact hno (Cz.mem_ids.2 ⟨x, hx, e⟩)
theorem findR_one {L : List OpG} {k : Int × Int} {z y : Int} (h : FindR L k z) (h2 : FindR L k y) : z = y := by
  have key : ∀ {z : Int} {q : Nat} {o : OpG}, L[q]? = some o → o.id = k → k ∈ Cz.ids MO L := fun ho e => Cz.mem_ids.2 ⟨_, List.mem_of_getElem? ho, e⟩
  rcases h with ⟨q, rfl, ⟨o, ho, e⟩, hno⟩ | ⟨rfl, hno⟩
  · rcases h2 with ⟨q2, rfl, ⟨o2, ho2, e2⟩, hno2⟩ | ⟨rfl, hno2⟩
    · rcases Nat.lt_trichotomy q q2 with h | h | h
      · exact absurd e (hno2 q o h ho)
      · rw [h]
      · exact absurd e2 (hno q2 o2 h ho2)
    · exact absurd (key (z := 0) ho e) hno2
  · rcases h2 with ⟨q2, rfl, ⟨o2, ho2, e2⟩, hno2⟩ | ⟨rfl, hno2⟩
    · exact absurd (key (z := 0) ho2 e2) hno
    · rfl
noncomputable def findZ (L : List OpG) (k : Int × Int) : Int := Classical.choose (findR_ex k L)
theorem findZ_is (L : List OpG) (k : Int × Int) : FindR L k (findZ L k) := Classical.choose_spec (findR_ex k L)
theorem findZ_in {L : List OpG} {k : Int × Int} (h : k ∈ Cz.ids MO L) : 0 ≤ findZ L k := by
  rcases findZ_is L k with ⟨q, e, _⟩ | ⟨_, hno⟩
  · omega
  · exact absurd h hno
theorem findZ_out {L : List OpG} {k : Int × Int} (h : k ∉ Cz.ids MO L) : findZ L k = -1 := by
  rcases findZ_is L k with ⟨q, e, ⟨o, ho, ek⟩, _⟩ | ⟨e, _⟩
  · exact absurd (Cz.mem_ids.2 ⟨o, List.mem_of_getElem? ho, ek⟩) h
  · exact e
theorem findZ_at {L : List OpG} {x : OpG} (hn : (Cz.ids MO L).Nodup) (h : x ∈ L) : ∃ i : Nat, findZ L x.id = i ∧ L[i]? = some x := by
  rcases findZ_is L x.id with ⟨q, e, ⟨o, ho, ek⟩, _⟩ | ⟨_, hno⟩
  · have : o = x := Cz.id_inj hn (List.mem_of_getElem? ho) h ek
    subst this
    exact ⟨q, e, ho⟩
  · exact absurd (Cz.mem_ids.2 ⟨x, h, rfl⟩) hno
set_option maxHeartbeats 4000000 in
theorem refFind_any (w : World) (ao : Option Addr) (cap : Nat) (L : List OpG) (n r : Int) (hA : OpsAt w ao L) (hn : L.length < 4294967296) :
    Calls Tryd.prog 31 #[.slice ao L.length cap, st n r] w fun e w' => e = .returned (.int .i64 (findZ L (n, r))) ∧ Below w.heap.size w w' := by
  have HA := Lib.hid hA
  have HZ := Lib.hid (findZ_is L (n, r))
  clear hA
  have hgs := run_stGuard
  go_enter Tryd.func31, Tryd.ntmps31
  go_upto_region 1 with fail
  refine wp_let (fun y => Below w.heap.size w y ∧ y.heap[w.heap.size]? = some (.cells #[.int .i64 n, .int .i64 r] 31 (0, 0))) ⟨(Below.refl _ _).alloc (Nat.le_refl _) _, blk_new _ _⟩ (fun x hx => ?_)
  have HX := Lib.hid hx
  clear hx
  go_wp2_with fail
  go_loopw [5] (fun i wr => ∃ q : Nat, q ≤ L.length ∧ i = .int .i64 q ∧ (Below w.heap.size w wr ∧ wr.heap[w.heap.size]? = some (.cells #[.int .i64 n, .int .i64 r] 31 (0, 0))) ∧ ∀ (j : Nat) p, j < q → L[j]? = some p → p.id ≠ (n, r)) (fun i _ => L.length - (RowKit.intOf i).toNat)
  case atStart => exact ⟨0, by omega, rfl, HX.out, fun j p h => by omega⟩
  case round =>
    obtain ⟨q, hq, rfl, hx, hno⟩ := hrel
    have HX := Lib.hid hx
    have HN := Lib.hid hno
    clear hx hno
    by_cases hql : q < L.length
    · obtain ⟨o, ho⟩ : ∃ o, L[q]? = some o := ⟨_, List.getElem?_eq_getElem hql⟩
      obtain ⟨b, off, rfl, hbw, hc⟩ := (HA.out.below HX.out.1) q o ho
      have HO := Lib.hid ho
      have b0 : (0 : Int) ≤ (q : Int) := by omega
      have b1 : (q : Int) < (L.length : Int) := by omega
      have c0 : wr.drew.cell? ⟨b, off + q * 26, none⟩ = some (.int .i64 o.n) := hc 0 _ rfl
      have c1 : wr.drew.cell? ⟨b, off + q * 26 + 1, none⟩ = some (.int .i64 o.r) := hc 1 _ rfl
      have s0 : wr.drew.cell? ⟨w.heap.size, 0, none⟩ = some (.int .i64 n) := blk_cell HX.out.2 0
      have s1 : wr.drew.cell? ⟨w.heap.size, 1, none⟩ = some (.int .i64 r) := blk_cell HX.out.2 1
      clear hc ho hbw
      by_cases hk : o.id = (n, r)
      · have hb : (o.n == n && o.r == r) = true := by
          simp only [OpG.id, Prod.mk.injEq] at hk
          simp [hk.1, hk.2]
        have heq := fun w => st_eq hb w
        have HV := Lib.hid (findR_one (.inl ⟨q, rfl, ⟨o, HO.out, hk⟩, HN.out⟩) HZ.out)
        clear hb hk
        go_wp2
        go_region
        go_wp2
        go_ret
        refine ⟨congrArg (fun z => Ending.returned (.int .i64 z)) HV.out, ?_⟩
        first | exact HX.out.1.drew | exact below_drewN HX.out.1 _
      · have hb : (o.n == n && o.r == r) = false := by
          rw [Bool.eq_false_iff]
          intro e
          simp only [Bool.and_eq_true, beq_iff_eq] at e
          exact hk (by simp [OpG.id, e.1, e.2])
        have heq := fun w => st_eq hb w
        have HK := Lib.hid hk
        clear hb hk
        go_wp2
        go_region
        go_wp2
        go_roundw
        case rel =>
          refine ⟨q + 1, by omega, by go_num, ⟨by first | exact HX.out.1.drew | exact below_drewN HX.out.1 _, ?_⟩, fun j p hj hp => ?_⟩
          · first | exact HX.out.2 | exact ((below_drewN (Below.refl _ _) _).block _ (heap_lt HX.out.2)).trans HX.out.2
          · by_cases e : j = q
            · subst e
              rw [HO.out] at hp
              cases hp
              exact HK.out
            · exact HN.out j p (by omega) hp
        case measure => first | omega | (simp [intOf]; omega) | (simp [RowKit.intOf]; omega)
    · have e : q = L.length := by omega
      subst e
      have HV := Lib.hid (findR_one (.inr ⟨rfl, fun h => by
        obtain ⟨p, hp, e⟩ := Cz.mem_ids.1 h
        obtain ⟨j, hj⟩ := List.mem_iff_getElem?.1 hp
        exact HN.out j p (List.getElem?_eq_some_iff.1 hj).1 hj e⟩) HZ.out)
      go_wp2
      go_ret
      exact ⟨congrArg (fun z => Ending.returned (.int .i64 z)) HV.out, HX.out.1⟩
/-! ### With -/
def V8.withTo (a : V8) (n r : Int) (k : Nat) : V8 := ⟨if 0 < k ∧ r = 0 then mx a.x0 n else a.x0, if 1 < k ∧ r = 1 then mx a.x1 n else a.x1, if 2 < k ∧ r = 2 then mx a.x2 n else a.x2, if 3 < k ∧ r = 3 then mx a.x3 n else a.x3, if 4 < k ∧ r = 4 then mx a.x4 n else a.x4, if 5 < k ∧ r = 5 then mx a.x5 n else a.x5, if 6 < k ∧ r = 6 then mx a.x6 n else a.x6, if 7 < k ∧ r = 7 then mx a.x7 n else a.x7⟩
theorem withTo_0 (a : V8) (n r : Int) : a.withTo n r 0 = a := by simp [V8.withTo]
theorem withTo_8 (a : V8) (n r : Int) : a.withTo n r 8 = a.with n r := by simp [V8.withTo, V8.with]
theorem withTo_nth (a : V8) (n r : Int) {k : Nat} (h : k < 8) : (a.withTo n r k).nth k = a.nth k := by
  rcases nat8 h with rfl | rfl | rfl | rfl | rfl | rfl | rfl | rfl <;> simp [V8.withTo, V8.nth, V8.at]
theorem withTo_set (a : V8) (n : Int) {k : Nat} (h : k < 8) (hl : a.nth k < n) : (a.withTo n k (k + 1)).cells = (a.withTo n k k).cells.setIfInBounds k (.int .i64 n) := by
  rcases nat8 h with rfl | rfl | rfl | rfl | rfl | rfl | rfl | rfl <;> (simp [V8.nth, V8.at] at hl; simp [V8.withTo, V8.cells, mx, hl])
theorem withTo_keep (a : V8) (n r : Int) {k : Nat} (h : k < 8) (hl : (k : Int) = r → n ≤ a.nth k) : a.withTo n r (k + 1) = a.withTo n r k := by
  rcases nat8 h with rfl | rfl | rfl | rfl | rfl | rfl | rfl | rfl <;> (simp [V8.nth, V8.at] at hl; simp [V8.withTo, mx]; omega)

set_option maxHeartbeats 1000000 in
theorem refWith_any (a : V8) (n r : Int) (w : World) : Calls Tryd.prog 62 #[a.val, st n r] w fun e w' => e = .returned (a.with n r).val ∧ Below w.heap.size w w' := by
  have t0 := Tr.nil w
  go_enter Tryd.func62, Tryd.ntmps62
  go_wp2
  go_loopw [5] (fun i wr => ∃ k : Nat, k ≤ 8 ∧ i = .int .i64 (k : Int) ∧ Tr w wr [(w.heap.size + 1 + 1, V8.cells ⟨0, 0, 0, 0, 0, 0, 0, 0⟩, 33), (w.heap.size + 1, #[.int .i64 n, .int .i64 r], 31), (w.heap.size, (a.withTo n r k).cells, 33)]) (fun i _ => 8 - (intOf i).toNat)
  case atStart => exact ⟨0, by omega, rfl, by rw [withTo_0]; have h := ((t0.alloc (C := a.cells) (T := 33)).alloc (C := #[.int .i64 n, .int .i64 r]) (T := 31)).alloc (C := V8.cells ⟨0, 0, 0, 0, 0, 0, 0, 0⟩) (T := 33); simp only [World.size_alloc] at h; exact h⟩
  case round =>
    obtain ⟨k, hk, rfl, t⟩ := hrel
    have hbel := t.below
    by_cases h8 : k < 8
    · have hck := (t.rules.2.2.2.2.2.2.2.2.2.2.1 k).trans (cells_at _ k h8)
      rw [withTo_nth a n r h8] at hck
      have hd0 := t.rules.2.2.2.2.2.1 0
      have hd1 := t.rules.2.2.2.2.2.1 1
      have hfk := t.rules.2.2.2.2.2.2.2.2.2.2.2.1 k
      by_cases hr : (k : Int) = r
      · subst hr
        by_cases hl : a.nth k < n
        · have hs := withTo_set a n h8 hl
          have HS := Lib.hid hs
          clear hs
          go_wp2
          go_quiet (fail)
          go_wp2
          go_roundw
          case rel =>
            refine ⟨k + 1, by omega, by go_num, ?_⟩
            rw [HS.out]
            have t2 := (t.drewN (n := nq)).set (L' := [(w.heap.size + 1 + 1, V8.cells ⟨0, 0, 0, 0, 0, 0, 0, 0⟩, 33), (w.heap.size + 1, #[.int .i64 n, .int .i64 k], 31), (w.heap.size, (a.withTo n k k).cells.setIfInBounds k (.int .i64 n), 33)]) w.heap.size k (.int .i64 n) (Nat.le_refl _) (by
              intro p hp
              simp at hp
              rcases hp with rfl | rfl | rfl
              · exact Or.inl ⟨by simp; omega, by simp⟩
              · exact Or.inl ⟨by simp, by simp⟩
              · exact Or.inr ⟨rfl, _, by simp, rfl⟩)
            exact t2
          case measure => first | omega | (simp [intOf]; omega) | (simp [RowKit.intOf]; omega)
        · have hs := withTo_keep a n k h8 (fun _ => by omega)
          have HS := Lib.hid hs
          clear hs
          go_wp2
          go_quiet (fail)
          go_wp2
          go_roundw
          case rel => exact ⟨k + 1, by omega, by go_num, by rw [HS.out]; exact t.drewN⟩
          case measure => first | omega | (simp [intOf]; omega) | (simp [RowKit.intOf]; omega)
      · have hs := withTo_keep a n r h8 (fun h => absurd h hr)
        have HS := Lib.hid hs
        have hb : ((k : Int) == r) = false := by simp; omega
        clear hs hr
        go_wp2
        go_quiet (fail)
        go_wp2
        go_roundw
        case rel => exact ⟨k + 1, by omega, by go_num, by rw [HS.out]; exact t.drewN⟩
        case measure => first | omega | (simp [intOf]; omega) | (simp [RowKit.intOf]; omega)
    · have h8' : k = 8 := by omega
      subst h8'
      rw [withTo_8] at t
      have r1 := t.rules
      simp only [Rules, V8.cells] at r1
      go_wp2
      refine bodyPost_ret (v := (a.with n r).val) (by simp [results, Tryd.results62, go_sem, r1]) rfl ⟨rfl, ?_⟩
      (repeat' (first | with_reducible exact Below.refl _ _ | with_reducible assumption | with_reducible refine below_ext ?_ ?_ | with_reducible refine Below.alloc ?_ ?_ _ | with_reducible refine Below.drew ?_ | with_reducible refine below_drewN ?_ _ | with_reducible refine Below.setCell ?_ ?_ _ | go_size))
end Go.Proofs.YtiamohfpohjdpaaDoor
namespace Go.Proofs.YtiamohfpohjdpaaDoor
open Go.RowKit Go.Joins
set_option linter.unusedSimpArgs false
set_option linter.unusedVariables false
/-- along the edges -/
def reach (E : List (Nat × Nat)) : Nat → Nat → Nat → Bool
  | 0, a, b => a == b
  | f + 1, a, b => a == b || E.any fun p => p.1 == a && reach E f p.2 b
theorem reach_done {E : List (Nat × Nat)} {D : Nat → Bool} (h : ∀ p ∈ E, D p.1 = true → D p.2 = true) : ∀ (f a b : Nat), reach E f a b = true → D a = true → D b = true
  | 0, a, b, hr, ha => by
    simp [reach] at hr
    exact hr ▸ ha
  | f + 1, a, b, hr, ha => by
    simp only [reach, Bool.or_eq_true, beq_iff_eq, List.any_eq_true, Bool.and_eq_true] at hr
    rcases hr with rfl | ⟨p, hp, e, hr⟩
    · exact ha
    · exact reach_done h f p.2 b hr (h p hp (e ▸ ha))
structure RQ (vals : Nat → Value) (E : List (Nat × Nat)) (N c k : Nat) (o : OpG) (P0 : World → Prop) (PA : Value → World → Prop) (Pf : World → Prop) (D : Nat → Bool) (x : Nat → Value) (y : World) : Prop where
  v : ∀ i, i < N → i ≠ k → i ≠ c → D i = true → x i = vals i
  p : D k = false → P0 y
  s : D c = true → D k = false → ∃ B, x c = .slice (some ⟨B, 0, none⟩) 1 1 ∧ y.heap[B]? = some (.cells o.cells 39 (0, 0))
  a : D k = true → D N = false → PA (x k) y
  f : D N = true → Pf y
  n : D N = true → ∀ i, i < N → D i = true
  e : ∀ p ∈ E, D p.1 = true → D p.2 = true
section
variable {vals : Nat → Value} {E : List (Nat × Nat)} {N c k : Nat} {o : OpG} {P0 : World → Prop} {PA : Value → World → Prop} {Pf : World → Prop} {D : Nat → Bool} {x : Nat → Value} {y z : World} {u : Value}
theorem RQ.new (h : P0 y) (hD : ∀ i, D i = false) : RQ vals E N c k o P0 PA Pf D x y :=
  ⟨fun i _ _ _ h => by rw [hD] at h; (cases h), fun _ => h, fun h => by rw [hD] at h; (cases h), fun h => by rw [hD] at h; (cases h), fun h => by rw [hD] at h; (cases h), fun h => by rw [hD] at h; (cases h), fun p _ h => by rw [hD] at h; (cases h)⟩
theorem RQ.off (h : RQ vals E N c k o P0 PA Pf D x y) {i : Nat} (hi : i < N) (hD : D i = false) : D N = false := by
  cases e : D N with
  | false => rfl
  | true => have := h.n e i hi; rw [hD] at this; cases this
theorem RQ.bef (h : RQ vals E N c k o P0 PA Pf D x y) {i : Nat} (hD : D i = false) (f : Nat) (hr : reach E f k i = true) : D k = false := by
  cases e : D k with
  | false => rfl
  | true => have := reach_done h.e f k i hr e; rw [hD] at this; cases this
theorem done_edges {i : Nat} (h : ∀ p ∈ E, D p.1 = true → D p.2 = true) (he : ∀ p ∈ E, p.1 = i → D p.2 = true) : ∀ p ∈ E, done D i p.1 = true → done D i p.2 = true := fun p hp hd => by
  by_cases e : p.1 = i
  · exact done_mono (he p hp e)
  · rw [done_ne e] at hd
    exact done_mono (h p hp hd)
theorem RQ.keep (h : RQ vals E N c k o P0 PA Pf D x y) {i : Nat} (hi : i < N) (hik : k ≠ i) (hic : c ≠ i) (hD : D i = false) (he : ∀ p ∈ E, p.1 = i → D p.2 = true) : RQ vals E N c k o P0 PA Pf (done D i) (setX x i (vals i)) y := by
  have hN := h.off hi hD
  refine ⟨fun j hj hk hc hd => ?_, fun hd => ?_, fun h1 h2 => ?_, fun h1 h2 => ?_, fun h1 => ?_, fun h1 => ?_, done_edges h.e he⟩
  · by_cases e : j = i
    · subst e; rw [setX_eq]
    · rw [done_ne e] at hd; rw [setX_ne e]; exact h.v j hj hk hc hd
  · rw [done_ne hik] at hd; exact h.p hd
  · rw [done_ne hic] at h1; rw [done_ne hik] at h2; rw [setX_ne hic]; exact h.s h1 h2
  · rw [done_ne hik] at h1; rw [setX_ne hik]; exact h.a h1 hN
  · rw [done_ne (by omega), hN] at h1; cases h1
  · rw [done_ne (by omega), hN] at h1; cases h1
theorem RQ.block (h : RQ vals E N c k o P0 PA Pf D x y) (hc : c < N) (hck : k ≠ c) (hD : D c = false) (hk : D k = false) (he : ∀ p ∈ E, p.1 = c → D p.2 = true) (hP : ∀ z, P0 y → Below y.heap.size y z → P0 z) :
    RQ vals E N c k o P0 PA Pf (done D c) (setX x c (.slice (some ⟨y.heap.size, 0, none⟩) 1 1)) (y.alloc (.cells o.cells 39)) := by
  have hN := h.off hc hD
  refine ⟨fun j hj hjk hjc hd => ?_, fun hd => hP _ (h.p hk) ((Below.refl _ _).alloc (Nat.le_refl _) _), fun _ _ => ⟨y.heap.size, by rw [setX_eq], blk_new _ _⟩, fun h1 h2 => ?_, fun h1 => ?_, fun h1 => ?_, done_edges h.e he⟩
  · rw [done_ne hjc] at hd; rw [setX_ne hjc]; exact h.v j hj hjk hjc hd
  · rw [done_ne hck, hk] at h1; cases h1
  · rw [done_ne (by omega), hN] at h1; cases h1
  · rw [done_ne (by omega), hN] at h1; cases h1
theorem RQ.app (h : RQ vals E N c k o P0 PA Pf D x y) (hk : k < N) (hD : D k = false) (he : ∀ p ∈ E, p.1 = k → D p.2 = true) (hA : PA u z) : RQ vals E N c k o P0 PA Pf (done D k) (setX x k u) z := by
  have hN := h.off hk hD
  refine ⟨fun j hj hjk hjc hd => ?_, fun hd => ?_, fun h1 h2 => ?_, fun _ _ => ?_, fun h1 => ?_, fun h1 => ?_, done_edges h.e he⟩
  · rw [done_ne hjk] at hd; rw [setX_ne hjk]; exact h.v j hj hjk hjc hd
  · rw [done_eq] at hd; cases hd
  · rw [done_eq] at h2; cases h2
  · rw [setX_eq]; exact hA
  · rw [done_ne (by omega), hN] at h1; cases h1
  · rw [done_ne (by omega), hN] at h1; cases h1
theorem RQ.last (h : RQ vals E N c k o P0 PA Pf D x y) (hk : k < N) (hcN : c ≠ N) (hA : ∀ i, i < N → D i = true) (hE : ∀ p ∈ E, p.1 < N ∧ p.2 < N) (hP : Pf z) : RQ vals E N c k o P0 PA Pf (done D N) (setX x N u) z := by
  refine ⟨fun j hj hjk hjc hd => ?_, fun hd => ?_, fun h1 h2 => ?_, fun _ h2 => ?_, fun _ => hP, fun _ i hi => done_mono (hA i hi), fun p hp _ => done_mono (hA p.2 (hE p hp).2)⟩
  · rw [setX_ne (by omega)]; exact h.v j hj hjk hjc (hA j hj)
  · rw [done_ne (by omega), hA k hk] at hd; cases hd
  · rw [done_ne (by omega), hA k hk] at h2; cases h2
  · rw [done_eq] at h2; cases h2
end
/-! ### the steps that are lacking -/
theorem step_index {P : Program} {Q : Exit → Act → World → Prop} {ops : Array Oper} {o : Oper} {a : Act} {w : World} {K : Act → World → Prop} {t : TypeId} {u q v : Value} (hg : o.guard = none) (p i : Operand) (ho : o.op = .indexAddr t p i) (hp : a.eval p = u) (hi : a.eval i = q) (h : (Instr.indexAt t u q).run P w = .ok v w) (hK : K (a.put o.dst v) w) : stepWp P Q ops o a w K := by
  subst hp
  subst hi
  refine step_wp hg ?_
  unfold Oper.wp
  have e : ((execOp a.eval o).run P w) = .ok (.value v) w := by
    simp [execOp, ho, h, Result.andThen]
  rw [e]
  exact hK
theorem run_idxO {b off n c q : Nat} (h : q < n) (w : World) : (Instr.indexAt 22 (.slice (some ⟨b, off, none⟩) n c) (.int .i64 q)).run Tryd.prog w = .ok (.pointer (some ⟨b, off + q * 26, none⟩)) w := by
  have b0 : (0 : Int) ≤ (q : Int) := by omega
  have b1 : (q : Int) < (n : Int) := by omega
  simp [go_sem, b0, b1]
theorem run_loadStO {w : World} {b off : Nat} {n r : Int} (h0 : w.cell? ⟨b, off, none⟩ = some (.int .i64 n)) (h1 : w.cell? ⟨b, off + 1, none⟩ = some (.int .i64 r)) : (Instr.loadAt 31 (.pointer (some ⟨b, off, none⟩))).run Tryd.prog w = .ok (st n r) w := by
  simp [go_sem, h0, h1]
theorem run_loadVec {w : World} {b : Nat} {k : V8} (h : w.heap[b]? = some (.cells (V8.rowV k).toArray 33 (0, 0))) : (Instr.loadAt 33 (.pointer (some ⟨b, 0, none⟩))).run Tryd.prog w = .ok k.val w := by
  have h0 : w.cell? ⟨b, 0, none⟩ = some (.int .i64 k.x0) := blk_cell h 0
  have h1 : w.cell? ⟨b, 1, none⟩ = some (.int .i64 k.x1) := blk_cell h 1
  have h2 : w.cell? ⟨b, 2, none⟩ = some (.int .i64 k.x2) := blk_cell h 2
  have h3 : w.cell? ⟨b, 3, none⟩ = some (.int .i64 k.x3) := blk_cell h 3
  have h4 : w.cell? ⟨b, 4, none⟩ = some (.int .i64 k.x4) := blk_cell h 4
  have h5 : w.cell? ⟨b, 5, none⟩ = some (.int .i64 k.x5) := blk_cell h 5
  have h6 : w.cell? ⟨b, 6, none⟩ = some (.int .i64 k.x6) := blk_cell h 6
  have h7 : w.cell? ⟨b, 7, none⟩ = some (.int .i64 k.x7) := blk_cell h 7
  simp [go_sem, h0, h1, h2, h3, h4, h5, h6, h7]
theorem run_storeVec {w : World} {b : Nat} {k : V8} (k2 : V8) (hb : w.heap[b]? = some (.cells (V8.rowV k).toArray 33 (0, 0))) :
    ∃ w', (Instr.storeAt 33 (.pointer (some ⟨b, 0, none⟩)) k2.val).run Tryd.prog w = .ok () w' ∧ Ch (fun x => x = b) w w' ∧ w'.heap[b]? = some (.cells (V8.rowV k2).toArray 33 (0, 0)) := by
  have hrun := run_storeVar_at (P := Tryd.prog) (t := 33) (cs := #[.int .i64 k2.x0, .int .i64 k2.x1, .int .i64 k2.x2, .int .i64 k2.x3, .int .i64 k2.x4, .int .i64 k2.x5, .int .i64 k2.x6, .int .i64 k2.x7]) (off := 0) w hb (by show 0 + 8 ≤ 8; omega) (by kernel_rfl) (by intro v hv; simp at hv; rcases hv with rfl | rfl | rfl | rfl | rfl | rfl | rfl | rfl <;> rfl)
  obtain ⟨k1, k2', k3⟩ := setCells_block (vs := [.int .i64 k2.x0, .int .i64 k2.x1, .int .i64 k2.x2, .int .i64 k2.x3, .int .i64 k2.x4, .int .i64 k2.x5, .int .i64 k2.x6, .int .i64 k2.x7]) (off := 0) hb (by show 0 + 8 ≤ 8; omega)
  refine ⟨_, ?_, k2', k1.trans rfl⟩
  simpa [Instr.storeAt, Instr.sureAddr, Result.andThen] using hrun
end Go.Proofs.YtiamohfpohjdpaaDoor
namespace Go.Proofs.YtiamohfpohjdpaaDoor
open Go.RowKit Go.Joins
set_option linter.unusedSimpArgs false
set_option linter.unusedVariables false
/-- Most's boxes -/
structure RB (w : World) (v : V8) (y : World) : Prop where
  b : Below w.heap.size w y
  rb : y.heap[w.heap.size]? = some (.cells (V8.rowV V8.zero).toArray 33 (0, 0))
  vb : y.heap[w.heap.size + 1]? = some (.cells (V8.rowV v).toArray 33 (0, 0))
theorem RB.later {w : World} {v : V8} {y z : World} (h : RB w v y) (b : Below y.heap.size y z) : RB w v z :=
  ⟨h.b.trans (b.mono h.b.size), (b.block _ (heap_lt h.rb)).trans h.rb, (b.block _ (heap_lt h.vb)).trans h.vb⟩
theorem RB.put {w : World} {v u : V8} {y z : World} (h : RB w v y) (c : Ch (fun x => x = w.heap.size + 1) y z) (hz : z.heap[w.heap.size + 1]? = some (.cells (V8.rowV u).toArray 33 (0, 0))) : RB w u z :=
  ⟨h.b.trans (c.below h.b.size (fun b hb e => by omega)), c.at h.rb (by omega), hz⟩
theorem rb_new (w : World) : RB w V8.zero ((w.alloc (.cells (V8.rowV V8.zero).toArray 33)).alloc (.cells (V8.rowV V8.zero).toArray 33)) :=
  ⟨((Below.refl _ _).alloc (Nat.le_refl _) _).alloc (by simp) _, blk_alloc (blk_new _ _), by have := blk_new (w.alloc (.cells (V8.rowV V8.zero).toArray 33)) (.cells (V8.rowV V8.zero).toArray 33); simpa using this⟩
set_option maxHeartbeats 8000000 in
set_option maxRecDepth 100000 in
theorem refMost_any (w : World) (ao : Option Addr) (cap : Nat) (L : List OpG) (hA : OpsAt w ao L) (hn : L.length < 4294967296) :
    Calls Tryd.prog 36 #[.slice ao L.length cap] w fun e w' => e = .returned (knownV L).val ∧ Below w.heap.size w w' := by
  have HA := Lib.hid hA
  clear hA
  go_enter Tryd.func36, Tryd.ntmps36
  go_upto_region 2 with fail
  refine wp_let' (RB w V8.zero) (rb_new w) (fun x hx => ?_)
  have HX := Lib.hid hx
  clear hx
  go_wp2_with fail
  go_loopw [4] (fun i wr => ∃ q : Nat, q ≤ L.length ∧ i = .int .i64 q ∧ RB w (knownV (L.take q)) wr) (fun i _ => L.length - (RowKit.intOf i).toNat)
  case atStart => exact ⟨0, by omega, rfl, HX.out⟩
  case round =>
    obtain ⟨q, hq, rfl, hmb⟩ := hrel
    have HRB := Lib.hid hmb
    clear hmb
    by_cases hql : q < L.length
    · obtain ⟨o, ho⟩ : ∃ o, L[q]? = some o := ⟨_, List.getElem?_eq_getElem hql⟩
      obtain ⟨b, off, rfl, hbw, -⟩ := (HA.out.below HRB.out.b) q o ho
      have HQL := Lib.hid hql
      have HE := Lib.hid (show knownV (L.take (q + 1)) = (knownV (L.take q)).with o.n o.r by rw [take_snoc ho, knownV_snoc])
      generalize knownV (L.take q) = v at *
      have HC := Lib.hid (show ∀ y, RB w v y → y.cell? ⟨b, off + q * 26, none⟩ = some (.int .i64 o.n) ∧ y.cell? ⟨b, off + q * 26 + 1, none⟩ = some (.int .i64 o.r) from fun y h => by
        obtain ⟨b', off', e, -, hc⟩ := (HA.out.below h.b) q o ho
        cases e
        exact ⟨hc 0 _ rfl, hc 1 _ rfl⟩)
      clear ho hbw
      go_upto_region 5 with fail
      refine wp_act (fun bA hbA => ?_)
      have e0 : bA.tmps.getD 0 undef = .slice (some ⟨b, off, none⟩) L.length cap := by subst hbA; kernel_rfl
      have e3 : bA.tmps.getD 3 undef = ptr (w.heap.size + 1) := by subst hbA; kernel_rfl
      have e4 : bA.tmps.getD 4 undef = .int .i64 q := by subst hbA; kernel_rfl
      have es : bA.tmps.size = 19 := by subst hbA; kernel_rfl
      have HBA := Lib.hid hbA
      clear hbA
      refine wp_region_inv (by kernel_rfl) (by kernel_rfl) (by kernel_rfl) (RQ (fun i => if i = 0 then v.val else if i = 1 then .slice (some ⟨b, off, none⟩) L.length cap else if i = 2 then .int .i64 q else if i = 5 then st o.n o.r else .pointer (some ⟨b, off + q * 26, none⟩)) [(3, 1), (3, 2), (4, 3), (5, 4), (6, 0), (6, 5)] 7 99 6 o (fun y => RB w v y) (fun u y => u = (v.with o.n o.r).val ∧ RB w v y) (fun y => RB w (v.with o.n o.r) y)) ?_ ?_ ?_
      · exact RQ.new (HRB.out.later (Below.refl _ _).drew) (fun _ => rfl)
      · intro i p hp D x y hD hdep hR K hK
        rcases i with _ | _ | _ | _ | _ | _ | _ | _ | i
        · simp only [List.getElem?_toArray, List.getElem?_cons_succ, List.getElem?_cons_zero, Option.some.injEq, Nat.zero_add] at hp
          subst hp
          have hP := hR.p (hR.bef hD 20 (by decide))
          refine step_load rfl (.tmp 3) rfl (puts_eval0 x 3 _ _ e3 (by kernel_rfl)) (run_loadVec hP.vb) (hK _ _ (hR.keep (i := 0) (by decide) (by decide) (by decide) hD (fun p hp he => by
            simp only [List.mem_cons, List.mem_nil_iff, or_false] at hp
            rcases hp with rfl | rfl | rfl | rfl | rfl | rfl
            · cases he
            · cases he
            · cases he
            · cases he
            · cases he
            · cases he)))
        · simp only [List.getElem?_toArray, List.getElem?_cons_succ, List.getElem?_cons_zero, Option.some.injEq, Nat.zero_add] at hp
          subst hp
          refine step_move rfl (.tmp 0) rfl (puts_eval0 x 0 _ _ e0 (by kernel_rfl)) (hK _ _ (hR.keep (i := 1) (by decide) (by decide) (by decide) hD (fun p hp he => by
            simp only [List.mem_cons, List.mem_nil_iff, or_false] at hp
            rcases hp with rfl | rfl | rfl | rfl | rfl | rfl
            · cases he
            · cases he
            · cases he
            · cases he
            · cases he
            · cases he)))
        · simp only [List.getElem?_toArray, List.getElem?_cons_succ, List.getElem?_cons_zero, Option.some.injEq, Nat.zero_add] at hp
          subst hp
          refine step_move rfl (.tmp 4) rfl (puts_eval0 x 4 _ _ e4 (by kernel_rfl)) (hK _ _ (hR.keep (i := 2) (by decide) (by decide) (by decide) hD (fun p hp he => by
            simp only [List.mem_cons, List.mem_nil_iff, or_false] at hp
            rcases hp with rfl | rfl | rfl | rfl | rfl | rfl
            · cases he
            · cases he
            · cases he
            · cases he
            · cases he
            · cases he)))
        · simp only [List.getElem?_toArray, List.getElem?_cons_succ, List.getElem?_cons_zero, Option.some.injEq, Nat.zero_add] at hp
          subst hp
          refine step_index rfl (.tmp 12) (.tmp 13) rfl ((puts_eval x 12 _ _ (by kernel_rfl) (by rw [es]; decide) (i := 1) (by kernel_rfl)).trans (hR.v 1 (by decide) (by decide) (by decide) (hdep ⟨1, .data⟩ (by simp) rfl))) ((puts_eval x 13 _ _ (by kernel_rfl) (by rw [es]; decide) (i := 2) (by kernel_rfl)).trans (hR.v 2 (by decide) (by decide) (by decide) (hdep ⟨2, .data⟩ (by simp) rfl))) (run_idxO HQL.out y) (hK _ _ (hR.keep (i := 3) (by decide) (by decide) (by decide) hD (fun p hp he => by
            simp only [List.mem_cons, List.mem_nil_iff, or_false] at hp
            rcases hp with rfl | rfl | rfl | rfl | rfl | rfl
            · exact hdep ⟨1, .data⟩ (by simp) rfl
            · exact hdep ⟨2, .data⟩ (by simp) rfl
            · cases he
            · cases he
            · cases he
            · cases he)))
        · simp only [List.getElem?_toArray, List.getElem?_cons_succ, List.getElem?_cons_zero, Option.some.injEq, Nat.zero_add] at hp
          subst hp
          refine step_field rfl (.tmp 14) rfl ((puts_eval x 14 _ _ (by kernel_rfl) (by rw [es]; decide) (i := 3) (by kernel_rfl)).trans (hR.v 3 (by decide) (by decide) (by decide) (hdep ⟨3, .data⟩ (by simp) rfl))) (by kernel_rfl) (hK _ _ (hR.keep (i := 4) (by decide) (by decide) (by decide) hD (fun p hp he => by
            simp only [List.mem_cons, List.mem_nil_iff, or_false] at hp
            rcases hp with rfl | rfl | rfl | rfl | rfl | rfl
            · cases he
            · cases he
            · exact hdep ⟨3, .data⟩ (by simp) rfl
            · cases he
            · cases he
            · cases he)))
        · simp only [List.getElem?_toArray, List.getElem?_cons_succ, List.getElem?_cons_zero, Option.some.injEq, Nat.zero_add] at hp
          subst hp
          have hP := hR.p (hR.bef hD 20 (by decide))
          refine step_load rfl (.tmp 15) rfl ((puts_eval x 15 _ _ (by kernel_rfl) (by rw [es]; decide) (i := 4) (by kernel_rfl)).trans (hR.v 4 (by decide) (by decide) (by decide) (hdep ⟨4, .data⟩ (by simp) rfl))) (run_loadStO (HC.out y hP).1 (HC.out y hP).2) (hK _ _ (hR.keep (i := 5) (by decide) (by decide) (by decide) hD (fun p hp he => by
            simp only [List.mem_cons, List.mem_nil_iff, or_false] at hp
            rcases hp with rfl | rfl | rfl | rfl | rfl | rfl
            · cases he
            · cases he
            · cases he
            · exact hdep ⟨4, .data⟩ (by simp) rfl
            · cases he
            · cases he)))
        · simp only [List.getElem?_toArray, List.getElem?_cons_succ, List.getElem?_cons_zero, Option.some.injEq, Nat.zero_add] at hp
          subst hp
          have hP := hR.p hD
          refine step_call rfl rfl (vs := [v.val, st o.n o.r]) (by
            rw [show ([Operand.tmp 11, Operand.tmp 16].map (puts x _ 0 bA).eval) = [(puts x _ 0 bA).eval (.tmp 11), (puts x _ 0 bA).eval (.tmp 16)] from rfl, ((puts_eval x 11 _ _ (by kernel_rfl) (by rw [es]; decide) (i := 0) (by kernel_rfl)).trans (hR.v 0 (by decide) (by decide) (by decide) (hdep ⟨0, .data⟩ (by simp) rfl))), ((puts_eval x 16 _ _ (by kernel_rfl) (by rw [es]; decide) (i := 5) (by kernel_rfl)).trans (hR.v 5 (by decide) (by decide) (by decide) (hdep ⟨5, .data⟩ (by simp) rfl)))]
            rfl) (enters_of Tryd.func62 (by kernel_rfl) rfl) (refWith_any v o.n o.r y) (fun e z1 hz => by
              obtain ⟨he, hb⟩ := hz
              subst he
              exact ⟨_, rfl, hK _ _ (hR.app (by decide) hD (fun p hp he => by
            simp only [List.mem_cons, List.mem_nil_iff, or_false] at hp
            rcases hp with rfl | rfl | rfl | rfl | rfl | rfl
            · cases he
            · cases he
            · cases he
            · cases he
            · exact hdep ⟨0, .data⟩ (by simp) rfl
            · exact hdep ⟨5, .data⟩ (by simp) rfl) (⟨rfl, hP.later hb⟩))⟩)
        · simp only [List.getElem?_toArray, List.getElem?_cons_succ, List.getElem?_cons_zero, Option.some.injEq, Nat.zero_add] at hp
          subst hp
          have hA := hR.a (hdep ⟨6, .data⟩ (by simp) rfl) hD
          obtain ⟨hu, hB⟩ := id hA
          obtain ⟨z3, hrun, hch, hz3⟩ := run_storeVec (v.with o.n o.r) hB.vb
          refine step_store1 rfl (.tmp 3) (.tmp 17) rfl (puts_eval0 x 3 _ _ e3 (by kernel_rfl)) (((puts_eval x 17 _ _ (by kernel_rfl) (by rw [es]; decide) (i := 6) (by kernel_rfl))).trans hu) (hrun) (hK _ _ (hR.last (by decide) (by decide) (fun i hi => ?_) (by decide) (hB.put hch hz3)))
          rcases (show i = 0 ∨ i = 1 ∨ i = 2 ∨ i = 3 ∨ i = 4 ∨ i = 5 ∨ i = 6 by omega) with rfl | rfl | rfl | rfl | rfl | rfl | rfl
          · first | exact hdep ⟨0, .phase⟩ (by simp) rfl | exact hdep ⟨0, .data⟩ (by simp) rfl | exact hdep ⟨0, .chain⟩ (by simp) rfl
          · first | exact hdep ⟨1, .phase⟩ (by simp) rfl | exact hdep ⟨1, .data⟩ (by simp) rfl | exact hdep ⟨1, .chain⟩ (by simp) rfl
          · first | exact hdep ⟨2, .phase⟩ (by simp) rfl | exact hdep ⟨2, .data⟩ (by simp) rfl | exact hdep ⟨2, .chain⟩ (by simp) rfl
          · first | exact hdep ⟨3, .phase⟩ (by simp) rfl | exact hdep ⟨3, .data⟩ (by simp) rfl | exact hdep ⟨3, .chain⟩ (by simp) rfl
          · first | exact hdep ⟨4, .phase⟩ (by simp) rfl | exact hdep ⟨4, .data⟩ (by simp) rfl | exact hdep ⟨4, .chain⟩ (by simp) rfl
          · first | exact hdep ⟨5, .phase⟩ (by simp) rfl | exact hdep ⟨5, .data⟩ (by simp) rfl | exact hdep ⟨5, .chain⟩ (by simp) rfl
          · first | exact hdep ⟨6, .phase⟩ (by simp) rfl | exact hdep ⟨6, .data⟩ (by simp) rfl | exact hdep ⟨6, .chain⟩ (by simp) rfl
        · cases hp
      · intro D x y hD hR
        have hf := hR.f (hD 7 (by decide))
        have HFF := Lib.hid hf
        clear hR hD e0 e3 e4 es hf
        rw [HBA.out]
        simp only [puts, Act.put, List.setIfInBounds_toArray, List.set_cons_zero, List.set_cons_succ]
        go_wp2_with fail
        go_roundw
        case rel => exact ⟨q + 1, by omega, by go_num, by rw [HE.out]; exact HFF.out⟩
        case measure => first | omega | (simp [intOf]; omega) | (simp [RowKit.intOf]; omega)
    · have e : q = L.length := by omega
      subst e
      rw [List.take_length] at HRB
      have HI := HRB
      clear hq HRB
      obtain ⟨v, hv⟩ : ∃ v, v = knownV L := ⟨_, rfl⟩
      rw [← hv] at HI
      have HV := Lib.hid hv
      clear hv
      have e0 := blk_cell HI.out.vb 0
      have e1 := blk_cell HI.out.vb 1
      have e2 := blk_cell HI.out.vb 2
      have e3 := blk_cell HI.out.vb 3
      have e4 := blk_cell HI.out.vb 4
      have e5 := blk_cell HI.out.vb 5
      have e6 := blk_cell HI.out.vb 6
      have e7 := blk_cell HI.out.vb 7
      go_wp2_with (refine wpList_store_row rfl (.tmp 2) (.tmp 18) 33 rfl (w.heap.size) (V8.rowV V8.zero).toArray (V8.rowV v).toArray rfl rfl HI.out.rb (by kernel_rfl) rfl (by kernel_rfl) ?_; intro x3 hc3 hb3)
      clear e0 e1 e2 e3 e4 e5 e6 e7
      have e0 := blk_cell hb3 0
      have e1 := blk_cell hb3 1
      have e2 := blk_cell hb3 2
      have e3 := blk_cell hb3 3
      have e4 := blk_cell hb3 4
      have e5 := blk_cell hb3 5
      have e6 := blk_cell hb3 6
      have e7 := blk_cell hb3 7
      refine bodyPost_ret (v := v.val) (by simp [results, Tryd.results36, go_sem, e0, e1, e2, e3, e4, e5, e6, e7]) rfl ⟨congrArg (fun v => Ending.returned (V8.val v)) HV.out, ?_⟩
      exact HI.out.b.trans (hc3.below HI.out.b.size (fun b hb e => by omega))
/-- the box of an answer -/
theorem kbox_new (w : World) : (w.alloc (.cells (V8.rowV V8.zero).toArray 33)).heap[w.heap.size]? = some (.cells (V8.rowV V8.zero).toArray 33 (0, 0)) ∧ Below w.heap.size w (w.alloc (.cells (V8.rowV V8.zero).toArray 33)) := ⟨blk_new _ _, (Below.refl _ _).alloc (Nat.le_refl _) _⟩
set_option maxHeartbeats 8000000 in
set_option maxRecDepth 100000 in
theorem refKnown_any (w : World) (m : Nat) (A W : List OpG) (F : Nat → Prop) (h : RS w m A W F) (hl : A.length < 4294967296) :
    Calls Tryd.prog 17 #[ptr m] w fun e w' => e = .returned (knownV A).val ∧ Below w.heap.size w w' := by
  obtain ⟨va, vw, hG⟩ := h
  obtain ⟨ao, c, rfl, h0, hat⟩ := hG.all.at'
  have HG := Lib.hid hG
  have HT := Lib.hid hat
  clear hG hat h0
  go_enter Tryd.func17, Tryd.ntmps17
  go_upto_region 1 with fail
  refine wp_let' (fun y => y.heap[w.heap.size]? = some (.cells (V8.rowV V8.zero).toArray 33 (0, 0)) ∧ Below w.heap.size w y) (kbox_new w) (fun x hx => ?_)
  have HX := Lib.hid hx
  clear hx
  have t0 := blk_cell (HG.out.later HX.out.2).top 0
  have HM := Lib.hid (refMost_any x ao c A (HT.out.below HX.out.2) hl)
  go_wp2_with fail
  with_reducible refine HM.out.mono ?_
  rintro e y ⟨rfl, hb⟩
  have HB := Lib.hid hb
  have HR := Lib.hid ((hb.block _ (heap_lt HX.out.1)).trans HX.out.1)
  clear hb t0 HM
  obtain ⟨v, hv⟩ : ∃ v, v = knownV A := ⟨_, rfl⟩
  rw [← hv]
  have HV := Lib.hid hv
  clear hv
  go_wp2_with (refine wpList_store_row rfl (.tmp 2) (.tmp 7) 33 rfl (w.heap.size) (V8.rowV V8.zero).toArray (V8.rowV v).toArray rfl rfl HR.out (by kernel_rfl) rfl (by kernel_rfl) ?_; intro x3 hc3 hb3)
  have e0 := blk_cell hb3 0
  have e1 := blk_cell hb3 1
  have e2 := blk_cell hb3 2
  have e3 := blk_cell hb3 3
  have e4 := blk_cell hb3 4
  have e5 := blk_cell hb3 5
  have e6 := blk_cell hb3 6
  have e7 := blk_cell hb3 7
  refine bodyPost_ret (v := v.val) (by simp [results, Tryd.results17, go_sem, e0, e1, e2, e3, e4, e5, e6, e7]) rfl ⟨congrArg (fun v => Ending.returned (V8.val v)) HV.out, ?_⟩
  exact (HX.out.2.trans (HB.out.mono HX.out.2.size)).trans (hc3.below (Nat.le_trans HX.out.2.size HB.out.size) (fun b hb e => by omega))
end Go.Proofs.YtiamohfpohjdpaaDoor
namespace Go.Proofs.YtiamohfpohjdpaaDoor
open Go.RowKit Go.Joins
set_option linter.unusedSimpArgs false
set_option linter.unusedVariables false
theorem ltO_cmp (a b : OpG) : ltO a b ↔ cmpS a.n a.r b.n b.r < 0 := by
  rw [← cmpR_eq]
  unfold ltO cmpR
  repeat (first | omega | split)
theorem sink_set {P : List OpG} {o p : OpG} {j : Nat} (h : P[j]? = some p) : ((P.take (j + 1) ++ o :: P.drop (j + 1)).set (j + 1) p).set j o = P.take j ++ o :: P.drop j := by
  obtain ⟨hj, rfl⟩ := List.getElem?_eq_some_iff.1 h
  have e1 : P.take (j + 1) = P.take j ++ [P[j]] := List.take_succ_eq_append_getElem hj
  have e2 : P.drop j = P[j] :: P.drop (j + 1) := List.drop_eq_getElem_cons hj
  have hl : (P.take j).length = j := by rw [List.length_take]; omega
  rw [e1, e2]
  generalize P.take j = T at *
  generalize P.drop (j + 1) = R at *
  generalize P[j] = p at *
  subst hl
  rw [List.append_assoc]
  rw [List.set_append_right _ _ (by omega), List.set_append_right _ _ (by omega)]
  simp
theorem sink_get {P : List OpG} {o p : OpG} {j : Nat} (h : P[j]? = some p) : (P.take (j + 1) ++ o :: P.drop (j + 1))[j + 1]? = some o ∧ (P.take (j + 1) ++ o :: P.drop (j + 1))[j]? = some p := by
  obtain ⟨hj, rfl⟩ := List.getElem?_eq_some_iff.1 h
  have hl : (P.take (j + 1)).length = j + 1 := by rw [List.length_take]; omega
  refine ⟨?_, ?_⟩
  · rw [List.getElem?_append_right (by omega), hl]; simp
  · rw [List.getElem?_append_left (by omega), List.getElem?_take, if_pos (by omega)]; exact List.getElem?_eq_getElem hj
theorem sink_end {P : List OpG} {o : OpG} {m : Nat} (hs : SortedO P) (h1 : ∀ x ∈ P.take m, ¬ ltO o x) (h2 : ∀ x ∈ P.drop m, ltO o x) : SortedO (P.take m ++ o :: P.drop m) ∧ (P.take m ++ o :: P.drop m).Perm (P ++ [o]) := by
  have hs2 : SortedO (P.take m ++ P.drop m) := by rw [List.take_append_drop]; exact hs
  obtain ⟨k1, k2, k3⟩ := List.pairwise_append.1 hs2
  refine ⟨List.pairwise_append.2 ⟨k1, List.pairwise_cons.2 ⟨fun x hx hc => ?_, k2⟩, fun a ha b hb => ?_⟩, ?_⟩
  · have := h2 x hx
    unfold ltO at this hc
    omega
  · rcases List.mem_cons.1 hb with rfl | hb
    · exact h1 a ha
    · exact k3 a ha b hb
  · refine List.perm_middle.trans ?_
    rw [List.take_append_drop]
    exact (List.perm_append_comm (l₁ := [o]) (l₂ := P))
theorem sink_more {P : List OpG} {o p : OpG} {j : Nat} (h : P[j]? = some p) (hl : ltO o p) (h2 : ∀ x ∈ P.drop (j + 1), ltO o x) : ∀ x ∈ P.drop j, ltO o x := by
  obtain ⟨hj, rfl⟩ := List.getElem?_eq_some_iff.1 h
  rw [List.drop_eq_getElem_cons hj]
  intro x hx
  rcases List.mem_cons.1 hx with rfl | hx
  · exact hl
  · exact h2 x hx
theorem sink_stop {P : List OpG} {o p : OpG} {j : Nat} (hs : SortedO P) (h : P[j]? = some p) (hl : ¬ ltO o p) : ∀ x ∈ P.take (j + 1), ¬ ltO o x := by
  obtain ⟨hj, rfl⟩ := List.getElem?_eq_some_iff.1 h
  intro x hx hc
  rw [List.take_succ_eq_append_getElem hj] at hx
  rcases List.mem_append.1 hx with hx | hx
  · have hs2 : SortedO (P.take (j + 1) ++ P.drop (j + 1)) := by rw [List.take_append_drop]; exact hs
    rw [List.take_succ_eq_append_getElem hj] at hs2
    have := (List.pairwise_append.1 (List.pairwise_append.1 hs2).1).2.2 x hx P[j] (by simp)
    unfold ltO at *
    omega
  · simp at hx
    subst hx
    exact hl hc
theorem row_at {w : World} {base B n c : Nat} {L : List OpG} (h : OwnO w base (.slice (some ⟨B, 0, none⟩) n c) L) {i : Nat} {o : OpG} (hi : L[i]? = some o) : B < w.heap.size ∧ ∀ (j : Nat) v, o.cells[j]? = some v → w.cell? ⟨B, i * 26 + j, none⟩ = some v := by
  obtain ⟨b, off, e, hb, hc⟩ := h.at.2 i o hi
  cases e
  refine ⟨hb, fun j v hv => ?_⟩
  have := hc j v hv
  rwa [Nat.zero_add] at this
theorem row_long {z : World} {base n c : Nat} {ao : Option Addr} {L : List OpG} (h : OwnO z base (.slice ao n c) L) (h0 : 0 < L.length) : n = L.length ∧ n ≤ c ∧ c ≤ maxLen ∧ ∃ b, ao = some ⟨b, 0, none⟩ := by
  rcases h.form with ⟨-, rfl⟩ | ⟨b, c', cur, he, hB, hb, hn, hc, hs, ht⟩
  · simp at h0
  · cases he; exact ⟨rfl, hn, hc, b, rfl⟩
theorem op_one2 (x : OpG) : ∀ v ∈ x.cells.toList, v.oneCell' = true := op_one x
set_option maxHeartbeats 8000000 in
set_option maxRecDepth 100000 in
theorem refSort_any (w : World) (ao : Option Addr) (cap : Nat) (L : List OpG) (hA : OpsAt w ao L) (hn : L.length < 4294967295) :
    Calls Tryd.prog 35 #[.slice ao L.length cap] w fun e w' => ∃ (a : Option Addr) (n c : Nat) (S : List OpG), e = .returned (.slice a n c) ∧ n = S.length ∧ OwnO w' w.heap.size (.slice a n c) S ∧ S.Perm L ∧ SortedO S ∧ Below w.heap.size w w' := by
  have HA := Lib.hid hA
  clear hA
  go_enter Tryd.func35, Tryd.ntmps35
  go_wp2_with fail
  go_loopw [3, 4] (fun u i wr => ∃ (q : Nat) (P : List OpG), i = .int .i64 q ∧ q ≤ L.length ∧ OwnO wr w.heap.size u P ∧ P.Perm (L.take q) ∧ SortedO P ∧ Below w.heap.size w wr) (fun _ i _ => L.length - (RowKit.intOf i).toNat)
  case atStart => exact ⟨0, [], rfl, by omega, OwnO.nil _ _, by simp, List.Pairwise.nil, Below.refl _ _⟩
  case round =>
    obtain ⟨q, P, rfl, hq, hown, hperm, hsort, hbel⟩ := hrel
    obtain ⟨au, cu, rfl, h0u, -⟩ := hown.at'
    have HOWN := Lib.hid hown
    have HPE := Lib.hid hperm
    have HSO := Lib.hid hsort
    have HBE := Lib.hid hbel
    clear h0u
    by_cases hql : q < L.length
    · have hpl : P.length = q := by rw [hperm.length_eq, List.length_take]; omega
      obtain ⟨o, ho⟩ : ∃ o, L[q]? = some o := ⟨_, List.getElem?_eq_getElem hql⟩
      obtain ⟨b, off, rfl, hbw, hc⟩ := (HA.out.below HBE.out) q o ho
      have HC := Lib.hid hc
      have HTK := Lib.hid (take_snoc ho)
      have HPL := Lib.hid hpl
      have hpb : P.length < 4294967295 := by omega
      have b0 : (0 : Int) ≤ (q : Int) := by omega
      have b1 : (q : Int) < (L.length : Int) := by omega
      have hbs := run_bsO o
      clear hc ho hbw hown hperm hsort hbel hpl
      go_upto_region 6 with (first | (refine wpList_load_at (.tmp 16) 39 rfl rfl b (off + q * 26) o.cells rfl Tryd.underlying39 (by kernel_rfl) HC.out ?_) | (refine wpList_appO rfl (.tmp 13) (.tmp 18) rfl w.heap.size (.slice au P.length cu) P [o] rfl (HOWN.out.later ((Below.refl _ _).alloc (Nat.le_refl _) _)) (some ⟨wr.heap.size, 0, none⟩) 1 rfl (fun e => by cases e) (blk_one (blk_new _ _)) (by simp; omega) (by have := HBE.out.size; simp; omega) ?_; intro v' w' h1 h2; have HAP := Lib.hid (And.intro h1 h2); clear h1 h2))
      have HBY := Lib.hid (show Below w.heap.size w w' from (HBE.out.alloc HBE.out.size _).grown HAP.out.2 (by have := HBE.out.size; simp; omega) (fun x hx => (World.ownsRow.lt HOWN.out x hx).1))
      obtain ⟨a3, c3, hv3, -, -⟩ := HAP.out.1.at'
      rw [List.length_append] at hv3
      simp only [List.length_cons, List.length_nil, Nat.zero_add] at hv3
      subst hv3
      have hown3 := HAP.out.1
      obtain ⟨-, hc3a, hc3b, B, rfl⟩ := row_long hown3 (by simp)
      have HO3 := Lib.hid hown3
      unfold maxLen at hc3b
      clear hown3 HAP hbs HC
      go_wp2_with fail
      go_loopw [5] (fun kv wx => ∃ m : Nat, kv = .int .i64 m ∧ m ≤ P.length ∧ OwnO wx w.heap.size (.slice (some ⟨B, 0, none⟩) (P.length + 1) c3) (P.take m ++ o :: P.drop m) ∧ (∀ x ∈ P.drop m, ltO o x) ∧ Below w.heap.size w wx) (fun kv _ => (RowKit.intOf kv).toNat)
      case atStart => exact ⟨P.length, by first | rfl | go_num, Nat.le_refl _, by rw [List.take_length, List.drop_length]; exact HO3.out, by simp, HBY.out⟩
      case round =>
        obtain ⟨m, rfl, hm, hown, hlt, hbel⟩ := hrel
        have HO := Lib.hid hown
        have HLT := Lib.hid hlt
        have HB := Lib.hid hbel
        clear hown hlt hbel
        by_cases hm0 : m = 0
        · subst hm0
          have dz : decide ((0 : Int) < ((0 : Nat) : Int)) = false := by decide
          have HE := Lib.hid (sink_end (m := 0) HSO.out (by simp) HLT.out)
          go_upto_region 7 with fail
          refine region_ext (by kernel_rfl) (by kernel_rfl) ?_
          repeat (go_big_quiet_step (fail))
          refine wpQuiet_nil ?_
          rintro _ ⟨nq, rfl⟩
          go_wp2_with fail
          go_roundw
          case rel => exact ⟨q + 1, _, by go_num, by omega, HO.out.later (ext_below wr nq), by rw [HTK.out]; exact HE.out.2.trans (HPE.out.append_right [o]), HE.out.1, HB.out.trans ((ext_below wr nq).mono HB.out.size)⟩
          case measure => first | omega | (simp [intOf]; omega) | (simp [RowKit.intOf]; omega)
        · obtain ⟨j, hj⟩ : ∃ j, m = j + 1 := ⟨m - 1, by omega⟩
          obtain ⟨p, hp⟩ : ∃ p, P[j]? = some p := ⟨_, List.getElem?_eq_getElem (by omega)⟩
          have hget : (P.take m ++ o :: P.drop m)[m]? = some o ∧ (P.take m ++ o :: P.drop m)[j]? = some p := by rw [hj]; exact sink_get hp
          obtain ⟨hB1, hco⟩ := row_at HO.out hget.1
          obtain ⟨-, hcp⟩ := row_at HO.out hget.2
          have HCO := Lib.hid hco
          have HCP := Lib.hid hcp
          have HP := Lib.hid (And.intro hj hp)
          have CP := Lib.hid (fun z => refCompare_any o.n o.r p.n p.r z)
          have b2 : (0 : Int) ≤ (m : Int) := by omega
          have b3 : (m : Int) < (P.length : Int) + 1 := by omega
          have b4 : (0 : Int) ≤ (j : Int) := by omega
          have b5 : (j : Int) < (P.length : Int) + 1 := by omega
          have hk : (m : Int) - 1 = (j : Int) := by omega
          have dgt : decide (0 < m) = true := decide_eq_true (by omega)
          have c0 : ∀ n, (ext wr n).cell? ⟨B, m * 26, none⟩ = some (.int .i64 o.n) := fun n => (ext_cell wr n _ hB1).trans (hco 0 _ rfl)
          have c1 : ∀ n, (ext wr n).cell? ⟨B, m * 26 + 1, none⟩ = some (.int .i64 o.r) := fun n => (ext_cell wr n _ hB1).trans (hco 1 _ rfl)
          have d0 : ∀ n, (ext wr n).cell? ⟨B, j * 26, none⟩ = some (.int .i64 p.n) := fun n => (ext_cell wr n _ hB1).trans (hcp 0 _ rfl)
          have d1 : ∀ n, (ext wr n).cell? ⟨B, j * 26 + 1, none⟩ = some (.int .i64 p.r) := fun n => (ext_cell wr n _ hB1).trans (hcp 1 _ rfl)
          have HB1 := Lib.hid hB1
          clear hget hco hcp hp hj hB1
          by_cases hlp : ltO o p
          · have dlt : decide (cmpS o.n o.r p.n p.r < 0) = true := decide_eq_true ((ltO_cmp o p).1 hlp)
            have HLP := Lib.hid hlp
            clear hlp
            go_upto_region 7 with fail
            refine region_ext (by kernel_rfl) (by kernel_rfl) ?_
            repeat (go_big_quiet_step (with_reducible exact calls_ext (CP.out _)))
            refine wpQuiet_nil ?_
            rintro _ ⟨nq, rfl⟩
            have HE := Lib.hid (ext_below wr nq)
            have HCO2 := Lib.hid (fun k v hv => (ext_cell wr nq _ HB1.out).trans (HCO.out k v hv))
            have HO2 := Lib.hid (HO.out.later HE.out)
            clear c0 c1 d0 d1
            generalize ext wr nq = x1 at *
            go_upto_region 10 with (first | refine wpList_load_at (.tmp 44) 39 rfl rfl B (m * 26) o.cells rfl Tryd.underlying39 (by kernel_rfl) HCO2.out ?_ | refine wpList_store_fresh rfl (.tmp 6) (.tmp 45) 39 rfl (x1.heap.size) _ _ rfl rfl rfl (by kernel_rfl) (by kernel_rfl) (by kernel_rfl) ?_)
            refine wp_let' (OpBox o x1) (opBox_new o x1) (fun x2 hx2 => ?_)
            have HX2 := Lib.hid hx2
            have HO3' := Lib.hid (HO2.out.later hx2.1)
            simp only [Act.put, List.setIfInBounds_toArray, List.set_cons_zero, List.set_cons_succ]
            obtain ⟨cur, hb1, hs1, hset1⟩ := HO3'.out.set (j := m) (by simp; omega) p
            obtain ⟨-, hcp2⟩ := row_at HO3'.out (show (P.take m ++ o :: P.drop m)[j]? = some p by rw [HP.out.1]; exact (sink_get HP.out.2).2)
            have HS1 := Lib.hid (And.intro hb1 (And.intro hs1 hset1))
            have HCP2 := Lib.hid hcp2
            have HX1 := Lib.hid (show B < x1.heap.size from (World.ownsRow.lt HO2.out B rfl).2)
            clear hx2 hb1 hs1 hset1 hcp2
            go_upto_region 11 with (first | refine wpList_load_at (.tmp 51) 39 rfl rfl B (j * 26) p.cells rfl Tryd.underlying39 (by kernel_rfl) HCP2.out ?_ | (refine wpList_store_at rfl (.tmp 53) (.tmp 52) 39 rfl B (m * 26) p.cells cur rfl rfl HS1.out.1 HS1.out.2.1 (by kernel_rfl) (op_one p) ?_; intro x3 hc3 hb3 hs3; have H3 := Lib.hid (And.intro hc3 (HS1.out.2.2 x3 hb3)); clear hc3 hb3 hs3))
            obtain ⟨cur2, hb1, hs1, hset1⟩ := H3.out.2.set (j := j) (by simp; omega) o
            have HS2 := Lib.hid (And.intro hb1 (And.intro hs1 hset1))
            have HX3 := Lib.hid (H3.out.1.at HX2.out.2 (fun e => by have := HX1.out; omega))
            clear hb1 hs1 hset1
            go_wp2_with (first | (refine wpList_load_whole (.tmp 6) 39 rfl rfl x1.heap.size o.cells rfl Tryd.underlying39 (by kernel_rfl) HX3.out ?_) | (refine wpList_store_at rfl (.tmp 58) (.tmp 57) 39 rfl B (j * 26) o.cells cur2 rfl rfl HS2.out.1 HS2.out.2.1 (by kernel_rfl) (op_one o) ?_; intro x4 hc4 hb4 hs4; have H4 := Lib.hid (And.intro hc4 (HS2.out.2.2 x4 hb4)); clear hc4 hb4 hs4))
            go_roundw
            case rel =>
              refine ⟨j, by first | rfl | go_num, by omega, ?_, sink_more HP.out.2 HLP.out (by have := HLT.out; rwa [HP.out.1] at this), ?_⟩
              · have h := H4.out.2
                rw [HP.out.1, sink_set HP.out.2] at h
                exact h
              · have hB : w.heap.size ≤ B := (World.ownsRow.lt HO2.out B rfl).1
                have h1 := (HB.out.trans (HE.out.mono HB.out.size))
                have h2 := h1.trans (HX2.out.1.mono h1.size)
                have c34 := H3.out.1.trans H4.out.1 (fun _ _ h => h)
                exact h2.trans (c34.below h2.size (fun b hb e => by omega))
            case measure => have := HP.out.1; first | omega | (simp [intOf]; omega) | (simp [RowKit.intOf]; omega)
          · have dlt : decide (cmpS o.n o.r p.n p.r < 0) = false := decide_eq_false (fun h => hlp ((ltO_cmp o p).2 h))
            have HE := Lib.hid (sink_end (m := m) HSO.out (by rw [HP.out.1]; exact sink_stop HSO.out HP.out.2 hlp) HLT.out)
            clear hlp
            go_upto_region 7 with fail
            refine region_ext (by kernel_rfl) (by kernel_rfl) ?_
            repeat (go_big_quiet_step (with_reducible exact calls_ext (CP.out _)))
            refine wpQuiet_nil ?_
            rintro _ ⟨nq, rfl⟩
            go_wp2_with fail
            go_roundw
            case rel => exact ⟨q + 1, _, by go_num, by omega, HO.out.later (ext_below wr nq), by rw [HTK.out]; exact HE.out.2.trans (HPE.out.append_right [o]), HE.out.1, HB.out.trans ((ext_below wr nq).mono HB.out.size)⟩
            case measure => first | omega | (simp [intOf]; omega) | (simp [RowKit.intOf]; omega)
    · have hqe : q = L.length := by omega
      have HF := Lib.hid (show P.Perm L by have h := HPE.out; rwa [hqe, List.take_length] at h)
      have dq : decide ((q : Int) < (L.length : Int)) = false := decide_eq_false (by omega)
      clear hown hperm hsort hbel hqe
      go_wp2_with fail
      go_ret
      exact ⟨_, _, _, P, rfl, rfl, HOWN.out, HF.out, HSO.out, HBE.out⟩
end Go.Proofs.YtiamohfpohjdpaaDoor
namespace Go.Proofs.YtiamohfpohjdpaaDoor
open Go.RowKit Go.Joins
set_option linter.unusedSimpArgs false
set_option linter.unusedVariables false
theorem refPending_any (w : World) (m : Nat) (A W : List OpG) (F : Nat → Prop) (h : RS w m A W F) (hl : W.length < 4294967295) :
    Calls Tryd.prog 16 #[ptr m] w fun e w' => ∃ (a : Option Addr) (n c : Nat) (S : List OpG), e = .returned (.slice a n c) ∧ n = S.length ∧ OwnO w' w.heap.size (.slice a n c) S ∧ S.Perm W ∧ SortedO S ∧ Below w.heap.size w w' := by
  obtain ⟨va, vw, hG⟩ := h
  obtain ⟨ao, c, rfl, h0, hat⟩ := hG.wait.at'
  have t1 := blk_cell hG.top 1
  have HS := Lib.hid (refSort_any w ao c W hat hl)
  clear hG hat h0
  go_enter Tryd.func16, Tryd.ntmps16
  go_wp2_with fail
  with_reducible refine HS.out.mono ?_
  rintro e y ⟨a, n, c2, S, rfl, h1, h2, h3, h4, h5⟩
  have HF := Lib.hid (And.intro h1 (And.intro h2 (And.intro h3 (And.intro h4 h5))))
  clear h1 h2 h3 h4 h5 HS
  go_wp2
  go_ret
  exact ⟨a, n, c2, S, rfl, HF.out.1, HF.out.2.1, HF.out.2.2.1, HF.out.2.2.2.1, HF.out.2.2.2.2⟩
/-- boxes: an operation's, a vector's -/
structure KB (w : World) (o : OpG) (v : V8) (ob kb : Nat) (y : World) : Prop where
  b : Below w.heap.size w y
  ob : y.heap[ob]? = some (.cells o.cells 39 (0, 0))
  kb : y.heap[kb]? = some (.cells (V8.rowV v).toArray 33 (0, 0))
theorem KB.later {w : World} {o : OpG} {v : V8} {ob kb : Nat} {y z : World} (h : KB w o v ob kb y) (b : Below y.heap.size y z) : KB w o v ob kb z :=
  ⟨h.b.trans (b.mono h.b.size), (b.block _ (heap_lt h.ob)).trans h.ob, (b.block _ (heap_lt h.kb)).trans h.kb⟩
theorem KB.new {w : World} {o : OpG} {v : V8} {x y : World} (h : OpBox o w x) (b : Below x.heap.size x y) : KB w o v w.heap.size y.heap.size (y.alloc (.cells (V8.rowV v).toArray 33)) :=
  ⟨(h.1.trans (b.mono h.1.size)).trans (((Below.refl _ _).alloc (Nat.le_refl _) _).mono (by have := h.1.size; have := b.size; omega)), blk_alloc ((b.block _ (heap_lt h.2)).trans h.2), blk_new _ _⟩
theorem opd_cell {x : World} {b : Nat} {o : OpG} (h : x.heap[b]? = some (.cells o.cells 39 (0, 0))) {k : Nat} (hk : k < 8) : x.cell? ⟨b, 2 + k, none⟩ = some (.int .i64 (o.d.nth k)) := by
  rw [blk_cell h]
  rcases nat8 hk with rfl | rfl | rfl | rfl | rfl | rfl | rfl | rfl <;> rfl
theorem vec_cell2 {x : World} {b : Nat} {v : V8} (h : x.heap[b]? = some (.cells (V8.rowV v).toArray 33 (0, 0))) {k : Nat} (hk : k < 8) : x.cell? ⟨b, k, none⟩ = some (.int .i64 (v.nth k)) := by
  rw [blk_cell h]
  rcases nat8 hk with rfl | rfl | rfl | rfl | rfl | rfl | rfl | rfl <;> rfl
def BadAt (A : List OpG) (o : OpG) (any : Bool) (r : Nat) : Prop := o.d.nth r ≠ 0 ∧ (any = true ∨ o.d.nth r ≤ (knownV A).nth r) ∧ (o.d.nth r, (r : Int)) ∉ Cz.ids MO A
def MissP (A : List OpG) (o : OpG) (any : Bool) : Prop := ∃ r : Nat, r < 8 ∧ BadAt A o any r
set_option maxHeartbeats 8000000 in
set_option maxRecDepth 100000 in
theorem rmiss_any (w : World) (m : Nat) (A W : List OpG) (F : Nat → Prop) (h : RS w m A W F) (hl : A.length < 4294967296) (o : OpG) (any g : Bool) (hg : g = true ↔ MissP A o any) :
    Calls Tryd.prog 60 #[ptr m, o.val, .bool any] w fun e w' => e = .returned (.bool g) ∧ Below w.heap.size w w' := by
  have HR := Lib.hid h
  obtain ⟨va, vw, hG⟩ := h
  obtain ⟨ao, c, rfl, h0, hat⟩ := hG.all.at'
  have HG := Lib.hid hG
  have HT := Lib.hid hat
  have HGG := Lib.hid hg
  clear hG hat h0 hg
  go_enter Tryd.func60, Tryd.ntmps60
  go_upto_region 1 with fail
  refine wp_let' (OpBox o w) (opBox_new o w) (fun x hx => ?_)
  have HX := Lib.hid hx
  have HK := Lib.hid (refKnown_any x m A W F (HR.out.later hx.1) hl)
  clear hx
  go_wp2_with fail
  with_reducible refine HK.out.mono ?_
  rintro e y ⟨rfl, hb⟩
  have HY := Lib.hid hb
  clear hb HK
  obtain ⟨v, hv⟩ : ∃ v, v = knownV A := ⟨_, rfl⟩
  rw [← hv]
  have HV := Lib.hid hv
  clear hv
  go_upto_region 2 with (refine wpList_store_fresh rfl (.tmp 7) (.tmp 11) 33 rfl (y.heap.size) _ (V8.rowV v).toArray rfl rfl rfl (by kernel_rfl) (by kernel_rfl) (by kernel_rfl) ?_)
  refine wp_let' (KB w o v w.heap.size y.heap.size) (KB.new HX.out HY.out) (fun z hz => ?_)
  have HZ := Lib.hid hz
  simp only [Act.put, List.setIfInBounds_toArray, List.set_cons_zero, List.set_cons_succ]
  clear hz HY HX
  generalize y.heap.size = kb at *
  go_wp2_with fail
  go_loopw [8] (fun j wj => ∃ k : Nat, k ≤ 8 ∧ j = .int .i64 k ∧ KB w o v w.heap.size kb wj ∧ ∀ r : Nat, r < k → ¬ BadAt A o any r) (fun j _ => 8 - (RowKit.intOf j).toNat)
  case atStart => exact ⟨0, by omega, rfl, HZ.out, fun r hr => by omega⟩
  case round =>
    obtain ⟨k, hk, rfl, hkb, hd⟩ := hrel
    have HB := Lib.hid hkb
    have HD := Lib.hid hd
    clear hkb hd HZ
    by_cases hk8 : k < 8
    · have d8 : decide ((k : Int) < 8) = true := decide_eq_true (by omega)
      have k0 : (0 : Int) ≤ (k : Int) := by omega
      have k8 : (k : Int) < 8 := by omega
      have c0 := opd_cell HB.out.ob hk8
      have c1 := vec_cell2 HB.out.kb hk8
      have HVN := Lib.hid (show v.nth k = (knownV A).nth k by rw [HV.out])
      have more : ¬ BadAt A o any k → ∀ r : Nat, r < k + 1 → ¬ BadAt A o any r := fun h r hr => by
        by_cases e : r = k
        · subst e; exact h
        · exact HD.out r (by omega)
      have HMORE := Lib.hid more
      clear more
      by_cases hz : o.d.nth k = 0
      · have dk : (o.d.nth k != 0) = false := by simp [hz]
        have HN := Lib.hid (show ¬ BadAt A o any k from fun h => h.1 hz)
        clear hz
        go_wp2
        go_roundw
        case rel => exact ⟨k + 1, by omega, by go_num, HB.out, HMORE.out HN.out⟩
        case measure => first | omega | (simp [intOf]; omega) | (simp [RowKit.intOf]; omega)
      · have dk : (o.d.nth k != 0) = true := by simp [hz]
        by_cases hask : any = true ∨ o.d.nth k ≤ v.nth k
        · have t0 := blk_cell (HG.out.later HB.out.b).top 0
          by_cases hin : (o.d.nth k, (k : Int)) ∈ Cz.ids MO A
          · have HFI := Lib.hid (refFind_any wr ao c A (o.d.nth k) k (HT.out.below HB.out.b) hl)
            have dz : decide (findZ A (o.d.nth k, (k : Int)) < 0) = false := decide_eq_false (by have := findZ_in hin; omega)
            have HN := Lib.hid (show ¬ BadAt A o any k from fun h => h.2.2 hin)
            generalize findZ A (o.d.nth k, (k : Int)) = fz at *
            clear hin hz
            cases any with
            | true =>
              clear hask
              go_wp2_with (go_at_call 31; with_reducible refine HFI.out.mono ?_; rintro e y2 ⟨rfl, hb⟩; have HF2 := Lib.hid hb; clear hb)
              go_roundw
              case rel => exact ⟨k + 1, by omega, by go_num, HB.out.later HF2.out, HMORE.out HN.out⟩
              case measure => first | omega | (simp [intOf]; omega) | (simp [RowKit.intOf]; omega)
            | false =>
              have dle : decide (o.d.nth k ≤ v.nth k) = true := decide_eq_true (hask.resolve_left (by simp))
              clear hask
              go_wp2_with (go_at_call 31; with_reducible refine HFI.out.mono ?_; rintro e y2 ⟨rfl, hb⟩; have HF2 := Lib.hid hb; clear hb)
              go_roundw
              case rel => exact ⟨k + 1, by omega, by go_num, HB.out.later HF2.out, HMORE.out HN.out⟩
              case measure => first | omega | (simp [intOf]; omega) | (simp [RowKit.intOf]; omega)
          · have hfi := refFind_any wr ao c A (o.d.nth k) k (HT.out.below HB.out.b) hl
            rw [findZ_out hin] at hfi
            have HFI := Lib.hid hfi
            have HGV := Lib.hid (show g = true from HGG.out.2 ⟨k, hk8, hz, by rw [← HVN.out]; exact hask, hin⟩)
            clear hin hz hfi
            cases any with
            | true =>
              clear hask
              go_wp2_with (go_at_call 31; with_reducible refine HFI.out.mono ?_; rintro e y2 ⟨rfl, hb⟩; have HF2 := Lib.hid hb; clear hb)
              go_ret
              exact ⟨ret_bool HGV.out.symm, HB.out.b.trans (HF2.out.mono HB.out.b.size)⟩
            | false =>
              have dle : decide (o.d.nth k ≤ v.nth k) = true := decide_eq_true (hask.resolve_left (by simp))
              clear hask
              go_wp2_with (go_at_call 31; with_reducible refine HFI.out.mono ?_; rintro e y2 ⟨rfl, hb⟩; have HF2 := Lib.hid hb; clear hb)
              go_ret
              exact ⟨ret_bool HGV.out.symm, HB.out.b.trans (HF2.out.mono HB.out.b.size)⟩
        · obtain ⟨hany, hle⟩ : any = false ∧ ¬ o.d.nth k ≤ v.nth k := by
            refine ⟨?_, fun h => hask (.inr h)⟩
            cases any with
            | true => exact absurd (.inl rfl) hask
            | false => rfl
          have HN := Lib.hid (show ¬ BadAt A o any k from fun h => hask (by rw [HVN.out]; exact h.2.1))
          subst hany
          have dle : decide (o.d.nth k ≤ v.nth k) = false := decide_eq_false hle
          clear hask hle hz
          go_wp2
          go_roundw
          case rel => exact ⟨k + 1, by omega, by go_num, HB.out, HMORE.out HN.out⟩
          case measure => first | omega | (simp [intOf]; omega) | (simp [RowKit.intOf]; omega)
    · have hk8' : k = 8 := by omega
      subst hk8'
      have d8 : decide (((8 : Nat) : Int) < 8) = false := by decide
      have HGV := Lib.hid (show g = false by
        cases g with
        | false => rfl
        | true =>
          obtain ⟨r, hr, hb⟩ := HGG.out.1 rfl
          exact absurd hb (HD.out r hr))
      go_wp2
      go_ret
      exact ⟨ret_bool HGV.out.symm, HB.out.b⟩
end Go.Proofs.YtiamohfpohjdpaaDoor
namespace Go.Proofs.YtiamohfpohjdpaaDoor
open Go.RowKit Go.Joins
set_option linter.unusedSimpArgs false
set_option linter.unusedVariables false
set_option maxHeartbeats 8000000 in
set_option maxRecDepth 100000 in
theorem rready_any (w : World) (m : Nat) (A W : List OpG) (F : Nat → Prop) (h : RS w m A W F) (hl : A.length < 4294967296) (o : OpG) (h0 : 0 ≤ o.r) (h8 : o.r < 8) (g : Bool) (hg : g = true ↔ Cz.Ready MO A o) :
    Calls Tryd.prog 33 #[ptr m, o.val] w fun e w' => e = .returned (.bool g) ∧ Below w.heap.size w w' := by
  have HR := Lib.hid h
  have HGG := Lib.hid (hg.trans (ready_iff (A := A) h0 h8))
  clear hg
  go_enter Tryd.func33, Tryd.ntmps33
  go_upto_region 1 with fail
  refine wp_let' (OpBox o w) (opBox_new o w) (fun x hx => ?_)
  have HX := Lib.hid hx
  have HK := Lib.hid (refKnown_any x m A W F (HR.out.later hx.1) hl)
  clear hx
  go_wp2_with fail
  with_reducible refine HK.out.mono ?_
  rintro e y ⟨rfl, hb⟩
  have HY := Lib.hid hb
  clear hb HK
  obtain ⟨v, hv⟩ : ∃ v, v = knownV A := ⟨_, rfl⟩
  rw [← hv]
  rw [← hv] at HGG
  have HV := Lib.hid hv
  clear hv
  go_upto_region 2 with (refine wpList_store_fresh rfl (.tmp 5) (.tmp 8) 33 rfl (y.heap.size) _ (V8.rowV v).toArray rfl rfl rfl (by kernel_rfl) (by kernel_rfl) (by kernel_rfl) ?_)
  refine wp_let' (KB w o v w.heap.size y.heap.size) (KB.new HX.out HY.out) (fun z hz => ?_)
  have HZ := Lib.hid hz
  simp only [Act.put, List.setIfInBounds_toArray, List.set_cons_zero, List.set_cons_succ]
  clear hz HY HX
  generalize y.heap.size = kb at *
  have hB : ∃ b, (b = true ↔ MissP A o true) := ⟨@decide _ (Classical.propDecidable _), @decide_eq_true_iff _ (Classical.propDecidable _)⟩
  obtain ⟨b, hb⟩ := hB
  have HM := Lib.hid (rmiss_any z m A W F (HR.out.later HZ.out.b) hl o true b hb)
  have HBB := Lib.hid hb
  clear hb
  go_wp2_with (refine wpList_load_whole (.tmp 3) 39 rfl rfl w.heap.size o.cells rfl Tryd.underlying39 (by kernel_rfl) HZ.out.ob ?_)
  with_reducible refine HM.out.mono ?_
  rintro e z2 ⟨rfl, hb⟩
  have HZ2 := Lib.hid (HZ.out.later hb)
  clear hb HM HZ HR
  have HNA := Lib.hid (And.intro (at_nth o.d o.r h0) (at_nth v o.r h0))
  cases b with
  | true =>
    have HGV := Lib.hid (show g = false from by
      cases g with
      | false => rfl
      | true =>
        obtain ⟨k, hk, h1, _, h3⟩ := HBB.out.1 rfl
        exact absurd ((HGG.out.1 rfl).1 k hk h1) h3)
    go_upto_region 3 with fail
    refine region_ext (by kernel_rfl) (by kernel_rfl) ?_
    repeat (go_big_quiet_step (fail))
    refine wpQuiet_nil ?_
    rintro _ ⟨nq, rfl⟩
    go_wp2_with fail
    go_ret
    exact ⟨ret_bool HGV.out.symm, HZ2.out.b.trans ((ext_below z2 nq).mono HZ2.out.b.size)⟩
  | false =>
    have hk8 : o.r.toNat < 8 := by omega
    have c1 : ∀ n, (ext z2 n).cell? ⟨w.heap.size, 1, none⟩ = some (.int .i64 o.r) := fun n => blk_cell (HZ2.out.later (ext_below z2 n)).ob 1
    have c2 : ∀ n, (ext z2 n).cell? ⟨w.heap.size, 2 + o.r.toNat, none⟩ = some (.int .i64 (o.d.nth o.r.toNat)) := fun n => opd_cell (HZ2.out.later (ext_below z2 n)).ob hk8
    have c3 : ∀ n, (ext z2 n).cell? ⟨kb, o.r.toNat, none⟩ = some (.int .i64 (v.nth o.r.toNat)) := fun n => vec_cell2 (HZ2.out.later (ext_below z2 n)).kb hk8
    have HGV := Lib.hid (show (o.d.nth o.r.toNat == v.nth o.r.toNat) = g by
      rw [Bool.eq_iff_iff, beq_iff_eq, HGG.out, HNA.out.1, HNA.out.2]
      refine ⟨fun h => ⟨fun r hr hn => ?_, h⟩, fun h => h.2⟩
      exact Classical.byContradiction fun hc => absurd (HBB.out.2 ⟨r, hr, hn, .inl rfl, hc⟩) (by simp))
    generalize o.d.nth o.r.toNat = d0 at *
    generalize v.nth o.r.toNat = d1 at *
    go_upto_region 3 with fail
    refine region_ext (by kernel_rfl) (by kernel_rfl) ?_
    repeat (go_big_quiet_step (fail))
    refine wpQuiet_nil ?_
    rintro _ ⟨nq, rfl⟩
    go_wp2_with fail
    go_ret
    exact ⟨ret_bool HGV.out, HZ2.out.b.trans ((ext_below z2 nq).mono HZ2.out.b.size)⟩
set_option maxHeartbeats 8000000 in
set_option maxRecDepth 100000 in
theorem rlate_any (w : World) (m : Nat) (A W : List OpG) (F : Nat → Prop) (h : RS w m A W F) (hl : A.length < 4294967296) (o : OpG) (h0 : 0 ≤ o.r) (h8 : o.r < 8) (g : Bool) (hg : g = true ↔ Cz.Late MO A o) :
    Calls Tryd.prog 32 #[ptr m, o.val] w fun e w' => e = .returned (.bool g) ∧ Below w.heap.size w w' := by
  have HR := Lib.hid h
  have HGG := Lib.hid (hg.trans (late_iff (A := A) h0 h8))
  clear hg
  go_enter Tryd.func32, Tryd.ntmps32
  go_upto_region 1 with fail
  refine wp_let' (OpBox o w) (opBox_new o w) (fun x hx => ?_)
  have HX := Lib.hid hx
  have HK := Lib.hid (refKnown_any x m A W F (HR.out.later hx.1) hl)
  clear hx
  go_wp2_with fail
  with_reducible refine HK.out.mono ?_
  rintro e y ⟨rfl, hb⟩
  have HY := Lib.hid hb
  clear hb HK
  obtain ⟨v, hv⟩ : ∃ v, v = knownV A := ⟨_, rfl⟩
  rw [← hv]
  rw [← hv] at HGG
  have HV := Lib.hid hv
  clear hv
  go_upto_region 2 with (refine wpList_store_fresh rfl (.tmp 5) (.tmp 8) 33 rfl (y.heap.size) _ (V8.rowV v).toArray rfl rfl rfl (by kernel_rfl) (by kernel_rfl) (by kernel_rfl) ?_)
  refine wp_let' (KB w o v w.heap.size y.heap.size) (KB.new HX.out HY.out) (fun z hz => ?_)
  have HZ := Lib.hid hz
  simp only [Act.put, List.setIfInBounds_toArray, List.set_cons_zero, List.set_cons_succ]
  clear hz HY HX
  generalize y.heap.size = kb at *
  have hB : ∃ b, (b = true ↔ MissP A o false) := ⟨@decide _ (Classical.propDecidable _), @decide_eq_true_iff _ (Classical.propDecidable _)⟩
  obtain ⟨b, hb⟩ := hB
  have HM := Lib.hid (rmiss_any z m A W F (HR.out.later HZ.out.b) hl o false b hb)
  have HBB := Lib.hid hb
  clear hb
  go_wp2_with (refine wpList_load_whole (.tmp 3) 39 rfl rfl w.heap.size o.cells rfl Tryd.underlying39 (by kernel_rfl) HZ.out.ob ?_)
  with_reducible refine HM.out.mono ?_
  rintro e z2 ⟨rfl, hb⟩
  have HZ2 := Lib.hid (HZ.out.later hb)
  clear hb HM HZ HR
  have HNA := Lib.hid (And.intro (at_nth o.d o.r h0) (at_nth v o.r h0))
  cases b with
  | true =>
    have HGV := Lib.hid (show g = true from by
      obtain ⟨k, hk, h1, h2, h3⟩ := HBB.out.1 rfl
      exact HGG.out.2 (.inl ⟨k, hk, h1, by rw [HV.out]; exact h2.resolve_left (by simp), h3⟩))
    go_upto_region 3 with fail
    refine region_ext (by kernel_rfl) (by kernel_rfl) ?_
    repeat (go_big_quiet_step (fail))
    refine wpQuiet_nil ?_
    rintro _ ⟨nq, rfl⟩
    go_wp2_with fail
    go_ret
    exact ⟨ret_bool HGV.out.symm, HZ2.out.b.trans ((ext_below z2 nq).mono HZ2.out.b.size)⟩
  | false =>
    have hk8 : o.r.toNat < 8 := by omega
    have c1 : ∀ n, (ext z2 n).cell? ⟨w.heap.size, 1, none⟩ = some (.int .i64 o.r) := fun n => blk_cell (HZ2.out.later (ext_below z2 n)).ob 1
    have c2 : ∀ n, (ext z2 n).cell? ⟨w.heap.size, 2 + o.r.toNat, none⟩ = some (.int .i64 (o.d.nth o.r.toNat)) := fun n => opd_cell (HZ2.out.later (ext_below z2 n)).ob hk8
    have c3 : ∀ n, (ext z2 n).cell? ⟨kb, o.r.toNat, none⟩ = some (.int .i64 (v.nth o.r.toNat)) := fun n => vec_cell2 (HZ2.out.later (ext_below z2 n)).kb hk8
    have HGV := Lib.hid (show (decide (o.d.nth o.r.toNat < v.nth o.r.toNat)) = g by
      rw [Bool.eq_iff_iff, decide_eq_true_iff, HGG.out, HNA.out.1, HNA.out.2]
      refine ⟨.inr, fun h => h.resolve_left (fun ⟨r, h1, h2, h3, h4⟩ => ?_)⟩
      exact absurd (HBB.out.2 ⟨r, h1, h2, .inr (by rw [← HV.out]; exact h3), h4⟩) (by simp))
    generalize o.d.nth o.r.toNat = d0 at *
    generalize v.nth o.r.toNat = d1 at *
    go_upto_region 3 with fail
    refine region_ext (by kernel_rfl) (by kernel_rfl) ?_
    repeat (go_big_quiet_step (fail))
    refine wpQuiet_nil ?_
    rintro _ ⟨nq, rfl⟩
    go_wp2_with fail
    go_ret
    exact ⟨ret_bool HGV.out, HZ2.out.b.trans ((ext_below z2 nq).mono HZ2.out.b.size)⟩
end Go.Proofs.YtiamohfpohjdpaaDoor
namespace Go.Proofs.YtiamohfpohjdpaaDoor
open Go.RowKit Go.Joins
set_option linter.unusedSimpArgs false
set_option linter.unusedVariables false
/-- the place of the earliest that is ready; -1 -/
def FirstP (A W : List OpG) (z : Int) : Prop := (z = -1 ∧ ∀ x ∈ W, ¬ Cz.Ready MO A x) ∨ ∃ (i : Nat) (x : OpG), z = i ∧ W[i]? = some x ∧ Cz.Ready MO A x ∧ ∀ y ∈ W, Cz.Ready MO A y → ¬ ltO y x
theorem first_yes {A W S : List OpG} {q : Nat} {o : OpG} (hp : S.Perm W) (hs : SortedO S) (hn : (Cz.ids MO W).Nodup) (ho : S[q]? = some o) (hr : Cz.Ready MO A o) (hno : ∀ x ∈ S.take q, ¬ Cz.Ready MO A x) : FirstP A W (findZ W (o.n, o.r)) := by
  obtain ⟨i, hi, hw⟩ := findZ_at hn (hp.mem_iff.1 (List.mem_of_getElem? ho))
  refine .inr ⟨i, o, hi, hw, hr, fun y hy hry hc => ?_⟩
  obtain ⟨hq, rfl⟩ := List.getElem?_eq_some_iff.1 ho
  have e : S = S.take q ++ S[q] :: S.drop (q + 1) := by rw [← List.drop_eq_getElem_cons hq, List.take_append_drop]
  have hyS := hp.mem_iff.2 hy
  rw [e] at hyS
  unfold SortedO at hs
  rw [e] at hs
  rcases List.mem_append.1 hyS with h | h
  · exact hno y h hry
  · rcases List.mem_cons.1 h with h | h
    · rw [h] at hc; unfold ltO at hc; omega
    · exact (List.pairwise_cons.1 (List.pairwise_append.1 hs).2.1).1 y h hc
theorem first_no {A W S : List OpG} (hp : S.Perm W) (hno : ∀ x ∈ S, ¬ Cz.Ready MO A x) : FirstP A W (-1) := .inl ⟨rfl, fun x hx => hno x (hp.mem_iff.2 hx)⟩
set_option maxHeartbeats 8000000 in
set_option maxRecDepth 100000 in
theorem rfirst_any (w : World) (m : Nat) (A W : List OpG) (F : Nat → Prop) (h : RS w m A W F) (hl : A.length < 4294967296) (hlw : W.length < 4294967295) (hrep : ∀ x ∈ W, 0 ≤ x.r ∧ x.r < 8) (hn : (Cz.ids MO W).Nodup) :
    Calls Tryd.prog 34 #[ptr m] w fun e w' => ∃ z, e = .returned (.int .i64 z) ∧ FirstP A W z ∧ Below w.heap.size w w' := by
  have HR := Lib.hid h
  have HN := Lib.hid hn
  have HREP := Lib.hid hrep
  obtain ⟨va, vw, hG⟩ := h
  obtain ⟨ao, c, rfl, h0, hat⟩ := hG.wait.at'
  have HG := Lib.hid hG
  have HT := Lib.hid hat
  have HS := Lib.hid (refSort_any w ao c W hat hlw)
  have t1 := blk_cell hG.top 1
  clear hG hat h0 hn hrep
  go_enter Tryd.func34, Tryd.ntmps34
  go_wp2_with fail
  with_reducible refine HS.out.mono ?_
  rintro e y ⟨a, n, c2, S, rfl, rfl, hown, hperm, hsort, hb⟩
  have HO := Lib.hid hown
  have HPM := Lib.hid (And.intro hperm hsort)
  have HY := Lib.hid hb
  have hsl : S.length < 4294967295 := by have := hperm.length_eq; omega
  clear hown hperm hsort hb t1 HS
  go_wp2
  go_loopw [4] (fun i wr => ∃ q : Nat, i = .int .i64 q ∧ q ≤ S.length ∧ Below y.heap.size y wr ∧ ∀ x ∈ S.take q, ¬ Cz.Ready MO A x) (fun i _ => S.length - (RowKit.intOf i).toNat)
  case atStart => exact ⟨0, rfl, by omega, Below.refl _ _, fun x hx => by simp at hx⟩
  case round =>
    obtain ⟨q, rfl, hq, hbw, hno⟩ := hrel
    have HB := Lib.hid hbw
    have HNO := Lib.hid hno
    clear hbw hno
    by_cases hql : q < S.length
    · obtain ⟨o, ho⟩ : ∃ o, S[q]? = some o := ⟨_, List.getElem?_eq_getElem hql⟩
      obtain ⟨b, off, rfl, hbl, hc⟩ := (HO.out.later HB.out).at.2 q o ho
      have HOO := Lib.hid ho
      have HC := Lib.hid hc
      have b0 : (0 : Int) ≤ (q : Int) := by omega
      have b1 : (q : Int) < (S.length : Int) := by omega
      obtain ⟨hr0, hr8⟩ := HREP.out o (HPM.out.1.mem_iff.1 (List.mem_of_getElem? ho))
      obtain ⟨g, hg⟩ : ∃ g, (g = true ↔ Cz.Ready MO A o) := ⟨@decide _ (Classical.propDecidable _), @decide_eq_true_iff _ (Classical.propDecidable _)⟩
      have HRD := Lib.hid (rready_any wr m A W F ((HR.out.later HY.out).later HB.out) hl o hr0 hr8 g hg)
      have HGI := Lib.hid hg
      have HBL := Lib.hid hbl
      clear hc ho hg hr0 hr8 hbl
      go_wp2_with (refine wpList_load_at (.tmp 20) 39 rfl rfl b (off + q * 26) o.cells rfl Tryd.underlying39 (by kernel_rfl) HC.out ?_)
      with_reducible refine HRD.out.mono ?_
      rintro e y2 ⟨rfl, hb2⟩
      have HB2 := Lib.hid (HB.out.trans (hb2.mono HB.out.size))
      have HBS := Lib.hid hb2
      clear hb2 HRD
      cases g with
      | false =>
        have HNR := Lib.hid (show ¬ Cz.Ready MO A o from fun h => by have := HGI.out.2 h; cases this)
        have HTK := Lib.hid (take_snoc HOO.out)
        go_wp2
        go_roundw
        case rel => exact ⟨q + 1, by go_num, by omega, HB2.out, fun x hx => by
          rw [HTK.out] at hx
          rcases List.mem_append.1 hx with h | h
          · exact HNO.out x h
          · simp at h; subst h; exact HNR.out⟩
        case measure => first | omega | (simp [intOf]; omega) | (simp [RowKit.intOf]; omega)
      | true =>
        have HFP := Lib.hid (first_yes HPM.out.1 HPM.out.2 HN.out HOO.out (HGI.out.1 rfl) HNO.out)
        have HWB := Lib.hid (show Below w.heap.size w y2 from HY.out.trans (HB2.out.mono HY.out.size))
        have t1 : ∀ n, (ext y2 n).cell? ⟨m, 1, none⟩ = some (.slice ao W.length c) := fun n => blk_cell ((HG.out.later (HWB.out)).later (ext_below y2 n)).top 1
        have c0 : ∀ n, (ext y2 n).cell? ⟨b, off + q * 26, none⟩ = some (.int .i64 o.n) := fun n => (ext_cell y2 n _ (Nat.lt_of_lt_of_le HBL.out HBS.out.size)).trans ((HBS.out.cell (p := ⟨b, off + q * 26, none⟩) HBL.out).trans (HC.out 0 _ rfl))
        have c1 : ∀ n, (ext y2 n).cell? ⟨b, off + q * 26 + 1, none⟩ = some (.int .i64 o.r) := fun n => (ext_cell y2 n _ (Nat.lt_of_lt_of_le HBL.out HBS.out.size)).trans ((HBS.out.cell (p := ⟨b, off + q * 26 + 1, none⟩) HBL.out).trans (HC.out 1 _ rfl))
        have HFI := Lib.hid (fun n => refFind_any (ext y2 n) ao c W o.n o.r ((HT.out.below HWB.out).below (ext_below y2 n)) (by omega))
        generalize findZ W (o.n, o.r) = fz at *
        go_upto_region 7 with fail
        refine region_ext (by kernel_rfl) (by kernel_rfl) ?_
        repeat (go_big_quiet_step (with_reducible exact calls_ext (HFI.out _)))
        refine wpQuiet_nil ?_
        rintro _ ⟨nq, rfl⟩
        go_wp2_with fail
        go_ret
        exact ⟨fz, rfl, HFP.out, HWB.out.trans ((ext_below y2 nq).mono HWB.out.size)⟩
    · have hqe : q = S.length := by omega
      have HF := Lib.hid (first_no (A := A) HPM.out.1 (fun x hx => HNO.out x (by rw [hqe, List.take_length]; exact hx)))
      have dq : decide ((q : Int) < (S.length : Int)) = false := decide_eq_false (by omega)
      clear hqe
      go_wp2_with fail
      go_ret
      exact ⟨-1, rfl, HF.out, HY.out.trans (HB.out.mono HY.out.size)⟩
set_option maxHeartbeats 8000000 in
set_option maxRecDepth 100000 in
theorem rmissing_any (w : World) (m : Nat) (A W : List OpG) (F : Nat → Prop) (h : RS w m A W F) (hl : A.length < 4294967295) (v : V8) (n : Int) :
    Calls Tryd.prog 19 #[ptr m, v.val, .int .i64 n] w fun e w' => ∃ (a : Option Addr) (k c : Nat), e = .returned (.slice a k c) ∧ k = (missL v n A).length ∧ OwnO w' w.heap.size (.slice a k c) (missL v n A) ∧ Below w.heap.size w w' := by
  obtain ⟨va, vw, hG⟩ := h
  obtain ⟨ao, c, rfl, h0, hat⟩ := hG.all.at'
  have HAT := Lib.hid hat
  have HG := Lib.hid hG
  have HL := Lib.hid hl
  clear hG hat h0 hl
  go_enter Tryd.func19, Tryd.ntmps19
  go_upto_region 1 with fail
  refine wp_let' (MB w v) ⟨(Below.refl _ _).alloc (Nat.le_refl _) _, blk_new _ _⟩ (fun y hy => ?_)
  have HY := Lib.hid hy
  clear hy
  go_wp2_with fail
  go_loopw [7, 8] (fun vo vi wr => ∃ (q : Nat) (u : Value), vi = .int .i64 q ∧ q ≤ A.length ∧ vo = u ∧ OwnO wr (w.heap.size + 1) u (missL v n (A.take q)) ∧ MB w v wr) (fun _ vi _ => A.length - (intOf vi).toNat)
  case atStart => exact ⟨0, _, rfl, by omega, rfl, (by simpa [missL] using OwnO.nil _ _), HY.out⟩
  case round =>
    obtain ⟨q, u, rfl, hq, rfl, hown, hmb⟩ := hrel
    have hAl := HL.out
    obtain ⟨ao2, c2, rfl, h02, hat2⟩ := hown.at'
    have HO := Lib.hid (And.intro hown hmb)
    obtain ⟨k, hk⟩ : ∃ k, (missL v n (A.take q)).length = k := ⟨_, rfl⟩
    have HM := Lib.hid hk
    have hkq : k ≤ A.length := by rw [← hk]; exact Nat.le_trans (missL_le _ _ _) (by rw [List.length_take]; omega)
    have HMQ := Lib.hid hkq
    have t0 := blk_cell (HG.out.later hmb.b).top 0
    rw [hk] at HO
    simp only [hk]
    clear hown hmb hk hat2 h02 HY
    by_cases hql : q < A.length
    · have dql : decide ((q : Int) < (A.length : Int)) = true := decide_eq_true (by omega)
      by_cases hnm : n ≤ (k : Int)
      · have d1 : decide ((k : Int) < n) = false := decide_eq_false (by omega)
        have HF := Lib.hid (show missL v n (A.take q) = missL v n A from missL_full (by rw [HM.out]; exact hnm))
        clear hnm
        go_wp2_with fail
        go_ret
        refine ⟨_, _, _, rfl, by rw [← HF.out, HM.out], ?_, HO.out.2.b⟩
        rw [← HF.out]
        exact HO.out.1.base (fun b hb => by have := (World.ownsRow.lt HO.out.1 b hb).1; omega)
      · have d1 : decide ((k : Int) < n) = true := decide_eq_true (by omega)
        have HNM := Lib.hid (show (k : Int) < n by omega)
        obtain ⟨o, ho⟩ : ∃ o, A[q]? = some o := ⟨_, List.getElem?_eq_getElem hql⟩
        obtain ⟨b, off, rfl, hbw, hc⟩ := (HAT.out.below HO.out.2.b) q o ho
        have HOG := Lib.hid ho
        have HC := Lib.hid hc
        have HBW := Lib.hid hbw
        have b0 : (0 : Int) ≤ (q : Int) := by omega
        have b1 : (q : Int) < (A.length : Int) := by omega
        have HWR := Lib.hid (show w.heap.size + 1 ≤ wr.heap.size from heap_lt HO.out.2.vb)
        have HTK := Lib.hid (take_snoc HOG.out)
        clear hnm hc hbw ho
        go_upto_region 5 with fail
        clear t0
        have t0 : ∀ z, (ext wr z).cell? ⟨m, 0, none⟩ = some (.slice (some ⟨b, off, none⟩) A.length c) := fun z => blk_cell ((HG.out.later HO.out.2.b).later (ext_below wr z)).top 0
        have c0 : ∀ z, (ext wr z).cell? ⟨b, off + q * 26, none⟩ = some (.int .i64 o.n) := fun z => (ext_cell wr z _ HBW.out).trans (HC.out 0 _ rfl)
        have c1 : ∀ z, (ext wr z).cell? ⟨b, off + q * 26 + 1, none⟩ = some (.int .i64 o.r) := fun z => (ext_cell wr z _ HBW.out).trans (HC.out 1 _ rfl)
        have k0 : ∀ z, (ext wr z).cell? ⟨w.heap.size, 0, none⟩ = some (.int .i64 v.x0) := fun z => blk_cell (HO.out.2.later (ext_below wr z)).vb 0
        have k1 : ∀ z, (ext wr z).cell? ⟨w.heap.size, 1, none⟩ = some (.int .i64 v.x1) := fun z => blk_cell (HO.out.2.later (ext_below wr z)).vb 1
        have k2 : ∀ z, (ext wr z).cell? ⟨w.heap.size, 2, none⟩ = some (.int .i64 v.x2) := fun z => blk_cell (HO.out.2.later (ext_below wr z)).vb 2
        have k3 : ∀ z, (ext wr z).cell? ⟨w.heap.size, 3, none⟩ = some (.int .i64 v.x3) := fun z => blk_cell (HO.out.2.later (ext_below wr z)).vb 3
        have k4 : ∀ z, (ext wr z).cell? ⟨w.heap.size, 4, none⟩ = some (.int .i64 v.x4) := fun z => blk_cell (HO.out.2.later (ext_below wr z)).vb 4
        have k5 : ∀ z, (ext wr z).cell? ⟨w.heap.size, 5, none⟩ = some (.int .i64 v.x5) := fun z => blk_cell (HO.out.2.later (ext_below wr z)).vb 5
        have k6 : ∀ z, (ext wr z).cell? ⟨w.heap.size, 6, none⟩ = some (.int .i64 v.x6) := fun z => blk_cell (HO.out.2.later (ext_below wr z)).vb 6
        have k7 : ∀ z, (ext wr z).cell? ⟨w.heap.size, 7, none⟩ = some (.int .i64 v.x7) := fun z => blk_cell (HO.out.2.later (ext_below wr z)).vb 7
        have HH := Lib.hid (fun z => refHas_any v o.n o.r z)
        cases hb : v.has o.n o.r with
        | true =>
          rw [hb] at HH
          have HS := Lib.hid (missL_snoc_has (v := v) (n := n) (L := A.take q) hb)
          clear hb
          refine region_ext (by kernel_rfl) (by kernel_rfl) ?_
          repeat (go_big_quiet_step (with_reducible exact calls_ext (HH.out _)))
          refine wpQuiet_nil ?_
          rintro _ ⟨nq, rfl⟩
          go_wp2_with fail
          go_roundw
          case rel => exact ⟨q + 1, _, by go_num, by omega, rfl, by rw [HTK.out, HS.out]; exact HO.out.1.later (ext_below wr nq), HO.out.2.later (ext_below wr nq)⟩
          case measure => first | omega | (simp [intOf]; omega) | (simp [RowKit.intOf]; omega)
        | false =>
          rw [hb] at HH
          have HS := Lib.hid (missL_snoc_lacks (v := v) (n := n) (L := A.take q) hb (by rw [HM.out]; exact HNM.out))
          have hbs := run_bsO o
          clear hb
          refine region_ext (by kernel_rfl) (by kernel_rfl) ?_
          repeat (go_big_quiet_step (with_reducible exact calls_ext (HH.out _)))
          refine wpQuiet_nil ?_
          rintro _ ⟨nq, rfl⟩
          have HB2 := Lib.hid (ext_below wr nq)
          have HC2 := Lib.hid (fun j v hv => (ext_cell wr nq _ HBW.out).trans (HC.out j v hv))
          have t0' := t0 nq
          clear t0 c0 c1 k0 k1 k2 k3 k4 k5 k6 k7
          generalize ext wr nq = y2 at *
          go_wp2_with (first | (refine wpList_load_at (.tmp 43) 39 rfl rfl b (off + q * 26) o.cells rfl Tryd.underlying39 (by kernel_rfl) HC2.out ?_) | (refine wpList_appO rfl (.tmp 37) (.tmp 45) rfl (w.heap.size + 1) (.slice ao2 k c2) (missL v n (A.take q)) [o] rfl ((HO.out.1.later HB2.out).later ((Below.refl _ _).alloc (Nat.le_refl _) _)) (some ⟨y2.heap.size, 0, none⟩) 1 rfl (fun e => by cases e) (blk_one (blk_new _ _)) (by rw [HM.out]; have := HL.out; have := HMQ.out; simp; omega) (by have := HB2.out.size; have := HWR.out; simp; omega) ?_; intro v' w' h1 h2; have HAP := Lib.hid (And.intro h1 h2); clear h1 h2))
          go_roundw
          case rel =>
            refine ⟨q + 1, _, by go_num, by omega, rfl, by rw [HTK.out, HS.out]; exact HAP.out.1, ?_⟩
            exact ((HO.out.2.later HB2.out).later ((Below.refl _ _).alloc (Nat.le_refl _) _)).grow HAP.out.2 (fun b hb => (World.ownsRow.lt HO.out.1 b hb).1)
          case measure => first | omega | (simp [intOf]; omega) | (simp [RowKit.intOf]; omega)
    · have hqe : q = A.length := by omega
      subst hqe
      have dlt : decide ((A.length : Int) < (A.length : Int)) = false := by simp
      go_wp2_with fail
      go_ret
      have h1 := HO.out.1
      rw [List.take_length] at h1
      exact ⟨_, _, _, rfl, by rw [← HM.out, List.take_length], h1.base (fun b hb => by have := (World.ownsRow.lt h1 b hb).1; omega), HO.out.2.b⟩
end Go.Proofs.YtiamohfpohjdpaaDoor
namespace Go.Proofs.YtiamohfpohjdpaaDoor
open Go.RowKit Go.Joins
set_option linter.unusedSimpArgs false
set_option linter.unusedVariables false
section
variable {w z w4 y : World} {m : Nat} {va vw v2 v : Value} {A W A' W' : List OpG} {F G : Nat → Prop} {o : OpG}
theorem RG.putA (h : RG z m va vw A W F) (hb : Below w.heap.size w z) (c : Ch (fun x => some x = va.ownBlock) z w4) (hrow : OwnO w4 0 v2 A') (hv : ∀ b, v2.ownBlock = some b → va.ownBlock = some b ∨ z.heap.size ≤ b) :
    RG (w4.setCell ⟨m, 0, none⟩ v2) m v2 vw A' W (fun x => F x ∨ w.heap.size ≤ x) ∧ Ch F w (w4.setCell ⟨m, 0, none⟩ v2) := by
  have hs := heap_lt h.top
  have h4 := c.at h.top (fun e => (h.nA _ e.symm).1 rfl)
  have cs : Ch (fun x => x = m) w4 (w4.setCell ⟨m, 0, none⟩ v2) := (Ch.refl (fun x => x = m) w4).setCell ⟨m, 0, none⟩ _ (fun _ => rfl)
  have c2 : Ch (fun x => some x = va.ownBlock ∨ x = m) z (w4.setCell ⟨m, 0, none⟩ v2) := (c.mono (fun x _ e => Or.inl e)).trans cs (fun x _ e => .inr e)
  have hg3 : ∀ b, v2.ownBlock = some b → b ≠ m ∧ (F b ∨ w.heap.size ≤ b) ∧ vw.ownBlock ≠ some b := fun b hb' => by
    rcases hv b hb' with e | e
    · exact ⟨(h.nA _ e).1, .inl (h.nA _ e).2, fun k => (h.nW _ k).2.2 e⟩
    · exact ⟨by omega, .inr (by have := hb.size; omega), fun k => by have := own_lt h.wait k; omega⟩
  refine ⟨⟨?_, hrow.ch cs (fun b hb' e => (hg3 b hb').1 e), h.wait.ch c2 (fun b hb' e => e.elim (fun e => (h.nW b hb').2.2 e.symm) (h.nW b hb').1), fun b hb' => ⟨(hg3 b hb').1, (hg3 b hb').2.1⟩, fun b hb' => ⟨(h.nW b hb').1, .inl (h.nW b hb').2.1, fun k => (hg3 b k).2.2 hb'⟩, .inl h.fm⟩, ((Ch.of_below (F := F) hb).trans c (fun x _ e => (h.nA _ e.symm).2)).setCell _ _ (fun _ => h.fm)⟩
  rw [blk_set h4]; rfl
theorem RG.putW (h : RG z m va vw A W F) (hb : Below w.heap.size w z) (c : Ch (fun x => some x = vw.ownBlock) z w4) (hrow : OwnO w4 0 v2 W') (hv : ∀ b, v2.ownBlock = some b → vw.ownBlock = some b ∨ z.heap.size ≤ b) :
    RG (w4.setCell ⟨m, 1, none⟩ v2) m va v2 A W' (fun x => F x ∨ w.heap.size ≤ x) ∧ Ch F w (w4.setCell ⟨m, 1, none⟩ v2) := by
  have hs := heap_lt h.top
  have h4 := c.at h.top (fun e => (h.nW _ e.symm).1 rfl)
  have cs : Ch (fun x => x = m) w4 (w4.setCell ⟨m, 1, none⟩ v2) := (Ch.refl (fun x => x = m) w4).setCell ⟨m, 1, none⟩ _ (fun _ => rfl)
  have c2 : Ch (fun x => some x = vw.ownBlock ∨ x = m) z (w4.setCell ⟨m, 1, none⟩ v2) := (c.mono (fun x _ e => Or.inl e)).trans cs (fun x _ e => .inr e)
  have hg3 : ∀ b, v2.ownBlock = some b → b ≠ m ∧ (F b ∨ w.heap.size ≤ b) ∧ va.ownBlock ≠ some b := fun b hb' => by
    rcases hv b hb' with e | e
    · exact ⟨(h.nW _ e).1, .inl (h.nW _ e).2.1, (h.nW _ e).2.2⟩
    · exact ⟨by omega, .inr (by have := hb.size; omega), fun k => by have := own_lt h.all k; omega⟩
  refine ⟨⟨?_, h.all.ch c2 (fun b hb' e => e.elim (fun e => (h.nW _ e.symm).2.2 hb') (h.nA b hb').1), hrow.ch cs (fun b hb' e => (hg3 b hb').1 e), fun b hb' => ⟨(h.nA b hb').1, .inl (h.nA b hb').2⟩, fun b hb' => ⟨(hg3 b hb').1, (hg3 b hb').2.1, (hg3 b hb').2.2⟩, .inl h.fm⟩, ((Ch.of_below (F := F) hb).trans c (fun x _ e => (h.nW _ e.symm).2.1)).setCell _ _ (fun _ => h.fm)⟩
  rw [blk_set h4]; rfl
/-- ahead of an append to one of the rows -/
structure AP (x0 : World) (m : Nat) (va vw : Value) (A W : List OpG) (G : Nat → Prop) (y : World) : Prop where
  g : RG y m va vw A W G
  b : Below x0.heap.size x0 y
theorem AP.later {x0 : World} (h : AP x0 m va vw A W G y) (b : Below y.heap.size y z) : AP x0 m va vw A W G z := ⟨h.g.later b, h.b.trans (b.mono h.b.size)⟩
/-- behind it: the row in a value's hand -/
def InA (x0 : World) (m : Nat) (va vw : Value) (A W : List OpG) (G : Nat → Prop) (o : OpG) (v : Value) (y : World) : Prop :=
  ∃ g cap z, v = .slice (some ⟨g, 0, none⟩) (A.length + 1) cap ∧ AP x0 m va vw A W G z ∧ OwnO y 0 v (A ++ [o]) ∧ z.grownBy y va.ownBlock ∧ (va.ownBlock = some g ∨ g = z.heap.size)
def InW (x0 : World) (m : Nat) (va vw : Value) (A W : List OpG) (G : Nat → Prop) (o : OpG) (v : Value) (y : World) : Prop :=
  ∃ g cap z, v = .slice (some ⟨g, 0, none⟩) (W.length + 1) cap ∧ AP x0 m va vw A W G z ∧ OwnO y 0 v (W ++ [o]) ∧ z.grownBy y vw.ownBlock ∧ (vw.ownBlock = some g ∨ g = z.heap.size)
theorem InA.top {x0 : World} (h : InA x0 m va vw A W G o v y) : y.heap[m]? = some (.cells #[va, vw] 47 (0, 0)) := by
  obtain ⟨g, cap, z, rfl, hz, -, hg, -⟩ := h
  exact (Ch.of_grown hg).at hz.g.top (fun e => (hz.g.nA _ e.symm).1 rfl)
theorem InW.top {x0 : World} (h : InW x0 m va vw A W G o v y) : y.heap[m]? = some (.cells #[va, vw] 47 (0, 0)) := by
  obtain ⟨g, cap, z, rfl, hz, -, hg, -⟩ := h
  exact (Ch.of_grown hg).at hz.g.top (fun e => (hz.g.nW _ e.symm).1 rfl)
theorem InA.put {x0 : World} (h : InA x0 m va vw A W G o v y) : RG (y.setCell ⟨m, 0, none⟩ v) m v vw (A ++ [o]) W (fun x => G x ∨ x0.heap.size ≤ x) ∧ Ch G x0 (y.setCell ⟨m, 0, none⟩ v) := by
  obtain ⟨g, cap, z, rfl, hz, hown, hg, hw⟩ := h
  exact hz.g.putA hz.b ((Ch.of_grown hg).mono (fun x _ e => by simpa using e)) hown (fun b hb => by
    simp [Value.ownBlock] at hb
    subst hb
    exact hw.imp id (fun e => by omega))
theorem InW.put {x0 : World} (h : InW x0 m va vw A W G o v y) : RG (y.setCell ⟨m, 1, none⟩ v) m va v A (W ++ [o]) (fun x => G x ∨ x0.heap.size ≤ x) ∧ Ch G x0 (y.setCell ⟨m, 1, none⟩ v) := by
  obtain ⟨g, cap, z, rfl, hz, hown, hg, hw⟩ := h
  exact hz.g.putW hz.b ((Ch.of_grown hg).mono (fun x _ e => by simpa using e)) hown (fun b hb => by
    simp [Value.ownBlock] at hb
    subst hb
    exact hw.imp id (fun e => by omega))
/-- the store in a call's course -/
structure RL (w : World) (m : Nat) (A W : List OpG) (F : Nat → Prop) (y : World) : Prop where
  rs : RS y m A W (fun x => F x ∨ w.heap.size ≤ x)
  ch : Ch F w y
theorem RL.later (h : RL w m A W F y) (b : Below y.heap.size y z) : RL w m A W F z := ⟨h.rs.later b, h.ch.trans (Ch.of_below (F := fun _ => False) b) (fun _ _ => False.elim)⟩
theorem RL.step (h : RL w m A W F y) (hr : RS z m A' W' (fun x => (F x ∨ w.heap.size ≤ x) ∨ y.heap.size ≤ x)) (c : Ch (fun x => F x ∨ w.heap.size ≤ x) y z) : RL w m A' W' F z :=
  ⟨hr.mono (fun x hx => hx.elim id (fun h2 => .inr (by have := h.ch.size; omega))), h.ch.trans c (fun x hx e => e.elim id (fun h2 => by omega))⟩
/-- how many wait -/
def cntW (m : Nat) (y : World) : Nat := match y.cell? ⟨m, 1, none⟩ with | some (.slice _ n _) => n | _ => 0
theorem RG.cnt (h : RG y m va vw A W F) : cntW m y = W.length := by
  obtain ⟨ao, c, rfl, -, -⟩ := h.wait.at'
  unfold cntW
  rw [blk_cell h.top]
  rfl
theorem RL.cnt {x0 : World} (h : RL x0 m A W F y) : cntW m y = W.length := by
  obtain ⟨va, vw, hG⟩ := h.rs
  exact hG.cnt
end
end Go.Proofs.YtiamohfpohjdpaaDoor
namespace Go.Proofs.YtiamohfpohjdpaaDoor
open Go.RowKit Go.Joins
set_option linter.unusedSimpArgs false
set_option linter.unusedVariables false
/-- what the document's Add answers and leaves -/
def RAddT (m : Nat) (A W : List OpG) (F : Nat → Prop) (o : OpG) (w : World) (e : Ending) (w' : World) : Prop :=
  ∃ ao n c res err A' W', e = .returned (.tuple #[.slice ao n c, .int .i64 err]) ∧ n = res.length ∧ AddQ A W o res err A' W' ∧ RL w m A' W' F w' ∧ OwnO w' w.heap.size (.slice ao n c) res
theorem cut_split {R : List OpG} {j : Nat} {o : OpG} (h : R[j]? = some o) : R = R.take j ++ o :: R.drop (j + 1) ∧ (R.take j ++ R.drop (j + 1)).length + 1 = R.length := by
  obtain ⟨hj, rfl⟩ := List.getElem?_eq_some_iff.1 h
  refine ⟨by rw [← List.drop_eq_getElem_cons hj, List.take_append_drop], by simp; omega⟩
noncomputable def lateB (A : List OpG) (x : OpG) : Bool := @decide (Cz.Late MO A x) (Classical.propDecidable _)
theorem lateB_iff (A : List OpG) (x : OpG) : lateB A x = true ↔ Cz.Late MO A x := @decide_eq_true_iff _ (Classical.propDecidable _)
theorem run_bs0 (y : World) : (Instr.buildSlice 22 0 #[]).run Tryd.prog y = .ok (.slice (some ⟨y.heap.size, 0, none⟩) 0 0) (y.alloc (.cells #[] 39)) := by kernel_rfl
theorem own0 (y : World) : OwnO (y.alloc (.cells #[] 39)) y.heap.size (.slice (some ⟨y.heap.size, 0, none⟩) 0 0) [] := OwnO.mk (cur := #[]) (Nat.le_refl _) (blk_new _ _) (Nat.le_refl _) (by decide) rfl rfl
theorem run_loadO {w : World} {b off : Nat} {o : OpG} (hc : ∀ (j : Nat) v, o.cells[j]? = some v → w.cell? ⟨b, off + j, none⟩ = some v) : (Instr.loadAt 39 (.pointer (some ⟨b, off, none⟩))).run Tryd.prog w = .ok o.val w := by
  have hrun := run_loadVar_at (P := Tryd.prog) w Tryd.underlying39 (by kernel_rfl) hc
  simp [Instr.loadAt, Instr.sureAddr, hrun, Result.andThen]
theorem RAddT.same {m : Nat} {A W : List OpG} {F : Nat → Prop} {o : OpG} {w w' : World} {err : Int} (hS : RS w m A W F) (b : Below w.heap.size w w') (h : AddQ A W o [] err A W) : RAddT m A W F o w (.returned (.tuple #[.slice none 0 0, .int .i64 err])) w' :=
  ⟨none, 0, 0, [], err, A, W, rfl, rfl, h, ⟨(hS.later b).mono (fun _ => .inl), Ch.of_below b⟩, OwnO.nil _ _⟩
set_option maxHeartbeats 16000000 in
set_option maxRecDepth 100000 in
theorem radd_any (w : World) (m : Nat) (A W : List OpG) (F : Nat → Prop) (h : RS w m A W F) (hn : (Cz.ids MO W).Nodup) (hok : ∀ x ∈ W, MO.ok x) (hlen : A.length + W.length < 4000) (o : OpG) (hf : o.fine) :
    Calls Tryd.prog 15 #[ptr m, o.val] w (RAddT m A W F o w) := by
  have HR := Lib.hid h
  have HN := Lib.hid hn
  have HOKW := Lib.hid hok
  have HL := Lib.hid hlen
  have HOK := Lib.hid (show MO.ok o ↔ o.rightP = true from ⟨fun h => h.1, fun h => ⟨h, hf⟩⟩)
  have HRT := Lib.hid (fun z => refRight_any o hf z)
  obtain ⟨va, vw, hG⟩ := h
  obtain ⟨aw, cw, rfl, h0w, hatw⟩ := hG.wait.at'
  obtain ⟨aa, ca, rfl, h0a, hata⟩ := hG.all.at'
  have HG := Lib.hid hG
  have HTW := Lib.hid hatw
  have HTA := Lib.hid hata
  have hAl : A.length < 4000 := by omega
  have hWl : W.length < 4000 := by omega
  clear hn hok hlen hf hG hatw hata h0w h0a
  go_enter Tryd.func15, Tryd.ntmps15
  go_upto_region 1 with fail
  refine wp_let' (OpBox o w) (opBox_new o w) (fun x hx => ?_)
  have HX := Lib.hid hx
  have HR0 := Lib.hid (HRT.out x)
  clear hx HRT
  cases hR : o.rightP with
  | false =>
    rw [hR] at HR0 HOK
    go_wp2_with (first | (refine wpList_load_whole (.tmp 3) 39 rfl rfl w.heap.size o.cells rfl Tryd.underlying39 (by kernel_rfl) HX.out.2 ?_) | (go_at_call 30; with_reducible refine HR0.out.mono ?_; rintro e y ⟨rfl, hb⟩; have HY := Lib.hid hb; clear hb))
    go_ret2
    exact RAddT.same HR.out (HX.out.later HY.out).1 (.bad (fun h => (by have := HOK.out.1 h; cases this)))
  | true =>
    rw [hR] at HR0 HOK
    have HK := Lib.hid (HOK.out.2 rfl)
    have HRP := Lib.hid (right_parts hR).1
    clear HOK hR
    go_upto_region 4 with (first | (refine wpList_load_whole (.tmp 3) 39 rfl rfl w.heap.size o.cells rfl Tryd.underlying39 (by kernel_rfl) HX.out.2 ?_) | (go_at_call 30; with_reducible refine HR0.out.mono ?_; rintro e y ⟨rfl, hb⟩; have HY := Lib.hid hb; clear hb))
    have HX2 := Lib.hid (HX.out.later HY.out)
    clear HX HY HR0
    have t0 : ∀ n, (ext y n).cell? ⟨m, 0, none⟩ = some (.slice aa A.length ca) := fun n => blk_cell ((HG.out.later HX2.out.1).later (ext_below y n)).top 0
    have t1 : ∀ n, (ext y n).cell? ⟨m, 1, none⟩ = some (.slice aw W.length cw) := fun n => blk_cell ((HG.out.later HX2.out.1).later (ext_below y n)).top 1
    have c0 : ∀ n, (ext y n).cell? ⟨w.heap.size, 0, none⟩ = some (.int .i64 o.n) := fun n => blk_cell (HX2.out.later (ext_below y n)).2 0
    have c1 : ∀ n, (ext y n).cell? ⟨w.heap.size, 1, none⟩ = some (.int .i64 o.r) := fun n => blk_cell (HX2.out.later (ext_below y n)).2 1
    have HFA := Lib.hid (fun n => refFind_any (ext y n) aa ca A o.n o.r ((HTA.out.below HX2.out.1).below (ext_below y n)) (by omega))
    have HFW := Lib.hid (fun n => refFind_any (ext y n) aw cw W o.n o.r ((HTW.out.below HX2.out.1).below (ext_below y n)) (by omega))
    by_cases hia : (o.n, o.r) ∈ Cz.ids MO A
    · have HIN := Lib.hid (show MO.id o ∈ Cz.ids MO (A ++ W) by rw [Cz.ids_app]; exact List.mem_append.2 (.inl hia))
      have f0 := findZ_in hia
      generalize findZ A (o.n, o.r) = fz at *
      have df : decide (0 ≤ fz) = true := decide_eq_true f0
      clear hia
      refine region_ext (by kernel_rfl) (by kernel_rfl) ?_
      repeat (go_big_quiet_step (with_reducible exact calls_ext (HFA.out _)))
      refine wpQuiet_nil ?_
      rintro _ ⟨nq, rfl⟩
      go_wp2_with fail
      go_ret2
      exact RAddT.same HR.out (HX2.out.later (ext_below y nq)).1 (.there HK.out HIN.out)
    · have hfa := findZ_out hia
      rw [hfa] at HFA
      clear hfa
      by_cases hiw : (o.n, o.r) ∈ Cz.ids MO W
      · have HIN := Lib.hid (show MO.id o ∈ Cz.ids MO (A ++ W) by rw [Cz.ids_app]; exact List.mem_append.2 (.inr hiw))
        have f0 := findZ_in hiw
        generalize findZ W (o.n, o.r) = fz at *
        have df : decide (0 ≤ fz) = true := decide_eq_true f0
        clear hia hiw
        refine region_ext (by kernel_rfl) (by kernel_rfl) ?_
        repeat (go_big_quiet_step (first | (with_reducible exact calls_ext (HFA.out _)) | (with_reducible exact calls_ext (HFW.out _))))
        refine wpQuiet_nil ?_
        rintro _ ⟨nq, rfl⟩
        go_wp2_with fail
        go_ret2
        exact RAddT.same HR.out (HX2.out.later (ext_below y nq)).1 (.there HK.out HIN.out)
      · have hfw := findZ_out hiw
        rw [hfw] at HFW
        have HIN := Lib.hid (show MO.id o ∉ Cz.ids MO (A ++ W) by rw [Cz.ids_app, List.mem_append]; exact fun h => h.elim hia hiw)
        clear hfw hia hiw
        refine region_ext (by kernel_rfl) (by kernel_rfl) ?_
        repeat (go_big_quiet_step (first | (with_reducible exact calls_ext (HFA.out _)) | (with_reducible exact calls_ext (HFW.out _))))
        refine wpQuiet_nil ?_
        rintro _ ⟨nq, rfl⟩
        have HX3 := Lib.hid (HX2.out.later (ext_below y nq))
        clear t0 t1 c0 c1 HFA HFW
        generalize ext y nq = y1 at *
        have HLA := Lib.hid (fun g hg => rlate_any y1 m A W F (HR.out.later HX3.out.1) (by omega) o HRP.out.2.2.1 HRP.out.2.2.2 g hg)
        by_cases hl : Cz.Late MO A o
        · have HLT := Lib.hid hl
          have HL2 := Lib.hid (HLA.out true (iff_of_true rfl hl))
          clear hl HLA
          go_wp2_with (first | (refine wpList_load_whole (.tmp 3) 39 rfl rfl w.heap.size o.cells rfl Tryd.underlying39 (by kernel_rfl) HX3.out.2 ?_) | (go_at_call 32; with_reducible refine HL2.out.mono ?_; rintro e y2 ⟨rfl, hb⟩; have HY2 := Lib.hid hb; clear hb))
          go_ret2
          exact RAddT.same HR.out (HX3.out.later HY2.out).1 (.late HK.out HIN.out HLT.out)
        · have HLT := Lib.hid hl
          have HL2 := Lib.hid (HLA.out false ⟨fun h => (by cases h), fun h => absurd h hl⟩)
          clear hl HLA
          go_upto_region 9 with (first | (refine wpList_load_whole (.tmp 3) 39 rfl rfl w.heap.size o.cells rfl Tryd.underlying39 (by kernel_rfl) HX3.out.2 ?_) | (go_at_call 32; with_reducible refine HL2.out.mono ?_; rintro e y2 ⟨rfl, hb⟩; have HY2 := Lib.hid hb; clear hb))
          have HX4 := Lib.hid (HX3.out.later HY2.out)
          clear HX3 HY2 HL2
          have t0 : ∀ n, (ext y2 n).cell? ⟨m, 0, none⟩ = some (.slice aa A.length ca) := fun n => blk_cell ((HG.out.later HX4.out.1).later (ext_below y2 n)).top 0
          have t1 : ∀ n, (ext y2 n).cell? ⟨m, 1, none⟩ = some (.slice aw W.length cw) := fun n => blk_cell ((HG.out.later HX4.out.1).later (ext_below y2 n)).top 1
          have hw := IntWalk.i64_in ((A.length : Int) + (W.length : Int)) (by omega)
          have d4 : decide ((4000 : Int) ≤ (A.length : Int) + (W.length : Int)) = false := decide_eq_false (by have := HL.out; omega)
          refine region_ext (by kernel_rfl) (by kernel_rfl) ?_
          repeat (go_big_quiet_step (fail))
          refine wpQuiet_nil ?_
          rintro _ ⟨nq2, rfl⟩
          have HX5 := Lib.hid (HX4.out.later (ext_below y2 nq2))
          clear t0 t1 hw HX4
          generalize ext y2 nq2 = y3 at *
          go_upto_region 11 with fail
          clear d4
          have HRA := Lib.hid (fun g hg => rready_any y3 m A W F (HR.out.later HX5.out.1) (by omega) o HRP.out.2.2.1 HRP.out.2.2.2 g hg)
          by_cases hrd : Cz.Ready MO A o
          · have HRD := Lib.hid hrd
            have HR2 := Lib.hid (HRA.out true (iff_of_true rfl hrd))
            clear hrd HRA
            go_wp2_with (refine wpList_load_whole (.tmp 3) 39 rfl rfl w.heap.size o.cells rfl Tryd.underlying39 (by kernel_rfl) HX5.out.2 ?_)
            with_reducible refine HR2.out.mono ?_
            rintro e y4 ⟨rfl, hb⟩
            have HY4 := Lib.hid hb
            have t0 := blk_cell (HG.out.later (HX5.out.later hb).1).top 0
            clear hb
            go_upto_region 18 with fail
            have HX6 := Lib.hid (HX5.out.later HY4.out)
            have HG0 := Lib.hid (HG.out.later HX6.out.1)
            have HBX := Lib.hid HX6.out.2
            have HLN := Lib.hid (show A.length + 1 < 4294967296 by omega)
            clear t0 HY4 HX5 HR2
            generalize y4 = x0 at *
            refine wp_act (fun bA hbA => ?_)
            have e0 : bA.tmps.getD 0 undef = ptr m := by subst hbA; kernel_rfl
            have e3 : bA.tmps.getD 3 undef = ptr w.heap.size := by subst hbA; kernel_rfl
            have es : bA.tmps.size = 170 := by subst hbA; kernel_rfl
            have HBA := Lib.hid hbA
            clear hbA
            refine wp_region_inv (by kernel_rfl) (by kernel_rfl) (by kernel_rfl) (RQ (fun i => if i = 3 then .pointer (some ⟨m, 0, none⟩) else if i = 4 then .slice aa A.length ca else if i = 5 then o.val else if i = 9 then .pointer (some ⟨m, 0, none⟩) else ptr m) [(2, 1), (3, 2), (4, 3), (6, 5), (7, 4), (7, 6), (8, 0), (9, 8)] 10 6 7 o (fun y => AP x0 m (.slice aa A.length ca) (.slice aw W.length cw) A W F y) (fun u y => InA x0 m (.slice aa A.length ca) (.slice aw W.length cw) A W F o u y) (fun y => RS y m (A ++ [o]) W (fun x => F x ∨ x0.heap.size ≤ x) ∧ Ch F x0 y)) ?_ ?_ ?_
            · exact RQ.new (⟨HG0.out.later (Below.refl _ _).drew, (Below.refl _ _).drew⟩) (fun _ => rfl)
            · intro i p hp D x y hD hdep hR K hK
              rcases i with _ | _ | _ | _ | _ | _ | _ | _ | _ | _ | _ | i
              · simp only [List.getElem?_toArray, List.getElem?_cons_succ, List.getElem?_cons_zero, Option.some.injEq, Nat.zero_add] at hp
                subst hp
                refine step_move rfl (.tmp 0) rfl (puts_eval0 x 0 _ _ e0 (by kernel_rfl)) (hK _ _ (hR.keep (i := 0) (by decide) (by decide) (by decide) hD (fun p hp he => by
                  simp only [List.mem_cons, List.mem_nil_iff, or_false] at hp
                  rcases hp with rfl | rfl | rfl | rfl | rfl | rfl | rfl | rfl
                  · cases he
                  · cases he
                  · cases he
                  · cases he
                  · cases he
                  · cases he
                  · cases he
                  · cases he)))
              · simp only [List.getElem?_toArray, List.getElem?_cons_succ, List.getElem?_cons_zero, Option.some.injEq, Nat.zero_add] at hp
                subst hp
                refine step_move rfl (.tmp 0) rfl (puts_eval0 x 0 _ _ e0 (by kernel_rfl)) (hK _ _ (hR.keep (i := 1) (by decide) (by decide) (by decide) hD (fun p hp he => by
                  simp only [List.mem_cons, List.mem_nil_iff, or_false] at hp
                  rcases hp with rfl | rfl | rfl | rfl | rfl | rfl | rfl | rfl
                  · cases he
                  · cases he
                  · cases he
                  · cases he
                  · cases he
                  · cases he
                  · cases he
                  · cases he)))
              · simp only [List.getElem?_toArray, List.getElem?_cons_succ, List.getElem?_cons_zero, Option.some.injEq, Nat.zero_add] at hp
                subst hp
                refine step_nil rfl (.tmp 81) rfl ((puts_eval x 81 _ _ (by kernel_rfl) (by rw [es]; decide) (i := 1) (by kernel_rfl)).trans (hR.v 1 (by decide) (by decide) (by decide) (hdep ⟨1, .data⟩ (by simp) rfl))) (hK _ _ (hR.keep (i := 2) (by decide) (by decide) (by decide) hD (fun p hp he => by
                  simp only [List.mem_cons, List.mem_nil_iff, or_false] at hp
                  rcases hp with rfl | rfl | rfl | rfl | rfl | rfl | rfl | rfl
                  · exact hdep ⟨1, .data⟩ (by simp) rfl
                  · cases he
                  · cases he
                  · cases he
                  · cases he
                  · cases he
                  · cases he
                  · cases he)))
              · simp only [List.getElem?_toArray, List.getElem?_cons_succ, List.getElem?_cons_zero, Option.some.injEq, Nat.zero_add] at hp
                subst hp
                refine step_field rfl (.tmp 82) rfl ((puts_eval x 82 _ _ (by kernel_rfl) (by rw [es]; decide) (i := 2) (by kernel_rfl)).trans (hR.v 2 (by decide) (by decide) (by decide) (hdep ⟨2, .data⟩ (by simp) rfl))) (by kernel_rfl) (hK _ _ (hR.keep (i := 3) (by decide) (by decide) (by decide) hD (fun p hp he => by
                  simp only [List.mem_cons, List.mem_nil_iff, or_false] at hp
                  rcases hp with rfl | rfl | rfl | rfl | rfl | rfl | rfl | rfl
                  · cases he
                  · exact hdep ⟨2, .data⟩ (by simp) rfl
                  · cases he
                  · cases he
                  · cases he
                  · cases he
                  · cases he
                  · cases he)))
              · simp only [List.getElem?_toArray, List.getElem?_cons_succ, List.getElem?_cons_zero, Option.some.injEq, Nat.zero_add] at hp
                subst hp
                have hP := hR.p (hR.bef hD 20 (by decide))
                refine step_load rfl (.tmp 83) rfl ((puts_eval x 83 _ _ (by kernel_rfl) (by rw [es]; decide) (i := 3) (by kernel_rfl)).trans (hR.v 3 (by decide) (by decide) (by decide) (hdep ⟨3, .data⟩ (by simp) rfl))) (run_loadS1 (blk_cell hP.g.top 0)) (hK _ _ (hR.keep (i := 4) (by decide) (by decide) (by decide) hD (fun p hp he => by
                  simp only [List.mem_cons, List.mem_nil_iff, or_false] at hp
                  rcases hp with rfl | rfl | rfl | rfl | rfl | rfl | rfl | rfl
                  · cases he
                  · cases he
                  · exact hdep ⟨3, .data⟩ (by simp) rfl
                  · cases he
                  · cases he
                  · cases he
                  · cases he
                  · cases he)))
              · simp only [List.getElem?_toArray, List.getElem?_cons_succ, List.getElem?_cons_zero, Option.some.injEq, Nat.zero_add] at hp
                subst hp
                have hP := hR.p (hR.bef hD 20 (by decide))
                refine step_load rfl (.tmp 3) rfl (puts_eval0 x 3 _ _ e3 (by kernel_rfl)) (run_loadAt_whole Tryd.underlying39 (by kernel_rfl) ((hP.b.block _ (heap_lt HBX.out)).trans HBX.out)) (hK _ _ (hR.keep (i := 5) (by decide) (by decide) (by decide) hD (fun p hp he => by
                  simp only [List.mem_cons, List.mem_nil_iff, or_false] at hp
                  rcases hp with rfl | rfl | rfl | rfl | rfl | rfl | rfl | rfl
                  · cases he
                  · cases he
                  · cases he
                  · cases he
                  · cases he
                  · cases he
                  · cases he
                  · cases he)))
              · simp only [List.getElem?_toArray, List.getElem?_cons_succ, List.getElem?_cons_zero, Option.some.injEq, Nat.zero_add] at hp
                subst hp
                have hk := hR.bef hD 20 (by decide)
                refine step_bs rfl #[(0, .tmp 85)] rfl #[(0, OpG.val o)] (congrArg (fun v => [(0, v)]) ((puts_eval x 85 _ _ (by kernel_rfl) (by rw [es]; decide) (i := 5) (by kernel_rfl)).trans (hR.v 5 (by decide) (by decide) (by decide) (hdep ⟨5, .data⟩ (by simp) rfl)))) (run_bsO o y) (hK _ _ (hR.block (by decide) (by decide) hD hk (fun p hp he => by
                  simp only [List.mem_cons, List.mem_nil_iff, or_false] at hp
                  rcases hp with rfl | rfl | rfl | rfl | rfl | rfl | rfl | rfl
                  · cases he
                  · cases he
                  · cases he
                  · exact hdep ⟨5, .data⟩ (by simp) rfl
                  · cases he
                  · cases he
                  · cases he
                  · cases he) (fun z h b => h.later b)))
              · simp only [List.getElem?_toArray, List.getElem?_cons_succ, List.getElem?_cons_zero, Option.some.injEq, Nat.zero_add] at hp
                subst hp
                obtain ⟨B, h6, hB⟩ := hR.s (hdep ⟨6, .data⟩ (by simp) rfl) hD
                have hP := hR.p hD
                refine step_wp rfl (wp_appL (.tmp 84) (.tmp 86) rfl 0 (.slice aa A.length ca) A o ((puts_eval x 84 _ _ (by kernel_rfl) (by rw [es]; decide) (i := 4) (by kernel_rfl)).trans (hR.v 4 (by decide) (by decide) (by decide) (hdep ⟨4, .data⟩ (by simp) rfl))) hP.g.all B (((puts_eval x 86 _ _ (by kernel_rfl) (by rw [es]; decide) (i := 6) (by kernel_rfl))).trans h6) hB HLN.out (Nat.zero_le _) fun g cap z h1 h2 h3 => hK _ _ (hR.app (by decide) hD (fun p hp he => by
                  simp only [List.mem_cons, List.mem_nil_iff, or_false] at hp
                  rcases hp with rfl | rfl | rfl | rfl | rfl | rfl | rfl | rfl
                  · cases he
                  · cases he
                  · cases he
                  · cases he
                  · exact hdep ⟨4, .data⟩ (by simp) rfl
                  · exact hdep ⟨6, .data⟩ (by simp) rfl
                  · cases he
                  · cases he) (⟨g, cap, y, rfl, hP, h1, h2, h3⟩)))
              · simp only [List.getElem?_toArray, List.getElem?_cons_succ, List.getElem?_cons_zero, Option.some.injEq, Nat.zero_add] at hp
                subst hp
                refine step_nil rfl (.tmp 80) rfl ((puts_eval x 80 _ _ (by kernel_rfl) (by rw [es]; decide) (i := 0) (by kernel_rfl)).trans (hR.v 0 (by decide) (by decide) (by decide) (hdep ⟨0, .data⟩ (by simp) rfl))) (hK _ _ (hR.keep (i := 8) (by decide) (by decide) (by decide) hD (fun p hp he => by
                  simp only [List.mem_cons, List.mem_nil_iff, or_false] at hp
                  rcases hp with rfl | rfl | rfl | rfl | rfl | rfl | rfl | rfl
                  · cases he
                  · cases he
                  · cases he
                  · cases he
                  · cases he
                  · cases he
                  · exact hdep ⟨0, .data⟩ (by simp) rfl
                  · cases he)))
              · simp only [List.getElem?_toArray, List.getElem?_cons_succ, List.getElem?_cons_zero, Option.some.injEq, Nat.zero_add] at hp
                subst hp
                refine step_field rfl (.tmp 88) rfl ((puts_eval x 88 _ _ (by kernel_rfl) (by rw [es]; decide) (i := 8) (by kernel_rfl)).trans (hR.v 8 (by decide) (by decide) (by decide) (hdep ⟨8, .data⟩ (by simp) rfl))) (by kernel_rfl) (hK _ _ (hR.keep (i := 9) (by decide) (by decide) (by decide) hD (fun p hp he => by
                  simp only [List.mem_cons, List.mem_nil_iff, or_false] at hp
                  rcases hp with rfl | rfl | rfl | rfl | rfl | rfl | rfl | rfl
                  · cases he
                  · cases he
                  · cases he
                  · cases he
                  · cases he
                  · cases he
                  · cases he
                  · exact hdep ⟨8, .data⟩ (by simp) rfl)))
              · simp only [List.getElem?_toArray, List.getElem?_cons_succ, List.getElem?_cons_zero, Option.some.injEq, Nat.zero_add] at hp
                subst hp
                have hA := hR.a (hdep ⟨7, .data⟩ (by simp) rfl) hD
                obtain ⟨g, cap, z, h7, -⟩ := id hA
                rw [h7] at hA
                refine step_store1 rfl (.tmp 89) (.tmp 87) rfl ((puts_eval x 89 _ _ (by kernel_rfl) (by rw [es]; decide) (i := 9) (by kernel_rfl)).trans (hR.v 9 (by decide) (by decide) (by decide) (hdep ⟨9, .data⟩ (by simp) rfl))) (((puts_eval x 87 _ _ (by kernel_rfl) (by rw [es]; decide) (i := 7) (by kernel_rfl))).trans h7) (run_storeO y hA.top (by simp)) (hK _ _ (hR.last (by decide) (by decide) (fun i hi => ?_) (by decide) (⟨⟨_, _, hA.put.1⟩, hA.put.2⟩)))
                rcases (show i = 0 ∨ i = 1 ∨ i = 2 ∨ i = 3 ∨ i = 4 ∨ i = 5 ∨ i = 6 ∨ i = 7 ∨ i = 8 ∨ i = 9 by omega) with rfl | rfl | rfl | rfl | rfl | rfl | rfl | rfl | rfl | rfl
                · first | exact hdep ⟨0, .phase⟩ (by simp) rfl | exact hdep ⟨0, .data⟩ (by simp) rfl | exact hdep ⟨0, .chain⟩ (by simp) rfl
                · first | exact hdep ⟨1, .phase⟩ (by simp) rfl | exact hdep ⟨1, .data⟩ (by simp) rfl | exact hdep ⟨1, .chain⟩ (by simp) rfl
                · first | exact hdep ⟨2, .phase⟩ (by simp) rfl | exact hdep ⟨2, .data⟩ (by simp) rfl | exact hdep ⟨2, .chain⟩ (by simp) rfl
                · first | exact hdep ⟨3, .phase⟩ (by simp) rfl | exact hdep ⟨3, .data⟩ (by simp) rfl | exact hdep ⟨3, .chain⟩ (by simp) rfl
                · first | exact hdep ⟨4, .phase⟩ (by simp) rfl | exact hdep ⟨4, .data⟩ (by simp) rfl | exact hdep ⟨4, .chain⟩ (by simp) rfl
                · first | exact hdep ⟨5, .phase⟩ (by simp) rfl | exact hdep ⟨5, .data⟩ (by simp) rfl | exact hdep ⟨5, .chain⟩ (by simp) rfl
                · first | exact hdep ⟨6, .phase⟩ (by simp) rfl | exact hdep ⟨6, .data⟩ (by simp) rfl | exact hdep ⟨6, .chain⟩ (by simp) rfl
                · first | exact hdep ⟨7, .phase⟩ (by simp) rfl | exact hdep ⟨7, .data⟩ (by simp) rfl | exact hdep ⟨7, .chain⟩ (by simp) rfl
                · exact hR.e (9, 8) (by simp) (hdep ⟨9, .data⟩ (by simp) rfl)
                · exact hdep ⟨9, .data⟩ (by simp) rfl
              · cases hp
            · intro D x y hD hR
              have hf := hR.f (hD 10 (by decide))
              have HFF := Lib.hid hf
              clear hR hD e0 e3 es hf
              rw [HBA.out]
              simp only [puts, Act.put, List.setIfInBounds_toArray, List.set_cons_zero, List.set_cons_succ]
              have HRL := Lib.hid (show RL w m (A ++ [o]) W F y from ⟨HFF.out.1.mono (fun x hx => hx.imp id (fun h => Nat.le_trans HX6.out.1.size h)), (Ch.of_below HX6.out.1).trans HFF.out.2 (fun _ _ h => h)⟩)
              have HREP := Lib.hid (show ∀ x ∈ W, 0 ≤ x.r ∧ x.r < 8 from fun x hx => MO.rep x (HOKW.out x hx))
              have HFI := Lib.hid (rfirst_any y m (A ++ [o]) W _ HRL.out.rs (by simp; omega) (by omega) HREP.out HN.out)
              clear HFF HX6 HG0 HBX HLN
              generalize y = y5 at *
              go_wp2_with fail
              with_reducible refine HFI.out.mono ?_
              rintro e y6 ⟨z0, rfl, hz0, hb6⟩
              have HZ0 := Lib.hid (And.intro hz0 (HRL.out.later hb6))
              clear hz0 hb6 HFI
              go_wp2_with fail
              go_loopw [10, 11] (fun vi vr wr => ∃ (z : Int) (A1 W1 : List OpG), vi = .int .i64 z ∧ FirstP A1 W1 z ∧ RL w m A1 W1 F wr ∧ (∀ A2 W2, Drq A1 W1 A2 W2 → Drq (A ++ [o]) W A2 W2) ∧ (Cz.ids MO W1).Nodup ∧ (∀ x ∈ W1, x ∈ W) ∧ A1.length + W1.length = A.length + 1 + W.length ∧ A.length < A1.length) (fun _ _ wr => cntW m wr)
              case atStart => exact ⟨z0, A ++ [o], W, rfl, HZ0.out.1, HZ0.out.2, fun _ _ h => h, HN.out, fun _ h => h, by simp, by simp⟩
              case round =>
                obtain ⟨z, A1, W1, rfl, hfp, hrl, hdr, hnd, hsub, hln, hla⟩ := hrel
                have HRL := Lib.hid hrl
                have HDR := Lib.hid hdr
                have HND := Lib.hid (And.intro hnd hsub)
                have HLA := Lib.hid (And.intro hln hla)
                have hl1 : A1.length < 4001 := by have := HL.out; omega
                have hl2 : W1.length < 4001 := by have := HL.out; omega
                clear hrl hdr hnd hsub hln hla
                rcases hfp with ⟨rfl, hno⟩ | ⟨q, p, rfl, hpq, hrp, hle⟩
                · have HDN := Lib.hid (HDR.out _ _ (Drq.stop hno))
                  clear hno
                  have d0 : decide ((0 : Int) ≤ -1) = false := by decide
                  obtain ⟨wq, hwq⟩ : ∃ z, z = wr := ⟨_, rfl⟩
                  subst hwq
                  obtain ⟨va1, vw1, hG1⟩ := HRL.out.rs.bnd
                  obtain ⟨aw1, cw1, rfl, -, hat1⟩ := hG1.wait.at'
                  obtain ⟨aa1, ca1, rfl, -, -⟩ := hG1.all.at'
                  obtain ⟨-, hc1, hc2, Ba, rfl⟩ := row_long hG1.all (by have := HLA.out.2; omega)
                  unfold maxLen at hc2
                  have HG1 := Lib.hid hG1
                  have HT1 := Lib.hid hat1
                  have HCA := Lib.hid (And.intro hc1 hc2)
                  clear hG1 hat1 hc1 hc2
                  go_wp2_with fail
                  go_loopw [12, 13, 14, 15] (fun vr vi v14 v15 wr => ∃ q : Nat, vi = .int .i64 q ∧ q ≤ W1.length ∧ OwnO wr wq.heap.size vr ((W1.take q).filter fun x => !lateB A1 x) ∧ Below wq.heap.size wq wr) (fun _ vi _ _ _ => W1.length - (RowKit.intOf vi).toNat)
                  case atStart => exact ⟨0, rfl, by omega, by rw [List.take_zero]; exact OwnO.nil _ _, Below.refl _ _⟩
                  case round =>
                    obtain ⟨q, rfl, hq, hown, hb⟩ := hrel
                    obtain ⟨ar, cr, rfl, -, -⟩ := hown.at'
                    have HO := Lib.hid hown
                    have HB := Lib.hid hb
                    obtain ⟨k, hk⟩ : ∃ k, ((W1.take q).filter fun x => !lateB A1 x).length = k := ⟨_, rfl⟩
                    have HM := Lib.hid hk
                    have hkq : k ≤ W1.length := by rw [← hk]; exact Nat.le_trans (List.length_filter_le _ _) (by rw [List.length_take]; omega)
                    rw [hk] at HO
                    simp only [hk]
                    clear hown hb hk
                    by_cases hql : q < W1.length
                    · obtain ⟨p, hpq⟩ : ∃ p, W1[q]? = some p := ⟨_, List.getElem?_eq_getElem hql⟩
                      obtain ⟨b, off, rfl, hbw, hc⟩ := (HT1.out.below HB.out) q p hpq
                      have HPM := Lib.hid (HREP.out p (HND.out.2 p (List.mem_of_getElem? hpq)))
                      have HTK := Lib.hid (take_snoc hpq)
                      have HC := Lib.hid hc
                      have t1 := blk_cell (HG1.out.later HB.out).top 1
                      have b0 : (0 : Int) ≤ (q : Int) := by omega
                      have b1 : (q : Int) < (W1.length : Int) := by omega
                      clear hpq hbw hc
                      go_upto_region 32 with (first | refine wpList_load_at (.tmp 147) 39 rfl rfl b (off + q * 26) p.cells rfl Tryd.underlying39 (by kernel_rfl) HC.out ?_ | refine wpList_store_fresh rfl (.tmp 14) (.tmp 148) 39 rfl (wr.heap.size) _ _ rfl rfl rfl (by kernel_rfl) (by kernel_rfl) (by kernel_rfl) ?_)
                      refine wp_let' (OpBox p wr) (opBox_new p wr) (fun x2 hx2 => ?_)
                      have HX2 := Lib.hid hx2
                      have HB2 := Lib.hid (HB.out.trans (hx2.1.mono HB.out.size))
                      simp only [Act.put, List.setIfInBounds_toArray, List.set_cons_zero, List.set_cons_succ]
                      clear hx2 t1
                      obtain ⟨g, hg⟩ : ∃ g, lateB A1 p = g := ⟨_, rfl⟩
                      have HLT2 := Lib.hid (rlate_any x2 m A1 W1 _ ((HRL.out.rs.later HB2.out)) (by omega) p HPM.out.1 HPM.out.2 g (by rw [← hg]; exact lateB_iff A1 p))
                      have HGL := Lib.hid hg
                      clear hg
                      go_wp2_with (refine wpList_load_whole (.tmp 14) 39 rfl rfl wr.heap.size p.cells rfl Tryd.underlying39 (by kernel_rfl) HX2.out.2 ?_)
                      with_reducible refine HLT2.out.mono ?_
                      rintro e x3 ⟨rfl, hb3⟩
                      have HB3 := Lib.hid (HB2.out.trans (hb3.mono HB2.out.size))
                      have HO3 := Lib.hid ((HO.out.later HX2.out.1).later hb3)
                      have HX3 := Lib.hid (HX2.out.later hb3)
                      clear hb3 HLT2 HB2 HX2
                      cases g with
                      | true =>
                        go_wp2
                        go_roundw
                        case rel => exact ⟨q + 1, by go_num, by omega, by rw [HTK.out, List.filter_append, List.filter_cons_of_neg (by rw [HGL.out]; decide), List.filter_nil, List.append_nil]; exact HO3.out, HB3.out⟩
                        case measure => first | omega | (simp [intOf]; omega) | (simp [RowKit.intOf]; omega)
                      | false =>
                        have hbs := run_bsO p
                        go_wp2_with (first | (refine wpList_load_whole (.tmp 14) 39 rfl rfl wr.heap.size p.cells rfl Tryd.underlying39 (by kernel_rfl) HX3.out.2 ?_) | (refine wpList_appO rfl (.tmp 154) (.tmp 156) rfl wq.heap.size (.slice ar k cr) ((W1.take q).filter fun x => !lateB A1 x) [p] rfl (HO3.out.later ((Below.refl _ _).alloc (Nat.le_refl _) _)) (some ⟨x3.heap.size, 0, none⟩) 1 rfl (fun e => by cases e) (blk_one (blk_new _ _)) (by rw [HM.out]; simp; omega) (by have := HB3.out.size; simp; omega) ?_; intro v' w' h1 h2; have HAP := Lib.hid (And.intro h1 h2); clear h1 h2))
                        go_roundw
                        case rel =>
                          refine ⟨q + 1, by go_num, by omega, by rw [HTK.out, List.filter_append, List.filter_cons_of_pos (by rw [HGL.out]; rfl), List.filter_nil]; exact HAP.out.1, ?_⟩
                          exact (HB3.out.trans (((Below.refl _ _).alloc (Nat.le_refl _) _).mono HB3.out.size)).grown HAP.out.2 (by have := HB3.out.size; simp; omega) (fun b hb => (World.ownsRow.lt HO3.out b hb).1)
                        case measure => first | omega | (simp [intOf]; omega) | (simp [RowKit.intOf]; omega)
                    · have hqe : q = W1.length := by omega
                      have HF := Lib.hid (show OwnO wr wq.heap.size (.slice ar k cr) (W1.filter fun x => !lateB A1 x) by have h := HO.out; rwa [hqe, List.take_length] at h)
                      have dq : decide ((q : Int) < (W1.length : Int)) = false := decide_eq_false (by omega)
                      have ht := (HG1.out.later HB.out).top
                      have t1 := blk_cell ht 1
                      have f1 := blk_free ht 1
                      have hput := HG1.out.putW (Below.refl _ _) (Ch.of_below (F := fun x => some x = (Value.slice aw1 W1.length cw1).ownBlock) HB.out) (HF.out.base (fun _ _ => Nat.zero_le _)) (fun b hb2 => .inr (World.ownsRow.lt HF.out b hb2).1)
                      have HP := Lib.hid hput
                      clear hput ht hqe
                      go_upto_region 36 with fail
                      clear t1 f1
                      generalize wr.setCell ⟨m, 1, none⟩ (.slice ar k cr) = x5 at *
                      have t0 := blk_cell (HP.out.1.later ((Below.refl _ _).alloc (Nat.le_refl _) (.cells #[] 39))).top 0
                      have hbs := run_bs0
                      have hca := HCA.out.1
                      have hcb := HCA.out.2
                      have hla := HLA.out.2
                      have b0 : (0 : Int) ≤ (A.length : Int) := by omega
                      have b1 : (A.length : Int) ≤ (A1.length : Int) := by omega
                      have b2 : (A1.length : Int) ≤ (ca1 : Int) := by omega
                      have b3 : A.length < ca1 := by omega
                      have HDL := Lib.hid (show (A1.drop A.length).length = A1.length - A.length by rw [List.length_drop])
                      go_wp2_with (refine wpList_appO rfl (.tmp 162) (.tmp 168) rfl x5.heap.size (.slice (some ⟨x5.heap.size, 0, none⟩) 0 0) [] (A1.drop A.length) rfl (own0 x5) (some ⟨Ba, A.length * 26, none⟩) (ca1 - A.length) (by rw [HDL.out]; rfl) (by intro h; cases h) (by have := ((HP.out.1.all.at.2).below ((Below.refl _ _).alloc (Nat.le_refl _) (.cells #[] 39))).drop A.length; rwa [Nat.zero_add] at this) (by rw [HDL.out]; simp; omega) (by simp) ?_; intro v' w' h1 h2; have HAP := Lib.hid (And.intro h1 h2); clear h1 h2)
                      obtain ⟨a9, c9, rfl, -, -⟩ := HAP.out.1.at'
                      go_ret2
                      have hB9 : Below x5.heap.size x5 w' := ((Below.refl _ _).alloc (Nat.le_refl _) _).grown HAP.out.2 (by simp) (fun b hb => by simp [Value.ownBlock] at hb; omega)
                      have hrl : RL w m A1 (W1.filter fun x => !lateB A1 x) F x5 := ⟨⟨_, _, HP.out.1.mono (fun x hx => hx.elim (fun h => h.1) (fun h => .inr (Nat.le_trans HRL.out.ch.size h)))⟩, HRL.out.ch.trans HP.out.2 (fun x hx h => h.1.elim id (fun h2 => by omega))⟩
                      exact ⟨a9, _, c9, A1.drop A.length, 0, A1, _, rfl, rfl, .done HK.out HIN.out HLT.out HRD.out HDN.out, hrl.later hB9, HAP.out.1.base (fun b hb => Nat.le_trans (hrl.ch.size) (World.ownsRow.lt HAP.out.1 b hb).1)⟩
                · have HPQ := Lib.hid hpq
                  have HQL := Lib.hid (List.getElem?_eq_some_iff.1 hpq).1
                  have HRP2 := Lib.hid (And.intro hrp hle)
                  have HLN := Lib.hid (show A1.length + 1 < 4294967296 by omega)
                  obtain ⟨va1, vw1, hG1⟩ := HRL.out.rs
                  obtain ⟨aw1, cw1, rfl, -, -⟩ := hG1.wait.at'
                  obtain ⟨-, hc1, hc2, B1, rfl⟩ := row_long hG1.wait (by have := HQL.out; omega)
                  unfold maxLen at hc2
                  have HCW := Lib.hid (And.intro hc1 hc2)
                  have HG1 := Lib.hid hG1
                  have dq : decide ((0 : Int) ≤ (q : Int)) = true := decide_eq_true (by omega)
                  clear hpq hrp hle hG1 hc1 hc2
                  go_upto_region 22 with fail
                  refine wp_act (fun bA hbA => ?_)
                  have e0 : bA.tmps.getD 0 undef = ptr m := by subst hbA; kernel_rfl
                  have e10 : bA.tmps.getD 10 undef = .int .i64 q := by subst hbA; kernel_rfl
                  have es : bA.tmps.size = 170 := by subst hbA; kernel_rfl
                  have HBA := Lib.hid hbA
                  clear hbA
                  refine wp_region_inv (by kernel_rfl) (by kernel_rfl) (by kernel_rfl) (RQ (fun i => if i = 3 then .pointer (some ⟨m, 0, none⟩) else if i = 4 then va1 else if i = 7 then .pointer (some ⟨m, 1, none⟩) else if i = 8 then .slice (some ⟨B1, 0, none⟩) W1.length cw1 else if i = 9 then .int .i64 q else if i = 10 then .pointer (some ⟨B1, 0 + q * 26, none⟩) else if i = 11 then p.val else if i = 15 then .pointer (some ⟨m, 0, none⟩) else ptr m) [(2, 1), (3, 2), (4, 3), (6, 5), (7, 6), (8, 7), (10, 8), (10, 9), (11, 10), (12, 11), (13, 4), (13, 12), (14, 0), (15, 14)] 16 12 13 p (fun y => AP wr m va1 (.slice (some ⟨B1, 0, none⟩) W1.length cw1) A1 W1 (fun x => F x ∨ w.heap.size ≤ x) y) (fun u y => InA wr m va1 (.slice (some ⟨B1, 0, none⟩) W1.length cw1) A1 W1 (fun x => F x ∨ w.heap.size ≤ x) p u y) (fun y => (∃ v, RG y m v (.slice (some ⟨B1, 0, none⟩) W1.length cw1) (A1 ++ [p]) W1 (fun x => (F x ∨ w.heap.size ≤ x) ∨ wr.heap.size ≤ x)) ∧ Ch (fun x => F x ∨ w.heap.size ≤ x) wr y)) ?_ ?_ ?_
                  · exact RQ.new (⟨HG1.out.later (Below.refl _ _).drew, (Below.refl _ _).drew⟩) (fun _ => rfl)
                  · intro i p hp D x y hD hdep hR K hK
                    rcases i with _ | _ | _ | _ | _ | _ | _ | _ | _ | _ | _ | _ | _ | _ | _ | _ | _ | i
                    · simp only [List.getElem?_toArray, List.getElem?_cons_succ, List.getElem?_cons_zero, Option.some.injEq, Nat.zero_add] at hp
                      subst hp
                      refine step_move rfl (.tmp 0) rfl (puts_eval0 x 0 _ _ e0 (by kernel_rfl)) (hK _ _ (hR.keep (i := 0) (by decide) (by decide) (by decide) hD (fun p hp he => by
                        simp only [List.mem_cons, List.mem_nil_iff, or_false] at hp
                        rcases hp with rfl | rfl | rfl | rfl | rfl | rfl | rfl | rfl | rfl | rfl | rfl | rfl | rfl | rfl
                        · cases he
                        · cases he
                        · cases he
                        · cases he
                        · cases he
                        · cases he
                        · cases he
                        · cases he
                        · cases he
                        · cases he
                        · cases he
                        · cases he
                        · cases he
                        · cases he)))
                    · simp only [List.getElem?_toArray, List.getElem?_cons_succ, List.getElem?_cons_zero, Option.some.injEq, Nat.zero_add] at hp
                      subst hp
                      refine step_move rfl (.tmp 0) rfl (puts_eval0 x 0 _ _ e0 (by kernel_rfl)) (hK _ _ (hR.keep (i := 1) (by decide) (by decide) (by decide) hD (fun p hp he => by
                        simp only [List.mem_cons, List.mem_nil_iff, or_false] at hp
                        rcases hp with rfl | rfl | rfl | rfl | rfl | rfl | rfl | rfl | rfl | rfl | rfl | rfl | rfl | rfl
                        · cases he
                        · cases he
                        · cases he
                        · cases he
                        · cases he
                        · cases he
                        · cases he
                        · cases he
                        · cases he
                        · cases he
                        · cases he
                        · cases he
                        · cases he
                        · cases he)))
                    · simp only [List.getElem?_toArray, List.getElem?_cons_succ, List.getElem?_cons_zero, Option.some.injEq, Nat.zero_add] at hp
                      subst hp
                      refine step_nil rfl (.tmp 97) rfl ((puts_eval x 97 _ _ (by kernel_rfl) (by rw [es]; decide) (i := 1) (by kernel_rfl)).trans (hR.v 1 (by decide) (by decide) (by decide) (hdep ⟨1, .data⟩ (by simp) rfl))) (hK _ _ (hR.keep (i := 2) (by decide) (by decide) (by decide) hD (fun p hp he => by
                        simp only [List.mem_cons, List.mem_nil_iff, or_false] at hp
                        rcases hp with rfl | rfl | rfl | rfl | rfl | rfl | rfl | rfl | rfl | rfl | rfl | rfl | rfl | rfl
                        · exact hdep ⟨1, .data⟩ (by simp) rfl
                        · cases he
                        · cases he
                        · cases he
                        · cases he
                        · cases he
                        · cases he
                        · cases he
                        · cases he
                        · cases he
                        · cases he
                        · cases he
                        · cases he
                        · cases he)))
                    · simp only [List.getElem?_toArray, List.getElem?_cons_succ, List.getElem?_cons_zero, Option.some.injEq, Nat.zero_add] at hp
                      subst hp
                      refine step_field rfl (.tmp 98) rfl ((puts_eval x 98 _ _ (by kernel_rfl) (by rw [es]; decide) (i := 2) (by kernel_rfl)).trans (hR.v 2 (by decide) (by decide) (by decide) (hdep ⟨2, .data⟩ (by simp) rfl))) (by kernel_rfl) (hK _ _ (hR.keep (i := 3) (by decide) (by decide) (by decide) hD (fun p hp he => by
                        simp only [List.mem_cons, List.mem_nil_iff, or_false] at hp
                        rcases hp with rfl | rfl | rfl | rfl | rfl | rfl | rfl | rfl | rfl | rfl | rfl | rfl | rfl | rfl
                        · cases he
                        · exact hdep ⟨2, .data⟩ (by simp) rfl
                        · cases he
                        · cases he
                        · cases he
                        · cases he
                        · cases he
                        · cases he
                        · cases he
                        · cases he
                        · cases he
                        · cases he
                        · cases he
                        · cases he)))
                    · simp only [List.getElem?_toArray, List.getElem?_cons_succ, List.getElem?_cons_zero, Option.some.injEq, Nat.zero_add] at hp
                      subst hp
                      have hP := hR.p (hR.bef hD 20 (by decide))
                      refine step_load rfl (.tmp 99) rfl ((puts_eval x 99 _ _ (by kernel_rfl) (by rw [es]; decide) (i := 3) (by kernel_rfl)).trans (hR.v 3 (by decide) (by decide) (by decide) (hdep ⟨3, .data⟩ (by simp) rfl))) (run_loadS1 (blk_cell hP.g.top 0)) (hK _ _ (hR.keep (i := 4) (by decide) (by decide) (by decide) hD (fun p hp he => by
                        simp only [List.mem_cons, List.mem_nil_iff, or_false] at hp
                        rcases hp with rfl | rfl | rfl | rfl | rfl | rfl | rfl | rfl | rfl | rfl | rfl | rfl | rfl | rfl
                        · cases he
                        · cases he
                        · exact hdep ⟨3, .data⟩ (by simp) rfl
                        · cases he
                        · cases he
                        · cases he
                        · cases he
                        · cases he
                        · cases he
                        · cases he
                        · cases he
                        · cases he
                        · cases he
                        · cases he)))
                    · simp only [List.getElem?_toArray, List.getElem?_cons_succ, List.getElem?_cons_zero, Option.some.injEq, Nat.zero_add] at hp
                      subst hp
                      refine step_move rfl (.tmp 0) rfl (puts_eval0 x 0 _ _ e0 (by kernel_rfl)) (hK _ _ (hR.keep (i := 5) (by decide) (by decide) (by decide) hD (fun p hp he => by
                        simp only [List.mem_cons, List.mem_nil_iff, or_false] at hp
                        rcases hp with rfl | rfl | rfl | rfl | rfl | rfl | rfl | rfl | rfl | rfl | rfl | rfl | rfl | rfl
                        · cases he
                        · cases he
                        · cases he
                        · cases he
                        · cases he
                        · cases he
                        · cases he
                        · cases he
                        · cases he
                        · cases he
                        · cases he
                        · cases he
                        · cases he
                        · cases he)))
                    · simp only [List.getElem?_toArray, List.getElem?_cons_succ, List.getElem?_cons_zero, Option.some.injEq, Nat.zero_add] at hp
                      subst hp
                      refine step_nil rfl (.tmp 101) rfl ((puts_eval x 101 _ _ (by kernel_rfl) (by rw [es]; decide) (i := 5) (by kernel_rfl)).trans (hR.v 5 (by decide) (by decide) (by decide) (hdep ⟨5, .data⟩ (by simp) rfl))) (hK _ _ (hR.keep (i := 6) (by decide) (by decide) (by decide) hD (fun p hp he => by
                        simp only [List.mem_cons, List.mem_nil_iff, or_false] at hp
                        rcases hp with rfl | rfl | rfl | rfl | rfl | rfl | rfl | rfl | rfl | rfl | rfl | rfl | rfl | rfl
                        · cases he
                        · cases he
                        · cases he
                        · exact hdep ⟨5, .data⟩ (by simp) rfl
                        · cases he
                        · cases he
                        · cases he
                        · cases he
                        · cases he
                        · cases he
                        · cases he
                        · cases he
                        · cases he
                        · cases he)))
                    · simp only [List.getElem?_toArray, List.getElem?_cons_succ, List.getElem?_cons_zero, Option.some.injEq, Nat.zero_add] at hp
                      subst hp
                      refine step_field rfl (.tmp 102) rfl ((puts_eval x 102 _ _ (by kernel_rfl) (by rw [es]; decide) (i := 6) (by kernel_rfl)).trans (hR.v 6 (by decide) (by decide) (by decide) (hdep ⟨6, .data⟩ (by simp) rfl))) (by kernel_rfl) (hK _ _ (hR.keep (i := 7) (by decide) (by decide) (by decide) hD (fun p hp he => by
                        simp only [List.mem_cons, List.mem_nil_iff, or_false] at hp
                        rcases hp with rfl | rfl | rfl | rfl | rfl | rfl | rfl | rfl | rfl | rfl | rfl | rfl | rfl | rfl
                        · cases he
                        · cases he
                        · cases he
                        · cases he
                        · exact hdep ⟨6, .data⟩ (by simp) rfl
                        · cases he
                        · cases he
                        · cases he
                        · cases he
                        · cases he
                        · cases he
                        · cases he
                        · cases he
                        · cases he)))
                    · simp only [List.getElem?_toArray, List.getElem?_cons_succ, List.getElem?_cons_zero, Option.some.injEq, Nat.zero_add] at hp
                      subst hp
                      have hP := hR.p (hR.bef hD 20 (by decide))
                      refine step_load rfl (.tmp 103) rfl ((puts_eval x 103 _ _ (by kernel_rfl) (by rw [es]; decide) (i := 7) (by kernel_rfl)).trans (hR.v 7 (by decide) (by decide) (by decide) (hdep ⟨7, .data⟩ (by simp) rfl))) (run_loadS1 (blk_cell hP.g.top 1)) (hK _ _ (hR.keep (i := 8) (by decide) (by decide) (by decide) hD (fun p hp he => by
                        simp only [List.mem_cons, List.mem_nil_iff, or_false] at hp
                        rcases hp with rfl | rfl | rfl | rfl | rfl | rfl | rfl | rfl | rfl | rfl | rfl | rfl | rfl | rfl
                        · cases he
                        · cases he
                        · cases he
                        · cases he
                        · cases he
                        · exact hdep ⟨7, .data⟩ (by simp) rfl
                        · cases he
                        · cases he
                        · cases he
                        · cases he
                        · cases he
                        · cases he
                        · cases he
                        · cases he)))
                    · simp only [List.getElem?_toArray, List.getElem?_cons_succ, List.getElem?_cons_zero, Option.some.injEq, Nat.zero_add] at hp
                      subst hp
                      refine step_move rfl (.tmp 10) rfl (puts_eval0 x 10 _ _ e10 (by kernel_rfl)) (hK _ _ (hR.keep (i := 9) (by decide) (by decide) (by decide) hD (fun p hp he => by
                        simp only [List.mem_cons, List.mem_nil_iff, or_false] at hp
                        rcases hp with rfl | rfl | rfl | rfl | rfl | rfl | rfl | rfl | rfl | rfl | rfl | rfl | rfl | rfl
                        · cases he
                        · cases he
                        · cases he
                        · cases he
                        · cases he
                        · cases he
                        · cases he
                        · cases he
                        · cases he
                        · cases he
                        · cases he
                        · cases he
                        · cases he
                        · cases he)))
                    · simp only [List.getElem?_toArray, List.getElem?_cons_succ, List.getElem?_cons_zero, Option.some.injEq, Nat.zero_add] at hp
                      subst hp
                      refine step_index rfl (.tmp 104) (.tmp 105) rfl ((puts_eval x 104 _ _ (by kernel_rfl) (by rw [es]; decide) (i := 8) (by kernel_rfl)).trans (hR.v 8 (by decide) (by decide) (by decide) (hdep ⟨8, .data⟩ (by simp) rfl))) ((puts_eval x 105 _ _ (by kernel_rfl) (by rw [es]; decide) (i := 9) (by kernel_rfl)).trans (hR.v 9 (by decide) (by decide) (by decide) (hdep ⟨9, .data⟩ (by simp) rfl))) (run_idxO HQL.out y) (hK _ _ (hR.keep (i := 10) (by decide) (by decide) (by decide) hD (fun p hp he => by
                        simp only [List.mem_cons, List.mem_nil_iff, or_false] at hp
                        rcases hp with rfl | rfl | rfl | rfl | rfl | rfl | rfl | rfl | rfl | rfl | rfl | rfl | rfl | rfl
                        · cases he
                        · cases he
                        · cases he
                        · cases he
                        · cases he
                        · cases he
                        · exact hdep ⟨8, .data⟩ (by simp) rfl
                        · exact hdep ⟨9, .data⟩ (by simp) rfl
                        · cases he
                        · cases he
                        · cases he
                        · cases he
                        · cases he
                        · cases he)))
                    · simp only [List.getElem?_toArray, List.getElem?_cons_succ, List.getElem?_cons_zero, Option.some.injEq, Nat.zero_add] at hp
                      subst hp
                      have hP := hR.p (hR.bef hD 20 (by decide))
                      refine step_load rfl (.tmp 106) rfl ((puts_eval x 106 _ _ (by kernel_rfl) (by rw [es]; decide) (i := 10) (by kernel_rfl)).trans (hR.v 10 (by decide) (by decide) (by decide) (hdep ⟨10, .data⟩ (by simp) rfl))) (run_loadO (fun j v hv => by rw [Nat.zero_add]; exact (row_at hP.g.wait HPQ.out).2 j v hv)) (hK _ _ (hR.keep (i := 11) (by decide) (by decide) (by decide) hD (fun p hp he => by
                        simp only [List.mem_cons, List.mem_nil_iff, or_false] at hp
                        rcases hp with rfl | rfl | rfl | rfl | rfl | rfl | rfl | rfl | rfl | rfl | rfl | rfl | rfl | rfl
                        · cases he
                        · cases he
                        · cases he
                        · cases he
                        · cases he
                        · cases he
                        · cases he
                        · cases he
                        · exact hdep ⟨10, .data⟩ (by simp) rfl
                        · cases he
                        · cases he
                        · cases he
                        · cases he
                        · cases he)))
                    · simp only [List.getElem?_toArray, List.getElem?_cons_succ, List.getElem?_cons_zero, Option.some.injEq, Nat.zero_add] at hp
                      subst hp
                      have hk := hR.bef hD 20 (by decide)
                      refine step_bs rfl #[(0, .tmp 107)] rfl #[(0, OpG.val p)] (congrArg (fun v => [(0, v)]) ((puts_eval x 107 _ _ (by kernel_rfl) (by rw [es]; decide) (i := 11) (by kernel_rfl)).trans (hR.v 11 (by decide) (by decide) (by decide) (hdep ⟨11, .data⟩ (by simp) rfl)))) (run_bsO p y) (hK _ _ (hR.block (by decide) (by decide) hD hk (fun p hp he => by
                        simp only [List.mem_cons, List.mem_nil_iff, or_false] at hp
                        rcases hp with rfl | rfl | rfl | rfl | rfl | rfl | rfl | rfl | rfl | rfl | rfl | rfl | rfl | rfl
                        · cases he
                        · cases he
                        · cases he
                        · cases he
                        · cases he
                        · cases he
                        · cases he
                        · cases he
                        · cases he
                        · exact hdep ⟨11, .data⟩ (by simp) rfl
                        · cases he
                        · cases he
                        · cases he
                        · cases he) (fun z h b => h.later b)))
                    · simp only [List.getElem?_toArray, List.getElem?_cons_succ, List.getElem?_cons_zero, Option.some.injEq, Nat.zero_add] at hp
                      subst hp
                      obtain ⟨B, h6, hB⟩ := hR.s (hdep ⟨12, .data⟩ (by simp) rfl) hD
                      have hP := hR.p hD
                      refine step_wp rfl (wp_appL (.tmp 100) (.tmp 108) rfl 0 va1 A1 p ((puts_eval x 100 _ _ (by kernel_rfl) (by rw [es]; decide) (i := 4) (by kernel_rfl)).trans (hR.v 4 (by decide) (by decide) (by decide) (hdep ⟨4, .data⟩ (by simp) rfl))) hP.g.all B (((puts_eval x 108 _ _ (by kernel_rfl) (by rw [es]; decide) (i := 12) (by kernel_rfl))).trans h6) hB HLN.out (Nat.zero_le _) fun g cap z h1 h2 h3 => hK _ _ (hR.app (by decide) hD (fun p hp he => by
                        simp only [List.mem_cons, List.mem_nil_iff, or_false] at hp
                        rcases hp with rfl | rfl | rfl | rfl | rfl | rfl | rfl | rfl | rfl | rfl | rfl | rfl | rfl | rfl
                        · cases he
                        · cases he
                        · cases he
                        · cases he
                        · cases he
                        · cases he
                        · cases he
                        · cases he
                        · cases he
                        · cases he
                        · exact hdep ⟨4, .data⟩ (by simp) rfl
                        · exact hdep ⟨12, .data⟩ (by simp) rfl
                        · cases he
                        · cases he) (⟨g, cap, y, rfl, hP, h1, h2, h3⟩)))
                    · simp only [List.getElem?_toArray, List.getElem?_cons_succ, List.getElem?_cons_zero, Option.some.injEq, Nat.zero_add] at hp
                      subst hp
                      refine step_nil rfl (.tmp 96) rfl ((puts_eval x 96 _ _ (by kernel_rfl) (by rw [es]; decide) (i := 0) (by kernel_rfl)).trans (hR.v 0 (by decide) (by decide) (by decide) (hdep ⟨0, .data⟩ (by simp) rfl))) (hK _ _ (hR.keep (i := 14) (by decide) (by decide) (by decide) hD (fun p hp he => by
                        simp only [List.mem_cons, List.mem_nil_iff, or_false] at hp
                        rcases hp with rfl | rfl | rfl | rfl | rfl | rfl | rfl | rfl | rfl | rfl | rfl | rfl | rfl | rfl
                        · cases he
                        · cases he
                        · cases he
                        · cases he
                        · cases he
                        · cases he
                        · cases he
                        · cases he
                        · cases he
                        · cases he
                        · cases he
                        · cases he
                        · exact hdep ⟨0, .data⟩ (by simp) rfl
                        · cases he)))
                    · simp only [List.getElem?_toArray, List.getElem?_cons_succ, List.getElem?_cons_zero, Option.some.injEq, Nat.zero_add] at hp
                      subst hp
                      refine step_field rfl (.tmp 110) rfl ((puts_eval x 110 _ _ (by kernel_rfl) (by rw [es]; decide) (i := 14) (by kernel_rfl)).trans (hR.v 14 (by decide) (by decide) (by decide) (hdep ⟨14, .data⟩ (by simp) rfl))) (by kernel_rfl) (hK _ _ (hR.keep (i := 15) (by decide) (by decide) (by decide) hD (fun p hp he => by
                        simp only [List.mem_cons, List.mem_nil_iff, or_false] at hp
                        rcases hp with rfl | rfl | rfl | rfl | rfl | rfl | rfl | rfl | rfl | rfl | rfl | rfl | rfl | rfl
                        · cases he
                        · cases he
                        · cases he
                        · cases he
                        · cases he
                        · cases he
                        · cases he
                        · cases he
                        · cases he
                        · cases he
                        · cases he
                        · cases he
                        · cases he
                        · exact hdep ⟨14, .data⟩ (by simp) rfl)))
                    · simp only [List.getElem?_toArray, List.getElem?_cons_succ, List.getElem?_cons_zero, Option.some.injEq, Nat.zero_add] at hp
                      subst hp
                      have hA := hR.a (hdep ⟨13, .data⟩ (by simp) rfl) hD
                      obtain ⟨g, cap, z, h7, -⟩ := id hA
                      rw [h7] at hA
                      refine step_store1 rfl (.tmp 111) (.tmp 109) rfl ((puts_eval x 111 _ _ (by kernel_rfl) (by rw [es]; decide) (i := 15) (by kernel_rfl)).trans (hR.v 15 (by decide) (by decide) (by decide) (hdep ⟨15, .data⟩ (by simp) rfl))) (((puts_eval x 109 _ _ (by kernel_rfl) (by rw [es]; decide) (i := 13) (by kernel_rfl))).trans h7) (run_storeO y hA.top (by simp)) (hK _ _ (hR.last (by decide) (by decide) (fun i hi => ?_) (by decide) (⟨⟨_, hA.put.1⟩, hA.put.2⟩)))
                      rcases (show i = 0 ∨ i = 1 ∨ i = 2 ∨ i = 3 ∨ i = 4 ∨ i = 5 ∨ i = 6 ∨ i = 7 ∨ i = 8 ∨ i = 9 ∨ i = 10 ∨ i = 11 ∨ i = 12 ∨ i = 13 ∨ i = 14 ∨ i = 15 by omega) with rfl | rfl | rfl | rfl | rfl | rfl | rfl | rfl | rfl | rfl | rfl | rfl | rfl | rfl | rfl | rfl
                      · first | exact hdep ⟨0, .phase⟩ (by simp) rfl | exact hdep ⟨0, .data⟩ (by simp) rfl | exact hdep ⟨0, .chain⟩ (by simp) rfl
                      · first | exact hdep ⟨1, .phase⟩ (by simp) rfl | exact hdep ⟨1, .data⟩ (by simp) rfl | exact hdep ⟨1, .chain⟩ (by simp) rfl
                      · first | exact hdep ⟨2, .phase⟩ (by simp) rfl | exact hdep ⟨2, .data⟩ (by simp) rfl | exact hdep ⟨2, .chain⟩ (by simp) rfl
                      · first | exact hdep ⟨3, .phase⟩ (by simp) rfl | exact hdep ⟨3, .data⟩ (by simp) rfl | exact hdep ⟨3, .chain⟩ (by simp) rfl
                      · first | exact hdep ⟨4, .phase⟩ (by simp) rfl | exact hdep ⟨4, .data⟩ (by simp) rfl | exact hdep ⟨4, .chain⟩ (by simp) rfl
                      · first | exact hdep ⟨5, .phase⟩ (by simp) rfl | exact hdep ⟨5, .data⟩ (by simp) rfl | exact hdep ⟨5, .chain⟩ (by simp) rfl
                      · first | exact hdep ⟨6, .phase⟩ (by simp) rfl | exact hdep ⟨6, .data⟩ (by simp) rfl | exact hdep ⟨6, .chain⟩ (by simp) rfl
                      · first | exact hdep ⟨7, .phase⟩ (by simp) rfl | exact hdep ⟨7, .data⟩ (by simp) rfl | exact hdep ⟨7, .chain⟩ (by simp) rfl
                      · first | exact hdep ⟨8, .phase⟩ (by simp) rfl | exact hdep ⟨8, .data⟩ (by simp) rfl | exact hdep ⟨8, .chain⟩ (by simp) rfl
                      · first | exact hdep ⟨9, .phase⟩ (by simp) rfl | exact hdep ⟨9, .data⟩ (by simp) rfl | exact hdep ⟨9, .chain⟩ (by simp) rfl
                      · first | exact hdep ⟨10, .phase⟩ (by simp) rfl | exact hdep ⟨10, .data⟩ (by simp) rfl | exact hdep ⟨10, .chain⟩ (by simp) rfl
                      · first | exact hdep ⟨11, .phase⟩ (by simp) rfl | exact hdep ⟨11, .data⟩ (by simp) rfl | exact hdep ⟨11, .chain⟩ (by simp) rfl
                      · first | exact hdep ⟨12, .phase⟩ (by simp) rfl | exact hdep ⟨12, .data⟩ (by simp) rfl | exact hdep ⟨12, .chain⟩ (by simp) rfl
                      · first | exact hdep ⟨13, .phase⟩ (by simp) rfl | exact hdep ⟨13, .data⟩ (by simp) rfl | exact hdep ⟨13, .chain⟩ (by simp) rfl
                      · exact hR.e (15, 14) (by simp) (hdep ⟨15, .data⟩ (by simp) rfl)
                      · exact hdep ⟨15, .data⟩ (by simp) rfl
                    · cases hp
                  · intro D x y hD hR
                    have hf := hR.f (hD 16 (by decide))
                    have HFF := Lib.hid hf
                    clear hR hD e0 e10 es hf
                    rw [HBA.out]
                    simp only [puts, Act.put, List.setIfInBounds_toArray, List.set_cons_zero, List.set_cons_succ]
                    obtain ⟨⟨v5, hrg⟩, hch5⟩ := id HFF.out
                    have HG5 := Lib.hid hrg
                    have t1 := blk_cell hrg.top 1
                    have HTL := Lib.hid (show (W1.take q).length = q by rw [List.length_take]; have := HQL.out; omega)
                    have HDL := Lib.hid (show (W1.drop (q + 1)).length = W1.length - (q + 1) by rw [List.length_drop])
                    have hql := HQL.out
                    have b0 : (0 : Int) ≤ (q : Int) := by omega
                    have b1 : (q : Int) < (W1.length : Int) := by omega
                    have b2 : (q : Int) ≤ (cw1 : Int) := by have := HCW.out.1; omega
                    have b3 : (0 : Int) ≤ (q : Int) + 1 := by omega
                    have b4 : (q : Int) + 1 ≤ (W1.length : Int) := by omega
                    have b5 : (W1.length : Int) ≤ (cw1 : Int) := by have := HCW.out.1; omega
                    have b6 := HCW.out.2
                    clear hrg hch5
                    go_upto_region 25 with (refine wpList_appO rfl (.tmp 112) (.tmp 118) rfl y.heap.size (.slice none 0 0) [] (W1.take q) rfl (OwnO.nil _ _) (some ⟨B1, 0, none⟩) cw1 (by rw [HTL.out]; rfl) (by intro h; cases h) (HG5.out.wait.at.2.take q) (by rw [HTL.out]; simp; omega) (Nat.le_refl _) ?_; intro v1 wx own1 grow1; have bb := (Below.refl y.heap.size y).grown grow1 (Nat.le_refl _) (fun x hx => by cases hx); have HO1 := Lib.hid own1; have HB1 := Lib.hid bb; clear own1 grow1 bb)
                    have HG6 := Lib.hid (HG5.out.later HB1.out)
                    clear t1
                    have t1 := blk_cell HG6.out.top 1
                    go_cut [11] (fun v2 wy => OwnO wy y.heap.size v2 (W1.take q ++ W1.drop (q + 1)) ∧ Below y.heap.size y wy)
                    case first =>
                      rcases Nat.lt_or_ge (q + 1) cw1 with hcc | hcc
                      · go_wp2_with (refine wpList_appO rfl (.tmp 120) (.tmp 127) rfl y.heap.size v1 ([] ++ W1.take q) (W1.drop (q + 1)) rfl HO1.out (some ⟨B1, (q + 1) * 26, none⟩) (cw1 - (q + 1)) (by rw [HDL.out]; rfl) (by intro h; cases h) (by have := HG6.out.wait.at.2.drop (q + 1); rwa [Nat.zero_add] at this) (by rw [HDL.out, List.nil_append, HTL.out]; omega) HB1.out.size ?_; intro v2 wy own2 grow2; have bb := HB1.out.grown grow2 HB1.out.size (fun x hx => (World.ownsRow.lt HO1.out x hx).1); have HO2 := Lib.hid own2; have HB2 := Lib.hid bb; clear own2 grow2 bb)
                        go_meet
                        exact ⟨by have := HO2.out; rwa [List.nil_append] at this, HB2.out⟩
                      · obtain rfl : cw1 = q + 1 := by omega
                        have HDN := Lib.hid (show W1.drop (q + 1) = [] from List.drop_eq_nil_of_le (by omega))
                        have hrl : (W1.length : Int) = (q : Int) + 1 := by omega
                        go_wp2_with (refine wpList_appO rfl (.tmp 120) (.tmp 127) rfl y.heap.size v1 ([] ++ W1.take q) (W1.drop (q + 1)) rfl HO1.out (some ⟨B1, 0, none⟩) 0 (by first | (rw [HDL.out]; rfl) | (rw [HDL.out, show W1.length - (q + 1) = 0 from by omega]; rfl)) (by intro h; cases h) (by rw [HDN.out]; intro i o2 hi; simp at hi) (by rw [HDL.out, List.nil_append, HTL.out]; omega) HB1.out.size ?_; intro v2 wy own2 grow2; have bb := HB1.out.grown grow2 HB1.out.size (fun x hx => (World.ownsRow.lt HO1.out x hx).1); have HO2 := Lib.hid own2; have HB2 := Lib.hid bb; clear own2 grow2 bb)
                        go_meet
                        exact ⟨by have := HO2.out; rwa [List.nil_append] at this, HB2.out⟩
                    case rest =>
                      obtain ⟨hown, hb⟩ := hcut
                      obtain ⟨wy, hwy⟩ : ∃ wy, wy = wc := ⟨_, rfl⟩
                      subst hwy
                      obtain ⟨al3, cl3, rfl, -, -⟩ := hown.at'
                      have hput := HG5.out.putW (Below.refl _ _) (Ch.of_below (F := fun _ => False) hb |>.mono (fun _ _ h => h.elim)) (hown.base (fun _ _ => Nat.zero_le _)) (fun b hb2 => .inr (World.ownsRow.lt hown b hb2).1)
                      have htop := (HG5.out.later hb).top
                      have HT := Lib.hid htop
                      have HRS := Lib.hid (show RL w m (A1 ++ [p]) (W1.take q ++ W1.drop (q + 1)) F (wy.setCell ⟨m, 1, none⟩ (.slice al3 (W1.take q ++ W1.drop (q + 1)).length cl3)) from by
                        refine (HRL.out.step ⟨_, _, hput.1.mono ?_⟩ (HFF.out.2.trans hput.2 ?_))
                        · rintro x ((h | h) | h)
                          · exact .inl h
                          · exact .inr h
                          · exact .inr (Nat.le_trans HFF.out.2.size h)
                        · rintro x hx (h | h)
                          · exact h
                          · omega)
                      have f1 := blk_free htop 1
                      have g1 := blk_cell htop 1
                      have HQ2 := Lib.hid (cut_split HPQ.out).2
                      have HSB := Lib.hid (show (W1.take q ++ W1.drop (q + 1)).Sublist W1 by
                        have h := (cut_split HPQ.out).1
                        generalize W1.take q = T at *
                        generalize W1.drop (q + 1) = R at *
                        rw [h]
                        exact List.Sublist.append_left (List.sublist_cons_self p R) T)
                      have HDR2 := Lib.hid (show ∀ A2 Wx, Drq (A1 ++ [p]) (W1.take q ++ W1.drop (q + 1)) A2 Wx → Drq (A ++ [o]) W A2 Wx from fun A2 Wx h => HDR.out A2 Wx (by
                        have e := (cut_split HPQ.out).1
                        have h2 := HRP2.out
                        rw [e]
                        exact Drq.step h2.1 (fun y hy hr => h2.2 y (by rw [e]; exact hy) hr) h))
                      clear hput htop hown hb t1 b6
                      generalize (W1.take q ++ W1.drop (q + 1)) = W2 at *
                      go_upto_region 21 with fail
                      clear f1 g1
                      generalize wy.setCell ⟨m, 1, none⟩ (.slice al3 W2.length cl3) = wz at *
                      have HFI := Lib.hid (rfirst_any wz m (A1 ++ [p]) W2 _ HRS.out.rs (by simp; omega) (by have := HQ2.out; omega) (fun x hx => HREP.out x (HND.out.2 x (HSB.out.subset hx))) (HND.out.1.sublist (HSB.out.map _)))
                      go_wp2_with fail
                      with_reducible refine HFI.out.mono ?_
                      rintro e y8 ⟨z2, rfl, hz2, hb8⟩
                      have HZ2 := Lib.hid (And.intro hz2 (HRS.out.later hb8))
                      clear hz2 hb8 HFI
                      go_wp2_with fail
                      go_roundw
                      case rel => exact ⟨z2, A1 ++ [p], W2, rfl, HZ2.out.1, HZ2.out.2, HDR2.out, HND.out.1.sublist (HSB.out.map _), fun x hx => HND.out.2 x (HSB.out.subset hx), by have := HQ2.out; have := HLA.out.1; simp; omega, by have := HLA.out.2; simp; omega⟩
                      case measure => rw [HZ2.out.2.cnt, HRL.out.cnt]; have := HQ2.out; omega
          · have HRD := Lib.hid hrd
            have HR2 := Lib.hid (HRA.out false ⟨fun h => (by cases h), fun h => absurd h hrd⟩)
            clear hrd HRA
            by_cases h64 : 64 ≤ W.length
            · have dw : decide ((64 : Int) ≤ (W.length : Int)) = true := decide_eq_true (by omega)
              have H64 := Lib.hid h64
              go_wp2_with (refine wpList_load_whole (.tmp 3) 39 rfl rfl w.heap.size o.cells rfl Tryd.underlying39 (by kernel_rfl) HX5.out.2 ?_)
              with_reducible refine HR2.out.mono ?_
              rintro e y4 ⟨rfl, hb⟩
              have HY4 := Lib.hid hb
              have t1 := blk_cell (HG.out.later (HX5.out.later hb).1).top 1
              clear hb
              go_wp2_with fail
              go_ret2
              exact RAddT.same HR.out (HX5.out.later HY4.out).1 (.pend HK.out HIN.out HLT.out HRD.out H64.out)
            · have dw : decide ((64 : Int) ≤ (W.length : Int)) = false := decide_eq_false (by omega)
              have H64 := Lib.hid h64
              clear h64
              go_wp2_with (refine wpList_load_whole (.tmp 3) 39 rfl rfl w.heap.size o.cells rfl Tryd.underlying39 (by kernel_rfl) HX5.out.2 ?_)
              with_reducible refine HR2.out.mono ?_
              rintro e y4 ⟨rfl, hb⟩
              have HY4 := Lib.hid hb
              have t1 := blk_cell (HG.out.later (HX5.out.later hb).1).top 1
              clear hb
              go_upto_region 15 with fail
              have HX6 := Lib.hid (HX5.out.later HY4.out)
              have HG0 := Lib.hid (HG.out.later HX6.out.1)
              have HBX := Lib.hid HX6.out.2
              have HLN := Lib.hid (show W.length + 1 < 4294967296 by omega)
              clear t1 HY4 HX5 HR2
              generalize y4 = x0 at *
              refine wp_act (fun bA hbA => ?_)
              have e0 : bA.tmps.getD 0 undef = ptr m := by subst hbA; kernel_rfl
              have e3 : bA.tmps.getD 3 undef = ptr w.heap.size := by subst hbA; kernel_rfl
              have es : bA.tmps.size = 170 := by subst hbA; kernel_rfl
              have HBA := Lib.hid hbA
              clear hbA
              refine wp_region_inv (by kernel_rfl) (by kernel_rfl) (by kernel_rfl) (RQ (fun i => if i = 3 then .pointer (some ⟨m, 1, none⟩) else if i = 4 then .slice aw W.length cw else if i = 5 then o.val else if i = 9 then .pointer (some ⟨m, 1, none⟩) else ptr m) [(2, 1), (3, 2), (4, 3), (6, 5), (7, 4), (7, 6), (8, 0), (9, 8)] 10 6 7 o (fun y => AP x0 m (.slice aa A.length ca) (.slice aw W.length cw) A W F y) (fun u y => InW x0 m (.slice aa A.length ca) (.slice aw W.length cw) A W F o u y) (fun y => RS y m A (W ++ [o]) (fun x => F x ∨ x0.heap.size ≤ x) ∧ Ch F x0 y)) ?_ ?_ ?_
              · exact RQ.new (⟨HG0.out.later (Below.refl _ _).drew, (Below.refl _ _).drew⟩) (fun _ => rfl)
              · intro i p hp D x y hD hdep hR K hK
                rcases i with _ | _ | _ | _ | _ | _ | _ | _ | _ | _ | _ | i
                · simp only [List.getElem?_toArray, List.getElem?_cons_succ, List.getElem?_cons_zero, Option.some.injEq, Nat.zero_add] at hp
                  subst hp
                  refine step_move rfl (.tmp 0) rfl (puts_eval0 x 0 _ _ e0 (by kernel_rfl)) (hK _ _ (hR.keep (i := 0) (by decide) (by decide) (by decide) hD (fun p hp he => by
                    simp only [List.mem_cons, List.mem_nil_iff, or_false] at hp
                    rcases hp with rfl | rfl | rfl | rfl | rfl | rfl | rfl | rfl
                    · cases he
                    · cases he
                    · cases he
                    · cases he
                    · cases he
                    · cases he
                    · cases he
                    · cases he)))
                · simp only [List.getElem?_toArray, List.getElem?_cons_succ, List.getElem?_cons_zero, Option.some.injEq, Nat.zero_add] at hp
                  subst hp
                  refine step_move rfl (.tmp 0) rfl (puts_eval0 x 0 _ _ e0 (by kernel_rfl)) (hK _ _ (hR.keep (i := 1) (by decide) (by decide) (by decide) hD (fun p hp he => by
                    simp only [List.mem_cons, List.mem_nil_iff, or_false] at hp
                    rcases hp with rfl | rfl | rfl | rfl | rfl | rfl | rfl | rfl
                    · cases he
                    · cases he
                    · cases he
                    · cases he
                    · cases he
                    · cases he
                    · cases he
                    · cases he)))
                · simp only [List.getElem?_toArray, List.getElem?_cons_succ, List.getElem?_cons_zero, Option.some.injEq, Nat.zero_add] at hp
                  subst hp
                  refine step_nil rfl (.tmp 66) rfl ((puts_eval x 66 _ _ (by kernel_rfl) (by rw [es]; decide) (i := 1) (by kernel_rfl)).trans (hR.v 1 (by decide) (by decide) (by decide) (hdep ⟨1, .data⟩ (by simp) rfl))) (hK _ _ (hR.keep (i := 2) (by decide) (by decide) (by decide) hD (fun p hp he => by
                    simp only [List.mem_cons, List.mem_nil_iff, or_false] at hp
                    rcases hp with rfl | rfl | rfl | rfl | rfl | rfl | rfl | rfl
                    · exact hdep ⟨1, .data⟩ (by simp) rfl
                    · cases he
                    · cases he
                    · cases he
                    · cases he
                    · cases he
                    · cases he
                    · cases he)))
                · simp only [List.getElem?_toArray, List.getElem?_cons_succ, List.getElem?_cons_zero, Option.some.injEq, Nat.zero_add] at hp
                  subst hp
                  refine step_field rfl (.tmp 67) rfl ((puts_eval x 67 _ _ (by kernel_rfl) (by rw [es]; decide) (i := 2) (by kernel_rfl)).trans (hR.v 2 (by decide) (by decide) (by decide) (hdep ⟨2, .data⟩ (by simp) rfl))) (by kernel_rfl) (hK _ _ (hR.keep (i := 3) (by decide) (by decide) (by decide) hD (fun p hp he => by
                    simp only [List.mem_cons, List.mem_nil_iff, or_false] at hp
                    rcases hp with rfl | rfl | rfl | rfl | rfl | rfl | rfl | rfl
                    · cases he
                    · exact hdep ⟨2, .data⟩ (by simp) rfl
                    · cases he
                    · cases he
                    · cases he
                    · cases he
                    · cases he
                    · cases he)))
                · simp only [List.getElem?_toArray, List.getElem?_cons_succ, List.getElem?_cons_zero, Option.some.injEq, Nat.zero_add] at hp
                  subst hp
                  have hP := hR.p (hR.bef hD 20 (by decide))
                  refine step_load rfl (.tmp 68) rfl ((puts_eval x 68 _ _ (by kernel_rfl) (by rw [es]; decide) (i := 3) (by kernel_rfl)).trans (hR.v 3 (by decide) (by decide) (by decide) (hdep ⟨3, .data⟩ (by simp) rfl))) (run_loadS1 (blk_cell hP.g.top 1)) (hK _ _ (hR.keep (i := 4) (by decide) (by decide) (by decide) hD (fun p hp he => by
                    simp only [List.mem_cons, List.mem_nil_iff, or_false] at hp
                    rcases hp with rfl | rfl | rfl | rfl | rfl | rfl | rfl | rfl
                    · cases he
                    · cases he
                    · exact hdep ⟨3, .data⟩ (by simp) rfl
                    · cases he
                    · cases he
                    · cases he
                    · cases he
                    · cases he)))
                · simp only [List.getElem?_toArray, List.getElem?_cons_succ, List.getElem?_cons_zero, Option.some.injEq, Nat.zero_add] at hp
                  subst hp
                  have hP := hR.p (hR.bef hD 20 (by decide))
                  refine step_load rfl (.tmp 3) rfl (puts_eval0 x 3 _ _ e3 (by kernel_rfl)) (run_loadAt_whole Tryd.underlying39 (by kernel_rfl) ((hP.b.block _ (heap_lt HBX.out)).trans HBX.out)) (hK _ _ (hR.keep (i := 5) (by decide) (by decide) (by decide) hD (fun p hp he => by
                    simp only [List.mem_cons, List.mem_nil_iff, or_false] at hp
                    rcases hp with rfl | rfl | rfl | rfl | rfl | rfl | rfl | rfl
                    · cases he
                    · cases he
                    · cases he
                    · cases he
                    · cases he
                    · cases he
                    · cases he
                    · cases he)))
                · simp only [List.getElem?_toArray, List.getElem?_cons_succ, List.getElem?_cons_zero, Option.some.injEq, Nat.zero_add] at hp
                  subst hp
                  have hk := hR.bef hD 20 (by decide)
                  refine step_bs rfl #[(0, .tmp 70)] rfl #[(0, OpG.val o)] (congrArg (fun v => [(0, v)]) ((puts_eval x 70 _ _ (by kernel_rfl) (by rw [es]; decide) (i := 5) (by kernel_rfl)).trans (hR.v 5 (by decide) (by decide) (by decide) (hdep ⟨5, .data⟩ (by simp) rfl)))) (run_bsO o y) (hK _ _ (hR.block (by decide) (by decide) hD hk (fun p hp he => by
                    simp only [List.mem_cons, List.mem_nil_iff, or_false] at hp
                    rcases hp with rfl | rfl | rfl | rfl | rfl | rfl | rfl | rfl
                    · cases he
                    · cases he
                    · cases he
                    · exact hdep ⟨5, .data⟩ (by simp) rfl
                    · cases he
                    · cases he
                    · cases he
                    · cases he) (fun z h b => h.later b)))
                · simp only [List.getElem?_toArray, List.getElem?_cons_succ, List.getElem?_cons_zero, Option.some.injEq, Nat.zero_add] at hp
                  subst hp
                  obtain ⟨B, h6, hB⟩ := hR.s (hdep ⟨6, .data⟩ (by simp) rfl) hD
                  have hP := hR.p hD
                  refine step_wp rfl (wp_appL (.tmp 69) (.tmp 71) rfl 0 (.slice aw W.length cw) W o ((puts_eval x 69 _ _ (by kernel_rfl) (by rw [es]; decide) (i := 4) (by kernel_rfl)).trans (hR.v 4 (by decide) (by decide) (by decide) (hdep ⟨4, .data⟩ (by simp) rfl))) hP.g.wait B (((puts_eval x 71 _ _ (by kernel_rfl) (by rw [es]; decide) (i := 6) (by kernel_rfl))).trans h6) hB HLN.out (Nat.zero_le _) fun g cap z h1 h2 h3 => hK _ _ (hR.app (by decide) hD (fun p hp he => by
                    simp only [List.mem_cons, List.mem_nil_iff, or_false] at hp
                    rcases hp with rfl | rfl | rfl | rfl | rfl | rfl | rfl | rfl
                    · cases he
                    · cases he
                    · cases he
                    · cases he
                    · exact hdep ⟨4, .data⟩ (by simp) rfl
                    · exact hdep ⟨6, .data⟩ (by simp) rfl
                    · cases he
                    · cases he) (⟨g, cap, y, rfl, hP, h1, h2, h3⟩)))
                · simp only [List.getElem?_toArray, List.getElem?_cons_succ, List.getElem?_cons_zero, Option.some.injEq, Nat.zero_add] at hp
                  subst hp
                  refine step_nil rfl (.tmp 65) rfl ((puts_eval x 65 _ _ (by kernel_rfl) (by rw [es]; decide) (i := 0) (by kernel_rfl)).trans (hR.v 0 (by decide) (by decide) (by decide) (hdep ⟨0, .data⟩ (by simp) rfl))) (hK _ _ (hR.keep (i := 8) (by decide) (by decide) (by decide) hD (fun p hp he => by
                    simp only [List.mem_cons, List.mem_nil_iff, or_false] at hp
                    rcases hp with rfl | rfl | rfl | rfl | rfl | rfl | rfl | rfl
                    · cases he
                    · cases he
                    · cases he
                    · cases he
                    · cases he
                    · cases he
                    · exact hdep ⟨0, .data⟩ (by simp) rfl
                    · cases he)))
                · simp only [List.getElem?_toArray, List.getElem?_cons_succ, List.getElem?_cons_zero, Option.some.injEq, Nat.zero_add] at hp
                  subst hp
                  refine step_field rfl (.tmp 73) rfl ((puts_eval x 73 _ _ (by kernel_rfl) (by rw [es]; decide) (i := 8) (by kernel_rfl)).trans (hR.v 8 (by decide) (by decide) (by decide) (hdep ⟨8, .data⟩ (by simp) rfl))) (by kernel_rfl) (hK _ _ (hR.keep (i := 9) (by decide) (by decide) (by decide) hD (fun p hp he => by
                    simp only [List.mem_cons, List.mem_nil_iff, or_false] at hp
                    rcases hp with rfl | rfl | rfl | rfl | rfl | rfl | rfl | rfl
                    · cases he
                    · cases he
                    · cases he
                    · cases he
                    · cases he
                    · cases he
                    · cases he
                    · exact hdep ⟨8, .data⟩ (by simp) rfl)))
                · simp only [List.getElem?_toArray, List.getElem?_cons_succ, List.getElem?_cons_zero, Option.some.injEq, Nat.zero_add] at hp
                  subst hp
                  have hA := hR.a (hdep ⟨7, .data⟩ (by simp) rfl) hD
                  obtain ⟨g, cap, z, h7, -⟩ := id hA
                  rw [h7] at hA
                  refine step_store1 rfl (.tmp 74) (.tmp 72) rfl ((puts_eval x 74 _ _ (by kernel_rfl) (by rw [es]; decide) (i := 9) (by kernel_rfl)).trans (hR.v 9 (by decide) (by decide) (by decide) (hdep ⟨9, .data⟩ (by simp) rfl))) (((puts_eval x 72 _ _ (by kernel_rfl) (by rw [es]; decide) (i := 7) (by kernel_rfl))).trans h7) (run_storeO y hA.top (by simp)) (hK _ _ (hR.last (by decide) (by decide) (fun i hi => ?_) (by decide) (⟨⟨_, _, hA.put.1⟩, hA.put.2⟩)))
                  rcases (show i = 0 ∨ i = 1 ∨ i = 2 ∨ i = 3 ∨ i = 4 ∨ i = 5 ∨ i = 6 ∨ i = 7 ∨ i = 8 ∨ i = 9 by omega) with rfl | rfl | rfl | rfl | rfl | rfl | rfl | rfl | rfl | rfl
                  · first | exact hdep ⟨0, .phase⟩ (by simp) rfl | exact hdep ⟨0, .data⟩ (by simp) rfl | exact hdep ⟨0, .chain⟩ (by simp) rfl
                  · first | exact hdep ⟨1, .phase⟩ (by simp) rfl | exact hdep ⟨1, .data⟩ (by simp) rfl | exact hdep ⟨1, .chain⟩ (by simp) rfl
                  · first | exact hdep ⟨2, .phase⟩ (by simp) rfl | exact hdep ⟨2, .data⟩ (by simp) rfl | exact hdep ⟨2, .chain⟩ (by simp) rfl
                  · first | exact hdep ⟨3, .phase⟩ (by simp) rfl | exact hdep ⟨3, .data⟩ (by simp) rfl | exact hdep ⟨3, .chain⟩ (by simp) rfl
                  · first | exact hdep ⟨4, .phase⟩ (by simp) rfl | exact hdep ⟨4, .data⟩ (by simp) rfl | exact hdep ⟨4, .chain⟩ (by simp) rfl
                  · first | exact hdep ⟨5, .phase⟩ (by simp) rfl | exact hdep ⟨5, .data⟩ (by simp) rfl | exact hdep ⟨5, .chain⟩ (by simp) rfl
                  · first | exact hdep ⟨6, .phase⟩ (by simp) rfl | exact hdep ⟨6, .data⟩ (by simp) rfl | exact hdep ⟨6, .chain⟩ (by simp) rfl
                  · first | exact hdep ⟨7, .phase⟩ (by simp) rfl | exact hdep ⟨7, .data⟩ (by simp) rfl | exact hdep ⟨7, .chain⟩ (by simp) rfl
                  · exact hR.e (9, 8) (by simp) (hdep ⟨9, .data⟩ (by simp) rfl)
                  · exact hdep ⟨9, .data⟩ (by simp) rfl
                · cases hp
              · intro D x y hD hR
                have hf := hR.f (hD 10 (by decide))
                have HFF := Lib.hid hf
                clear hR hD e0 e3 es hf
                rw [HBA.out]
                simp only [puts, Act.put, List.setIfInBounds_toArray, List.set_cons_zero, List.set_cons_succ]
                go_wp2_with fail
                go_ret2
                exact ⟨none, 0, 0, [], 0, A, W ++ [o], rfl, rfl, .wait HK.out HIN.out HLT.out HRD.out (by have := H64.out; omega), ⟨HFF.out.1.mono (fun x hx => hx.imp id (fun h => Nat.le_trans HX6.out.1.size h)), (Ch.of_below HX6.out.1).trans HFF.out.2 (fun _ _ h => h)⟩, OwnO.nil _ _⟩
end Go.Proofs.YtiamohfpohjdpaaDoor
namespace Go.Proofs.YtiamohfpohjdpaaDoor
open Go.RowKit Go.Joins
set_option linter.unusedSimpArgs false
set_option linter.unusedVariables false
/-- the program's store and the document's, apart -/
structure SM (w : World) (s m : Nat) (A W Wr : List OpG) (k : Nat) (F G : Nat → Prop) (z : World) : Prop where
  s : SL w s A W k F z
  r : RS z m A Wr G
  up : ∀ x, G x → w.heap.size ≤ x
  bd : ∀ x, G x → x < z.heap.size
  ne : ∀ x, F x → ¬ G x
  pm : Wr.Perm W
  so : SortedO W
  wl : W.length ≤ 64
section
variable {w z z' : World} {s m k k' : Nat} {A W Wr A' W' W2 : List OpG} {F F' G G' : Nat → Prop}
theorem SM.later (h : SM w s m A W Wr k F G z) (b : Below z.heap.size z z') : SM w s m A W Wr k F G z' :=
  ⟨h.s.later b, h.r.later b, h.up, fun x hx => Nat.lt_of_lt_of_le (h.bd x hx) b.size, h.ne, h.pm, h.so, h.wl⟩
/-- one more operation, at both -/
theorem SM.turn {z1 : World} (h : SM w s m A W Wr k F G z) (h2 : SF s A' W' k' F' z1) (c : Ch F z z1) (hF : ∀ x, F' x → F x ∨ z.heap.size ≤ x) (hr : RL z1 m A' W2 G z') (pm : W2.Perm W') (so : SortedO W') (wl : W'.length ≤ 64) :
    ∃ G2, SM w s m A' W' W2 k' F' G2 z' := by
  have hs := h.s.turn h2 c hF
  refine ⟨fun x => (G x ∨ z1.heap.size ≤ x) ∧ x < z'.heap.size, ⟨hs.sf.ch hr.ch (fun x hx hg => (hF x hx).elim (fun h3 => h.ne x h3 hg) (fun h3 => by have := h.bd x hg; omega)), hs.up, ?_⟩, hr.rs.bnd, fun x hx => hx.1.elim (h.up x) (fun h3 => Nat.le_trans hs.b.size h3), fun x hx => hx.2, fun x hx hg => hg.1.elim (fun h3 => (hF x hx).elim (fun h4 => h.ne x h4 h3) (fun h4 => by have := h.bd x h3; omega)) (fun h3 => by have := h2.bd x hx; omega), pm, so, wl⟩
  exact ((Ch.of_below (F := fun _ => False) hs.b).trans hr.ch (fun x hx e => by have := h.up x e; omega)).none
theorem nodupR (h : Cz.Stb MO A W) (hp : Wr.Perm W) : (Cz.ids MO Wr).Nodup := ((Cz.ids_perm (M := MO) hp).nodup_iff).2 (nodupW h)
end
/-! ### a drawn region in which nothing of what was there is turned -/
structure RK (I : World → Prop) (g : Nat → Value → World → Prop) (D : Nat → Bool) (x : Nat → Value) (y : World) : Prop where
  i : I y
  g : ∀ i, D i = true → g i (x i) y
theorem RK.new {I : World → Prop} {g : Nat → Value → World → Prop} {x : Nat → Value} {y : World} (h : I y) : RK I g (fun _ => false) x y := ⟨h, fun _ h => by cases h⟩
theorem RK.step {I : World → Prop} {g : Nat → Value → World → Prop} {D : Nat → Bool} {x : Nat → Value} {y z : World} (h : RK I g D x y) {i : Nat} {v : Value} (hI : I z) (hs : ∀ j u, g j u y → g j u z) (hv : g i v z) : RK I g (done D i) (setX x i v) z :=
  ⟨hI, fun j hd => by
    by_cases e : j = i
    · subst e; rw [setX_eq]; exact hv
    · rw [done_ne e] at hd; rw [setX_ne e]; exact hs j _ (h.g j hd)⟩
theorem RK.keep {I : World → Prop} {g : Nat → Value → World → Prop} {D : Nat → Bool} {x : Nat → Value} {y : World} (h : RK I g D x y) {i : Nat} {v : Value} (hv : g i v y) : RK I g (done D i) (setX x i v) y := h.step h.i (fun _ _ h => h) hv
/-- a row that reads -/
def RowAt (L : List OpG) (v : Value) (y : World) : Prop := ∃ ao n c, v = .slice ao n c ∧ n = L.length ∧ OpsAt y ao L
theorem RowAt.later {L : List OpG} {v : Value} {y z : World} (h : RowAt L v y) (b : Below y.heap.size y z) : RowAt L v z := by
  obtain ⟨ao, n, c, e, hn, hat⟩ := h
  exact ⟨ao, n, c, e, hn, hat.below b⟩
def g14 (s m : Nat) (A : List OpG) : Nat → Value → World → Prop
  | 0, v, _ => v = ptr s
  | 1, v, y => RowAt A v y
  | 2, v, _ => v = ptr m
  | 3, v, _ => v = ptr m
  | 4, v, _ => v = .pointer (some ⟨m, 0, none⟩)
  | 5, v, y => RowAt A v y
  | 6, v, _ => v = .bool true
  | 7, v, _ => v = .bool true
  | _, _, _ => True
theorem g14_later {s m : Nat} {A : List OpG} {y z : World} {j : Nat} {u : Value} (h : g14 s m A j u y) (b : Below y.heap.size y z) : g14 s m A j u z := by
  rcases j with _ | _ | _ | _ | _ | _ | _ | _ | j <;> first | exact h | exact RowAt.later h b
def g15 (s m : Nat) (vv : V8) (n : Int) (A : List OpG) : Nat → Value → World → Prop
  | 0, v, _ => v = ptr s
  | 1, v, _ => v = vv.val
  | 2, v, _ => v = .int .i64 n
  | 3, v, y => RowAt (missL vv n A) v y
  | 4, v, _ => v = ptr m
  | 5, v, _ => v = vv.val
  | 6, v, _ => v = .int .i64 n
  | 7, v, y => RowAt (missL vv n A) v y
  | 8, v, _ => v = .bool true
  | 9, v, _ => v = .bool true
  | _, _, _ => True
theorem g15_later {s m : Nat} {vv : V8} {n : Int} {A : List OpG} {y z : World} {j : Nat} {u : Value} (h : g15 s m vv n A j u y) (b : Below y.heap.size y z) : g15 s m vv n A j u z := by
  rcases j with _ | _ | _ | _ | _ | _ | _ | _ | _ | _ | j <;> first | exact h | exact RowAt.later h b
set_option maxHeartbeats 16000000 in
set_option maxRecDepth 100000 in
theorem cplays_walk (L : List OpG) (ao : Option Addr) (cap : Nat) (vv : V8) (n : Int) (w : World) (hL : L.length ≤ maxLen) (hfi : ∀ o ∈ L, o.fine) (hat : OpsAt w ao L) :
    Calls Tryd.prog 5 #[.slice ao L.length cap, vv.val, .int .i64 n] w fun e w' => e = .returned (.bool true) ∧ Below w.heap.size w w' := by
  have AL := Lib.hid alive_any
  have HA := Lib.hid hat
  have HF := Lib.hid hfi
  unfold maxLen at hL
  clear hat hfi
  go_enter Tryd.func5, Tryd.ntmps5
  go_upto_region 1 with fail
  refine wp_let' (fun y => y.heap[w.heap.size]? = some (.cells (V8.rowV vv).toArray 33 (0, 0)) ∧ Below w.heap.size w y) ⟨blk_new _ _, (Below.refl _ _).alloc (Nat.le_refl _) _⟩ (fun w0 h0 => ?_)
  have HV := Lib.hid h0
  clear h0
  go_wp2_with fail
  with_reducible refine (newF_any w0).mono ?_
  rintro e w1 ⟨s, rfl, ⟨F0, h1, h2⟩, hb⟩
  have H1 := Lib.hid (show SL w0 s [] [] 0 F0 w1 from ⟨h1, h2, hb⟩)
  clear h1 h2 hb
  go_upto_region 3 with fail
  refine wp_let' (SM w0 s w1.heap.size [] [] [] 0 F0 (fun x => x = w1.heap.size)) ?_ (fun w2 h2 => ?_)
  · exact ⟨H1.out.later ((Below.refl _ _).alloc (Nat.le_refl _) _), ⟨.slice none 0 0, .slice none 0 0, blk_new _ _, OwnO.nil _ _, OwnO.nil _ _, fun b h => (by cases h), fun b h => (by cases h), rfl⟩, fun x hx => hx ▸ H1.out.b.size, fun x hx => (by simp; omega), fun x hx hy => (by have := H1.out.sf.bd x hx; omega), List.Perm.refl _, List.Pairwise.nil, by simp⟩
  have H2 := Lib.hid h2
  clear h2 H1
  generalize w1.heap.size = m at *
  go_wp2_with fail
  with_reducible refine (AL.out _).mono ?_
  rintro e w3 ⟨rfl, hb⟩
  have H3 := Lib.hid (H2.out.later hb)
  clear hb H2
  go_upto_block 0 with fail
  go_cut [] (fun y => ∃ k A W Wr F G, k ≤ 200 ∧ SM w0 s m A W Wr k F G y)
  case first =>
    go_wp2_with fail
    go_loopw [9] (fun vi wr => ∃ (q : Nat) (A W Wr : List OpG) (F G : Nat → Prop), vi = .int .i64 q ∧ q ≤ L.length ∧ q ≤ 200 ∧ SM w0 s m A W Wr q F G wr) (fun vi _ => L.length - (intOf vi).toNat)
    case atStart => exact ⟨0, [], [], [], F0, _, rfl, Nat.zero_le _, Nat.zero_le _, H3.out⟩
    case round =>
      obtain ⟨q, A, W, Wr, F, G, rfl, hq1, hq2, hs⟩ := hrel
      have HS := Lib.hid hs
      clear hs
      by_cases hk : q < L.length ∧ q < 200
      · obtain ⟨hk, h3⟩ := hk
        obtain ⟨o, ho⟩ : ∃ o, L[q]? = some o := ⟨_, List.getElem?_eq_getElem hk⟩
        obtain ⟨b, off, rfl, hbw, -⟩ := HA.out q o ho
        have HCX := Lib.hid (show ∀ z, Below w.heap.size w z → ∀ (j : Nat) v, o.cells[j]? = some v → z.cell? ⟨b, off + q * 26 + j, none⟩ = some v from fun z hz => by
          obtain ⟨b', off', e, -, hc⟩ := (HA.out.below hz) q o ho
          cases e
          exact hc)
        have HFO := Lib.hid (HF.out o (List.mem_of_getElem? ho))
        have HC := Lib.hid (HCX.out wr (HV.out.2.trans (HS.out.s.b.mono HV.out.2.size)))
        have b0 : (0 : Int) ≤ (q : Int) := by omega
        have b1 : (q : Int) < (L.length : Int) := by omega
        clear hbw ho
        go_wp2_with (refine wpList_load_at (.tmp 41) 39 rfl rfl b (off + q * 26) o.cells rfl Tryd.underlying39 (by kernel_rfl) HC.out ?_)
        with_reducible refine (HS.out.s.sf.add (by omega) o HFO.out).mono ?_
        rintro e y ⟨ao2, c2, n2, res, err, A2, W2, F2, rfl, rfl, h1, h2, h3', h4, h5⟩
        have HSL := Lib.hid (HS.out.s.turn h2 h3' h4)
        have HH := Lib.hid (And.intro h1 (And.intro h2 (And.intro h3' (And.intro h4 h5))))
        have HR1 := Lib.hid (HS.out.r.ch h3' (fun x hx hf => HS.out.ne x hf hx))
        have HC2 := Lib.hid (HCX.out y (HV.out.2.trans (HSL.out.b.mono HV.out.2.size)))
        have HRN := Lib.hid (show res.length ≤ A2.length by cases h1 <;> simp)
        clear h1 h2 h3' h4 h5 HC
        have HLE := Lib.hid (show Wr.length = W.length ∧ A.length + W.length ≤ q from ⟨HS.out.pm.length_eq, HS.out.s.sf.len⟩)
        have HRA := Lib.hid (radd_any y m A Wr G HR1.out (nodupR HS.out.s.sf.stb HS.out.pm) (fun x hx => HS.out.s.sf.stb.ok x (List.mem_append.2 (.inr (HS.out.pm.mem_iff.1 hx)))) (by have := HLE.out; omega) o HFO.out)
        go_wp2_with (refine wpList_load_at (.tmp 50) 39 rfl rfl b (off + q * 26) o.cells rfl Tryd.underlying39 (by kernel_rfl) HC2.out ?_)
        with_reducible refine HRA.out.mono ?_
        rintro e y2 ⟨ao3, n3, c3, res2, err2, A3, W3, rfl, rfl, h1, h2, h3'⟩
        obtain ⟨e1, e2, e3, e4, e5, e6⟩ := add_same HH.out.1 HS.out.s.sf.stb HS.out.so HS.out.wl HS.out.pm h1
        subst e1 e2 e3
        obtain ⟨G2, hs2⟩ := HS.out.turn HH.out.2.1 HH.out.2.2.1 HH.out.2.2.2.1 h2 e4 e5 e6
        have HS2 := Lib.hid hs2
        have ho1 := HH.out.2.2.2.2.ch h2.ch (fun b hb hg => by have := (World.ownsRow.lt HH.out.2.2.2.2 b hb).1; have := HS.out.bd b hg; omega)
        have hsm := sameOps_any y2 ao2 ao3 c2 c3 res2 res2 ho1.at.2 h3'.at.2 (by have := HRN.out; have := HH.out.2.1.alen; omega)
        rw [show decide (res2 = res2) = true from decide_eq_true rfl] at hsm
        have HSM := Lib.hid hsm
        clear h1 h2 h3' e4 e5 e6 hs2 ho1 hsm HRA HC2 HR1
        go_wp2_with fail
        with_reducible refine HSM.out.mono ?_
        rintro e y3 ⟨rfl, hb⟩
        have HS3 := Lib.hid (HS2.out.later hb)
        clear hb HSM HS2
        go_wp2_with fail
        with_reducible refine (HS3.out.s.sf.pending (by omega)).mono ?_
        rintro e y4 ⟨a4, n4, c4, rfl, rfl, hown, hb⟩
        have HS4 := Lib.hid (HS3.out.later hb)
        have HO4 := Lib.hid hown
        clear hown hb HS3
        have HP4 := Lib.hid (refPending_any y4 m _ _ _ HS4.out.r (by have := HS4.out.pm.length_eq; have := HS4.out.wl; omega))
        go_wp2_with fail
        with_reducible refine HP4.out.mono ?_
        rintro e y5 ⟨a5, n5, c5, S, rfl, rfl, hown, hperm, hsort, hb⟩
        have hSW : S = W2 := sorted_uniq hsort HS4.out.so (hperm.trans HS4.out.pm) (((Cz.ids_perm (M := MO) (hperm.trans HS4.out.pm)).nodup_iff).2 (nodupW HS4.out.s.sf.stb))
        subst hSW
        have hsm := sameOps_any y5 a4 a5 c4 c5 S S (HO4.out.later hb).at.2 hown.at.2 (by have := HS4.out.wl; omega)
        rw [show decide (S = S) = true from decide_eq_true rfl] at hsm
        have HSM := Lib.hid hsm
        have HS5 := Lib.hid (HS4.out.later hb)
        clear hown hperm hsort hb hsm HP4 HS4 HO4
        go_wp2_with fail
        with_reducible refine HSM.out.mono ?_
        rintro e y6 ⟨rfl, hb⟩
        have HS6 := Lib.hid (HS5.out.later hb)
        clear hb HSM HS5
        go_wp2_with fail
        with_reducible refine HS6.out.s.sf.known.mono ?_
        rintro e y7 ⟨rfl, hb⟩
        have HS7 := Lib.hid (HS6.out.later hb)
        clear hb HS6
        have HKN := Lib.hid (refKnown_any y7 m _ _ _ HS7.out.r (by have := HS7.out.s.sf.alen; omega))
        go_wp2_with fail
        with_reducible refine HKN.out.mono ?_
        rintro e y8 ⟨rfl, hb⟩
        have HS8 := Lib.hid (HS7.out.later hb)
        clear hb HS7 HKN
        generalize knownV _ = K
        have hev : ∀ y, (Op.equalIn 10000 33 K.val K.val).run Tryd.prog y = .ok true y := fun y => (run_eqV K K y).trans (by rw [(beq_iff K K).2 rfl])
        go_wp2
        go_roundw
        case rel => exact ⟨q + 1, _, _, _, _, _, by go_num, by omega, by omega, HS8.out⟩
        case measure => simp [intOf]; omega
      · rcases (show (q < L.length ∧ ¬ q < 200) ∨ ¬ q < L.length by omega) with ⟨g1, g2⟩ | g1
        all_goals
          go_wp2_with fail
          go_meet
          exact ⟨q, A, W, Wr, F, G, hq2, HS.out⟩
  case rest =>
    obtain ⟨k, A, W, Wr, F, G, hk2, hs⟩ := hcut
    obtain ⟨wk, hwk⟩ : ∃ wk, wk = wc := ⟨_, rfl⟩
    subst hwk
    have HS := Lib.hid hs
    clear hs H3 HA HF
    go_upto_region 14 with fail
    refine wp_act (fun bA hbA => ?_)
    have e7 : bA.tmps.getD 7 undef = ptr s := by subst hbA; kernel_rfl
    have e8 : bA.tmps.getD 8 undef = ptr m := by subst hbA; kernel_rfl
    have es : bA.tmps.size = 101 := by subst hbA; kernel_rfl
    have HBA := Lib.hid hbA
    clear hbA
    refine wp_region_inv (by kernel_rfl) (by kernel_rfl) (by kernel_rfl) (RK (fun y => SM w0 s m A W Wr k F G y) (g14 s m A)) ?_ ?_ ?_
    · exact RK.new (HS.out.later (Below.refl _ _).drew)
    · intro i p hp D x y hD hdep hR K hK
      rcases i with _ | _ | _ | _ | _ | _ | _ | _ | i
      · simp only [List.getElem?_toArray, List.getElem?_cons_succ, List.getElem?_cons_zero, Option.some.injEq, Nat.zero_add] at hp
        subst hp
        exact step_move rfl (.tmp 7) rfl ((puts_eval0 x 7 _ _ e7 (by kernel_rfl))) (hK _ _ (hR.keep (i := 0) rfl))
      · simp only [List.getElem?_toArray, List.getElem?_cons_succ, List.getElem?_cons_zero, Option.some.injEq, Nat.zero_add] at hp
        subst hp
        refine step_call rfl rfl (vs := [ptr s]) (by
          rw [show ([Operand.tmp 81].map (puts x _ 0 bA).eval) = [(puts x _ 0 bA).eval (.tmp 81)] from rfl, (puts_eval x 81 _ _ (by kernel_rfl) (by rw [es]; decide) (i := 0) (by kernel_rfl)).trans (hR.g 0 (hdep ⟨0, .data⟩ (by simp) rfl))]) (enters_of Tryd.func11 (by kernel_rfl) rfl) (hR.i.s.sf.all (by omega)) (fun e z1 hz => ?_)
        obtain ⟨a, na, c, rfl, rfl, hown, hb⟩ := hz
        exact ⟨_, rfl, hK _ _ (hR.step (i := 1) (hR.i.later hb) (fun j u h => g14_later h hb) (⟨a, _, c, rfl, rfl, hown.at.2⟩))⟩
      · simp only [List.getElem?_toArray, List.getElem?_cons_succ, List.getElem?_cons_zero, Option.some.injEq, Nat.zero_add] at hp
        subst hp
        exact step_move rfl (.tmp 8) rfl ((puts_eval0 x 8 _ _ e8 (by kernel_rfl))) (hK _ _ (hR.keep (i := 2) rfl))
      · simp only [List.getElem?_toArray, List.getElem?_cons_succ, List.getElem?_cons_zero, Option.some.injEq, Nat.zero_add] at hp
        subst hp
        exact step_nil rfl (.tmp 83) rfl ((puts_eval x 83 _ _ (by kernel_rfl) (by rw [es]; decide) (i := 2) (by kernel_rfl)).trans (hR.g 2 (hdep ⟨2, .data⟩ (by simp) rfl))) (hK _ _ (hR.keep (i := 3) rfl))
      · simp only [List.getElem?_toArray, List.getElem?_cons_succ, List.getElem?_cons_zero, Option.some.injEq, Nat.zero_add] at hp
        subst hp
        exact step_field rfl (.tmp 84) rfl ((puts_eval x 84 _ _ (by kernel_rfl) (by rw [es]; decide) (i := 3) (by kernel_rfl)).trans (hR.g 3 (hdep ⟨3, .data⟩ (by simp) rfl))) (by kernel_rfl) (hK _ _ (hR.keep (i := 4) rfl))
      · simp only [List.getElem?_toArray, List.getElem?_cons_succ, List.getElem?_cons_zero, Option.some.injEq, Nat.zero_add] at hp
        subst hp
        obtain ⟨va, vw, hG⟩ := hR.i.r
        obtain ⟨aa, ca, rfl, -, hat⟩ := hG.all.at'
        exact step_load rfl (.tmp 85) rfl ((puts_eval x 85 _ _ (by kernel_rfl) (by rw [es]; decide) (i := 4) (by kernel_rfl)).trans (hR.g 4 (hdep ⟨4, .data⟩ (by simp) rfl))) (run_loadS1 (blk_cell hG.top 0)) (hK _ _ (hR.keep (i := 5) (⟨aa, _, ca, rfl, rfl, hat⟩)))
      · simp only [List.getElem?_toArray, List.getElem?_cons_succ, List.getElem?_cons_zero, Option.some.injEq, Nat.zero_add] at hp
        subst hp
        obtain ⟨a1, n1, c1, h1, rfl, hat1⟩ := hR.g 1 (hdep ⟨1, .data⟩ (by simp) rfl)
        obtain ⟨a2, n2, c2, h2, rfl, hat2⟩ := hR.g 5 (hdep ⟨5, .data⟩ (by simp) rfl)
        refine step_call rfl rfl (vs := [.slice a1 A.length c1, .slice a2 A.length c2]) (by
          rw [show ([Operand.tmp 82, Operand.tmp 86].map (puts x _ 0 bA).eval) = [(puts x _ 0 bA).eval (.tmp 82), (puts x _ 0 bA).eval (.tmp 86)] from rfl, (puts_eval x 82 _ _ (by kernel_rfl) (by rw [es]; decide) (i := 1) (by kernel_rfl)).trans h1, (puts_eval x 86 _ _ (by kernel_rfl) (by rw [es]; decide) (i := 5) (by kernel_rfl)).trans h2]) (enters_of Tryd.func14 (by kernel_rfl) rfl) (sameOps_any y a1 a2 c1 c2 _ _ hat1 hat2 (by have := HS.out.s.sf.alen; omega)) (fun e z1 hz => ?_)
        obtain ⟨rfl, hb⟩ := hz
        exact ⟨_, rfl, hK _ _ (hR.step (i := 6) (hR.i.later hb) (fun j u h => g14_later h hb) (congrArg Value.bool (decide_eq_true rfl)))⟩
      · simp only [List.getElem?_toArray, List.getElem?_cons_succ, List.getElem?_cons_zero, Option.some.injEq, Nat.zero_add] at hp
        subst hp
        exact step_assign rfl (.tmp 87) rfl ((puts_eval x 87 _ _ (by kernel_rfl) (by rw [es]; decide) (i := 6) (by kernel_rfl)).trans (hR.g 6 (hdep ⟨6, .data⟩ (by simp) rfl))) (hK _ _ (hR.keep (i := 7) rfl))
      · cases hp
    · intro D x y hD hR
      have HI := Lib.hid hR.i
      have hl := hR.g 7 (hD 7 (by decide))
      have HL2 := Lib.hid hl
      clear hR hD e7 e8 es hl
      rw [HBA.out]
      simp only [puts, Act.put, List.setIfInBounds_toArray, List.set_cons_zero, List.set_cons_succ]
      rw [show x 7 = .bool true from HL2.out]
      have HI14 := HI
      clear HS
      generalize y = y14 at *
      go_upto_region 15 with fail
      refine wp_act (fun bA hbA => ?_)
      have e2 : bA.tmps.getD 2 undef = .int .i64 n := by subst hbA; kernel_rfl
      have e4 : bA.tmps.getD 4 undef = ptr w.heap.size := by subst hbA; kernel_rfl
      have e7 : bA.tmps.getD 7 undef = ptr s := by subst hbA; kernel_rfl
      have e8 : bA.tmps.getD 8 undef = ptr m := by subst hbA; kernel_rfl
      have es : bA.tmps.size = 101 := by subst hbA; kernel_rfl
      have HBA := Lib.hid hbA
      clear hbA
      refine wp_region_inv (by kernel_rfl) (by kernel_rfl) (by kernel_rfl) (RK (fun y => SM w0 s m A W Wr k F G y) (g15 s m vv n A)) ?_ ?_ ?_
      · exact RK.new (HI14.out.later (Below.refl _ _).drew)
      · intro i p hp D x y hD hdep hR K hK
        rcases i with _ | _ | _ | _ | _ | _ | _ | _ | _ | _ | i
        · simp only [List.getElem?_toArray, List.getElem?_cons_succ, List.getElem?_cons_zero, Option.some.injEq, Nat.zero_add] at hp
          subst hp
          exact step_move rfl (.tmp 7) rfl ((puts_eval0 x 7 _ _ e7 (by kernel_rfl))) (hK _ _ (hR.keep (i := 0) rfl))
        · simp only [List.getElem?_toArray, List.getElem?_cons_succ, List.getElem?_cons_zero, Option.some.injEq, Nat.zero_add] at hp
          subst hp
          exact step_load rfl (.tmp 4) rfl ((puts_eval0 x 4 _ _ e4 (by kernel_rfl))) (run_loadVec ((hR.i.s.b.block _ (heap_lt HV.out.1)).trans HV.out.1)) (hK _ _ (hR.keep (i := 1) (rfl)))
        · simp only [List.getElem?_toArray, List.getElem?_cons_succ, List.getElem?_cons_zero, Option.some.injEq, Nat.zero_add] at hp
          subst hp
          exact step_move rfl (.tmp 2) rfl ((puts_eval0 x 2 _ _ e2 (by kernel_rfl))) (hK _ _ (hR.keep (i := 2) rfl))
        · simp only [List.getElem?_toArray, List.getElem?_cons_succ, List.getElem?_cons_zero, Option.some.injEq, Nat.zero_add] at hp
          subst hp
          refine step_call rfl rfl (vs := [ptr s, vv.val, .int .i64 n]) (by
            rw [show ([Operand.tmp 88, Operand.tmp 89, Operand.tmp 90].map (puts x _ 0 bA).eval) = [(puts x _ 0 bA).eval (.tmp 88), (puts x _ 0 bA).eval (.tmp 89), (puts x _ 0 bA).eval (.tmp 90)] from rfl, (puts_eval x 88 _ _ (by kernel_rfl) (by rw [es]; decide) (i := 0) (by kernel_rfl)).trans (hR.g 0 (hdep ⟨0, .data⟩ (by simp) rfl)), (puts_eval x 89 _ _ (by kernel_rfl) (by rw [es]; decide) (i := 1) (by kernel_rfl)).trans (hR.g 1 (hdep ⟨1, .data⟩ (by simp) rfl)), (puts_eval x 90 _ _ (by kernel_rfl) (by rw [es]; decide) (i := 2) (by kernel_rfl)).trans (hR.g 2 (hdep ⟨2, .data⟩ (by simp) rfl))]) (enters_of Tryd.func18 (by kernel_rfl) rfl) (hR.i.s.sf.missing (by omega) vv n) (fun e z1 hz => ?_)
          obtain ⟨a, na, c, rfl, rfl, hown, hb⟩ := hz
          exact ⟨_, rfl, hK _ _ (hR.step (i := 3) (hR.i.later hb) (fun j u h => g15_later h hb) (⟨a, _, c, rfl, rfl, hown.at.2⟩))⟩
        · simp only [List.getElem?_toArray, List.getElem?_cons_succ, List.getElem?_cons_zero, Option.some.injEq, Nat.zero_add] at hp
          subst hp
          exact step_move rfl (.tmp 8) rfl ((puts_eval0 x 8 _ _ e8 (by kernel_rfl))) (hK _ _ (hR.keep (i := 4) rfl))
        · simp only [List.getElem?_toArray, List.getElem?_cons_succ, List.getElem?_cons_zero, Option.some.injEq, Nat.zero_add] at hp
          subst hp
          exact step_load rfl (.tmp 4) rfl ((puts_eval0 x 4 _ _ e4 (by kernel_rfl))) (run_loadVec ((hR.i.s.b.block _ (heap_lt HV.out.1)).trans HV.out.1)) (hK _ _ (hR.keep (i := 5) (rfl)))
        · simp only [List.getElem?_toArray, List.getElem?_cons_succ, List.getElem?_cons_zero, Option.some.injEq, Nat.zero_add] at hp
          subst hp
          exact step_move rfl (.tmp 2) rfl ((puts_eval0 x 2 _ _ e2 (by kernel_rfl))) (hK _ _ (hR.keep (i := 6) rfl))
        · simp only [List.getElem?_toArray, List.getElem?_cons_succ, List.getElem?_cons_zero, Option.some.injEq, Nat.zero_add] at hp
          subst hp
          refine step_call rfl rfl (vs := [ptr m, vv.val, .int .i64 n]) (by
            rw [show ([Operand.tmp 92, Operand.tmp 93, Operand.tmp 94].map (puts x _ 0 bA).eval) = [(puts x _ 0 bA).eval (.tmp 92), (puts x _ 0 bA).eval (.tmp 93), (puts x _ 0 bA).eval (.tmp 94)] from rfl, (puts_eval x 92 _ _ (by kernel_rfl) (by rw [es]; decide) (i := 4) (by kernel_rfl)).trans (hR.g 4 (hdep ⟨4, .data⟩ (by simp) rfl)), (puts_eval x 93 _ _ (by kernel_rfl) (by rw [es]; decide) (i := 5) (by kernel_rfl)).trans (hR.g 5 (hdep ⟨5, .data⟩ (by simp) rfl)), (puts_eval x 94 _ _ (by kernel_rfl) (by rw [es]; decide) (i := 6) (by kernel_rfl)).trans (hR.g 6 (hdep ⟨6, .data⟩ (by simp) rfl))]) (enters_of Tryd.func19 (by kernel_rfl) rfl) (rmissing_any y m A Wr _ hR.i.r (by have := hR.i.s.sf.alen; omega) vv n) (fun e z1 hz => ?_)
          obtain ⟨a, na, c, rfl, rfl, hown, hb⟩ := hz
          exact ⟨_, rfl, hK _ _ (hR.step (i := 7) (hR.i.later hb) (fun j u h => g15_later h hb) (⟨a, _, c, rfl, rfl, hown.at.2⟩))⟩
        · simp only [List.getElem?_toArray, List.getElem?_cons_succ, List.getElem?_cons_zero, Option.some.injEq, Nat.zero_add] at hp
          subst hp
          obtain ⟨a1, n1, c1, h1, rfl, hat1⟩ := hR.g 3 (hdep ⟨3, .data⟩ (by simp) rfl)
          obtain ⟨a2, n2, c2, h2, rfl, hat2⟩ := hR.g 7 (hdep ⟨7, .data⟩ (by simp) rfl)
          refine step_call rfl rfl (vs := [.slice a1 (missL vv n A).length c1, .slice a2 (missL vv n A).length c2]) (by
            rw [show ([Operand.tmp 91, Operand.tmp 95].map (puts x _ 0 bA).eval) = [(puts x _ 0 bA).eval (.tmp 91), (puts x _ 0 bA).eval (.tmp 95)] from rfl, (puts_eval x 91 _ _ (by kernel_rfl) (by rw [es]; decide) (i := 3) (by kernel_rfl)).trans h1, (puts_eval x 95 _ _ (by kernel_rfl) (by rw [es]; decide) (i := 7) (by kernel_rfl)).trans h2]) (enters_of Tryd.func14 (by kernel_rfl) rfl) (sameOps_any y a1 a2 c1 c2 _ _ hat1 hat2 (by have := missL_le vv n A; have := HI14.out.s.sf.alen; omega)) (fun e z1 hz => ?_)
          obtain ⟨rfl, hb⟩ := hz
          exact ⟨_, rfl, hK _ _ (hR.step (i := 8) (hR.i.later hb) (fun j u h => g15_later h hb) (congrArg Value.bool (decide_eq_true rfl)))⟩
        · simp only [List.getElem?_toArray, List.getElem?_cons_succ, List.getElem?_cons_zero, Option.some.injEq, Nat.zero_add] at hp
          subst hp
          exact step_assign rfl (.tmp 96) rfl ((puts_eval x 96 _ _ (by kernel_rfl) (by rw [es]; decide) (i := 8) (by kernel_rfl)).trans (hR.g 8 (hdep ⟨8, .data⟩ (by simp) rfl))) (hK _ _ (hR.keep (i := 9) rfl))
        · cases hp
      · intro D x y hD hR
        have HI := Lib.hid hR.i
        have hl := hR.g 9 (hD 9 (by decide))
        have HL2 := Lib.hid hl
        clear hR hD e2 e4 e7 e8 es hl
        rw [HBA.out]
        simp only [puts, Act.put, List.setIfInBounds_toArray, List.set_cons_zero, List.set_cons_succ]
        rw [show x 9 = .bool true from HL2.out]
        go_wp2_with fail
        go_ret
        exact ⟨rfl, HV.out.2.trans (HI.out.s.b.mono HV.out.2.size)⟩
end Go.Proofs.YtiamohfpohjdpaaDoor
