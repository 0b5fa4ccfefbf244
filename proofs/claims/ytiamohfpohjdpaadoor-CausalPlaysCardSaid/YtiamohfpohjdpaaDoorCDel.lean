/- slices.Delete OF ONE OPERATION; builtin clear. -/
import Derived.Test.YtiamohfpohjdpaaDoorCDeliver
import Derived.Deep.DeepAppendRoom
import Derived.Test.YtiamohfpohjdpaaDoorCIdx
namespace Go.Proofs.YtiamohfpohjdpaaDoor
open Go.RowKit Go.Joins
set_option linter.unusedSimpArgs false
set_option linter.unusedVariables false

theorem wpList_clear_ex {P : Program} (w : World) {ops : Array Oper} {rest : List Oper} {o : Oper} {a : Act} {Q : Exit → Act → World → Prop} (hgd : o.guard = none) (d : Operand) (t : TypeId)
    (ho : o.op = .call { callee := .builtin .clear, args := #[d], argTypes := #[t] }) (v : Value) (hd : a.eval d = v) {R : World → Prop}
    (hr : ∃ w', (Builtin.clear_ #[t] o.type #[v]).run P w = .ok (.tuple #[]) w' ∧ R w') (h : ∀ w', R w' → wpList P ops Q rest (a.put o.dst (.tuple #[])) w') : wpList P ops Q (o :: rest) a w := by
  obtain ⟨w', hrun, hR⟩ := hr
  refine wpList_plain hgd fun K hK => ?_
  unfold Oper.wp
  simp [execOp, ho, resolve, invoke, builtin, hd, hrun, Result.andThen]
  exact hK _ _ (h w' hR)
def opZ : OpG := ⟨0, 0, ⟨0, 0, 0, 0, 0, 0, 0, 0⟩, 0, 0, 0, 0, 0, 0, 0, nul, nul, nul, 0, 0, false, 0, 0, false⟩
theorem zero_op (w : World) : (zeroValue 39).run Tryd.prog w = .ok opZ.val w := by kernel_rfl
theorem zeroCells_len (z : Array Value) (n : Nat) : (Builtin.zeroCells z n).toList.length = n * z.size := by simp [Builtin.zeroCells]
theorem zeroCells_mem {z : Array Value} (hz : 0 < z.size) {n : Nat} {v : Value} (h : v ∈ (Builtin.zeroCells z n).toList) : v ∈ z.toList := by
  simp only [Builtin.zeroCells, Array.toList_map, List.mem_map] at h
  obtain ⟨i, -, rfl⟩ := h
  have hi : i % z.size < z.size := Nat.mod_lt _ hz
  rw [getElem!_pos z _ hi]
  exact Array.getElem_mem_toList hi
theorem clear_ops (w : World) {b : Nat} {cur : Array Value} {T : TypeId} (hb : w.heap[b]? = some (.cells cur T (0, 0))) (o n c ty : Nat) (hfit : o + n * 26 ≤ cur.size) :
    ∃ w', (Builtin.clear_ #[22] ty #[.slice (some ⟨b, o, none⟩) n c]).run Tryd.prog w = .ok (.tuple #[]) w' ∧ Ch (fun x => x = b) w w' ∧ ∃ cur', w'.heap[b]? = some (.cells cur' T (0, 0)) ∧ cur'.size = cur.size ∧ cur'.toList.take o = cur.toList.take o := by
  cases n with
  | zero =>
    refine ⟨w, ?_, Ch.refl _ _, cur, hb, rfl, rfl⟩
    simp [Builtin.clear_, run_underlying Tryd.underlying22]
  | succ n =>
    obtain ⟨zs, hzs⟩ : ∃ zs : List Value, (Builtin.zeroCells opZ.cells (n + 1)).toList = zs := ⟨_, rfl⟩
    have hzl : zs.length = (n + 1) * 26 := by rw [← hzs]; exact zeroCells_len _ _
    have hz1 : ∀ v ∈ zs, v.oneCell' = true := fun v hv => by
      rw [← hzs] at hv
      exact op_one opZ v (zeroCells_mem (by decide) hv)
    have hst := run_storeCells_cells (P := Tryd.prog) b o zs 0 w (fun j hj => by rw [Nat.add_zero, blk_cell hb, Array.getElem?_eq_getElem (by omega)]; rfl) (fun j hj => blk_free hb _) hz1
    simp only [Nat.add_zero] at hst
    obtain ⟨k1, k2, k3⟩ := setCells_block (vs := zs) hb (off := o) (by omega)
    refine ⟨_, ?_, k2, _, k1, splice_size _ _ _ (by omega), ?_⟩
    · have hz := zero_op w
      unfold Builtin.clear_
      simp only [Sem.run_bind, List.getElem?_toArray, List.getElem?_cons_zero, run_underlying Tryd.underlying22, Result.andThen_ok, hz, Value.cells, hzs, hst, Sem.run_pure]
    · unfold splice
      simp only [List.append_assoc]
      rw [List.take_left' (by simp; omega)]
/-- operations put behind a row that has the room -/
theorem step_appS {ops : Array Oper} {w : World} {o : Oper} {a : Act} {K : Act → World → Prop} {Q : Exit → Act → World → Prop} {E : Prop} (hgd : o.guard = none) (s x : Operand)
    (ho : o.op = .call { callee := .builtin .append, args := #[s, x], argTypes := #[22, 22] }) (base B n cap : Nat) (L M : List OpG) (hL : L.length = n) (hs : a.eval s = .slice (some ⟨B, 0, none⟩) n cap) (hown : OwnO w base (.slice (some ⟨B, 0, none⟩) n cap) L)
    (ad : Addr) (m c : Nat) (hMl : M.length = m) (hx : a.eval x = .slice (some ad) m c) (hM : ∀ (j : Nat) u, (cellsL M)[j]? = some u → w.cell? (ad.add j) = some u) (hroom : n + m ≤ cap)
    (h : ∀ w', OwnO w' base (.slice (some ⟨B, 0, none⟩) (n + m) cap) (L ++ M) → w.grownBy w' (some B) → K (a.put o.dst (.slice (some ⟨B, 0, none⟩) (n + m) cap)) w') : if Region.wanted o (yielded ops a.tmps) = true then Oper.wp Tryd.prog o a w K Q else E := by
  obtain ⟨i0, hi, hz0, hz1, hz2⟩ := info_parts Slot.infoCO
  have hw : Region.wanted o (yielded ops a.tmps) = true := by simp [Region.wanted, hgd]
  rw [if_pos hw]
  subst hL
  subst hMl
  exact wp_append_own_spare w s x 22 ho base 39 i0 26 Tryd.underlying22 hi hz1 B L.length cap (cellsL L) hs hown ad M.length c (cellsL M) hx (cellsL_length M) hM (cellsL_one M) hroom fun w' h2 h3 => h w' (by
    unfold OwnO
    rw [cellsL_append, List.length_append]
    exact h2) h3
theorem cellsL_take (i : Nat) : ∀ L : List OpG, cellsL (L.take i) = (cellsL L).take (i * 26) := fun L => by
  rcases Nat.le_total i L.length with h | h
  · conv => rhs; rw [← List.take_append_drop i L]
    rw [cellsL_append, List.take_left' (by rw [cellsL_length, List.length_take, Nat.min_eq_left h])]
  · rw [List.take_of_length_le h, List.take_of_length_le (by rw [cellsL_length]; exact Nat.mul_le_mul_right _ h)]
theorem OwnO.takes {w : World} {base B n cap : Nat} {L : List OpG} (h : OwnO w base (.slice (some ⟨B, 0, none⟩) n cap) L) (i : Nat) (hi : i ≤ L.length) : OwnO w base (.slice (some ⟨B, 0, none⟩) i cap) (L.take i) := by
  rcases h.form with ⟨h0, _⟩ | ⟨B', cap', cur, he, hB, hb, hn, hc, hs, ht⟩
  · cases h0
  · cases he
    have := OwnO.mk (L := L.take i) hB hb (by simp; omega) hc hs (by rw [cellsL_take i, ← ht, List.take_take, List.length_take, Nat.min_eq_left hi]; congr 1; omega)
    rwa [List.length_take, Nat.min_eq_left hi] at this
set_option maxHeartbeats 8000000 in
set_option maxRecDepth 100000 in
theorem del_any (w : World) (base B cap n i : Nat) (L : List OpG) (h : OwnO w base (.slice (some ⟨B, 0, none⟩) n cap) L) (hn : L.length = n) (hi : i < n) (hl : n < 4294967296) :
    Calls Tryd.prog 53 #[.slice (some ⟨B, 0, none⟩) n cap, .int .i64 i, .int .i64 ((i : Int) + 1)] w fun e w' => e = .returned (.slice (some ⟨B, 0, none⟩) (n - 1) cap) ∧ OwnO w' base (.slice (some ⟨B, 0, none⟩) (n - 1) cap) (L.eraseIdx i) ∧ Ch (fun x => x = B) w w' := by
  have hcap : n ≤ cap ∧ cap ≤ maxLen := by
    rcases h.form with ⟨h0, _⟩ | ⟨B', cap', cur, he, hB, hb, hn2, hc, hs, ht⟩
    · cases h0
    · cases he; omega
  have HO := Lib.hid h
  have HN := Lib.hid hn
  have hc1 := hcap.1
  have hc2 := hcap.2
  unfold maxLen at hc2
  have b0 : (0 : Int) ≤ (i : Int) := by omega
  have b1 : (i : Int) ≤ (i : Int) + 1 := by omega
  have b2 : (i : Int) + 1 ≤ (n : Int) := by omega
  have b3 : (n : Int) ≤ (cap : Int) := by omega
  have b4 : (i : Int) ≤ (cap : Int) := by omega
  have dne : ((i : Int) == (i : Int) + 1) = false := beq_eq_false_iff_ne.2 (by omega)
  clear h hn hcap
  go_enter Tryd.func53, Tryd.ntmps53
  go_upto_region 5 with fail
  have hLi : (L.take i).length = i := by rw [List.length_take, HN.out]; omega
  have hLd : (L.drop (i + 1)).length = n - (i + 1) := by rw [List.length_drop, HN.out]
  have hat := HO.out.at.2.drop (i + 1)
  have b5 : (0 : Int) ≤ (i : Int) + 1 := by omega
  have HT := Lib.hid (HO.out.takes i (by rw [HN.out]; omega))
  have HM := Lib.hid (And.intro hLi (And.intro hLd (fun j u hj => hat.cells _ rfl j u hj)))
  have HE := Lib.hid (show L.take i ++ L.drop (i + 1) = L.eraseIdx i from (List.eraseIdx_eq_take_drop_succ L i).symm)
  clear hLi hLd hat
  go_cut [0] (fun v y => v = .slice (some ⟨B, 0, none⟩) (n - 1) cap ∧ OwnO y base (.slice (some ⟨B, 0, none⟩) (n - 1) cap) (L.eraseIdx i) ∧ Ch (fun x => x = B) w y)
  case first =>
    by_cases hce : cap = i + 1
    · have hn1 : n = i + 1 := by omega
      have HM0 := Lib.hid (show L.drop (i + 1) = [] from List.eq_nil_of_length_eq_zero (by rw [HM.out.2.1]; omega))
      subst hce
      subst hn1
      go_region_law (first | (refine step_appS rfl (.tmp 22) (.tmp 25) rfl base B i (i + 1) (L.take i) (L.drop (i + 1)) HM.out.1 rfl HT.out ⟨B, 0, none⟩ _ _ (by simp [HM0.out]) rfl (by intro j u hj; rw [HM0.out] at hj; simp [cellsL] at hj) (by omega) ?_; intro w1 h1 g1; have H1 := Lib.hid h1; have G1 := Lib.hid g1; clear h1 g1))
      go_wp2
      go_meet
      refine ⟨?_, ?_, (Ch.refl _ w).drew.trans ((Ch.of_grown G1.out).mono (fun x _ e => by simpa using e)) (fun x _ h => h)⟩
      · simp
      · have := H1.out
        rw [HE.out] at this
        simpa using this
    · go_region_law (first | (refine step_appS rfl (.tmp 22) (.tmp 25) rfl base B i cap (L.take i) (L.drop (i + 1)) HM.out.1 rfl HT.out ⟨B, (i + 1) * 26, none⟩ _ _ (by rw [HM.out.2.1]) rfl (by intro j u hj; have := HM.out.2.2 j u hj; simpa using this) (by omega) ?_; intro w1 h1 g1; have H1 := Lib.hid h1; have G1 := Lib.hid g1; clear h1 g1))
      go_wp2
      go_meet
      refine ⟨?_, ?_, (Ch.refl _ w).drew.trans ((Ch.of_grown G1.out).mono (fun x _ e => by simpa using e)) (fun x _ h => h)⟩
      · congr 1; omega
      · have := H1.out
        rw [HE.out] at this
        rwa [show i + (n - (i + 1)) = n - 1 by omega] at this
  case rest =>
    obtain ⟨rfl, hown, hch⟩ := hcut
    generalize wc = y at *
    have HOW := Lib.hid hown
    have HCH := Lib.hid hch
    have hle : (L.eraseIdx i).length = n - 1 := by rw [List.length_eraseIdx_of_lt (by rw [HN.out]; exact hi), HN.out]
    have HLE := Lib.hid hle
    obtain ⟨cur, hblk, hsz, htk, hbs⟩ : ∃ cur, y.heap[B]? = some (.cells cur 39 (0, 0)) ∧ cur.size = cap * 26 ∧ cur.toList.take ((n - 1) * 26) = cellsL (L.eraseIdx i) ∧ base ≤ B := by
      rcases hown.form with ⟨h0, _⟩ | ⟨B', cap', cur, he, hB, hb, hn2, hc, hs, ht⟩
      · cases h0
      · simp only [Value.slice.injEq, Option.some.injEq, Addr.mk.injEq] at he
        obtain ⟨⟨rfl, -, -⟩, -, rfl⟩ := he
        rw [hle] at ht
        exact ⟨cur, hb, hs, ht, hB⟩
    have HBK := Lib.hid (And.intro hblk (And.intro hsz htk))
    have HBS := Lib.hid hbs
    have b6 : (0 : Int) ≤ ((n - 1 : Nat) : Int) := by omega
    have b7 : ((n - 1 : Nat) : Int) ≤ (n : Int) := by omega
    clear hown hch hblk hsz htk hbs hle
    go_wp2_with (refine wpList_clear_ex _ rfl (.tmp 31) 22 rfl _ rfl (clear_ops _ HBK.out.1 ((n - 1) * 26) _ _ _ (by rw [HBK.out.2.1]; omega)) ?_; rintro w2 ⟨hc2, cur', hb2, hs2, ht2⟩; have HC2 := Lib.hid hc2; have HB2 := Lib.hid (And.intro hb2 (And.intro hs2 ht2)); clear hc2 hb2 hs2 ht2)
    go_ret
    have := OwnO.mk (cap := cap) (L := L.eraseIdx i) HBS.out HB2.out.1 (by rw [HLE.out]; omega) (by unfold maxLen; omega) (by rw [HB2.out.2.1]; exact HBK.out.2.1) (by rw [HLE.out, HB2.out.2.2]; exact HBK.out.2.2)
    rw [HLE.out] at this
    exact ⟨rfl, this, HCH.out.trans HC2.out (fun x _ h => h)⟩
end Go.Proofs.YtiamohfpohjdpaaDoor
