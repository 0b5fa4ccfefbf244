/- WHETHER A SET OF OPERATIONS IS CLOSED, by package ops: what it answers. -/
import Derived.Test.YtgmhjgknfeihiaaDoorORightAll
import Derived.Test.YtgmhjgknfeihiaaDoorORows
import Derived.Test.YtgmhjgknfeihiaaDoorKeyS
namespace Go.Proofs.YtgmhjgknfeihiaaDoor
open Go.RowKit Go.Joins
set_option linter.unusedSimpArgs false
set_option linter.unusedVariables false
def OpG.id (o : OpG) : Int × Int := (o.n, o.r)
def ids (L : List OpG) : List (Int × Int) := L.map OpG.id
def ClosedP (L : List OpG) : Prop := (∀ o ∈ L, o.rightP = true) ∧ (ids L).Nodup ∧ ∀ o ∈ L, ∀ r : Nat, r < 8 → 0 < o.d.nth r → (o.d.nth r, (r : Int)) ∈ ids L
noncomputable def closedB (L : List OpG) : Bool := @decide (ClosedP L) (Classical.propDecidable _)
theorem closed_yes {L : List OpG} (h : ClosedP L) : closedB L = true := by unfold closedB; simp [h]
theorem closed_no {L : List OpG} (h : ¬ ClosedP L) : closedB L = false := by unfold closedB; simp [h]
theorem closed_iff {L : List OpG} : closedB L = true ↔ ClosedP L := by unfold closedB; simp
/-- how often each stamp is there -/
def cntF (l : List (Int × Int)) : Int × Int → Option Value := fun k => if k ∈ l then some (.int .i64 1) else none
theorem cntF_nil : cntF [] = fun _ => none := by funext k; simp [cntF]
theorem cntF_add (l : List (Int × Int)) (k : Int × Int) (x : Int × Int) : upd (cntF l) k (.int .i64 1) x = cntF (l ++ [k]) x := by
  unfold upd cntF
  simp only [List.mem_append, List.mem_singleton]
  by_cases h : x = k
  · simp [h]
  · simp [h]
section
variable {K : Type} [DecidableEq K] {P : Program} {kt et t : TypeId} {enc : K → Value}
/-- the map as it stands between the entry and the store -/
theorem MapIs.entry_mid {w w1 : World} {b : Nat} {f : K → Option Value} {n : Nat} {r : Value} (h : MapIs w b enc f n) (hk : KeyIs P kt enc) (ht : P.underlying t = some (.map kt et)) {z : Value} (hz : (zeroValue et).run P w = .ok z w) (k : K)
    (hr : (Instr.mapEntry t (.map (some b)) (enc k)).run P w = .ok r w1) : MapIs w1 b enc (upd f k ((f k).getD z)) (more f k n) := by
  obtain ⟨es, clock, L, hb, h1, h2, h3, h4, h5, h6⟩ := h
  cases hp : pos k L 0 with
  | none =>
    have e : w1 = ChangeMaps.setBlock w b (.map (es.push { key := enc k, val := z, born := clock }) (clock + 1)) := by
      unfold Instr.mapEntry at hr
      simp only [Sem.run_bind, run_underlying ht, Result.andThen_ok, MapKept.run_getObj_map hb, hk.check, hk.find k w es.toList L h1, hp, hz, MapKept.run_setObj_map _ hb] at hr
      exact (Result.ok.inj hr).2.symm
    subst e
    have hnd : ((es.push { key := enc k, val := z, born := clock }).toList.map (·.born)).Nodup := by
      simp only [Array.toList_push, List.map_append, List.map_cons, List.map_nil]
      refine List.nodup_append.2 ⟨h4, by simp, fun a ha c hc e => ?_⟩
      obtain ⟨x, hx, rfl⟩ := List.mem_map.1 ha
      have := h5 x hx
      simp at hc
      omega
    refine ⟨_, _, L ++ [(k, z)], ChangeMaps.heap_setBlock_same hb _, by simp [h1], fun x => ?_, ?_, hnd, ?_, nodup_push h6 (pos_none k L 0 hp)⟩
    · rw [upd, get_append x k z L (by rw [get, hp]; rfl), h2, h2, get, hp]
      rfl
    · rw [more, h2, get, hp]; simp [h3]
    · intro e he
      simp only [Array.toList_push, List.mem_append, List.mem_singleton] at he
      rcases he with he | rfl
      · have := h5 e he; omega
      · show clock < clock + 1; omega
  | some q =>
    obtain ⟨i, u⟩ := q
    obtain ⟨_, hL, _⟩ := pos_some k L 0 i u hp
    simp only [Nat.sub_zero] at hL
    have hlen : es.size = L.length := by have := congrArg List.length h1; simpa using this
    have hi : i < es.size := by rw [hlen]; exact (List.getElem?_eq_some_iff.1 hL).1
    have hkv : es[i].key = enc k ∧ es[i].val = u := by
      have := congrArg (fun l => l[i]?) h1
      simp only [List.getElem?_map, hL, Array.getElem?_toList, Array.getElem?_eq_getElem hi, Option.map_some, Option.some.injEq, Prod.mk.injEq] at this
      exact this
    have hsame : ({ es[i] with key := enc k } : MapEntry) = es[i] := by rw [← hkv.1]
    have hid : (es.modify i fun e => { e with key := enc k }) = es := by
      apply Array.ext
      · simp
      · intro j hj1 hj2
        rw [Array.getElem_modify]
        by_cases hj : i = j
        · subst hj
          rw [if_pos rfl]; exact hsame
        · rw [if_neg hj]
    have e : w1 = ChangeMaps.setBlock w b (.map es clock) := by
      unfold Instr.mapEntry at hr
      simp only [Sem.run_bind, run_underlying ht, Result.andThen_ok, MapKept.run_getObj_map hb, hk.check, hk.find k w es.toList L h1, hp, Array.getElem?_eq_getElem hi, Option.map_some, Option.getD_some, hkv.1, Instr.keyThatStays, hk.same, if_true, Sem.run_pure, hid, MapKept.run_setObj_map _ hb] at hr
      exact (Result.ok.inj hr).2.symm
    subst e
    refine ⟨_, _, L, ChangeMaps.heap_setBlock_same hb _, h1, fun x => ?_, ?_, h4, h5, h6⟩
    · unfold upd
      split
      · rename_i e; rw [e, h2, get, hp]; rfl
      · exact h2 x
    · rw [more, h2, get, hp]; simp [h3]
end
/-- m[k]++: what the region's steps do, in either order -/
theorem count_steps {w : World} {b n : Nat} {f : Int × Int → Option Value} (h : MapIs w b encS f n) (k : Int × Int) (hk : f k = none) : ∃ (c : Int) (w1 w2 : World),
    (Instr.lookup 56 (.map (some b)) (.agg #[.int .i64 k.1, .int .i64 k.2]) false).run Tryd.prog w = .ok (.int .i64 0) w ∧
    (Instr.mapEntry 56 (.map (some b)) (.agg #[.int .i64 k.1, .int .i64 k.2])).run Tryd.prog w = .ok (.tuple #[.int .i64 0, .int .i64 c]) w1 ∧
    (Instr.lookup 56 (.map (some b)) (.agg #[.int .i64 k.1, .int .i64 k.2]) false).run Tryd.prog w1 = .ok (.int .i64 0) w1 ∧
    (Instr.entryStore 56 (.map (some b)) (.int .i64 c) (.int .i64 1)).run Tryd.prog w1 = .ok () w2 ∧
    Ch (fun x => x = b) w w1 ∧ Ch (fun x => x = b) w w2 ∧ MapIs w2 b encS (upd f k (.int .i64 1)) (n + 1) := by
  have hz : ∀ w : World, (zeroValue 3).run Tryd.prog w = .ok (.int .i64 0) w := fun w => by kernel_rfl
  have hl := h.lookup keyIs_stamp Tryd.underlying56 (hz w) k
  obtain ⟨c, w1, e1, ch1, s1, hst⟩ := h.entry keyIs_stamp Tryd.underlying56 (hz w) k
  have hm := h.entry_mid keyIs_stamp Tryd.underlying56 (hz w) k e1
  have hl1 := hm.lookup keyIs_stamp Tryd.underlying56 (hz w1) k
  obtain ⟨w2, e2, m2, ch2, s2⟩ := hst w1 (.int .i64 1) rfl
  rw [hk] at hl e1
  simp only [upd, if_pos rfl, hk, Option.getD_some, Option.getD_none] at hl1
  refine ⟨c, w1, w2, hl, e1, hl1, e2, ch1, ch1.trans ch2 (fun _ _ h => h), ?_⟩
  rw [more, hk] at m2
  exact m2
/-- the call's world: its own map, and what it grew by -/
structure CL (w : World) (mb : Nat) (l : List (Int × Int)) (y : World) : Prop where
  below : Below w.heap.size w y
  map : MapIs y mb encS (cntF l) l.length
  up : w.heap.size ≤ mb
theorem CL.later {w : World} {mb : Nat} {l : List (Int × Int)} {y z : World} (h : CL w mb l y) (b : Below y.heap.size y z) : CL w mb l z :=
  ⟨h.below.trans (b.mono h.below.size), h.map.at (b.block _ h.map.lt), h.up⟩
theorem CL.look {w : World} {mb : Nat} {l : List (Int × Int)} {y : World} (h : CL w mb l y) (n r : Int) : (Instr.lookup 56 (.map (some mb)) (.agg #[.int .i64 n, .int .i64 r]) false).run Tryd.prog y = .ok ((cntF l (n, r)).getD (.int .i64 0)) y :=
  h.map.lookup keyIs_stamp Tryd.underlying56 (by kernel_rfl) (n, r)
theorem idx_nth (v : V8) (k : Nat) (h : k < 8) (w : World) : (Instr.index 25 (.agg #[.int .i64 v.x0, .int .i64 v.x1, .int .i64 v.x2, .int .i64 v.x3, .int .i64 v.x4, .int .i64 v.x5, .int .i64 v.x6, .int .i64 v.x7]) (.int .i64 (k : Int))).run Tryd.prog w = .ok (.int .i64 (v.nth k)) w := by
  rcases nat8 h with rfl | rfl | rfl | rfl | rfl | rfl | rfl | rfl
  · exact idx0 v.x0 v.x1 v.x2 v.x3 v.x4 v.x5 v.x6 v.x7 w
  · exact idx1 v.x0 v.x1 v.x2 v.x3 v.x4 v.x5 v.x6 v.x7 w
  · exact idx2 v.x0 v.x1 v.x2 v.x3 v.x4 v.x5 v.x6 v.x7 w
  · exact idx3 v.x0 v.x1 v.x2 v.x3 v.x4 v.x5 v.x6 v.x7 w
  · exact idx4 v.x0 v.x1 v.x2 v.x3 v.x4 v.x5 v.x6 v.x7 w
  · exact idx5 v.x0 v.x1 v.x2 v.x3 v.x4 v.x5 v.x6 v.x7 w
  · exact idx6 v.x0 v.x1 v.x2 v.x3 v.x4 v.x5 v.x6 v.x7 w
  · exact idx7 v.x0 v.x1 v.x2 v.x3 v.x4 v.x5 v.x6 v.x7 w
/-- the same with the operation's box -/
structure CB (w : World) (mb : Nat) (l : List (Int × Int)) (o : OpG) (s : Nat) (y : World) : Prop where
  cl : CL w mb l y
  ob : y.heap[s]? = some (.cells o.cells 31 (0, 0))
  ne : s ≠ mb
theorem CB.new {w : World} {mb : Nat} {l : List (Int × Int)} {o : OpG} {y : World} (h : CL w mb l y) : CB w mb l o y.heap.size (y.alloc (.cells o.cells 31)) :=
  ⟨h.later ((Below.refl _ _).alloc (Nat.le_refl _) _), blk_new _ _, fun e => by have := h.map.lt; omega⟩
theorem CB.later {w : World} {mb : Nat} {l : List (Int × Int)} {o : OpG} {s : Nat} {y z : World} (h : CB w mb l o s y) (b : Below y.heap.size y z) : CB w mb l o s z :=
  ⟨h.cl.later b, (b.block _ (heap_lt h.ob)).trans h.ob, h.ne⟩
theorem take_snoc {L : List OpG} {q : Nat} {o : OpG} (h : L[q]? = some o) : L.take (q + 1) = L.take q ++ [o] := by
  obtain ⟨hq, rfl⟩ := List.getElem?_eq_some_iff.1 h
  exact List.take_succ_eq_append_getElem hq
theorem take_ids {L : List OpG} {q : Nat} {o : OpG} (h : L[q]? = some o) : ids (L.take (q + 1)) = ids (L.take q) ++ [o.id] := by
  unfold ids
  rw [take_snoc h, List.map_append]
  rfl
theorem ids_len (L : List OpG) : (ids L).length = L.length := by simp [ids]
theorem not_right {L : List OpG} {q : Nat} {o : OpG} (h : L[q]? = some o) (k : o.rightP = false) : ¬ ClosedP L := fun hc => by
  rw [hc.1 o (List.mem_of_getElem? h)] at k
  cases k
theorem not_twice {L : List OpG} {q : Nat} {o : OpG} (hq : L[q]? = some o) (h : o.id ∈ ids (L.take q)) : ¬ ClosedP L := fun hc => by
  have hn : (ids (L.take (q + 1))).Nodup := by
    have : (ids (L.take (q + 1))).Sublist (ids L) := (List.take_sublist _ _).map _
    exact hc.2.1.sublist this
  rw [take_ids hq, List.nodup_append] at hn
  exact hn.2.2 _ h _ (by simp) rfl
theorem not_dep {L : List OpG} {q r : Nat} {o : OpG} (hq : L[q]? = some o) (hr : r < 8) (h0 : 0 < o.d.nth r) (h : (o.d.nth r, (r : Int)) ∉ ids L) : ¬ ClosedP L := fun hc => h (hc.2.2 o (List.mem_of_getElem? hq) r hr h0)
/-- what the first loop has seen -/
def Seen (l : List OpG) : Prop := (∀ o ∈ l, o.rightP = true) ∧ (ids l).Nodup
theorem Seen.step {L : List OpG} {q : Nat} {o : OpG} (hq : L[q]? = some o) (hs : Seen (L.take q)) (hr : o.rightP = true) (h : o.id ∉ ids (L.take q)) : Seen (L.take (q + 1)) := by
  refine ⟨fun x hx => ?_, ?_⟩
  · rw [take_snoc hq, List.mem_append, List.mem_singleton] at hx
    rcases hx with hx | rfl
    · exact hs.1 x hx
    · exact hr
  · rw [take_ids hq, List.nodup_append]
    refine ⟨hs.2, by simp, fun a ha b hb e => ?_⟩
    simp at hb
    exact h (by rw [← hb, ← e]; exact ha)
/-- .. and the second -/
def Leans (M l : List OpG) : Prop := ∀ o ∈ l, ∀ r : Nat, r < 8 → 0 < o.d.nth r → (o.d.nth r, (r : Int)) ∈ ids M
theorem Leans.step {L M : List OpG} {q : Nat} {o : OpG} (hq : L[q]? = some o) (h : Leans M (L.take q)) (k : ∀ r : Nat, r < 8 → 0 < o.d.nth r → (o.d.nth r, (r : Int)) ∈ ids M) : Leans M (L.take (q + 1)) := by
  intro x hx
  rw [take_snoc hq, List.mem_append, List.mem_singleton] at hx
  rcases hx with hx | rfl
  · exact h x hx
  · exact k
theorem CL.there {w : World} {mb : Nat} {l : List (Int × Int)} {y : World} (h : CL w mb l y) {n r : Int} (k : (n, r) ∈ l) : (Instr.lookup 56 (.map (some mb)) (.agg #[.int .i64 n, .int .i64 r]) false).run Tryd.prog y = .ok (.int .i64 1) y := by
  have := h.look n r
  rwa [cntF, if_pos k] at this
theorem CL.gone {w : World} {mb : Nat} {l : List (Int × Int)} {y : World} (h : CL w mb l y) {n r : Int} (k : (n, r) ∉ l) : (Instr.lookup 56 (.map (some mb)) (.agg #[.int .i64 n, .int .i64 r]) false).run Tryd.prog y = .ok (.int .i64 0) y := by
  have := h.look n r
  rwa [cntF, if_neg k] at this
theorem CL.step {w : World} {mb : Nat} {l l' : List (Int × Int)} {y z : World} {k : Int × Int} (h : CL w mb l y) (c : Ch (fun x => x = mb) y z) (m : MapIs z mb encS (upd (cntF l) k (.int .i64 1)) (l.length + 1)) (e : l' = l ++ [k]) : CL w mb l' z := by
  subst e
  refine ⟨h.below.trans (c.below h.below.size (fun x hx e => by have := h.up; omega)), ?_, h.up⟩
  rw [List.length_append]
  exact m.eqv (cntF_add l k)
theorem cl_made {w : World} : CL w w.heap.size [] (w.alloc (.map #[] 0)) :=
  ⟨(Below.refl _ _).alloc (Nat.le_refl _) _, (MapIs.made w encS).eqv (fun k => by simp [cntF]), Nat.le_refl _⟩
set_option maxHeartbeats 8000000 in
set_option maxRecDepth 100000 in
theorem closed_any (w : World) (ao : Option Addr) (cap : Nat) (L : List OpG) (hA : OpsAt w ao L) (hf : ∀ o ∈ L, o.fine) (hn : L.length < 4294967296) :
    Calls Tryd.prog 11 #[.slice ao L.length cap] w fun e w' => e = .returned (.bool (closedB L)) ∧ Below w.heap.size w w' := by
  have HA := Lib.hid hA
  have HFI := Lib.hid hf
  clear hA hf
  have hmm := @run_makeMap Tryd.prog
  go_enter Tryd.func11, Tryd.ntmps11
  go_upto_region 2 with fail
  refine wp_let (CL w w.heap.size []) cl_made (fun x hx => ?_)
  have HX := Lib.hid hx
  clear hx
  go_wp2_with fail
  go_loopw [13] (fun i wr => ∃ q : Nat, q ≤ L.length ∧ i = .int .i64 q ∧ CL w w.heap.size (ids (L.take q)) wr ∧ Seen (L.take q)) (fun i _ => L.length - (RowKit.intOf i).toNat)
  case atStart => exact ⟨0, by omega, rfl, HX.out, by simp, by simp [ids]⟩
  case round =>
    obtain ⟨q, hq, rfl, hcl, hse⟩ := hrel
    by_cases hql : q < L.length
    · obtain ⟨o, ho⟩ : ∃ o, L[q]? = some o := ⟨_, List.getElem?_eq_getElem hql⟩
      obtain ⟨b, off, rfl, hbw, hc⟩ := (HA.out.below hcl.below) q o ho
      have HI := Lib.hid hcl
      have HS := Lib.hid hse
      have HO := Lib.hid ho
      have HC := Lib.hid hc
      have FI := HFI.out _ (List.mem_of_getElem? ho)
      have b0 : (0 : Int) ≤ (q : Int) := by omega
      have b1 : (q : Int) < (L.length : Int) := by omega
      clear hc hcl hse ho hbw
      go_upto_region 5 with (first | refine wpList_load_at (.tmp 15) 31 rfl rfl b (off + q * 26) o.cells rfl Tryd.underlying31 (by kernel_rfl) HC.out ?_ | refine wpList_store_fresh rfl (.tmp 5) (.tmp 16) 31 rfl (wr.heap.size) _ _ rfl (by simp) rfl (by kernel_rfl) (by kernel_rfl) (by kernel_rfl) ?_)
      refine wp_let' (CB w w.heap.size (ids (L.take q)) o wr.heap.size) (CB.new HI.out) (fun x hx => ?_)
      have HX := Lib.hid hx
      clear hx b0 b1
      cases hr : o.rightP with
      | false => as_aux_lemma =>
        have R := Lib.hid (fun w => bool_of hr (opsRight_any o FI w))
        have HV := Lib.hid (closed_no (not_right HO.out hr))
        clear FI hr
        go_wp2_with (refine wpList_load_whole (.tmp 5) 31 rfl rfl wr.heap.size o.cells rfl Tryd.underlying31 (by kernel_rfl) HX.out.ob ?_)
        with_reducible refine (R.out _).mono ?_
        rintro e x2 ⟨rfl, h2⟩
        have H2 := Lib.hid (HX.out.later h2)
        clear h2
        go_wp2_with fail
        go_ret
        exact ⟨ret_bool HV.out.symm, H2.out.cl.below⟩
      | true =>
        have R := Lib.hid (fun w => bool_of hr (opsRight_any o FI w))
        have HR := Lib.hid hr
        clear FI hr
        go_wp2_with (refine wpList_load_whole (.tmp 5) 31 rfl rfl wr.heap.size o.cells rfl Tryd.underlying31 (by kernel_rfl) HX.out.ob ?_)
        with_reducible refine (R.out _).mono ?_
        rintro e x2 ⟨rfl, h2⟩
        have H2 := Lib.hid (HX.out.later h2)
        clear h2
        have c0 : x2.cell? ⟨wr.heap.size, 0, none⟩ = some (.int .i64 o.n) := blk_cell H2.out.ob 0
        have c1 : x2.cell? ⟨wr.heap.size, 1, none⟩ = some (.int .i64 o.r) := blk_cell H2.out.ob 1
        by_cases hin : o.id ∈ ids (L.take q)
        · as_aux_lemma =>
          have hl := H2.out.cl.there (n := o.n) (r := o.r) hin
          have HV := Lib.hid (closed_no (not_twice HO.out hin))
          clear hin
          go_wp2_with fail
          go_ret
          exact ⟨ret_bool HV.out.symm, H2.out.cl.below⟩
        · have hl := H2.out.cl.gone (n := o.n) (r := o.r) hin
          have HIN := Lib.hid hin
          clear hin
          go_upto_region 7 with fail
          obtain ⟨cc, z1, z2, l0, e0, l1, s1, ch1, ch2, m2⟩ := count_steps (H2.out.later ((Below.refl _ _).drew)).cl.map o.id (if_neg HIN.out)
          simp only [OpG.id] at l0 e0 l1
          have HCH := Lib.hid (And.intro ch2 m2)
          have d0 : x2.drew.cell? ⟨wr.heap.size, 0, none⟩ = some (.int .i64 o.n) := c0
          have d1 : x2.drew.cell? ⟨wr.heap.size, 1, none⟩ = some (.int .i64 o.r) := c1
          clear ch1 ch2 m2 hl c0 c1
          go_region
          go_wp2
          go_roundw
          case rel => exact ⟨q + 1, by omega, by go_num, CL.step (H2.out.cl.later (Below.refl _ _).drew) HCH.out.1 HCH.out.2 (take_ids HO.out), Seen.step HO.out HS.out HR.out HIN.out⟩
          case measure => simp [intOf]; omega
    · have e : q = L.length := by omega
      subst e
      rw [List.take_length] at hcl hse
      have HI := Lib.hid hcl
      have HS := Lib.hid hse
      clear hcl hse hq
      go_wp2
      go_loopw [37] (fun i wq => ∃ q : Nat, q ≤ L.length ∧ i = .int .i64 q ∧ CL w w.heap.size (ids L) wq ∧ Leans L (L.take q)) (fun i _ => L.length - (RowKit.intOf i).toNat)
      case atStart => exact ⟨0, by omega, rfl, HI.out, fun o ho => by simp at ho⟩
      case round =>
        obtain ⟨q, hq, rfl, hcl, hle⟩ := hrel
        by_cases hql2 : q < L.length
        · obtain ⟨o, ho⟩ : ∃ o, L[q]? = some o := ⟨_, List.getElem?_eq_getElem hql2⟩
          obtain ⟨b, off, rfl, hbw, hc⟩ := (HA.out.below hcl.below) q o ho
          have HJ := Lib.hid hcl
          have HL := Lib.hid hle
          have HO := Lib.hid ho
          have HC := Lib.hid hc
          have b0 : (0 : Int) ≤ (q : Int) := by omega
          have b1 : (q : Int) < (L.length : Int) := by omega
          clear hc hcl hle ho hbw
          go_upto_region 12 with (first | refine wpList_load_at (.tmp 39) 31 rfl rfl b (off + q * 26) o.cells rfl Tryd.underlying31 (by kernel_rfl) HC.out ?_ | refine wpList_store_fresh rfl (.tmp 7) (.tmp 40) 31 rfl (wr.heap.size) _ _ rfl (by simp) rfl (by kernel_rfl) (by kernel_rfl) (by kernel_rfl) ?_)
          refine wp_let' (CB w w.heap.size (ids L) o wr.heap.size) (CB.new HJ.out) (fun x hx => ?_)
          have HX := Lib.hid hx
          clear hx b0 b1
          have e0 := blk_cell HX.out.ob (2 + 0)
          have e1 := blk_cell HX.out.ob (2 + 1)
          have e2 := blk_cell HX.out.ob (2 + 2)
          have e3 := blk_cell HX.out.ob (2 + 3)
          have e4 := blk_cell HX.out.ob (2 + 4)
          have e5 := blk_cell HX.out.ob (2 + 5)
          have e6 := blk_cell HX.out.ob (2 + 6)
          have e7 := blk_cell HX.out.ob (2 + 7)
          simp only [Nat.reduceAdd] at e0 e1 e2 e3 e4 e5 e6 e7
          go_wp2_with fail
          clear e0 e1 e2 e3 e4 e5 e6 e7
          go_loopw [43] (fun j wj => ∃ k : Nat, k ≤ 8 ∧ j = .int .i64 k ∧ wj = x ∧ ∀ r : Nat, r < k → 0 < o.d.nth r → (o.d.nth r, (r : Int)) ∈ ids L) (fun j _ => 8 - (RowKit.intOf j).toNat)
          case atStart => exact ⟨0, by omega, rfl, rfl, fun r hr => by omega⟩
          case round =>
            obtain ⟨k, hk, rfl, rfl, hd⟩ := hrel
            have HD := Lib.hid hd
            clear hd
            by_cases hk8 : k < 8
            · have ix := idx_nth o.d k hk8
              have d8 : decide ((k : Int) < 8) = true := decide_eq_true (by omega)
              by_cases h0 : 0 < o.d.nth k
              · have dk : decide (0 < o.d.nth k) = true := decide_eq_true h0
                have H0 := Lib.hid h0
                by_cases hin : (o.d.nth k, (k : Int)) ∈ ids L
                · have hl := HX.out.cl.there hin
                  have HIN := Lib.hid hin
                  clear hin h0
                  go_wp2
                  go_roundw
                  case rel => exact ⟨k + 1, by omega, by go_num, (by first | trivial | rfl), fun r hr h => by
                    by_cases e : r = k
                    · subst e; exact HIN.out
                    · exact HD.out r (by omega) h⟩
                  case measure => simp [intOf]; omega
                · have hl := HX.out.cl.gone hin
                  have HV := Lib.hid (closed_no (not_dep HO.out hk8 h0 hin))
                  clear hin h0
                  go_wp2
                  go_ret
                  exact ⟨ret_bool HV.out.symm, HX.out.cl.below⟩
              · have dk : decide (0 < o.d.nth k) = false := decide_eq_false h0
                have H0 := Lib.hid h0
                clear h0
                go_wp2
                go_roundw
                case rel => exact ⟨k + 1, by omega, by go_num, (by first | trivial | rfl), fun r hr h => by
                    by_cases e : r = k
                    · subst e; exact absurd h H0.out
                    · exact HD.out r (by omega) h⟩
                case measure => simp [intOf]; omega
            · have e : k = 8 := by omega
              subst e
              go_wp2
              go_roundw
              case rel => exact ⟨q + 1, by omega, by go_num, HX.out.cl, Leans.step HO.out HL.out HD.out⟩
              case measure => simp [intOf]; omega
        · have e : q = L.length := by omega
          subst e
          rw [List.take_length] at hle
          have HV := Lib.hid (closed_yes ⟨HS.out.1, HS.out.2, hle⟩)
          have HB := Lib.hid hcl.below
          clear hle hcl
          go_wp2
          go_ret
          exact ⟨ret_bool HV.out.symm, HB.out⟩
end Go.Proofs.YtgmhjgknfeihiaaDoor
