/- A RUN THAT IS TYPED: typed. -/
import Derived.Test.YtohpablkgfkelaaFRunsB
namespace Go.Proofs.Ytohpablkgfkelaa
open Go.RowKit Go.Joins
set_option linter.unusedSimpArgs false
set_option linter.unusedVariables false

theorem Like.bet {S U : Tx} (h : Like S U) (n : Int) : betP S n = betP U n ∧ betS S n = betS U n ∧ betE S n = betE U n ∧ betA S n = betA U n ∧ (betOut S n ↔ betOut U n) ∧ cnt S.gone S.L = cnt U.gone U.L := by
  obtain ⟨hK, hL, hG, -⟩ := h
  obtain ⟨SK, Sc, Sg, SL⟩ := S
  obtain ⟨UK, Uc, Ug, UL⟩ := U
  simp only at hK hL hG
  subst hK
  subst hL
  subst hG
  exact ⟨rfl, rfl, rfl, rfl, Iff.rfl, rfl⟩
/-- one run, of whichever replica -/
def RunT (S : Tx) (A B : List St) (p : St) (s : Int) (b : Bool) (r : Int) (i : Nat) (T : Tx) : Prop := (r = 6 ∧ Mg S A B p s b true i 0 T) ∨ (r = 7 ∧ Mg S A B p s true b 0 i T)
theorem RunT.ok {S : Tx} {A B : List St} {p : St} {s : Int} {b : Bool} {r : Int} {i : Nat} {T : Tx} (h : RunT S A B p s b r i T) : T.Ok := by
  rcases h with ⟨_, h⟩ | ⟨_, h⟩ <;> exact h.ok
theorem RunT.L {S : Tx} {A B : List St} {p : St} {s : Int} {b : Bool} {r : Int} {i : Nat} {T : Tx} (h : RunT S A B p s b r i T) : T.L = A ++ (runS b r i ++ B) := by
  rcases h with ⟨rfl, h⟩ | ⟨rfl, h⟩
  · rw [h.L]; simp [runS]
  · rw [h.L]; simp [runS]
theorem RunT.run1 {S : Tx} {A B : List St} {p : St} {s : Int} {b : Bool} {r : Int} {k : Nat} {T : Tx} (h : RunT S A B p s b r (k + 1) T) : Run1 S T A B p s b r k := by
  refine ⟨h.ok, h.L, ?_, fun u => ?_, ?_, fun q u hq => ?_⟩
  · rcases h with ⟨_, h⟩ | ⟨_, h⟩ <;> exact h.gone
  · rcases h with ⟨rfl, h⟩ | ⟨rfl, h⟩
    · exact h.la k rfl u
    · exact h.lb k rfl u
  · rcases h with ⟨rfl, h⟩ | ⟨rfl, h⟩ <;> (rw [h.K0]; simp)
  · rcases h with ⟨rfl, h⟩ | ⟨rfl, h⟩ <;> exact h.up q u hq
theorem RunT.step {S : Tx} {A B : List St} {p : St} {s : Int} {b : Bool} {r : Int} {i : Nat} {T T' : Tx} (h : RunT S A B p s b r i T) (ha : At A B p s) {c : Int}
    (hi : InsOk T (rid r i) (runA p s b r i).par (runA p s b r i).side) (hs : Stp T (rid r i) (runA p s b r i).par (runA p s b r i).side c T') : RunT S A B p s b r (i + 1) T' := by
  rcases h with ⟨rfl, h⟩ | ⟨rfl, h⟩
  · exact .inl ⟨rfl, h.stepA ha (fun _ => rfl) hi hs⟩
  · exact .inr ⟨rfl, h.stepB ha (fun _ => Nat.zero_le _) hi hs⟩
/-- how many -/
def runN (x : Int) : Nat := 1 + (if x < 0 then (-(x + 1)).toNat else x.toNat) % 9
theorem runL_succ (p : St) (s : Int) (b : Bool) (r : Int) (i : Nat) : runL p s b r (i + 1) = runL p s b r i ++ [runA p s b r i] := by
  unfold runL
  rw [List.range_succ, List.map_append]
  rfl
theorem runL_length (p : St) (s : Int) (b : Bool) (r : Int) (i : Nat) : (runL p s b r i).length = i := by simp [runL]
def TypedP (S0 : Tx) (n : Nat) (b : Bool) (r : Int) (m : Nat) (w : World) (e : Ending) (w' : World) : Prop :=
  ∃ v ok, e = .returned (.tuple #[v, .bool ok]) ∧ Below w.heap.size w w' ∧ (ok = false → v = .slice none 0 0) ∧ (ok = true → RowAct w' w.heap.size v (runL (betP S0 n) (betS S0 n) b r m) ∧ ∀ i, i < m → rid r i ∉ S0.L)
set_option maxHeartbeats 16000000 in
set_option maxRecDepth 200000 in
theorem typed_any (w : World) (ao : Option Addr) (cap : Nat) (A : List ActG) (hlen : A.length ≤ maxLen) (hA : ActsAt w ao A) (S0 : Tx) (l0 : List ActG) (hP : Pl (A.take 80) l0 S0) (n : Nat) (hn : n ≤ cnt S0.gone S0.L) (x : Int) (hx : -9223372036854775808 ≤ x ∧ x ≤ 9223372036854775807) (b : Bool) (r : Int) (hr : r = 6 ∨ r = 7) :
    Calls Try.prog 20 #[.slice ao A.length cap, .int .i64 n, .agg #[.int .i64 x, .bool b], .int .i64 r] w (TypedP S0 n b r (runN x) w) := by
  obtain ⟨i0, hi, hz0, hz1, hz2⟩ := info_parts infoAct
  have HW0 := Lib.hid (fun (z : World) (hb : Below w.heap.size w z) => written2_any z ao cap A hlen (hA.below hb))
  have HP := Lib.hid hP
  obtain ⟨m0, hm0⟩ : ∃ m0, (if x < 0 then (-(x + 1)).toNat else x.toNat) % 9 = m0 := ⟨_, rfl⟩
  have hmm : runN x = 1 + m0 := by unfold runN; rw [hm0]
  rw [hmm]
  have HM0 := Lib.hid hm0
  clear hA hlen hP hmm hm0
  go_enter Try.func20, Try.ntmps20
  go_upto_region 1 with fail
  refine wp_let (fun z => Below w.heap.size w z ∧ z.heap[w.heap.size]? = some (.cells #[.int .i64 x, .bool b] 49 (0, 0))) ⟨(Below.refl _ _).alloc (Nat.le_refl _) _, blk_new _ _⟩ (fun y hy => ?_)
  have HY := Lib.hid hy
  have HW := Lib.hid (HW0.out y hy.1)
  have hwy := heap_lt hy.2
  clear hy HW0
  go_wp2_with fail
  with_reducible refine HW.out.mono ?_
  rintro e w1 ⟨t, S, v0, l, rfl, hWr, hC, hl80⟩
  have HWr0 := Lib.hid hWr
  have HC := Lib.hid hC
  have hcx := (hWr.b.block _ (heap_lt HY.out.2)).trans HY.out.2
  have HCX := Lib.hid hcx
  have c0 := blk_cell hcx 0
  clear hWr hC hcx
  go_upto_if 28 with fail
  go_cut [12] (fun v z => v = .int .i64 ((if x < 0 then (-(x + 1)).toNat else x.toNat : Nat) : Int) ∧ z = w1)
  case first =>
    by_cases hneg : x < 0
    · go_wp2_with fail
      go_meet
      exact ⟨congrArg (Value.int .i64) (by rw [if_pos hneg]; omega), rfl⟩
    · go_wp2_with fail
      go_meet
      exact ⟨congrArg (Value.int .i64) (by rw [if_neg (show ¬ x < 0 by omega)]; omega), rfl⟩
  case rest =>
  obtain ⟨rfl, rfl⟩ := hcut
  clear c0
  have hLK := HP.out.like HC.out
  obtain ⟨hbP, hbS, -, hbA, hbO, hbC⟩ := hLK.bet (n : Int)
  have ho : ¬ betOut S n := by rw [← hbO]; unfold betOut; omega
  have hok := HC.out.came.told.ok
  obtain ⟨hk, hb1, hb2, hput⟩ := bet_pos hok ho
  obtain ⟨hps, hcn⟩ := bet_in hok ho
  have hsp : Spot S.L (betP S n) (betS S n) := by
    rcases hps with ⟨e1, e2⟩ | ⟨e1, e2⟩
    · exact .inl ⟨e2, e1⟩
    · exact .inr ⟨e2, e1⟩
  obtain ⟨A', B', hPut⟩ := hok.put hsp 0
  have hat := At.of hk hsp hPut
  have hcA : cnt S.gone A' = n := by
    have := hcn (0, 0) A' B' (by rw [hk, posS_nil]; exact hPut)
    omega
  have hstart : RunT S A' B' (betP S n) (betS S n) b r 0 S := by
    rcases hr with e | e
    · exact .inl ⟨e, Mg.start hok ⟨rfl, rfl, rfl, fun _ _ => rfl⟩ hk hPut.eq _ _⟩
    · exact .inr ⟨e, Mg.start hok ⟨rfl, rfl, rfl, fun _ _ => rfl⟩ hk hPut.eq _ _⟩
  have hbet : ∀ (q : Nat) (T : Tx), RunT S A' B' (betP S n) (betS S n) b r q T → (q = 0 → T = S) → ∀ k : Int, k = (if b then (n : Int) else n + q) → betP T k = (runA (betP S n) (betS S n) b r q).par ∧ betS T k = (runA (betP S n) (betS S n) b r q).side ∧ betE T k = 0 := by
    intro q T hT hz k hk2
    cases q with
    | zero =>
      have e : k = (n : Int) := by rw [hk2]; cases b <;> simp
      subst e
      obtain rfl := hz rfl
      refine ⟨rfl, rfl, ?_⟩
      unfold betE
      rw [if_neg ho]
    | succ q =>
      have hs12 : betS S n = 1 ∨ betS S n = 2 := by
        rcases hps with ⟨_, e⟩ | ⟨_, e⟩
        · exact .inr e
        · exact e
      exact hT.run1.bet hok ho hPut.eq hcA (hput A' B' hPut) hb1 hb2 hs12 k (by rw [hk2]; cases b <;> simp)
  have HBET := Lib.hid hbet
  have HAT := Lib.hid hat
  have HSTART := Lib.hid hstart
  have HEQ := Lib.hid hPut.eq
  have HPSE := Lib.hid (And.intro hbP hbS)
  have HLS := Lib.hid hLK.L
  have HOK := Lib.hid hok
  have hLl := HC.out.came.length
  generalize betP S n = p at *
  generalize betS S n = s at *
  have hm0 := HM0.out
  have hm9 : m0 < 9 := by rw [← hm0]; exact Nat.mod_lt _ (by omega)
  have hm2 : (((if x < 0 then (-(x + 1)).toNat else x.toNat : Nat) : Int)).tmod 9 = (m0 : Int) := by rw [← hm0]; rfl
  have hm3 : (((if x < 0 then (-(x + 1)).toNat else x.toNat : Nat) : Int)) % 9 = (m0 : Int) := by rw [← hm0]; rfl
  generalize (if x < 0 then (-(x + 1)).toNat else x.toNat : Nat) = nn at *
  have HW1 := Lib.hid (show Wr y wc t S (.slice none 0 0) [] from ⟨HWr0.out.text.mono (fun z hz => ⟨hz.1, fun h => by cases h⟩), World.ownsRow_nil _ _ _ _, HWr0.out.b⟩)
  have hnb : n < 4294967296 := by have := cnt_le S0.gone S0.L; have := HLS.out; have := congrArg List.length this; omega
  clear hbet hat hstart hPut hbP hbS hLK hok hk hb1 hb2 hput hps hcn hsp hcA ho hbA hbO hbC hm0 hn hx
  go_wp2
  clear hm2 hm3
  go_loopw [13, 14] (fun v iv wr => ∃ (q : Nat) (T : Tx), iv = .int .i64 q ∧ q ≤ 1 + m0 ∧ Aside (RunT S A' B' p s b r q T) ∧ Aside (q = 0 → T = S) ∧ Aside (∀ i, i < q → rid r i ∉ S.L) ∧ Aside (Wr y wr t T v (runL p s b r q)) ∧ Aside (wr.heap[w.heap.size]? = some (.cells #[.int .i64 x, .bool b] 49 (0, 0)))) (fun _ iv _ => 12 - (intOf iv).toNat)
  case atStart => exact ⟨0, S, rfl, Nat.zero_le _, HSTART.out, fun _ => rfl, fun i h => absurd h (Nat.not_lt_zero _), HW1.out, HCX.out⟩
  case round =>
    obtain ⟨q, T, rfl, hq, AR, AZ, AN, AW, AX⟩ := hrel
    by_cases hql : q < 1 + m0
    · have hTl : T.L.length = S.L.length + q := by
        rw [AR.out.L, HEQ.out]
        simp [runS_length]
        omega
      have c1 := blk_cell AX.out 1
      go_upto_if 44 with fail
      go_cut [15] (fun v z => v = .int .i64 (if b then (n : Int) else n + q) ∧ z = wr)
      case first =>
        cases b with
        | true =>
          go_wp2_with fail
          go_meet
          exact ⟨rfl, rfl⟩
        | false =>
          go_wp2_with fail
          go_meet
          exact ⟨by simp, rfl⟩
      case rest =>
        obtain ⟨rfl, rfl⟩ := hcut
        clear c1
        obtain ⟨k, hk⟩ : ∃ k : Int, (if b then (n : Int) else n + q) = k := ⟨_, rfl⟩
        obtain ⟨h1, h2, h3⟩ := HBET.out q T AR.out AZ.out k hk.symm
        rw [hk]
        have hbt := between_text wc t T _ AW.out.text k
        rw [h1, h2, h3] at hbt
        have HBT := Lib.hid hbt
        obtain ⟨a, ha⟩ : ∃ a, runA p s b r q = a := ⟨_, rfl⟩
        have haid : a.id = (524288 + (q : Int), r) := by rw [← ha]; exact runA_id p s b r q
        have hakd : a.kd = 1 := by rw [← ha]; exact runA_kd p s b r q
        have hach : a.ch = 97 + r := by rw [← ha]; cases q <;> rfl
        have han : a.n = 0 := by rw [← ha]; cases q <;> rfl
        have hac : a.cells = #[.int .i64 1, .int .i64 (524288 + (q : Int)), .int .i64 r, .int .i64 a.par.1, .int .i64 a.par.2, .int .i64 a.side, .int .i64 (97 + r), .int .i64 0] := by
          unfold ActG.cells
          rw [hakd, haid, hach, han]
        rw [ha] at HBT
        have HAC := Lib.hid hac
        have HA := Lib.hid ha
        have HID := Lib.hid haid
        have hr2 : 0 ≤ r ∧ r ≤ 7 := by omega
        clear hbt h1 h2 h3 hk ha haid hakd hach han hac
        go_upto_region 14 with (with_reducible refine HBT.out.mono ?_; rintro e z1 ⟨rfl, hb⟩; have HZ1 := Lib.hid hb; clear hb)
        go_upto_region 15 with fail
        refine wp_let (fun z => Wr y z t T u13 (runL p s b r q) ∧ Below wc.heap.size wc z ∧ z.heap[z1.heap.size + 1]? = some (.cells a.cells 33 (0, 0)) ∧ z.heap[w.heap.size]? = some (.cells #[.int .i64 x, .bool b] 49 (0, 0))) ⟨AW.out.later ((HZ1.out.alloc HZ1.out.size _).alloc ((HZ1.out.alloc HZ1.out.size _).size) _), (HZ1.out.alloc HZ1.out.size _).alloc ((HZ1.out.alloc HZ1.out.size _).size) _, by rw [HAC.out]; exact blk_at _ _ _ (by simp), blk_alloc (blk_alloc ((HZ1.out.block _ (heap_lt AX.out)).trans AX.out))⟩ (fun z hz => ?_)
        generalize hbx : z1.heap.size + 1 = bx at *
        have hbxl : wc.heap.size < bx := by have := HZ1.out.size; omega
        have HZ := Lib.hid hz
        have c0 := blk_cell hz.2.2.1 0
        have c1 := blk_cell hz.2.2.1 1
        have c2 := blk_cell hz.2.2.1 2
        have c3 := blk_cell hz.2.2.1 3
        have c4 := blk_cell hz.2.2.1 4
        have c5 := blk_cell hz.2.2.1 5
        have c6 := blk_cell hz.2.2.1 6
        clear hz hbx
        have HXT := Lib.hid ((AW.out.text.bnd).later HZ.out.2.1)
        have HI := Lib.hid (insert_text z t T _ HXT.out (by omega) a.id a.par a.side a.ch)
        have HBX := Lib.hid (fun z' (c : Ch (fun y' => (y.heap.size ≤ y' ∧ u13.ownBlock ≠ some y') ∧ y' < wc.heap.size) z z') => (show z'.heap[bx]? = some (.cells a.cells 33 (0, 0)) ∧ z'.heap[w.heap.size]? = some (.cells #[.int .i64 x, .bool b] 49 (0, 0)) from ⟨c.at HZ.out.2.2.1 (fun e => by omega), c.at HZ.out.2.2.2 (fun e => by omega)⟩))
        have HTI := Lib.hid (fun z' T' (h : Text z' t T' (fun y' => ((y.heap.size ≤ y' ∧ u13.ownBlock ≠ some y') ∧ y' < wc.heap.size) ∨ z.heap.size ≤ y')) (c : Ch (fun y' => (y.heap.size ≤ y' ∧ u13.ownBlock ≠ some y') ∧ y' < wc.heap.size) z z') => (show Wr y z' t T' u13 (runL p s b r q) from HZ.out.1.turn (h.mono (fun y hy => hy.imp (fun h => h.1) id)) (c.mono (fun y _ h => h.1))))
        by_cases hok : InsOk T a.id a.par a.side
        · have e0 : (T.insE a.id a.par a.side != 0) = false := by simp [insE_zero.2 hok]
          have e1 : (T.insE a.id a.par a.side == 0) = true := beq_iff_eq.2 (insE_zero.2 hok)
          have HOK2 := Lib.hid hok
          clear hok
          go_wp2_with fail
          with_reducible refine HI.out.mono ?_
          rintro e z2 ⟨rfl, T', hS, hT', hc⟩
          have HS := Lib.hid hS
          have HW2 := Lib.hid (HTI.out z2 T' hT' hc)
          obtain ⟨hb1, hb2⟩ := HBX.out z2 hc
          have HRB := Lib.hid hb2
          clear c0 c1 c2 c3 c4 c5 c6
          have c0 := blk_cell hb1 0
          have c1 := blk_cell hb1 1
          have c2 := blk_cell hb1 2
          have c3 := blk_cell hb1 3
          have c4 := blk_cell hb1 4
          have c5 := blk_cell hb1 5
          have c6 := blk_cell hb1 6
          have c7 := blk_cell hb1 7
          clear hS hT' hc hb1 hb2
          have HRA := Lib.hid ((HW2.out.later ((Below.refl _ _).alloc (Nat.le_refl _) (.cells a.cells 33))))
          have hrl := runL_length p s b r q
          have HRL := Lib.hid hrl
          clear hrl
          go_wp2_with (at_builtin; refine wpList_append_lies _ rfl (.tmp 77) (.tmp 79) 22 rfl y.heap.size 33 i0 _ 8 64 Try.underlying22 hi hz0 hz1 hz2 rfl (by decide) u13 _ _ rfl HRA.out.row ⟨z2.heap.size, 0, none⟩ 1 1 a.cells.toList rfl rfl (fun j u hj => by
                        rw [Addr.add_lit, Nat.zero_add, blk_cell (blk_new _ _), ← Array.getElem?_toList]
                        exact hj) (act_one _) (by omega) (by rw [HRL.out]; unfold maxLen; omega) (by rw [HRL.out]; omega) HRA.out.b.size (z2.heap.size + 1) (by simp) ?_; intro g cap' w2 hown1 hgrow1 hat hlt)
          go_roundw
          case rel => exact ⟨q + 1, T', by go_num, by omega, AR.out.step HAT.out (by rw [HA.out, ← runA_id p s b r q, HA.out]; exact HOK2.out) (by rw [HA.out, ← runA_id p s b r q, HA.out]; exact HS.out), fun h => by omega, fun i hi => by
            rcases Nat.lt_or_ge i q with e | e
            · exact AN.out i e
            · obtain rfl : i = q := by omega
              have h1 := HOK2.out.2.1
              rw [HID.out, AR.out.L] at h1
              rw [HEQ.out]
              intro h2
              refine h1 ?_
              rcases List.mem_append.1 h2 with h2 | h2
              · exact List.mem_append.2 (.inl h2)
              · exact List.mem_append.2 (.inr (List.mem_append.2 (.inr h2))), by
            show Wr y w2 t T' _ (runL p s b r (q + 1))
            rw [runL_succ, HA.out]
            exact HRA.out.more (by
              unfold RowAct
              rw [actL_append, List.length_append]
              have e : actL [a] = a.cells.toList := by simp [actL]
              rw [e]
              exact hown1) hgrow1 (fun b hb => by cases hb; exact hat.imp id (fun e => by simp; omega)), ((Ch.of_grown hgrow1).at (blk_alloc HRB.out) (fun e => by have := (HRA.out.row.lt _ e.symm).1; omega))⟩
          case measure => simp [intOf]; omega
        · have e0 : (T.insE a.id a.par a.side != 0) = true := bne_iff_ne.2 (insE_no hok)
          have e1 : (T.insE a.id a.par a.side == 0) = false := beq_eq_false_iff_ne.2 (insE_no hok)
          clear hok
          go_wp2_with fail
          with_reducible refine HI.out.mono ?_
          rintro e z2 ⟨rfl, T', hS, hT', hc⟩
          have HW2 := Lib.hid (HTI.out z2 T' hT' hc)
          clear hS hT' hc
          go_wp2
          go_ret2
          exact ⟨_, false, rfl, HY.out.1.trans (HW2.out.b.mono HY.out.1.size), fun _ => rfl, fun h => (by cases h)⟩
    · obtain rfl : q = 1 + m0 := by omega
      go_wp2
      go_ret2
      exact ⟨_, true, rfl, HY.out.1.trans (AW.out.b.mono HY.out.1.size), fun h => (by cases h), fun _ => ⟨by rw [HPSE.out.1, HPSE.out.2]; exact own_le AW.out.row HY.out.1.size, fun i hi => by rw [HLS.out]; exact AN.out i hi⟩⟩
end Go.Proofs.Ytohpablkgfkelaa
