/- WHAT IT LEANS ON IS EARLIER: the walk. -/
import Derived.Test.YtgmhjgknfeihiaaDoorOEarlierP
import Derived.Test.YtgmhjgknfeihiaaDoorOApp
namespace Go.Proofs.YtgmhjgknfeihiaaDoor
open Go.RowKit Go.Joins
set_option linter.unusedSimpArgs false
set_option linter.unusedVariables false
/-- an operation's box, behind a world -/
structure BX (w2 : World) (o : OpG) (s : Nat) (y : World) : Prop where
  b : Below w2.heap.size w2 y
  ob : y.heap[s]? = some (.cells o.cells 31 (0, 0))
theorem BX.later {w2 : World} {o : OpG} {s : Nat} {y z : World} (h : BX w2 o s y) (b : Below y.heap.size y z) : BX w2 o s z :=
  ⟨h.b.trans (b.mono h.b.size), (b.block _ (heap_lt h.ob)).trans h.ob⟩
theorem BX.new {w2 y : World} (o : OpG) (h : Below w2.heap.size w2 y) : BX w2 o y.heap.size (y.alloc (.cells o.cells 31)) := ⟨h.alloc h.size _, blk_new _ _⟩
def nmCells (o : OpG) : Array Value := #[.int .i64 o.rn, .int .i64 o.rr, .int .i64 o.un, .int .i64 o.ur, .int .i64 o.fn, .int .i64 o.fr, .int .i64 o.tn, .int .i64 o.tr]
theorem nm_cell (o : OpG) (k : Nat) (hk : k < 4) : (nmCells o)[k * 2]? = some (.int .i64 (o.nm k).1) ∧ (nmCells o)[k * 2 + 1]? = some (.int .i64 (o.nm k).2) := by
  have hk4 : k = 0 ∨ k = 1 ∨ k = 2 ∨ k = 3 := by omega
  rcases hk4 with rfl | rfl | rfl | rfl <;> exact ⟨rfl, rfl⟩
structure BN (w2 : World) (o : OpG) (s t : Nat) (y : World) : Prop where
  bx : BX w2 o s y
  nb : y.heap[t]? = some (.cells (nmCells o) 23 (0, 0))
theorem BN.later {w2 : World} {o : OpG} {s t : Nat} {y z : World} (h : BN w2 o s t y) (b : Below y.heap.size y z) : BN w2 o s t z :=
  ⟨h.bx.later b, (b.block _ (heap_lt h.nb)).trans h.nb⟩
theorem run_stGuardN (xs ys : Array Value) (x y : Operand) (w : World) : (eqGuard .neq 23 x y (.agg xs) (.agg ys)).run Tryd.prog w = .ok () w := by kernel_rfl
set_option maxHeartbeats 8000000 in
set_option maxRecDepth 100000 in
theorem earlier_walk (w : World) (ao : Option Addr) (cap : Nat) (L : List OpG) (hA : OpsAt w ao L) (hf : ∀ o ∈ L, o.fine) (h0 : ao = none → cap = 0) (hlen : L.length ≤ maxLen) :
    Calls Tryd.prog 6 #[.slice ao L.length cap] w fun e w' => e = .returned (.bool true) ∧ Below w.heap.size w w' := by
  have AL := Lib.hid alive_any
  by_cases h60 : 60 < L.length
  · as_aux_lemma =>
    have d60 : decide ((60 : Int) < (L.length : Int)) = true := decide_eq_true (by omega)
    clear hA hf
    go_enter Tryd.func6, Tryd.ntmps6
    go_wp2_with fail
    with_reducible refine (AL.out _).mono ?_
    rintro e w2 ⟨rfl, h2⟩
    go_wp2
    go_ret
    exact ⟨rfl, h2⟩
  have d60 : decide ((60 : Int) < (L.length : Int)) = false := decide_eq_false (by omega)
  cases hc : closedB L with
  | false => as_aux_lemma =>
    have C := Lib.hid (bool_of hc (closed_any w ao cap L hA hf (by omega)))
    clear hA hf hc
    go_enter Tryd.func6, Tryd.ntmps6
    go_wp2_with fail
    with_reducible refine C.out.mono ?_
    rintro e w1 ⟨rfl, h1⟩
    have H1 := Lib.hid h1
    clear h1
    go_wp2_with fail
    with_reducible refine (AL.out _).mono ?_
    rintro e w2 ⟨rfl, h2⟩
    have H2 := Lib.hid h2
    clear h2
    go_wp2
    go_ret
    exact ⟨rfl, H1.out.trans (H2.out.mono H1.out.size)⟩
  | true =>
    have C := Lib.hid (bool_of hc (closed_any w ao cap L hA hf (by omega)))
    have HA := Lib.hid hA
    have HCL := Lib.hid (closed_iff.1 hc)
    clear hA hf hc
    go_enter Tryd.func6, Tryd.ntmps6
    go_wp2_with fail
    with_reducible refine C.out.mono ?_
    rintro e w1 ⟨rfl, h1⟩
    have H1 := Lib.hid h1
    clear h1 d60
    have HS := Lib.hid (sort_any w1 ao cap L (HA.out.below H1.out) (by omega) h0)
    go_wp2_with fail
    with_reducible refine HS.out.mono ?_
    rintro e w2 ⟨v, S, rfl, hso, hown, h2⟩
    have hlenS := hso.perm.length_eq
    obtain ⟨a2, c2, rfl, -, hat⟩ := hown.at'
    have H2 := Lib.hid (H1.out.trans (h2.mono H1.out.size))
    have HAT := Lib.hid hat
    have HSO := Lib.hid hso.sorted
    have HCS := Lib.hid (closed_perm hso.perm HCL.out)
    have hee : ((S.length : Int) != (L.length : Int)) = false := by simp [hlenS]
    have hs60 : S.length ≤ 60 := by omega
    clear hso hown h2 hat hlenS HS C
    go_wp2_with fail
    clear hee
    go_loopw [4] (fun i wr => ∃ q : Nat, q ≤ S.length ∧ i = .int .i64 q ∧ Below w2.heap.size w2 wr) (fun i _ => S.length - (RowKit.intOf i).toNat)
    case atStart => exact ⟨0, by omega, rfl, Below.refl _ _⟩
    case round =>
      obtain ⟨q, hq, rfl, hbw⟩ := hrel
      have HB := Lib.hid hbw
      clear hbw
      by_cases hql : q < S.length
      · obtain ⟨o, ho⟩ : ∃ o, S[q]? = some o := ⟨_, List.getElem?_eq_getElem hql⟩
        obtain ⟨b, off, rfl, hbl, hcc⟩ := (HAT.out.below HB.out) q o ho
        have HO := Lib.hid ho
        have HC := Lib.hid hcc
        have b0 : (0 : Int) ≤ (q : Int) := by omega
        have b1 : (q : Int) < (S.length : Int) := by omega
        clear hcc ho hbl
        go_upto_region 10 with (first | refine wpList_load_at (.tmp 34) 31 rfl rfl b (off + q * 26) o.cells rfl Tryd.underlying31 (by kernel_rfl) HC.out ?_ | refine wpList_store_fresh rfl (.tmp 5) (.tmp 35) 31 rfl (wr.heap.size) _ _ rfl (by simp) rfl (by kernel_rfl) (by kernel_rfl) (by kernel_rfl) ?_)
        refine wp_let' (BX w2 o wr.heap.size) (BX.new o HB.out) (fun x hx => ?_)
        have HX := Lib.hid hx
        clear hx
        simp only [Act.put]
        go_cut [49] (fun c y => c = .bool false ∧ BX w2 o wr.heap.size y)
        case first =>
          by_cases hq0 : q = 0
          · as_aux_lemma =>
            subst hq0
            have dz : decide ((0 : Int) < ((0 : Nat) : Int)) = false := by decide
            refine region_ext (by kernel_rfl) (by kernel_rfl) ?_
            repeat (go_big_quiet_step (fail))
            refine wpQuiet_nil ?_
            rintro _ ⟨nq, rfl⟩
            go_wp2_with fail
            go_meet
            exact ⟨rfl, HX.out.later (ext_below x nq)⟩
          · obtain ⟨k, rfl⟩ : ∃ k, q = k + 1 := ⟨q - 1, by omega⟩
            obtain ⟨a, ha⟩ : ∃ a, S[k]? = some a := ⟨_, List.getElem?_eq_getElem (by omega)⟩
            have hst := strict HSO.out HCS.out.2.1 (Nat.lt_succ_self k) ha HO.out
            have dlt : decide (0 ≤ cmpS a.n a.r o.n o.r) = false := decide_eq_false (by omega)
            have dgt : decide ((0 : Int) < ((k + 1 : Nat) : Int)) = true := decide_eq_true (by omega)
            have CP := Lib.hid (fun w => compare_any a.n a.r o.n o.r w)
            have hk : (((k + 1 : Nat) : Int) - 1) = (k : Int) := by omega
            have hk0 : (0 : Int) ≤ (k : Int) := by omega
            have hk1 : (k : Int) < (S.length : Int) := by omega
            obtain ⟨b', off', e', hbl', hca⟩ := (HAT.out.below HX.out.b) k a ha
            cases e'
            have c0 : ∀ n, (ext x n).cell? ⟨b, off + k * 26, none⟩ = some (.int .i64 a.n) := fun n => ((ext_cell x n _ hbl').trans (hca 0 _ rfl))
            have c1 : ∀ n, (ext x n).cell? ⟨b, off + k * 26 + 1, none⟩ = some (.int .i64 a.r) := fun n => ((ext_cell x n _ hbl').trans (hca 1 _ rfl))
            have d0 : ∀ n, (ext x n).cell? ⟨wr.heap.size, 0, none⟩ = some (.int .i64 o.n) := fun n => blk_cell (HX.out.later (ext_below x n)).ob 0
            have d1 : ∀ n, (ext x n).cell? ⟨wr.heap.size, 1, none⟩ = some (.int .i64 o.r) := fun n => blk_cell (HX.out.later (ext_below x n)).ob 1
            clear hst hca ha hq0 b0 b1
            refine region_ext (by kernel_rfl) (by kernel_rfl) ?_
            repeat (go_big_quiet_step (with_reducible exact calls_ext (CP.out _)))
            refine wpQuiet_nil ?_
            rintro _ ⟨nq, rfl⟩
            go_wp2_with fail
            go_meet
            exact ⟨rfl, HX.out.later (ext_below x nq)⟩
        case rest =>
          obtain ⟨rfl, hx⟩ := hcut
          have HX := Lib.hid hx
          clear hx b0 b1
          obtain ⟨wk, hwk⟩ : ∃ wk, wk = wc := ⟨_, rfl⟩
          subst hwk
          generalize wr.heap.size = s at *
          have hRT := Lib.hid (HCS.out.1 o (List.mem_of_getElem? HO.out))
          have g0 : wk.cell? ⟨s, 11, none⟩ = some (.int .i64 o.rn) := blk_cell HX.out.ob 11
          have g1 : wk.cell? ⟨s, 12, none⟩ = some (.int .i64 o.rr) := blk_cell HX.out.ob 12
          have g2 : wk.cell? ⟨s, 15, none⟩ = some (.int .i64 o.un) := blk_cell HX.out.ob 15
          have g3 : wk.cell? ⟨s, 16, none⟩ = some (.int .i64 o.ur) := blk_cell HX.out.ob 16
          have g4 : wk.cell? ⟨s, 20, none⟩ = some (.int .i64 o.fn) := blk_cell HX.out.ob 20
          have g5 : wk.cell? ⟨s, 21, none⟩ = some (.int .i64 o.fr) := blk_cell HX.out.ob 21
          have g6 : wk.cell? ⟨s, 23, none⟩ = some (.int .i64 o.tn) := blk_cell HX.out.ob 23
          have g7 : wk.cell? ⟨s, 24, none⟩ = some (.int .i64 o.tr) := blk_cell HX.out.ob 24
          go_upto_region 13 with fail
          refine wp_let' (BN w2 o s wk.heap.size) ⟨HX.out.later ((Below.refl _ _).alloc (Nat.le_refl _) _), blk_new _ _⟩ (fun x2 hx2 => ?_)
          have HN := Lib.hid hx2
          clear hx2 g0 g1 g2 g3 g4 g5 g6 g7
          go_wp2_with fail
          generalize wk.heap.size = t at *
          go_loopw [7] (fun j wj => ∃ k : Nat, k ≤ 4 ∧ j = .int .i64 k ∧ BN w2 o s t wj) (fun j _ => 4 - (RowKit.intOf j).toNat)
          case atStart => exact ⟨0, by omega, rfl, HN.out⟩
          case round =>
            obtain ⟨k, hk, rfl, hn2⟩ := hrel
            have HM := Lib.hid hn2
            clear hn2
            by_cases hk4 : k < 4
            · have b0 : (0 : Int) ≤ (k : Int) := by omega
              have b1 : (k : Int) < 4 := by omega
              have n0 : ∀ n, (ext wr n).cell? ⟨t, k * 2, none⟩ = some (.int .i64 (o.nm k).1) := fun n => (blk_cell (HM.out.later (ext_below wr n)).nb _).trans (nm_cell o k hk4).1
              have n1 : ∀ n, (ext wr n).cell? ⟨t, k * 2 + 1, none⟩ = some (.int .i64 (o.nm k).2) := fun n => (blk_cell (HM.out.later (ext_below wr n)).nb _).trans (nm_cell o k hk4).2
              have hn : ((o.nm k).1 = 0 ∧ (o.nm k).2 = 0) ∨ o.d.has (o.nm k).1 (o.nm k).2 = true := (named_has hRT.out k hk4).imp (fun e => by rw [e]; exact ⟨rfl, rfl⟩) (fun h => h)
              generalize (o.nm k).1 = z0 at *
              generalize (o.nm k).2 = z1 at *
              have hgs := run_stGuardN
              by_cases hz : z0 = 0 ∧ z1 = 0
              · obtain ⟨rfl, rfl⟩ := hz
                have heq := fun w => st_eq (n := 0) (r := 0) (m := 0) (q := 0) rfl w
                clear hn
                go_upto_region 16 with fail
                refine region_ext (by kernel_rfl) (by kernel_rfl) ?_
                repeat (go_big_quiet_step (fail))
                refine wpQuiet_nil ?_
                rintro _ ⟨nq, rfl⟩
                go_wp2_with fail
                go_roundw
                case rel => exact ⟨k + 1, by omega, by go_num, HM.out.later (ext_below wr nq)⟩
                case measure => first | omega | (simp [intOf]; omega) | (simp [RowKit.intOf]; omega)
              · have hb : (z0 == 0 && z1 == 0) = false := by
                  rw [Bool.eq_false_iff]
                  intro e
                  simp only [Bool.and_eq_true, beq_iff_eq] at e
                  exact hz e
                have heq := fun w => st_eq hb w
                have HH := Lib.hid (fun w => bool_of (hn.resolve_left hz) (has_any o.d z0 z1 w))
                have e0 : ∀ n, (ext wr n).cell? ⟨s, 2 + 0, none⟩ = some (.int .i64 o.d.x0) := fun n => blk_cell (HM.out.later (ext_below wr n)).bx.ob (2 + 0)
                have e1 : ∀ n, (ext wr n).cell? ⟨s, 2 + 1, none⟩ = some (.int .i64 o.d.x1) := fun n => blk_cell (HM.out.later (ext_below wr n)).bx.ob (2 + 1)
                have e2 : ∀ n, (ext wr n).cell? ⟨s, 2 + 2, none⟩ = some (.int .i64 o.d.x2) := fun n => blk_cell (HM.out.later (ext_below wr n)).bx.ob (2 + 2)
                have e3 : ∀ n, (ext wr n).cell? ⟨s, 2 + 3, none⟩ = some (.int .i64 o.d.x3) := fun n => blk_cell (HM.out.later (ext_below wr n)).bx.ob (2 + 3)
                have e4 : ∀ n, (ext wr n).cell? ⟨s, 2 + 4, none⟩ = some (.int .i64 o.d.x4) := fun n => blk_cell (HM.out.later (ext_below wr n)).bx.ob (2 + 4)
                have e5 : ∀ n, (ext wr n).cell? ⟨s, 2 + 5, none⟩ = some (.int .i64 o.d.x5) := fun n => blk_cell (HM.out.later (ext_below wr n)).bx.ob (2 + 5)
                have e6 : ∀ n, (ext wr n).cell? ⟨s, 2 + 6, none⟩ = some (.int .i64 o.d.x6) := fun n => blk_cell (HM.out.later (ext_below wr n)).bx.ob (2 + 6)
                have e7 : ∀ n, (ext wr n).cell? ⟨s, 2 + 7, none⟩ = some (.int .i64 o.d.x7) := fun n => blk_cell (HM.out.later (ext_below wr n)).bx.ob (2 + 7)
                simp only [Nat.reduceAdd] at e0 e1 e2 e3 e4 e5 e6 e7
                clear hn hz hb
                go_upto_region 16 with fail
                refine region_ext (by kernel_rfl) (by kernel_rfl) ?_
                repeat (go_big_quiet_step (with_reducible exact calls_ext (HH.out _)))
                refine wpQuiet_nil ?_
                rintro _ ⟨nq, rfl⟩
                go_wp2_with fail
                go_roundw
                case rel => exact ⟨k + 1, by omega, by go_num, HM.out.later (ext_below wr nq)⟩
                case measure => first | omega | (simp [intOf]; omega) | (simp [RowKit.intOf]; omega)
            · have dk : decide ((k : Int) < 4) = false := decide_eq_false (by omega)
              clear HN HX
              go_wp2_with fail
              clear dk
              go_loopw [8] (fun j wj => ∃ k : Nat, k ≤ 8 ∧ j = .int .i64 k ∧ BN w2 o s t wj) (fun j _ => 8 - (RowKit.intOf j).toNat)
              case atStart => exact ⟨0, by omega, rfl, HM.out⟩
              case round =>
                obtain ⟨m, hm, rfl, hn2⟩ := hrel
                have HM := Lib.hid hn2
                clear hn2
                by_cases hm8 : m < 8
                · have b0 : (0 : Int) ≤ (m : Int) := by omega
                  have b1 : (m : Int) < 8 := by omega
                  have n0 : wr.cell? ⟨s, 2 + m, none⟩ = some (.int .i64 (o.d.nth m)) := (blk_cell HM.out.bx.ob _).trans (nth_cell o m hm8)
                  have HF := Lib.hid (fun n => find_any wr _ c2 S n (m : Int) (HAT.out.below HM.out.bx.b) (by omega))
                  have HLE := Lib.hid (fun z hz h => leans_earlier HSO.out HCS.out HO.out hm8 (z := z) hz h)
                  generalize o.d.nth m = dn at *
                  go_upto_region 21 with fail
                  go_wp2_with fail
                  with_reducible refine (HF.out _).mono ?_
                  rintro e y1 ⟨z, rfl, hz, hb1⟩
                  have HM1 := Lib.hid (HM.out.later hb1)
                  have n1 : y1.cell? ⟨s, 2 + m, none⟩ = some (.int .i64 dn) := (hb1.cell (World.block_lt_of_cell? _ _ n0)).trans n0
                  have hle := HLE.out z hz
                  clear hz hb1 n0 HLE
                  by_cases hd0 : dn = 0
                  · subst hd0
                    clear hle
                    go_wp2_with fail
                    go_roundw
                    case rel => exact ⟨m + 1, by omega, by go_num, HM1.out⟩
                    case measure => first | omega | (simp [intOf]; omega) | (simp [RowKit.intOf]; omega)
                  · have hd : (dn == 0) = false := by simpa using hd0
                    obtain ⟨k1, k2⟩ := hle hd0
                    have f1 : decide (z < 0) = false := decide_eq_false (by omega)
                    have f2 : decide ((q : Int) ≤ z) = false := decide_eq_false (by omega)
                    clear hle hd0 k1 k2
                    go_wp2_with fail
                    all_goals
                      go_roundw
                      case rel => exact ⟨m + 1, by omega, by go_num, HM1.out⟩
                      case measure => first | omega | (simp [intOf]; omega) | (simp [RowKit.intOf]; omega)
                · have dm : decide ((m : Int) < 8) = false := decide_eq_false (by omega)
                  go_wp2_with fail
                  go_roundw
                  case rel => exact ⟨q + 1, by omega, by go_num, HM.out.bx.b⟩
                  case measure => first | omega | (simp [intOf]; omega) | (simp [RowKit.intOf]; omega)
      · have e : q = S.length := by omega
        subst e
        go_wp2_with fail
        with_reducible refine (AL.out _).mono ?_
        rintro e y ⟨rfl, h3⟩
        have H3 := Lib.hid h3
        clear h3
        go_wp2_with fail
        go_ret
        exact ⟨rfl, H2.out.trans ((HB.out.trans (H3.out.mono HB.out.size)).mono H2.out.size)⟩
end Go.Proofs.YtgmhjgknfeihiaaDoor
