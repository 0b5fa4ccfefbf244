/- A ROPE IN MEMORY: At, Nth, All. -/
import Derived.Test.YtohpablkgfkelaaFRopeAhead
namespace Go.Proofs.Ytohpablkgfkelaa
open Go.RowKit Go.Joins
set_option linter.unusedSimpArgs false
set_option linter.unusedVariables false

def atV (L : List St) (i : Int) : St := if 0 ≤ i ∧ i < L.length then L.getD i.toNat (0, 0) else (0, 0)
def atE (L : List St) (i : Int) : Int := if 0 ≤ i ∧ i < L.length then 0 else 112
theorem getD_flat {G : List RunG} {i o : Nat} (hi : i < G.length) (ho : o < G[i].ks.length) : (flat G).getD (offs G i + o) (0, 0) = G[i].ks[o] := by
  rw [List.getD_eq_getElem?_getD, flat_at G i hi, List.getElem?_append_right (by rw [flat_take_length]; omega), flat_take_length, Nat.add_sub_cancel_left, List.getElem?_append_left ho, List.getElem?_eq_getElem ho]
  rfl
set_option maxHeartbeats 1000000 in
theorem at_out (w : World) (r : Nat) (L : List St) (hid : St → Bool) (F : Nat → Prop) (h : Rope w r L hid F) (i : Int) (hi : ¬ (0 ≤ i ∧ i < L.length)) :
    Calls Try.prog 48 #[ptr r, .int .i64 i] w fun e w' => e = .returned (.tuple #[encS (0, 0), .int .i64 112]) ∧ Below w.heap.size w w' := by
  have HB := Lib.hid (show Below w.heap.size w (w.alloc (.cells #[.int .i64 0, .int .i64 0] 30)) from (Below.refl _ _).alloc (Nat.le_refl _) _)
  have H := Lib.hid (len_any _ r L hid F (h.later HB.out))
  have hL := h.1
  clear h
  by_cases h0 : i < 0
  · clear hi
    go_enter Try.func48, Try.ntmps48
    go_wp2_with (go_at_call 52; with_reducible refine H.out.mono ?_; rintro e w' ⟨rfl, rfl⟩)
    refine bodyPost_ret (v := .tuple #[encS (0, 0), .int .i64 112]) (by simp [results, Try.results48, go_sem]) rfl ⟨rfl, ?_⟩
    (repeat' (first | with_reducible exact Below.refl _ _ | with_reducible assumption | with_reducible refine below_ext ?_ ?_ | with_reducible refine Below.alloc ?_ ?_ _ | with_reducible refine Below.drew ?_ | with_reducible refine below_drewN ?_ _ | with_reducible refine Below.setCell ?_ ?_ _ | go_size))
  · have h1 : (L.length : Int) ≤ i := by omega
    have d0 : decide (i < 0) = false := decide_eq_false h0
    clear hi h0
    go_enter Try.func48, Try.ntmps48
    go_wp2_with (go_at_call 52; with_reducible refine H.out.mono ?_; rintro e w' ⟨rfl, rfl⟩)
    refine bodyPost_ret (v := .tuple #[encS (0, 0), .int .i64 112]) (by simp [results, Try.results48, go_sem]) rfl ⟨rfl, ?_⟩
    (repeat' (first | with_reducible exact Below.refl _ _ | with_reducible assumption | with_reducible refine below_ext ?_ ?_ | with_reducible refine Below.alloc ?_ ?_ _ | with_reducible refine Below.drew ?_ | with_reducible refine below_drewN ?_ _ | with_reducible refine Below.setCell ?_ ?_ _ | go_size))
set_option maxHeartbeats 1000000 in
theorem at_in (w : World) (r : Nat) (L : List St) (hid : St → Bool) (F : Nat → Prop) (h : Rope w r L hid F) (a : Nat) (ha : a < L.length) :
    Calls Try.prog 48 #[ptr r, .int .i64 a] w fun e w' => e = .returned (.tuple #[encS (L.getD a (0, 0)), .int .i64 0]) ∧ Below w.heap.size w w' := by
  have HB := Lib.hid (show Below w.heap.size w (w.alloc (.cells #[.int .i64 0, .int .i64 0] 30)) from (Below.refl _ _).alloc (Nat.le_refl _) _)
  have H := Lib.hid (len_any _ r L hid F (h.later HB.out))
  obtain ⟨hL, wb, hb, rs, G, hR0, rfl, hF⟩ := h
  have hR := hR0.later HB.out
  clear hR0
  have hG : 0 < G.length := by
    rcases Nat.eq_zero_or_pos G.length with h0 | h0
    · rw [List.eq_nil_of_length_eq_zero h0] at ha; simp [flat] at ha
    · exact h0
  have HFD := Lib.hid (find_any _ r wb hb rs G hid hR hG hL a (by omega))
  obtain ⟨B, cap, rfl, hcell⟩ := runs_form hR hG
  have e0 := blk_cell hR.top 0
  have f0 := blk_free hR.top 0
  have hlen := len_le_flat (w := w) (r := r) (wb := wb) (hb := hb) (rs := Value.nilFunc) (hid := hid) hR.ne
  have HR := Lib.hid hR
  have HC := Lib.hid hcell
  have d0 : decide ((a : Int) < 0) = false := decide_eq_false (by omega)
  have d1 : decide (((flat G).length : Int) ≤ (a : Int)) = false := decide_eq_false (by omega)
  clear hR hcell
  go_enter Try.func48, Try.ntmps48
  go_wp2_with (go_at_call 52; with_reducible refine H.out.mono ?_; rintro e w' ⟨rfl, rfl⟩)
  with_reducible refine HFD.out.mono ?_
  rintro e w' ⟨⟨i, o, hi, rfl, ho, hcase⟩, rfl⟩
  have hol : o < G[i].ks.length := by
    rcases hcase with h | ⟨h, h2⟩
    · exact h
    · have h3 := offs_succ G i hi
      have h4 := flat_length G
      rw [h] at h3
      omega
  have hfin := Lib.hid (getD_flat hi hol)
  have HO := Lib.hid ho
  have hc := HC.out i hi
  obtain ⟨A, cp, hsl, -, -, hit⟩ := items_form HR.out G[i] (List.getElem_mem hi)
  have hrun := (HR.out.run G[i] (List.getElem_mem hi)).1
  rw [hsl] at hrun
  have e1 := blk_cell hrun 0
  have f1 := blk_free hrun 0
  obtain ⟨x, hx⟩ : ∃ x, G[i].ks[o]? = some x := ⟨_, List.getElem?_eq_getElem hol⟩
  obtain ⟨e2, e3⟩ := hit o x hx
  have hxe : G[i].ks[o] = x := by rw [List.getElem?_eq_getElem hol] at hx; exact Option.some.inj hx
  rw [hxe] at hfin
  clear hsl hrun hit hcase ho hxe hx
  go_wp2
  refine bodyPost_ret (v := .tuple #[encS x, .int .i64 0]) (by simp [results, Try.results48, go_sem]) rfl ⟨by rw [← HO.out, hfin.out], ?_⟩
  (repeat' (first | with_reducible exact Below.refl _ _ | with_reducible assumption | with_reducible refine below_ext ?_ ?_ | with_reducible refine Below.alloc ?_ ?_ _ | with_reducible refine Below.drew ?_ | with_reducible refine below_drewN ?_ _ | with_reducible refine Below.setCell ?_ ?_ _ | go_size))
theorem at_any (w : World) (r : Nat) (L : List St) (hid : St → Bool) (F : Nat → Prop) (h : Rope w r L hid F) (i : Int) :
    Calls Try.prog 48 #[ptr r, .int .i64 i] w fun e w' => e = .returned (.tuple #[encS (atV L i), .int .i64 (atE L i)]) ∧ Below w.heap.size w w' := by
  unfold atV atE
  by_cases hi : 0 ≤ i ∧ i < L.length
  · rw [if_pos hi, if_pos hi]
    obtain ⟨a, rfl⟩ := Int.eq_ofNat_of_zero_le hi.1
    rw [Int.toNat_natCast]
    exact at_in w r L hid F h a (by omega)
  · rw [if_neg hi, if_neg hi]
    exact at_out w r L hid F h i hi
def shownL (hid : St → Bool) (L : List St) : List St := L.filter fun k => !hid k
theorem cnt_shown (hid : St → Bool) (L : List St) : cnt hid L = (shownL hid L).length := rfl
def nthV (L : List St) (hid : St → Bool) (n : Int) : St := if 0 ≤ n ∧ n < cnt hid L then (shownL hid L).getD n.toNat (0, 0) else (0, 0)
def nthE (L : List St) (hid : St → Bool) (n : Int) : Int := if 0 ≤ n ∧ n < cnt hid L then 0 else 112
set_option maxHeartbeats 1000000 in
theorem nth_out (w : World) (r : Nat) (L : List St) (hid : St → Bool) (F : Nat → Prop) (h : Rope w r L hid F) (n : Int) (hn : ¬ (0 ≤ n ∧ n < cnt hid L)) :
    Calls Try.prog 43 #[ptr r, .int .i64 n] w fun e w' => e = .returned (.tuple #[encS (0, 0), .int .i64 112]) ∧ Below w.heap.size w w' := by
  obtain ⟨hL, wb, hb, rs, G, hR, rfl, hF⟩ := h
  have hR2 := hR.later (show Below w.heap.size w (w.alloc (.cells #[.int .i64 0, .int .i64 0] 30)) from (Below.refl _ _).alloc (Nat.le_refl _) _)
  have e3 := blk_cell hR2.top 3
  clear hR2
  clear hR hL
  by_cases h0 : n < 0
  · clear hn
    go_enter Try.func43, Try.ntmps43
    go_wp2
    refine bodyPost_ret (v := .tuple #[encS (0, 0), .int .i64 112]) (by simp [results, Try.results43, go_sem]) rfl ⟨rfl, ?_⟩
    (repeat' (first | with_reducible exact Below.refl _ _ | with_reducible assumption | with_reducible refine below_ext ?_ ?_ | with_reducible refine Below.alloc ?_ ?_ _ | with_reducible refine Below.drew ?_ | with_reducible refine below_drewN ?_ _ | with_reducible refine Below.setCell ?_ ?_ _ | go_size))
  · have h1 : (cnt hid (flat G) : Int) ≤ n := by omega
    have d0 : decide (n < 0) = false := decide_eq_false h0
    clear hn h0
    go_enter Try.func43, Try.ntmps43
    go_wp2
    refine bodyPost_ret (v := .tuple #[encS (0, 0), .int .i64 112]) (by simp [results, Try.results43, go_sem]) rfl ⟨rfl, ?_⟩
    (repeat' (first | with_reducible exact Below.refl _ _ | with_reducible assumption | with_reducible refine below_ext ?_ ?_ | with_reducible refine Below.alloc ?_ ?_ _ | with_reducible refine Below.drew ?_ | with_reducible refine below_drewN ?_ _ | with_reducible refine Below.setCell ?_ ?_ _ | go_size))
theorem cnt_take_run {G : List RunG} (hid : St → Bool) (k : Nat) (hk : k < G.length) : cnt hid (flat (G.take (k + 1))) = cnt hid (flat (G.take k)) + cnt hid G[k].ks := by
  rw [List.take_succ_eq_append_getElem hk, flat_append, cnt_append]
  simp [flat]
theorem cnt_take_le {G : List RunG} (hid : St → Bool) (k : Nat) : cnt hid (flat (G.take k)) ≤ cnt hid (flat G) := by
  have e : flat G = flat (G.take k) ++ flat (G.drop k) := by rw [← flat_append, List.take_append_drop]
  rw [e, cnt_append]; omega
/-- the shown one at a place -/
theorem nth_at {G : List RunG} {hid : St → Bool} {k q : Nat} (hk : k < G.length) (hq : q < G[k].ks.length) (hy : hid G[k].ks[q] = false) :
    (shownL hid (flat G)).getD (cnt hid (flat (G.take k)) + cnt hid (G[k].ks.take q)) (0, 0) = G[k].ks[q] := by
  have e : flat G = (flat (G.take k) ++ G[k].ks.take q) ++ (G[k].ks[q] :: (G[k].ks.drop (q + 1) ++ flat (G.drop (k + 1)))) := by
    have e1 : G[k].ks = G[k].ks.take q ++ G[k].ks[q] :: G[k].ks.drop (q + 1) := by rw [← List.drop_eq_getElem_cons hq, List.take_append_drop]
    have e2 : flat G = flat (G.take k) ++ ((G[k].ks.take q ++ G[k].ks[q] :: G[k].ks.drop (q + 1)) ++ flat (G.drop (k + 1))) := by rw [← e1]; exact flat_at G k hk
    rw [e2]
    simp only [List.append_assoc, List.cons_append]
  rw [e, ← cnt_append]
  unfold shownL cnt
  rw [List.filter_append, List.getD_eq_getElem?_getD, List.getElem?_append_right (Nat.le_refl _), Nat.sub_self, List.filter_cons, if_pos (by rw [hy]; rfl)]
  rfl
set_option maxHeartbeats 4000000 in
set_option maxRecDepth 20000 in
theorem nth_in (w : World) (r : Nat) (L : List St) (hid : St → Bool) (F : Nat → Prop) (h : Rope w r L hid F) (n : Nat) (hn : n < cnt hid L) :
    Calls Try.prog 43 #[ptr r, .int .i64 n] w fun e w' => e = .returned (.tuple #[encS ((shownL hid L).getD n (0, 0)), .int .i64 0]) ∧ Below w.heap.size w w' := by
  obtain ⟨hL, wb, hb, rs, G, hR0, rfl, hF⟩ := h
  have hcl := cnt_le hid (flat G)
  have hG : 0 < G.length := by
    rcases Nat.eq_zero_or_pos G.length with h0 | h0
    · rw [List.eq_nil_of_length_eq_zero h0] at hn; simp [flat, cnt] at hn
    · exact h0
  have hlen := len_le_flat (w := w) (r := r) (wb := wb) (hb := hb) (rs := Value.nilFunc) (hid := hid) hR0.ne
  have HR0 := Lib.hid hR0
  have d0 : decide ((n : Int) < 0) = false := decide_eq_false (by omega)
  have d1 : decide ((cnt hid (flat G) : Int) ≤ (n : Int)) = false := decide_eq_false (by omega)
  clear hR0
  go_enter Try.func43, Try.ntmps43
  go_upto_region 1 with fail
  refine wp_let (KB w (0, 0) w.heap.size) (KB.new w (0, 0)) (fun x hx => ?_)
  have HX := Lib.hid hx
  have hR := HR0.out.later hx.b
  obtain ⟨B, cap, rfl, hcell⟩ := runs_form hR hG
  have e0 := blk_cell hR.top 0
  have e2 := blk_cell hR.top 2
  have e3 := blk_cell hR.top 3
  have HR := Lib.hid hR
  have HC := Lib.hid hcell
  clear hR hcell hx
  go_wp2
  go_loop [1, 31] (fun x i => ∃ k m : Nat, k ≤ G.length ∧ i = .int .i64 k ∧ x = .int .i64 m ∧ cnt hid (flat (G.take k)) + m = n) (fun _ i => G.length - (intOf i).toNat)
  case atStart => exact ⟨0, n, Nat.zero_le _, rfl, rfl, by simp [flat, cnt]⟩
  case round =>
    obtain ⟨k, m, hk, rfl, rfl, hm⟩ := hrel
    have hlt : k < G.length := by
      rcases Nat.lt_or_eq_of_le hk with h | h
      · exact h
      · rw [h, List.take_length] at hm; omega
    have hg := List.getElem_mem hlt
    have hc := HC.out k hlt
    obtain ⟨A, cp, hsl, -, -, hit⟩ := items_form HR.out G[k] hg
    have hrun := (HR.out.run G[k] hg).1
    rw [hsl] at hrun
    have em0 := blk_cell hrun 0
    have em1 := blk_cell hrun 1
    have hcc := Lib.hid (cnt_take_run hid k hlt)
    have hct := cnt_take_le (G := G) hid (k + 1)
    have HM := Lib.hid hm
    have HI := Lib.hid hit
    have hmn : m ≤ cnt hid (flat G) := by omega
    have hck : cnt hid G[k].ks ≤ G[k].ks.length := cnt_le _ _
    have hgl : G[k].ks.length ≤ (flat G).length := by
      have h1 := offs_succ G k hlt
      have h2 := offs_le G (k + 1)
      omega
    have hmem : ∀ x ∈ G[k].ks, x ∈ flat G := fun x hx => List.mem_flatMap.2 ⟨G[k], hg, hx⟩
    have HE := Lib.hid hmem
    clear hsl hrun hm hit hmem
    by_cases h1 : cnt hid G[k].ks ≤ m
    · have d2 : decide ((cnt hid G[k].ks : Int) ≤ (m : Int)) = true := decide_eq_true (by omega)
      go_wp2
      go_round
      case rel => exact ⟨k + 1, m - cnt hid G[k].ks, by omega, by go_num, congrArg (Value.int .i64) (by omega), by have h4 := hcc.out; have h5 := HM.out; omega⟩
      case measure => first | omega | (simp [intOf]; omega) | (simp [RowKit.intOf]; omega) | simp [intOf]
    · have d2 : decide ((cnt hid G[k].ks : Int) ≤ (m : Int)) = false := decide_eq_false (by omega)
      go_wp2
      clear hc e0 em0 em1 e3
      go_loopw [1, 52] (fun v i wr => ∃ q t : Nat, q ≤ G[k].ks.length ∧ i = .int .i64 q ∧ v = .int .i64 t ∧ cnt hid (G[k].ks.take q) + t = m ∧ Below x.heap.size x wr) (fun _ i _ => G[k].ks.length - (intOf i).toNat)
      case atStart => exact ⟨0, m, Nat.zero_le _, rfl, rfl, by simp [cnt], Below.refl _ _⟩
      case round =>
        obtain ⟨q, t, hq, rfl, rfl, ht, hbq⟩ := hrel
        have hqlt : q < G[k].ks.length := by
          rcases Nat.lt_or_eq_of_le hq with h | h
          · exact h
          · rw [h, List.take_length] at ht; omega
        obtain ⟨y, hy⟩ : ∃ y, G[k].ks[q]? = some y := ⟨_, List.getElem?_eq_getElem hqlt⟩
        obtain ⟨i0, i1⟩ := HI.out q y hy
        have c0 : wr.cell? ⟨A, q * 2, none⟩ = some (.int .i64 y.1) := (hbq.cell (World.block_lt_of_cell? _ _ i0)).trans i0
        have c1 : wr.cell? ⟨A, q * 2 + 1, none⟩ = some (.int .i64 y.2) := (hbq.cell (World.block_lt_of_cell? _ _ i1)).trans i1
        have hyg : G[k].ks[q] = y := by rw [List.getElem?_eq_getElem hqlt] at hy; exact Option.some.inj hy
        have HYM := Lib.hid (HE.out y (List.mem_of_getElem? hy))
        have hcs := Lib.hid (show cnt hid (G[k].ks.take (q + 1)) = cnt hid (G[k].ks.take q) + (if hid y then 0 else 1) by
          rw [List.take_succ_eq_append_getElem hqlt, cnt_append, cnt_one, hyg])
        have htm : t ≤ m := by omega
        have HT := Lib.hid ht
        have HBQ := Lib.hid hbq
        have HY := Lib.hid hyg
        have b0 : (0 : Int) ≤ (q : Int) := by omega
        have b1 : (q : Int) < (G[k].ks.length : Int) := by omega
        clear ht i0 i1 hbq hyg hy
        go_upto_region 13 with fail
        refine wp_let (fun z => Below x.heap.size x z ∧ z.heap[wr.heap.size]? = some (.cells #[.int .i64 y.1, .int .i64 y.2] 30 (0, 0))) ⟨HBQ.out.alloc HBQ.out.size _, blk_new _ _⟩ (fun z hz => ?_)
        have HZ := Lib.hid hz
        have HRZ := Lib.hid (HR.out.later hz.1.drew)
        have n0 := blk_cell (blk_drew hz.2) 0
        have n1 := blk_cell (blk_drew hz.2) 1
        have hsh := hides_in HRZ.out y HYM.out
        have r2 := blk_cell HRZ.out.top 2
        clear hz c0 c1
        cases hyh : hid y with
        | true =>
          rw [hyh] at hsh
          have HYH := Lib.hid hyh
          clear hyh
          go_region
          go_wp2
          go_roundw
          case rel => exact ⟨q + 1, t, by omega, by go_num, rfl, by have h4 := hcs.out; have h5 := HT.out; rw [HYH.out] at h4; simp at h4; omega, HZ.out.1.drew⟩
          case measure => first | omega | (simp [intOf]; done) | (simp [intOf]; omega) | (simp [RowKit.intOf]; omega)
        | false =>
          rw [hyh] at hsh
          have hfin := Lib.hid (nth_at (hid := hid) hlt hqlt (by rw [HY.out]; exact hyh))
          have HYH := Lib.hid hyh
          clear hyh
          have HXZ := Lib.hid (HX.out.later HZ.out.1.drew)
          have g0 := HXZ.out.c0
          have g1 := HXZ.out.c1
          have g0f := blk_free HXZ.out.bx 0
          have g1f := blk_free HXZ.out.bx 1
          by_cases ht0 : t = 0
          · subst ht0
            go_region
            clear hsh r2
            have HZD := Lib.hid HZ.out.1.drew
            generalize z.drew = zd at *
            have hnn : cnt hid (flat (G.take k)) + cnt hid (G[k].ks.take q) = n := by have h4 := HM.out; have h5 := HT.out; omega
            have hfin2 := hfin.out
            rw [hnn, HY.out] at hfin2
            have HF2 := Lib.hid hfin2
            clear hfin2 hnn
            go_wp2
            have q := blk_set (i := 1) (blk_set (i := 0) HXZ.out.bx (.int .i64 y.1)) (.int .i64 y.2)
            have q0 := blk_cell q 0
            have q1 := blk_cell q 1
            clear q
            refine bodyPost_ret (v := .tuple #[encS y, .int .i64 0]) (by simp [results, Try.results43, go_sem, q0, q1]) rfl ⟨congrArg (fun k : St => Ending.returned (.tuple #[encS k, .int .i64 0])) HF2.out.symm, ?_⟩
            exact (HXZ.out.b.setCell (Nat.le_refl _) _).setCell (Nat.le_refl _) _
          · have b0 : ((t : Int) == 0) = false := beq_eq_false_iff_ne.2 (by omega)
            go_region
            go_wp2
            go_roundw
            case rel => exact ⟨q + 1, t - 1, by omega, by go_num, congrArg (Value.int .i64) (by omega), by have h4 := hcs.out; have h5 := HT.out; rw [HYH.out] at h4; simp at h4; omega, HZ.out.1.drew⟩
            case measure => first | omega | (simp [intOf]; omega) | (simp [RowKit.intOf]; omega) | simp [intOf]
theorem nth_any (w : World) (r : Nat) (L : List St) (hid : St → Bool) (F : Nat → Prop) (h : Rope w r L hid F) (n : Int) :
    Calls Try.prog 43 #[ptr r, .int .i64 n] w fun e w' => e = .returned (.tuple #[encS (nthV L hid n), .int .i64 (nthE L hid n)]) ∧ Below w.heap.size w w' := by
  unfold nthV nthE
  by_cases hi : 0 ≤ n ∧ n < cnt hid L
  · rw [if_pos hi, if_pos hi]
    obtain ⟨a, rfl⟩ := Int.eq_ofNat_of_zero_le hi.1
    rw [Int.toNat_natCast]
    exact nth_in w r L hid F h a (by omega)
  · rw [if_neg hi, if_neg hi]
    exact nth_out w r L hid F h n hi
end Go.Proofs.Ytohpablkgfkelaa
