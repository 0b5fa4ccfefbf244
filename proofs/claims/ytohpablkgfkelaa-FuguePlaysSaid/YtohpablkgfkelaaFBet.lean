/- A TEXT IN MEMORY: New; Between; no text at all. -/
import Derived.Test.YtohpablkgfkelaaFDel
namespace Go.Proofs.Ytohpablkgfkelaa
open Go.RowKit Go.Joins
set_option linter.unusedSimpArgs false
set_option linter.unusedVariables false

def NewT (w : World) (e : Ending) (w' : World) : Prop := ∃ t, e = .returned (ptr t) ∧ Text w' t Tx.new (fun x => w.heap.size ≤ x ∧ x < w'.heap.size) ∧ Below w.heap.size w w'
abbrev mpO : Obj := .map #[] 0
set_option maxHeartbeats 1000000 in
set_option maxRecDepth 20000 in
theorem new_text (w : World) : Calls Try.prog 11 #[] w (NewT w) := by
  have hmm := @run_makeMap Try.prog
  have H := Lib.hid (new_any (((w.alloc mpO).alloc mpO).alloc mpO))
  go_enter Try.func11, Try.ntmps11
  go_wp2_with (go_at_call 31; (with_reducible refine H.out.mono ?_); rintro e x ⟨r, rfl, hr, hb⟩; have HB := Lib.hid (And.intro hr hb); clear hr hb)
  go_ret
  obtain ⟨hr, hb⟩ := HB.out
  have hsz := hb.size
  simp only [World.size_alloc] at hsz
  have b3 : Below w.heap.size w (((w.alloc mpO).alloc mpO).alloc mpO) := (((Below.refl _ _).alloc (Nat.le_refl _) _).alloc (by simp) _).alloc (by simp; omega) _
  have bx : Below w.heap.size w x := b3.trans (hb.mono (by simp; omega))
  have bf : Below w.heap.size w (x.alloc (.cells #[.map (some w.heap.size), .map (some (w.heap.size + 1)), .map (some (w.heap.size + 1 + 1)), ptr r] 74)) := bx.alloc bx.size _
  have m1 := MapIs.made (K := St × Int) w encP
  have m2 := MapIs.made (K := St) (w.alloc mpO) encS
  have m3 := MapIs.made (K := St) ((w.alloc mpO).alloc mpO) encS
  simp only [World.size_alloc] at m2 m3
  refine ⟨x.heap.size, rfl, ⟨w.heap.size, w.heap.size + 1, w.heap.size + 1 + 1, r, fun _ _ => .slice none 0 0, fun z => w.heap.size + 3 ≤ z ∧ z < x.heap.size, ?_, ?_, ?_, ?_, ?_, fun z hz => ?_, fun p s z hz => by simp [Value.ownBlock] at hz⟩, bf⟩
  · refine ⟨Tx.new_ok, blk_new _ _, ⟨0, ?_⟩, ⟨0, ?_⟩, ⟨0, ?_⟩, fun p s => World.ownsRow_nil _ _ _ _, fun _ _ _ => rfl, ?_, ?_, fun z hz => by simp; omega, ?_, fun p s z hz => by simp [Value.ownBlock] at hz, fun p s q u z hz => by simp [Value.ownBlock] at hz⟩
    · refine (((m1.at (Below.heap_alloc _ _ _ (by simp))).at (Below.heap_alloc _ _ _ (by simp; omega))).at ((Below.heap_alloc _ _ _ (by omega)).trans (hb.block _ (by simp; omega)))).eqv (fun k => by simp [kidF, Tx.new])
    · refine ((m2.at (Below.heap_alloc _ _ _ (by simp))).at ((Below.heap_alloc _ _ _ (by omega)).trans (hb.block _ (by simp)))).eqv (fun k => by simp [chF, Tx.new])
    · refine (m3.at ((Below.heap_alloc _ _ _ (by omega)).trans (hb.block _ (by simp)))).eqv (fun k => by simp [goneF, Tx.new])
    · refine ((hr Tx.new.gone).later ((Below.refl _ _).alloc (Nat.le_refl _) _)).mono (fun z hz => ?_)
      simp at hz
      omega
    · refine ⟨?_, ?_, ?_, ?_, ?_, ?_⟩ <;> omega
    · refine ⟨?_, ?_, ?_, ?_⟩ <;> omega
  all_goals (simp; omega)
/-- the element ahead of an index, and how many stand up to it -/
def betA (S : Tx) (n : Int) : St := if 0 < n then nthV S.L S.gone (n - 1) else (0, 0)
def betN (S : Tx) (n : Int) : Int := if 0 < n then placeV S.L (betA S n) + 1 else 0
def betOut (S : Tx) (n : Int) : Prop := n < 0 ∨ (cnt S.gone S.L : Int) < n
instance (S : Tx) (n : Int) : Decidable (betOut S n) := by unfold betOut; infer_instance
def betP (S : Tx) (n : Int) : St := if betOut S n then (0, 0) else if S.K (betA S n) 2 = [] then betA S n else atV S.L (betN S n)
def betS (S : Tx) (n : Int) : Int := if betOut S n then 0 else if S.K (betA S n) 2 = [] then 2 else 1
def betE (S : Tx) (n : Int) : Int := if betOut S n then 123 else 0
/-- Between's boxes -/
structure BB (w : World) (a : St) (y : World) : Prop where
  b : Below w.heap.size w y
  rb : y.heap[w.heap.size]? = some (.cells #[.int .i64 0, .int .i64 0] 30 (0, 0))
  ab : y.heap[w.heap.size + 1]? = some (.cells #[.int .i64 a.1, .int .i64 a.2] 30 (0, 0))
theorem BB.new (w : World) : BB w (0, 0) ((w.alloc (stO (0, 0))).alloc (stO (0, 0))) :=
  ⟨((Below.refl _ _).alloc (Nat.le_refl _) _).alloc (by simp) _, blk_alloc (blk_new _ _), blk_at _ _ _ (by simp)⟩
theorem BB.later {w y z : World} {a : St} (h : BB w a y) (b : Below y.heap.size y z) : BB w a z :=
  ⟨h.b.trans (b.mono h.b.size), (b.block _ (heap_lt h.rb)).trans h.rb, (b.block _ (heap_lt h.ab)).trans h.ab⟩
theorem BB.turn {w y z : World} {a a2 : St} (h : BB w a y) (c : Ch (fun u => u = w.heap.size + 1) y z) (hz : z.heap[w.heap.size + 1]? = some (.cells #[.int .i64 a2.1, .int .i64 a2.2] 30 (0, 0))) : BB w a2 z :=
  ⟨((Ch.of_below (F := fun u => u = w.heap.size + 1) h.b).trans c (fun _ _ h => h)).below (Nat.le_refl _) (fun x hx e => by omega), c.at h.rb (fun e => by omega), hz⟩
theorem BB.end {w y z : World} {a : St} (h : BB w a y) (c : Ch (fun u => u = w.heap.size) y z) : Below w.heap.size w z :=
  ((Ch.of_below (F := fun u => u = w.heap.size) h.b).trans c (fun _ _ h => h)).below (Nat.le_refl _) (fun x hx e => by omega)
def BetT (S : Tx) (n : Int) (w : World) (e : Ending) (w' : World) : Prop := e = .returned (.tuple #[encS (betP S n), .int .i64 (betS S n), .int .i64 (betE S n)]) ∧ Below w.heap.size w w'
set_option maxHeartbeats 2000000 in
set_option maxRecDepth 20000 in
theorem between_out (w : World) (t : Nat) (S : Tx) (F : Nat → Prop) (h : Text w t S F) (n : Int) (ho : betOut S n) : Calls Try.prog 27 #[ptr t, .int .i64 n] w fun e w' => e = .returned (.tuple #[encS (0, 0), .int .i64 0, .int .i64 123]) ∧ Below w.heap.size w w' := by
  have HB := Lib.hid (show Below w.heap.size w (w.alloc (stO (0, 0))) from (Below.refl _ _).alloc (Nat.le_refl _) _)
  have HL := Lib.hid (len_text _ t S F (h.later HB.out))
  have htp : ∃ cs T, w.heap[t]? = some (.cells cs T (0, 0)) := by obtain ⟨kb, cb, gb, r, sl, F0, hT, -⟩ := h; exact ⟨_, _, hT.top⟩
  have HTP := Lib.hid htp
  clear h htp
  by_cases h0 : n < 0
  · clear ho
    go_enter Try.func27, Try.ntmps27
    go_wp2
    refine bodyPost_ret (v := .tuple #[encS (0, 0), .int .i64 0, .int .i64 123]) (by simp [results, Try.results27, go_sem]) rfl ⟨rfl, ?_⟩
    (repeat' (first | with_reducible exact Below.refl _ _ | with_reducible assumption | with_reducible refine below_ext ?_ ?_ | with_reducible refine Below.alloc ?_ ?_ _ | with_reducible refine Below.drew ?_ | with_reducible refine below_drewN ?_ _ | with_reducible refine Below.setCell ?_ ?_ _ | go_size))
  · have h1 : (cnt S.gone S.L : Int) < n := ho.resolve_left h0
    have d0 : decide (n < 0) = false := decide_eq_false h0
    have d1 : decide ((cnt S.gone S.L : Int) < n) = true := decide_eq_true h1
    clear ho h0 h1
    go_enter Try.func27, Try.ntmps27
    go_wp2_with (go_at_call 17; with_reducible refine HL.out.mono ?_; rintro e w' ⟨rfl, rfl⟩)
    refine bodyPost_ret (v := .tuple #[encS (0, 0), .int .i64 0, .int .i64 123]) (by simp [results, Try.results27, go_sem]) rfl ⟨rfl, ?_⟩
    (repeat' (first | with_reducible exact Below.refl _ _ | with_reducible assumption | with_reducible refine below_ext ?_ ?_ | with_reducible refine Below.alloc ?_ ?_ _ | with_reducible refine Below.drew ?_ | with_reducible refine below_drewN ?_ _ | with_reducible refine Below.setCell ?_ ?_ _ | go_size))
set_option maxHeartbeats 2000000 in
set_option maxRecDepth 20000 in
theorem between_in (w : World) (t : Nat) (S : Tx) (F : Nat → Prop) (h : Text w t S F) (n : Int) (ho : ¬ betOut S n) : Calls Try.prog 27 #[ptr t, .int .i64 n] w fun e w' => e = .returned (.tuple #[encS (if S.K (betA S n) 2 = [] then betA S n else atV S.L (betN S n)), .int .i64 (if S.K (betA S n) 2 = [] then 2 else 1), .int .i64 0]) ∧ Below w.heap.size w w' := by
  have hbd := h.bound
  have H0 := Lib.hid h
  obtain ⟨kb, cb, gb, r, sl, F0, hT, -⟩ := h
  have HT := Lib.hid hT
  have HB := Lib.hid (show Below w.heap.size w (w.alloc (stO (0, 0))) from (Below.refl _ _).alloc (Nat.le_refl _) _)
  have HL := Lib.hid (len_text _ t S F (H0.out.later HB.out))
  have htp := hT.top
  have HTP := Lib.hid htp
  clear htp hT
  obtain ⟨h0, h1⟩ := not_or.1 ho
  have d0 : decide (n < 0) = false := decide_eq_false h0
  have d1 : decide ((cnt S.gone S.L : Int) < n) = false := decide_eq_false h1
  have hN : 0 ≤ betN S n ∧ betN S n ≤ S.L.length := by
    unfold betN
    split
    · unfold placeV
      split
      · rename_i h2 h3
        have := List.idxOf_lt_length_of_mem h3
        omega
      · rename_i h2 h3
        have h4 : betA S n ∈ S.L := by
          unfold betA
          rw [if_pos h2]
          exact nthV_mem ⟨by omega, by omega⟩
        exact absurd h4 h3
    · omega
  have HA := Lib.hid (show betA S n = if 0 < n then nthV S.L S.gone (n - 1) else (0, 0) from rfl)
  have HN := Lib.hid (show betN S n = if 0 < n then placeV S.L (betA S n) + 1 else 0 from rfl)
  have HNL := Lib.hid hN
  generalize betA S n = a at *
  generalize betN S n = m at *
  clear ho hN
  generalize hPP : (if S.K a 2 = [] then a else atV S.L m) = PP
  generalize hSS : (if S.K a 2 = [] then (2 : Int) else 1) = SS
  have HPP := Lib.hid hPP
  have HSS := Lib.hid hSS
  clear hPP hSS
  go_enter Try.func27, Try.ntmps27
  go_upto_if 27 with (go_at_call 17; with_reducible refine HL.out.mono ?_; rintro e w' ⟨rfl, rfl⟩)
  refine wp_let (BB w (0, 0)) (BB.new w) (fun x hx => ?_)
  have HX := Lib.hid hx
  clear hx
  go_cut [8] (fun v z => v = .int .i64 m ∧ BB w a z)
  case first =>
    by_cases hn : 0 < n
    · have dn : decide (0 < n) = true := decide_eq_true hn
      have hr1 := HA.out
      have hm1 := HN.out
      rw [if_pos hn] at hr1 hm1
      have HNT := Lib.hid (nth_any x r S.L S.gone F0 (HT.out.later HX.out.b).rope (n - 1))
      rw [← hr1] at HNT
      have HM1 := Lib.hid hm1
      have e3 := blk_cell (HT.out.later HX.out.b).top 3
      have hcl := cnt_le S.gone S.L
      clear hr1 hm1
      go_upto_region 8 with (first | (go_at_call 43; (with_reducible refine HNT.out.mono ?_); rintro e y ⟨rfl, hb⟩; have HY := Lib.hid (HX.out.later hb); clear hb) | (refine wpList_store_row rfl (.tmp 7) (.tmp 36) 30 rfl (w.heap.size + 1) #[.int .i64 0, .int .i64 0] #[.int .i64 a.1, .int .i64 a.2] rfl rfl HY.out.ab (by kernel_rfl) rfl (by kernel_rfl) ?_; intro z hc hz; have HZ := Lib.hid (HY.out.turn (a2 := a) hc hz); clear hc hz))
      clear e3
      have hzd := HZ.out.later (Below.refl _ _).drew
      have e3 := blk_cell (HT.out.later hzd.b).top 3
      have a0 := blk_cell hzd.ab 0
      have a1 := blk_cell hzd.ab 1
      have HPL := Lib.hid (place_any z.drew r S.L S.gone F0 (HT.out.later hzd.b).rope a)
      have HM2 := Lib.hid (show placeV S.L a = m - 1 by rw [HM1.out]; omega)
      rw [HM2.out] at HPL
      have HZD := Lib.hid hzd
      clear hzd
      go_region_held3 (fun w' => w'.cell? ⟨t, 3, none⟩ = some (ptr r) ∧ w'.cell? ⟨w.heap.size + 1, 0, none⟩ = some (.int .i64 a.1) ∧ w'.cell? ⟨w.heap.size + 1, 1, none⟩ = some (.int .i64 a.2)) (first | exact ⟨e3, a0, a1⟩ | exact ⟨l0, l1, l2⟩) (first | (go_at_call 47; (with_reducible refine HPL.out.mono ?_); rintro e y2 ⟨rfl, hb⟩; have HQ := Lib.hid (HZD.out.later hb); have l0 := blk_cell (HT.out.later HQ.out.b).top 3; have l1 := blk_cell HQ.out.ab 0; have l2 := blk_cell HQ.out.ab 1; clear hb))
      have hnl := HNL.out
      have hw : wrap64 (m - 1 + 1) = m := by
        rw [show m - 1 + 1 = m by omega]
        unfold wrap64; omega
      go_wp2_with fail
      go_meet
      exact ⟨by congr 1, HQ.out⟩
    · have hr1 := HA.out
      have hm1 := HN.out
      rw [if_neg hn] at hr1 hm1
      subst hr1
      subst hm1
      go_wp2_with fail
      go_meet
      exact ⟨rfl, HX.out⟩
  case rest =>
    obtain ⟨rfl, hbb⟩ := hcut
    generalize wc = y at *
    have HB2 := Lib.hid (hbb.later (Below.refl _ _).drew)
    clear hbb HX
    go_upto_region 10 with fail
    have hTy := HT.out.later HB2.out.b
    have e0 := blk_cell hTy.top 0
    have a0 := blk_cell HB2.out.ab 0
    have a1 := blk_cell HB2.out.ab 1
    have hl := hTy.kid_run a 2
    obtain ⟨⟨ao, cap, hsl, -⟩, -⟩ := own_form (hTy.own a 2)
    rw [hsl] at hl
    clear hsl hTy
    rcases Nat.eq_zero_or_pos (S.K a 2).length with hk | hk
    · have he := List.eq_nil_of_length_eq_zero hk
      have hpp := HPP.out
      have hss := HSS.out
      rw [if_pos he] at hpp hss
      subst hpp
      subst hss
      have dk : (((S.K a 2).length : Int) == 0) = true := beq_iff_eq.2 (by omega)
      generalize (S.K a 2).length = k at *
      clear he hk
      go_region
      go_wp2_with (refine wpList_store_row rfl (.tmp 4) (.tmp 58) 30 rfl w.heap.size #[.int .i64 0, .int .i64 0] #[.int .i64 a.1, .int .i64 a.2] rfl rfl HB2.out.rb (by kernel_rfl) rfl (by kernel_rfl) ?_; intro z hc hz; have z0 := blk_cell hz 0; have z1 := blk_cell hz 1; have HC := Lib.hid hc; clear hc hz)
      refine bodyPost_ret (v := .tuple #[encS a, .int .i64 2, .int .i64 0]) (by simp [results, Try.results27, go_sem, z0, z1]) rfl ⟨rfl, ?_⟩
      exact HB2.out.end HC.out
    · have he : ¬ S.K a 2 = [] := fun e => by rw [e] at hk; simp at hk
      have hpp := HPP.out
      have hss := HSS.out
      rw [if_neg he] at hpp hss
      have HPP := Lib.hid hpp
      have HSS := Lib.hid hss
      clear hpp hss
      have dk : (((S.K a 2).length : Int) == 0) = false := beq_eq_false_iff_ne.2 (by omega)
      generalize (S.K a 2).length = k at *
      clear he hk
      go_region
      generalize y.drew = y2 at *
      clear e0 a0 a1 hl dk
      have e3 := blk_cell (HT.out.later HB2.out.b).top 3
      have f3 := blk_free (HT.out.later HB2.out.b).top 3
      have HAT := Lib.hid (at_any y2 r S.L S.gone F0 (HT.out.later HB2.out.b).rope m)
      generalize atV S.L m = v at *
      generalize atE S.L m = ve at *
      go_upto_region 13 with (go_at_call 48; (with_reducible refine HAT.out.mono ?_); rintro e z ⟨rfl, hb⟩; have HZ := Lib.hid (HB2.out.later hb); clear hb)
      refine wp_let (fun u => BB w a u ∧ u.heap[z.heap.size]? = some (.cells #[.int .i64 v.1, .int .i64 v.2] 30 (0, 0))) ⟨HZ.out.later ((Below.refl _ _).alloc (Nat.le_refl _) _), blk_new _ _⟩ (fun u hu => ?_)
      have HU := Lib.hid hu.1
      have v0 := blk_cell hu.2 0
      have v1 := blk_cell hu.2 1
      clear hu e3 f3
      go_wp2_with (refine wpList_store_row rfl (.tmp 4) (.tmp 68) 30 rfl w.heap.size #[.int .i64 0, .int .i64 0] #[.int .i64 v.1, .int .i64 v.2] rfl rfl HU.out.rb (by kernel_rfl) rfl (by kernel_rfl) ?_; intro z hc hz; have z0 := blk_cell hz 0; have z1 := blk_cell hz 1; have HC := Lib.hid hc; clear hc hz)
      refine bodyPost_ret (v := .tuple #[encS v, .int .i64 1, .int .i64 0]) (by simp [results, Try.results27, go_sem, z0, z1]) rfl ⟨by rw [← HPP.out, ← HSS.out], ?_⟩
      exact HU.out.end HC.out
theorem between_text (w : World) (t : Nat) (S : Tx) (F : Nat → Prop) (h : Text w t S F) (n : Int) : Calls Try.prog 27 #[ptr t, .int .i64 n] w fun e w' => e = .returned (.tuple #[encS (betP S n), .int .i64 (betS S n), .int .i64 (betE S n)]) ∧ Below w.heap.size w w' := by
  unfold betP betS betE
  by_cases ho : betOut S n
  · rw [if_pos ho, if_pos ho, if_pos ho]
    exact between_out w t S F h n ho
  · rw [if_neg ho, if_neg ho, if_neg ho]
    exact between_in w t S F h n ho
/-! ### no text at all -/
theorem nil_insert (w : World) (x p : St) (s c : Int) : Calls Try.prog 13 #[.pointer none, encS x, encS p, .int .i64 s, .int .i64 c] w fun e w' => e = .returned (.int .i64 1) ∧ Below w.heap.size w w' := by
  have hgs := run_stGuard
  obtain ⟨d, hd⟩ : ∃ d, decide (p = (0, 0)) = d := ⟨_, rfl⟩
  have heq := fun w => st_eq (a := p) (b := (0, 0)) hd w
  clear hd
  go_enter Try.func13, Try.ntmps13
  go_wp2
  go_ret
  refine ⟨rfl, ?_⟩
  (repeat' (first | with_reducible exact Below.refl _ _ | with_reducible assumption | with_reducible refine below_ext ?_ ?_ | with_reducible refine Below.alloc ?_ ?_ _ | with_reducible refine Below.drew ?_ | with_reducible refine below_drewN ?_ _ | with_reducible refine Below.setCell ?_ ?_ _ | go_size))
theorem nil_delete (w : World) (x : St) : Calls Try.prog 14 #[.pointer none, encS x] w fun e w' => e = .returned (.int .i64 1) ∧ Below w.heap.size w w' := by
  go_enter Try.func14, Try.ntmps14
  go_wp2
  go_ret
  refine ⟨rfl, ?_⟩
  (repeat' (first | with_reducible exact Below.refl _ _ | with_reducible assumption | with_reducible refine below_ext ?_ ?_ | with_reducible refine Below.alloc ?_ ?_ _ | with_reducible refine Below.drew ?_ | with_reducible refine below_drewN ?_ _ | with_reducible refine Below.setCell ?_ ?_ _ | go_size))
theorem nil_len (w : World) : Calls Try.prog 17 #[.pointer none] w fun e w' => e = .returned (.int .i64 0) ∧ Below w.heap.size w w' := by
  go_enter Try.func17, Try.ntmps17
  go_wp2
  go_ret
  refine ⟨rfl, ?_⟩
  (repeat' (first | with_reducible exact Below.refl _ _ | with_reducible assumption | with_reducible refine below_ext ?_ ?_ | with_reducible refine Below.alloc ?_ ?_ _ | with_reducible refine Below.drew ?_ | with_reducible refine below_drewN ?_ _ | with_reducible refine Below.setCell ?_ ?_ _ | go_size))
theorem nil_all (w : World) : Calls Try.prog 16 #[.pointer none] w fun e w' => e = .returned (.slice none 0 0) ∧ Below w.heap.size w w' := by
  go_enter Try.func16, Try.ntmps16
  go_wp2
  go_ret
  refine ⟨rfl, ?_⟩
  (repeat' (first | with_reducible exact Below.refl _ _ | with_reducible assumption | with_reducible refine below_ext ?_ ?_ | with_reducible refine Below.alloc ?_ ?_ _ | with_reducible refine Below.drew ?_ | with_reducible refine below_drewN ?_ _ | with_reducible refine Below.setCell ?_ ?_ _ | go_size))
theorem nil_index (w : World) (x : St) : Calls Try.prog 25 #[.pointer none, encS x] w fun e w' => e = .returned (.tuple #[.int .i64 0, .int .i64 1]) ∧ Below w.heap.size w w' := by
  go_enter Try.func25, Try.ntmps25
  go_wp2
  go_ret2
  refine ⟨rfl, ?_⟩
  (repeat' (first | with_reducible exact Below.refl _ _ | with_reducible assumption | with_reducible refine below_ext ?_ ?_ | with_reducible refine Below.alloc ?_ ?_ _ | with_reducible refine Below.drew ?_ | with_reducible refine below_drewN ?_ _ | with_reducible refine Below.setCell ?_ ?_ _ | go_size))
theorem nil_at (w : World) (n : Int) : Calls Try.prog 21 #[.pointer none, .int .i64 n] w fun e w' => e = .returned (.tuple #[.agg elZ, .int .i64 1]) ∧ Below w.heap.size w w' := by
  go_enter Try.func21, Try.ntmps21
  go_wp2
  refine bodyPost_ret (v := .tuple #[.agg elZ, .int .i64 1]) (by simp [results, Try.results21, go_sem]) rfl ⟨rfl, ?_⟩
  (repeat' (first | with_reducible exact Below.refl _ _ | with_reducible assumption | with_reducible refine below_ext ?_ ?_ | with_reducible refine Below.alloc ?_ ?_ _ | with_reducible refine Below.drew ?_ | with_reducible refine below_drewN ?_ _ | with_reducible refine Below.setCell ?_ ?_ _ | go_size))
theorem nil_between (w : World) (n : Int) : Calls Try.prog 27 #[.pointer none, .int .i64 n] w fun e w' => e = .returned (.tuple #[encS (0, 0), .int .i64 0, .int .i64 1]) ∧ Below w.heap.size w w' := by
  go_enter Try.func27, Try.ntmps27
  go_wp2
  refine bodyPost_ret (v := .tuple #[encS (0, 0), .int .i64 0, .int .i64 1]) (by simp [results, Try.results27, go_sem]) rfl ⟨rfl, ?_⟩
  (repeat' (first | with_reducible exact Below.refl _ _ | with_reducible assumption | with_reducible refine below_ext ?_ ?_ | with_reducible refine Below.alloc ?_ ?_ _ | with_reducible refine Below.drew ?_ | with_reducible refine below_drewN ?_ _ | with_reducible refine Below.setCell ?_ ?_ _ | go_size))
end Go.Proofs.Ytohpablkgfkelaa
