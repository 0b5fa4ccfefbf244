/- A TEXT IN MEMORY: Insert, where there is no such parent; and where it is done. -/
import Derived.Test.YtohpablkgfkelaaFIns
import Derived.Deep.RegionHeld3
namespace Go.Proofs.Ytohpablkgfkelaa
open Go.RowKit Go.Joins
set_option linter.unusedSimpArgs false
set_option linter.unusedVariables false

theorem nodup_le : ∀ {l m : List St}, l.Nodup → (∀ x ∈ l, x ∈ m) → l.length ≤ m.length
  | [], _, _, _ => Nat.zero_le _
  | x :: l, m, hn, h => by
    obtain ⟨h1, h2⟩ := List.nodup_cons.1 hn
    have hx := h x (by simp)
    have ih := nodup_le (l := l) (m := m.erase x) h2 (fun y hy => (List.mem_erase_of_ne (fun e => h1 (by rw [← e]; exact hy))).2 (h y (by simp [hy])))
    have hl := List.length_erase_of_mem hx
    have := List.length_pos_of_mem hx
    simp
    omega
theorem sorted_nodup {l : List St} (h : l.Pairwise ltS) : l.Nodup := h.imp (fun {a b} hab e => by subst e; exact ltS_irrefl _ hab)
theorem Tx.Ok.kid_len {S : Tx} (h : S.Ok) (p : St) (s : Int) : (S.K p s).length ≤ S.L.length := nodup_le (sorted_nodup (h.sorted p s)) (h.kid p s)
/-- Insert's boxes, the spot too -/
structure IS (w : World) (x p : St) (s : Int) (q : Nat) (y : World) : Prop where
  b : Below w.heap.size w y
  xb : y.heap[w.heap.size]? = some (.cells #[.int .i64 x.1, .int .i64 x.2] 30 (0, 0))
  sb : y.heap[q]? = some (.cells #[.int .i64 p.1, .int .i64 p.2, .int .i64 s] 77 (0, 0))
  hq : w.heap.size ≤ q
theorem IS.later {w y z : World} {x p : St} {s : Int} {q : Nat} (h : IS w x p s q y) (b : Below y.heap.size y z) : IS w x p s q z :=
  ⟨h.b.trans (b.mono h.b.size), (b.block _ (heap_lt h.xb)).trans h.xb, (b.block _ (heap_lt h.sb)).trans h.sb, h.hq⟩
theorem IB.spot {w y : World} {x p : St} (h : IB w x p y) (s : Int) : IS w x p s y.heap.size (y.alloc (.cells #[.int .i64 p.1, .int .i64 p.2, .int .i64 s] 77)) :=
  ⟨h.b.alloc h.b.size _, blk_alloc h.xb, blk_new _ _, h.b.size⟩
set_option maxHeartbeats 2000000 in
set_option maxRecDepth 20000 in
theorem ins_ref (w : World) (t : Nat) (S : Tx) (F : Nat → Prop) (h : Text w t S F) (x p : St) (s c : Int) (ha : ArgOk x p s) (hx : x ∉ S.L) (hp0 : p ≠ (0, 0)) (hp : p ∉ S.L) :
    Calls Try.prog 13 #[ptr t, encS x, encS p, .int .i64 s, .int .i64 c] w fun e w' => e = .returned (.int .i64 121) ∧ Below w.heap.size w w' := by
  have H0 := Lib.hid h
  obtain ⟨kb, cb, gb, r, sl, F0, hT, -⟩ := h
  have htp := hT.top
  have HTP := Lib.hid htp
  clear hT htp
  have HR := Lib.hid ha.1
  have HXL := Lib.hid (decide_eq_false hx)
  have HPL := Lib.hid (decide_eq_false hp)
  have hgs := run_stGuard
  have hs := ha.g.s12
  have heq := fun w => st_eq (a := p) (b := (0, 0)) (decide_eq_false hp0) w
  clear ha hx hp hp0
  rcases hs with rfl | rfl
  all_goals
    go_enter Try.func13, Try.ntmps13
    go_upto_region 1 with fail
    refine wp_let (IB w x p) (IB.new w x p) (fun y hy => ?_)
    have HY := Lib.hid hy
    have x0 := blk_cell hy.xb 0
    have x1 := blk_cell hy.xb 1
    have p0 := blk_cell hy.pb 0
    have p1 := blk_cell hy.pb 1
    clear hy
    have HRC := Lib.hid (right0_any x.1 x.2 y)
    rw [HR.out] at HRC
    go_wp2_with (first | (go_at_call 32; with_reducible refine HRC.out.mono ?_; rintro e z ⟨rfl, hb⟩; have HB := Lib.hid (HY.out.later hb); have HHC := Lib.hid (show Calls Try.prog 33 #[ptr t, encS x] z fun e w' => e = .returned (.bool false) ∧ Below z.heap.size z w' by rw [← HXL.out]; exact has_any z t S F (H0.out.later HB.out.b) x); have y0 := blk_cell HB.out.xb 0; have y1 := blk_cell HB.out.xb 1; clear hb) | (go_at_call 33; with_reducible refine HHC.out.mono ?_; rintro e z2 ⟨rfl, hb⟩; have HB2 := Lib.hid (HB.out.later hb); have HHP := Lib.hid (show Calls Try.prog 33 #[ptr t, encS p] z2 fun e w' => e = .returned (.bool false) ∧ Below z2.heap.size z2 w' by rw [← HPL.out]; exact has_any z2 t S F (H0.out.later HB2.out.b) p); have q0 := blk_cell HB2.out.pb 0; have q1 := blk_cell HB2.out.pb 1; clear hb) | (go_at_call 33; with_reducible refine HHP.out.mono ?_; rintro e z3 ⟨rfl, hb⟩; have HB3 := Lib.hid (HB2.out.later hb); clear hb))
    go_ret
    exact ⟨rfl, HB3.out.b⟩
theorem ins_row {S : Tx} {A B : List St} {x : St} (hok : S.Ok) (e : S.L = A ++ B) (hx : x ∉ S.L) {z : World} {r : Nat} {F : Nat → Prop} (h : Rope z r (insL S.L A.length x) (insH S.L S.gone A.length x true) F) : Rope z r (A ++ x :: B) S.gone F := by
  have h2 : ¬ outL S.L (A.length : Int) := by unfold outL; rw [e, List.length_append]; omega
  unfold insL insH at h
  rw [if_neg (not_or.2 ⟨hx, h2⟩), if_neg (not_or.2 ⟨hx, h2⟩)] at h
  have h3 : S.gone x = false := by
    cases hg : S.gone x
    · rfl
    · exact absurd (hok.gone x hg) hx
  rw [setH_same (by simpa using h3)] at h
  have e1 : S.L.take (A.length : Int).toNat = A := by rw [e]; simp
  have e2 : S.L.drop (A.length : Int).toNat = B := by rw [e]; simp
  rw [e1, e2] at h
  exact h
theorem kid_look {w : World} {kb n : Nat} {K : Kd} {sl : St → Int → Value} (h : MapIs w kb encP (kidF K sl) n) (hn : ∀ p s, K p s = [] → sl p s = .slice none 0 0) (p : St) (s : Int) :
    (Instr.lookup 68 (.map (some kb)) (.agg #[.int .i64 p.1, .int .i64 p.2, .int .i64 s]) false).run Try.prog w = .ok (sl p s) w := by
  have := h.lookup keyP Try.underlying68 (zero_row w) (p, s)
  refine this.trans ?_
  unfold kidF
  by_cases e : K p s = []
  · rw [if_pos e, hn p s e]; rfl
  · rw [if_neg e]; rfl
theorem IS.ch {w y z : World} {x p : St} {s : Int} {q : Nat} {F : Nat → Prop} (h : IS w x p s q y) (c : Ch F y z) (hF : ∀ u, F u → u < w.heap.size) :
    z.heap[w.heap.size]? = some (.cells #[.int .i64 x.1, .int .i64 x.2] 30 (0, 0)) ∧ z.heap[q]? = some (.cells #[.int .i64 p.1, .int .i64 p.2, .int .i64 s] 77 (0, 0)) :=
  ⟨c.at h.xb (fun e => absurd (hF _ e) (by omega)), c.at h.sb (fun e => absurd (hF _ e) (by have := h.hq; omega))⟩
/-- the kids' map turned -/
def KidsD (y z : World) (kb : Nat) (sl : St → Int → Value) (S : Tx) (x p : St) (s : Int) (i : Nat) : Prop :=
  ∃ y3 v g, Ch (fun u => (sl p s).ownBlock = some u) y y3 ∧ y3.ownsRow 0 30 2 v (insAt (S.K p s) i x).length (stL (insAt (S.K p s) i x)) ∧ v.ownBlock = some g ∧ ((sl p s).ownBlock = some g ∨ y.heap.size ≤ g) ∧ g < y3.heap.size ∧ (∃ n, MapIs z kb encP (upd (kidF S.K sl) (p, s) v) n) ∧ Ch (fun u => u = kb) y3 z
def InsD (t : Nat) (S : Tx) (F : Nat → Prop) (x p : St) (s c : Int) (w : World) (e : Ending) (w' : World) : Prop :=
  e = .returned (.int .i64 0) ∧ ∃ A B, Put S.K S.L p s (posS (S.K p s) x) A B ∧ Text w' t (S.ins x p s c (posS (S.K p s) x) A B) (fun z => F z ∨ w.heap.size ≤ z) ∧ Ch F w w'
abbrev stO (x : St) : Obj := .cells #[.int .i64 x.1, .int .i64 x.2] 30
set_option maxHeartbeats 8000000 in
set_option maxRecDepth 20000 in
theorem ins_ok (w : World) (t : Nat) (S : Tx) (F : Nat → Prop) (h : Text w t S F) (hL : S.L.length + 1 < 4294967296) (x p : St) (s c : Int) (ha : ArgOk x p s) (hx : x ∉ S.L) (hp : p = (0, 0) ∨ p ∈ S.L) :
    Calls Try.prog 13 #[ptr t, encS x, encS p, .int .i64 s, .int .i64 c] w (InsD t S F x p s c w) := by
  have H0 := Lib.hid h
  have hok := h.ok
  obtain ⟨kb, cb, gb, r, sl, F0, hT, hFF⟩ := h
  have hsp : Spot S.L p s := by
    rcases hp with e | e
    · exact .inl ⟨ha.g.st e, e⟩
    · exact .inr ⟨ha.g.s12, e⟩
  have hxk : x ∉ S.K p s := fun e => hx (hok.kid p s x e)
  have hI := posS_at (hok.sorted p s) hxk
  have hkl := hok.kid_len p s
  have HSC := Lib.hid (fun (e : World) (ho : e.ownsRow 0 30 2 (sl p s) (S.K p s).length (stL (S.K p s))) => show Calls Try.prog 34 #[sl p s, encS x, .func (.func 35) #[] #[]] e fun e' w' => e' = .returned (.tuple #[.int .i64 (posS (S.K p s) x), .bool false]) ∧ Below e.heap.size e w' from search_any e (sl p s) (S.K p s) ho (by omega) (hok.sorted p s) x hxk)
  unfold InsD
  generalize posS (S.K p s) x = i at *
  obtain ⟨A, B, hP⟩ := hok.put hsp i
  have hil := hI.1
  have HFIN := Lib.hid (fun (w' : World) (k : Text w' t (S.ins x p s c i A B) (fun z => F z ∨ w.heap.size ≤ z) ∧ Ch F w w') => (⟨A, B, hP, k⟩ : ∃ A B, Put S.K S.L p s i A B ∧ Text w' t (S.ins x p s c i A B) (fun z => F z ∨ w.heap.size ≤ z) ∧ Ch F w w'))
  have HOKI := Lib.hid (hok.ins (c := c) hx ha.1 hsp hI hP)
  have HMEM := Lib.hid (fun (y : St) => show y ∈ A ++ x :: B ↔ y = x ∨ y ∈ S.L by rw [hP.eq, List.mem_append, List.mem_append, List.mem_cons]; constructor <;> (rintro (h | h | h) <;> simp [h]))
  have HPLC := Lib.hid (fun (e : World) (k : Text e t S F) => place_any' e t S F k p s i hil hsp A B hP)
  have HROW := Lib.hid (fun (z : World) (F1 : Nat → Prop) (k : Rope z r (insL S.L A.length x) (insH S.L S.gone A.length x true) F1) => ins_row hok hP.eq hx k)
  have HT := Lib.hid hT
  have HFF := Lib.hid hFF
  have HXN := Lib.hid hx
  have HXL := Lib.hid (decide_eq_false hx)
  have HR := Lib.hid ha.1
  have hgs := run_stGuard
  have hs := ha.g.s12
  have hst := ha.g.st
  have HL := Lib.hid hL
  have HKL := Lib.hid hkl
  have htp := hT.top
  have HTP := Lib.hid htp
  clear hT hFF hx hok ha hI hP hsp hxk htp hL hkl
  have hpm : p ≠ (0, 0) → p ∈ S.L := fun e => hp.resolve_left e
  have HPM := Lib.hid hpm
  have HS := Lib.hid hs
  have HST := Lib.hid hst
  clear hp hs hst hpm
  obtain ⟨d, hd⟩ : ∃ d, decide (p = (0, 0)) = d := ⟨_, rfl⟩
  have heq := fun w => st_eq (a := p) (b := (0, 0)) hd w
  have HD := Lib.hid hd
  clear hd
  go_enter Try.func13, Try.ntmps13
  go_upto_region 1 with fail
  refine wp_let (IB w x p) (IB.new w x p) (fun y hy => ?_)
  have HY := Lib.hid hy
  have x0 := blk_cell hy.xb 0
  have x1 := blk_cell hy.xb 1
  have p0 := blk_cell hy.pb 0
  have p1 := blk_cell hy.pb 1
  clear hy
  have HRC := Lib.hid (right0_any x.1 x.2 y)
  rw [HR.out] at HRC
  go_upto_region 2 with fail
  go_cut [18] (fun v z => v = .bool false ∧ IB w x p z)
  case first =>
    cases d with
    | true =>
      have hs2 := HST.out (of_decide_eq_true HD.out)
      subst hs2
      go_wp2_with (go_at_call 32; with_reducible refine HRC.out.mono ?_; rintro e z ⟨rfl, hb⟩; have HB := Lib.hid (HY.out.later hb); clear hb)
      go_meet
      exact ⟨rfl, HB.out⟩
    | false =>
      rcases HS.out with hs1 | hs1 <;> subst hs1
      all_goals
        go_wp2_with (go_at_call 32; with_reducible refine HRC.out.mono ?_; rintro e z ⟨rfl, hb⟩; have HB := Lib.hid (HY.out.later hb); clear hb)
        go_meet
        exact ⟨rfl, HB.out⟩
  case rest =>
  obtain ⟨rfl, hib⟩ := hcut
  clear x0 x1 p0 p1 HRC
  generalize wc = z at *
  have HB := Lib.hid hib
  have HHC := Lib.hid (show Calls Try.prog 33 #[ptr t, encS x] z fun e w' => e = .returned (.bool false) ∧ Below z.heap.size z w' by rw [← HXL.out]; exact has_any z t S F (H0.out.later HB.out.b) x)
  have y0 := blk_cell HB.out.xb 0
  have y1 := blk_cell HB.out.xb 1
  clear hib
  go_upto_region 6 with (go_at_call 33; with_reducible refine HHC.out.mono ?_; rintro e z2 ⟨rfl, hb⟩; have HB2 := Lib.hid (HB.out.later hb); have q0 := blk_cell HB2.out.pb 0; have q1 := blk_cell HB2.out.pb 1; clear hb)
  go_cut [45] (fun v z => v = .bool false ∧ IB w x p z)
  case first =>
    cases d with
    | true =>
      go_wp2_with fail
      go_meet
      exact ⟨rfl, HB2.out⟩
    | false =>
      have HHP := Lib.hid (show Calls Try.prog 33 #[ptr t, encS p] z2 fun e w' => e = .returned (.bool true) ∧ Below z2.heap.size z2 w' by rw [← decide_eq_true (HPM.out (of_decide_eq_false HD.out))]; exact has_any z2 t S F (H0.out.later HB2.out.b) p)
      go_wp2_with (go_at_call 33; with_reducible refine HHP.out.mono ?_; rintro e z3 ⟨rfl, hb⟩; have HB3 := Lib.hid (HB2.out.later hb); clear hb)
      go_meet
      exact ⟨rfl, HB3.out⟩
  case rest =>
  obtain ⟨rfl, hib⟩ := hcut
  clear y0 y1 q0 q1 HHC HB2
  generalize wc = z3 at *
  have HB := Lib.hid hib
  have p0 := blk_cell hib.pb 0
  have p1 := blk_cell hib.pb 1
  clear hib
  go_upto_region 9 with fail
  refine wp_let (IS w x p s z3.heap.size) (HB.out.spot s) (fun y2 h2 => ?_)
  clear p0 p1
  generalize z3.heap.size = q at *
  have H2 := Lib.hid h2
  have e0 := fun e => blk_cell (HT.out.later (h2.later (ext_below y2 e)).b).top 0
  have hl := fun e => (HT.out.later (h2.later (ext_below y2 e)).b).kid_run p s
  have s0 := fun e => blk_cell (h2.later (ext_below y2 e)).sb 0
  have s1 := fun e => blk_cell (h2.later (ext_below y2 e)).sb 1
  have s2 := fun e => blk_cell (h2.later (ext_below y2 e)).sb 2
  have x0 := fun e => blk_cell (h2.later (ext_below y2 e)).xb 0
  have x1 := fun e => blk_cell (h2.later (ext_below y2 e)).xb 1
  have HSC2 := Lib.hid (fun e => HSC.out (ext y2 e) ((HT.out.later (h2.later (ext_below y2 e)).b).own p s))
  clear h2
  refine region_ext (by kernel_rfl) (by kernel_rfl) ?_
  repeat (go_big_quiet_step ((go_at_call 34; with_reducible exact calls_ext (HSC2.out _))))
  refine wpQuiet_nil ?_
  rintro _ ⟨nq, rfl⟩
  have H3 := Lib.hid (H2.out.later (ext_below y2 nq))
  clear e0 hl s0 s1 s2 x0 x1 HSC2 H2
  generalize ext y2 nq = y3 at *
  go_upto_region 10 with fail
  have H3d := Lib.hid (H3.out.later ((Below.refl _ _).drew))
  have e3 := blk_cell (HT.out.later H3d.out.b).top 3
  have s0 := blk_cell H3d.out.sb 0
  have s1 := blk_cell H3d.out.sb 1
  have s2 := blk_cell H3d.out.sb 2
  have x0 := blk_cell H3d.out.xb 0
  have x1 := blk_cell H3d.out.xb 1
  have HPC := Lib.hid (HPLC.out y3.drew (H0.out.later H3d.out.b))
  go_cut [] (fun z => ∃ y0, IS w x p s q y0 ∧ Rope z r (A ++ x :: B) S.gone (fun u => F0 u ∨ y0.heap.size ≤ u) ∧ Ch F0 y0 z)
  case first =>
    go_region_held3 (fun w' => w'.cell? ⟨t, 3, none⟩ = some (ptr r) ∧ w'.cell? ⟨q, 0, none⟩ = some (.int .i64 p.1) ∧ w'.cell? ⟨q, 1, none⟩ = some (.int .i64 p.2) ∧ w'.cell? ⟨q, 2, none⟩ = some (.int .i64 s) ∧ w'.cell? ⟨w.heap.size, 0, none⟩ = some (.int .i64 x.1) ∧ w'.cell? ⟨w.heap.size, 1, none⟩ = some (.int .i64 x.2)) (first | exact ⟨e3, s0, s1, s2, x0, x1⟩ | exact ⟨e3', s0', s1', s2', x0', x1'⟩ | exact ⟨e3'', s0'', s1'', s2'', x0'', x1''⟩) (first | (go_at_call 37; (with_reducible refine HPC.out.mono ?_); rintro e z ⟨rfl, hb⟩; have H4 := Lib.hid (H3d.out.later hb); have e3' := blk_cell (HT.out.later H4.out.b).top 3; have s0' := blk_cell H4.out.sb 0; have s1' := blk_cell H4.out.sb 1; have s2' := blk_cell H4.out.sb 2; have x0' := blk_cell H4.out.xb 0; have x1' := blk_cell H4.out.xb 1; have HIC := Lib.hid (insert_any z r S.L S.gone F0 (HT.out.later H4.out.b).rope HL.out A.length x true); clear hb) | (go_at_call 36; (with_reducible refine HIC.out.mono ?_); rintro e z2 ⟨rfl, hr, hc⟩; have HRC := Lib.hid (And.intro hr hc); have e3'' := blk_cell (hc.at (HT.out.later H4.out.b).top HT.out.nF.1) 3; have s0'' := blk_cell (H4.out.ch hc HT.out.lt).2 0; have s1'' := blk_cell (H4.out.ch hc HT.out.lt).2 1; have s2'' := blk_cell (H4.out.ch hc HT.out.lt).2 2; have x0'' := blk_cell (H4.out.ch hc HT.out.lt).1 0; have x1'' := blk_cell (H4.out.ch hc HT.out.lt).1 1; clear hr hc))
    all_goals
      go_wp2_with fail
      go_meet
      exact ⟨_, H4.out, HROW.out _ _ HRC.out.1, HRC.out.2⟩
  case rest =>
    obtain ⟨yb, hIS, hrope, hch⟩ := hcut
    clear e3 s0 s1 s2 x0 x1 HPC
    generalize wc = y5 at *
    have hT4 := HT.out.later hIS.b
    obtain ⟨hxb, hsb⟩ := hIS.ch hch HT.out.lt
    have htop := hch.at hT4.top HT.out.nF.1
    obtain ⟨nk, hkid⟩ := hT4.kids
    have hkid5 := hkid.ch hch HT.out.nF.2.1
    obtain ⟨ncx, hchx⟩ := hT4.chs
    have hchs5 := hchx.ch hch HT.out.nF.2.2.1
    have hown5 := own_ch (hT4.own p s) hch (fun u hu => (HT.out.sF p s u hu).2.2.2.2)
    have HY5 := Lib.hid (And.intro hIS (And.intro hrope (And.intro hch (And.intro hkid5 hchs5))))
    have HX5 := Lib.hid (And.intro hxb (And.intro hsb htop))
    have hlt5 : ∀ u, (sl p s).ownBlock = some u → u < w.heap.size := fun u hu => ((HT.out.own p s).lt u hu).2
    have HLT5 := Lib.hid hlt5
    have hw5 : w.heap.size ≤ y5.heap.size := Nat.le_trans hIS.b.size hch.size
    have HW5 := Lib.hid hw5
    go_upto_region 11 with fail
    have c0 := blk_cell (blk_drew htop) 0
    have c0' := blk_cell (blk_drew (blk_alloc (o' := stO x) htop)) 0
    have x0 := blk_cell (blk_drew hxb) 0
    have x1 := blk_cell (blk_drew hxb) 1
    have x0' := blk_cell (blk_drew (blk_alloc (o' := stO x) hxb)) 0
    have x1' := blk_cell (blk_drew (blk_alloc (o' := stO x) hxb)) 1
    have s0 := blk_cell (blk_drew hsb) 0
    have s1 := blk_cell (blk_drew hsb) 1
    have s2 := blk_cell (blk_drew hsb) 2
    have s0' := blk_cell (blk_drew (blk_alloc (o' := stO x) hsb)) 0
    have s1' := blk_cell (blk_drew (blk_alloc (o' := stO x) hsb)) 1
    have s2' := blk_cell (blk_drew (blk_alloc (o' := stO x) hsb)) 2
    have cA : Ch (fun _ => False) y5 (y5.alloc (stO x)).drew := ((Ch.refl (fun _ => False) y5).alloc _).drew
    have hkidA := hkid5.ch cA (fun h => h)
    have hl := kid_look (hkid5.ch ((Ch.refl (fun _ => False) y5).drew) (fun h => h)) HT.out.nil p s
    have hl' := kid_look hkidA HT.out.nil p s
    have HI := Lib.hid (ins_anyS (sl p s) (S.K p s).length i (stL (S.K p s)) [.int .i64 x.1, .int .i64 x.2] y5.heap.size (y5.alloc (stO x)).drew hil (own_ch hown5 cA (fun _ _ e => e)) (by have := HKL.out; have := HL.out; omega) (blk_drew (blk_new _ _)) (fun e => by have := hlt5 _ e; omega) rfl (fun u hu => by simp at hu; rcases hu with rfl | rfl <;> rfl) (stL_one _))
    have HKA := Lib.hid hkidA
    have HCA := Lib.hid cA
    clear hT4 hxb hsb htop hkid hkid5 hchx hchs5 hown5 hIS hrope hch hlt5 hw5 cA hkidA
    go_cut [] (fun z => KidsD y5 z kb sl S x p s i)
    case first =>
      have hqw := HY5.out.1.hq
      have hkw := (HT.out.kids.choose_spec).lt
      have NT := Lib.hid (show (sl p s).ownBlock ≠ some t from fun e => (HT.out.sF p s _ e).1 rfl)
      have NK := Lib.hid (show (sl p s).ownBlock ≠ some kb from fun e => (HT.out.sF p s _ e).2.1 rfl)
      have NQ := Lib.hid (show (sl p s).ownBlock ≠ some q from fun e => absurd (HLT5.out _ e) (by omega))
      have NX := Lib.hid (show (sl p s).ownBlock ≠ some w.heap.size from fun e => absurd (HLT5.out _ e) (by omega))
      have NKT := Lib.hid (show ¬ t = kb from HT.out.dis.1)
      have NKQ := Lib.hid (show ¬ q = kb by omega)
      have NKX := Lib.hid (show ¬ w.heap.size = kb by omega)
      clear hqw hkw
      go_region_held3 (fun w' => w'.cell? ⟨t, 0, none⟩ = some (.map (some kb)) ∧ w'.cell? ⟨q, 0, none⟩ = some (.int .i64 p.1) ∧ w'.cell? ⟨q, 1, none⟩ = some (.int .i64 p.2) ∧ w'.cell? ⟨q, 2, none⟩ = some (.int .i64 s) ∧ w'.cell? ⟨w.heap.size, 0, none⟩ = some (.int .i64 x.1) ∧ w'.cell? ⟨w.heap.size, 1, none⟩ = some (.int .i64 x.2)) (first | exact ⟨c0, s0, s1, s2, x0, x1⟩ | exact ⟨c0', s0', s1', s2', x0', x1'⟩ | exact ⟨k0, k1, k2, k3, k4, k5⟩ | exact ⟨l0, l1, l2, l3, l4, l5⟩) (first | (go_at_call 38; (with_reducible refine HI.out.mono ?_); rintro e wA ⟨g, cap, rfl, hown, hcA, hloc⟩; have tA := hcA.at (blk_drew (blk_alloc (o' := stO x) HX5.out.2.2)) NT.out; have qA := hcA.at (blk_drew (blk_alloc (o' := stO x) HX5.out.2.1)) NQ.out; have xA := hcA.at (blk_drew (blk_alloc (o' := stO x) HX5.out.1)) NX.out; have k0 := blk_cell tA 0; have k1 := blk_cell qA 0; have k2 := blk_cell qA 1; have k3 := blk_cell qA 2; have k4 := blk_cell xA 0; have k5 := blk_cell xA 1; obtain ⟨w1, hrun, m1, ch1, sz1⟩ := (HKA.out.ch hcA NK.out).update keyP Try.underlying68 (p, s) (.slice (some ⟨g, 0, none⟩) ((S.K p s).length + 1) cap); have l0 := blk_cell (ch1.at tA NKT.out) 0; have l1 := blk_cell (ch1.at qA NKQ.out) 0; have l2 := blk_cell (ch1.at qA NKQ.out) 1; have l3 := blk_cell (ch1.at qA NKQ.out) 2; have l4 := blk_cell (ch1.at xA NKX.out) 0; have l5 := blk_cell (ch1.at xA NKX.out) 1; have HO1 := Lib.hid hown; have HO2 := Lib.hid hcA; have HO3 := Lib.hid hloc; have HM1 := Lib.hid m1; have HC1 := Lib.hid ch1; clear hown hcA hloc m1 ch1 sz1 tA qA xA))
      all_goals
        go_wp2_with fail
        go_meet
        refine ⟨wA, .slice (some ⟨g, 0, none⟩) ((S.K p s).length + 1) cap, g, (HCA.out.mono (G := fun u => (sl p s).ownBlock = some u) (fun _ _ h => h.elim)).trans HO2.out (fun _ _ h => h), ?_, rfl, HO3.out.imp id (fun e => by simp at e; omega), (HO1.out.lt g rfl).2, ⟨_, HM1.out⟩, HC1.out⟩
        have h1 := HO1.out
        rw [insAt_cells] at h1
        rw [insAt_length hil]
        exact h1
    case rest =>
    obtain ⟨y6, v, g, hc6, hown6, hv, hg, hg6, hm6, hc7⟩ := hcut
    clear c0 c0' x0 x1 x0' x1' s0 s1 s2 s0' s1' s2' hl hl' HI HKA HCA
    generalize wc = y7 at *
    have tcb := HT.out.dis
    have htp7 := hc7.at (hc6.at HX5.out.2.2 (fun e => (HT.out.sF p s _ e).1 rfl)) tcb.1
    have hlk := (HT.out.kids.choose_spec).lt
    have hxb7 := hc7.at (hc6.at HX5.out.1 (fun e => absurd (HLT5.out _ e) (by omega))) (fun e => by omega)
    have hch7 := ((HY5.out.2.2.2.2.ch hc6 (fun e => (HT.out.sF p s _ e).2.2.1 rfl)).ch hc7 (fun e => tcb.2.2.2.1 e.symm)).ch ((Ch.refl (fun _ => False) y7).drew) (fun h => h)
    obtain ⟨w1, hrun, m1, ch1, sz1⟩ := hch7.update keyS Try.underlying69 x (.int .i64 c)
    have HEND := Lib.hid (InsSt.text (c := c) (i := i) (A := A) (B := B) ⟨HY5.out.1.b, HY5.out.2.1, HY5.out.2.2.1, hc6, hown6, hv, hg, hg6, hm6, hc7, ⟨_, m1⟩, (((Ch.refl (fun u => u = cb) y7).drew).trans ch1 (fun _ _ h => h))⟩ HT.out HFF.out HOKI.out HMEM.out HXN.out)
    clear m1 ch1 sz1 hch7 hc6 hown6 hv hg hg6 hm6 hc7 hlk
    go_upto_region 12 with fail
    have c1 := blk_cell (blk_drew htp7) 1
    have x0 := blk_cell (blk_drew hxb7) 0
    have x1 := blk_cell (blk_drew hxb7) 1
    clear htp7 hxb7
    go_region
    go_wp2
    go_ret
    exact ⟨rfl, HFIN.out _ HEND.out⟩
end Go.Proofs.Ytohpablkgfkelaa
