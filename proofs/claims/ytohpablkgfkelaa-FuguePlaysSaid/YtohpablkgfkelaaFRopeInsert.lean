/- A ROPE IN MEMORY: Insert, the walk. -/
import Derived.Test.YtohpablkgfkelaaFRopeIns
import Derived.Deep.RegionHeld3
import Derived.Deep.RegionWith
namespace Go.Proofs.Ytohpablkgfkelaa
open Go.RowKit Go.Joins
set_option linter.unusedSimpArgs false
set_option linter.unusedVariables false

def InsP (r : Nat) (L : List St) (hid : St → Bool) (F : Nat → Prop) (w : World) (e : Ending) (w' : World) : Prop :=
  e = .returned (.int .i64 0) ∧ ∃ F', Rope w' r L hid F' ∧ Ch F w w' ∧ ∀ x, F' x → F x ∨ w.heap.size ≤ x
theorem mids_of {w y wA : World} {r wb hb : Nat} {rs : Value} {G : List RunG} {hid : St → Bool} (h : Rope0 w r wb hb rs G hid) {i : Nat} (hi : i < G.length) {k : St} {o : Nat} {g' cap' : Nat} (hy : Below w.heap.size w y)
    (hown : wA.ownsRow 0 30 2 (.slice (some ⟨g', 0, none⟩) (G[i].ks.length + 1) cap') (G[i].ks.length + 1) ((stL G[i].ks).take (o * 2) ++ [.int .i64 k.1, .int .i64 k.2] ++ (stL G[i].ks).drop (o * 2)))
    (hch : Ch (fun b => G[i].sl.ownBlock = some b) y wA) (hloc : G[i].sl.ownBlock = some g' ∨ y.heap.size ≤ g') :
    MidS w (wA.setCell ⟨G[i].b, 0, none⟩ (.slice (some ⟨g', 0, none⟩) (G[i].ks.length + 1) cap')) G hid i G[i].b G[i].sl G[i].ks o k g' cap' := by
  have A := apart_of h.apart
  have hgm := List.getElem_mem hi
  obtain ⟨a1, a2, a3, a4⟩ := A.run _ hgm
  have hgw := heap_lt (h.run _ hgm).1
  have hys := hy.size
  have c0 : Ch (fun _ => False) w y := Ch.of_below hy
  have hgA : wA.heap[G[i].b]? = _ := hch.at (c0.at (h.run _ hgm).1 (fun e => e)) (fun e => (a4 _ e).2.2.2 rfl)
  refine ⟨?_, ?_, ?_, hloc.imp id (fun e => by omega)⟩
  · exact ((c0.mono (G := fun z => z = G[i].b ∨ G[i].sl.ownBlock = some z) (fun _ _ e => e.elim)).trans hch (fun z _ e => Or.inr e)).setCell ⟨G[i].b, 0, none⟩ _ (fun _ => Or.inl rfl)
  · rw [blk_set hgA]; rfl
  · rw [insKs_ints] at hown
    have hgg : g' ≠ G[i].b := by
      rcases hloc with e | e
      · exact (a4 _ e).2.2.2
      · omega
    exact own_ch hown ((Ch.refl (fun z => z = G[i].b) wA).setCell ⟨G[i].b, 0, none⟩ _ (fun _ => rfl)) (fun z hz e => by cases hz; exact hgg e)
/-- the key's box stands behind what turns the old blocks -/
theorem KB.chg {w y z : World} {k : St} {s : Nat} {F : Nat → Prop} (h : KB w k s y) (c : Ch F y z) (hs : ¬ F s) : z.heap[s]? = some (.cells #[.int .i64 k.1, .int .i64 k.2] 30 (0, 0)) := c.at h.bx hs
/-- the two entries -/
theorem entries_of {x : World} {wb hb : Nat} {G : List RunG} {hid : St → Bool} {n gb : Nat} (m1 : MapIs x wb encS (whereF G) n) (m2 : MapIs x hb encS (hideF (flat G) hid) n) (hne : wb ≠ hb) {k : St} (hk : k ∉ flat G) :
    ∃ (c1 c2 : Int) (v1 v2 v3 v4 : World),
      (Instr.mapEntry 95 (.map (some wb)) (encS k)).run Try.prog x.drew = .ok (.tuple #[.pointer none, .int .i64 c1]) v1 ∧
      (Instr.entryStore 95 (.map (some wb)) (.int .i64 c1) (ptr gb)).run Try.prog v1 = .ok () v2 ∧
      (Instr.mapEntry 70 (.map (some hb)) (encS k)).run Try.prog v2 = .ok (.tuple #[.bool false, .int .i64 c2]) v3 ∧
      (Instr.entryStore 70 (.map (some hb)) (.int .i64 c2) (.bool true)).run Try.prog v3 = .ok () v4 ∧
      Ch (fun z => z = wb) x v1 ∧ Ch (fun z => z = wb) x v2 ∧ Ch (fun z => z = wb ∨ z = hb) x v3 ∧ Ch (fun z => z = wb ∨ z = hb) x v4 ∧
      MapIs v4 wb encS (upd (whereF G) k (ptr gb)) (more (whereF G) k n) ∧ MapIs v4 hb encS (upd (hideF (flat G) hid) k (.bool true)) (more (hideF (flat G) hid) k n) := by
  have d1 : MapIs x.drew wb encS (whereF G) n := m1.at rfl
  obtain ⟨c1, v1, r1, ch1, s1, st1⟩ := d1.entry keyS Try.underlying95 (zero_ptr _) k
  obtain ⟨v2, r2, mm1, ch2, s2⟩ := st1 v1 (ptr gb) rfl
  have e2 : Ch (fun z => z = wb) x v2 := (((Ch.refl (fun z => z = wb) x).drew).trans ch1 (fun _ _ e => e)).trans ch2 (fun _ _ e => e)
  have d2 : MapIs v2 hb encS (hideF (flat G) hid) n := m2.ch e2 (fun e => hne e.symm)
  obtain ⟨c2, v3, r3, ch3, s3, st3⟩ := d2.entry keyS Try.underlying70 (zero_bool _) k
  obtain ⟨v4, r4, mm2, ch4, s4⟩ := st3 v3 (.bool true) rfl
  rw [whereF_none hk] at r1
  have hh : hideF (flat G) hid k = none := by unfold hideF; rw [if_neg hk]
  rw [hh] at r3
  have e3 : Ch (fun z => z = wb ∨ z = hb) x v3 := (e2.mono (fun _ _ e => Or.inl e)).trans ch3 (fun _ _ e => Or.inr e)
  have e4 : Ch (fun z => z = wb ∨ z = hb) x v4 := e3.trans ch4 (fun _ _ e => Or.inr e)
  exact ⟨c1, c2, v1, v2, v3, v4, r1, r2, r3, r4, ((Ch.refl (fun z => z = wb) x).drew).trans ch1 (fun _ _ e => e), e2, e3, e4, (mm1.ch ch3 hne).ch ch4 hne, mm2⟩
theorem setH_twice {hid : St → Bool} {k : St} {a b : Bool} : setH (setH hid k a) k b = setH hid k b := by
  funext x; unfold setH; split <;> rfl
theorem ins_fin {w v w' : World} {r : Nat} {L' : List St} {hid : St → Bool} {k : St} {s : Bool} {F : Nat → Prop} {e : Ending} (hc : Ch F w v) (hk : k ∈ L') (h : ShowP r L' (showH L' (setH hid k true) k s) (fun z => F z ∨ w.heap.size ≤ z) (itemE L' k) v e w') : InsP r L' (setH hid k (!s)) F w e w' := by
  obtain ⟨h1, h2, h3⟩ := h
  unfold showH at h2
  rw [if_pos hk, setH_twice] at h2
  refine ⟨by rw [h1, itemE, if_pos hk], _, h2, hc.trans h3 (fun z hz e => ?_), fun z hz => hz⟩
  rcases e with e | e
  · exact e
  · omega
/-- cut in two, the rope is one whose runs are short -/
theorem cut_rope {v w' : World} {r wb hb : Nat} {G : List RunG} {hid : St → Bool} {F F' : Nat → Prop} {i : Nat} (hi : i < G.length) (h33 : G[i].ks.length = 33) (hs : ∀ (m : Nat) (hm : m < G.length), m ≠ i → G[m].ks.length ≤ 32) {L : List St} (hL : L.length < 4294967296) (hfl : flat G = L) {e : Ending}
    (h : SplitP r wb hb G hid F i G[i].ks v e w') (hF : ∀ z, F z ∨ v.heap.size ≤ z → F' z) : e = .returned (.tuple #[]) ∧ Rope w' r L hid F' ∧ Ch F v w' := by
  obtain ⟨h1, rs', a, b, ha, hb', hR, hf, hc⟩ := h
  have hab : a.ks ++ b.ks = G[i].ks := by rw [ha, hb']; exact List.take_append_drop _ _
  refine ⟨h1, ⟨hL, wb, hb, rs', _, hR, by rw [cut_flat hi hab, hfl], fun z hz => hF z (hf z hz), fun g hg => ?_⟩, hc⟩
  rcases (cut_mem hi).1 hg with rfl | rfl | ⟨m, hm, hmi, rfl⟩
  · rw [ha, List.length_take]; omega
  · rw [hb', List.length_drop]; omega
  · exact hs m hm hmi
theorem put_opt {G : List RunG} {i : Nat} (hi : i < G.length) (a : RunG) (m : Nat) : (putG G i a)[m]? = if m = i then some a else G[m]? := by
  unfold putG
  by_cases hlt : m < i
  · rw [List.getElem?_append_left (by simp; omega), List.getElem?_take_of_lt hlt, if_neg (by omega)]
  · rw [List.getElem?_append_right (by simp; omega), List.length_take, show min i G.length = i by omega]
    by_cases hmi : m = i
    · subst hmi; simp
    · rw [if_neg hmi, List.getElem?_cons, if_neg (by omega), List.getElem?_drop]
      congr 1; omega
theorem put_get {G : List RunG} {i : Nat} (hi : i < G.length) (a : RunG) : ∃ h : i < (putG G i a).length, (putG G i a)[i] = a ∧ ∀ (m : Nat) (hm : m < (putG G i a).length), m ≠ i → ∃ h2 : m < G.length, (putG G i a)[m] = G[m] := by
  have hl := put_length hi (a := a)
  have key := put_opt hi a
  refine ⟨by omega, ?_, fun m hm hmi => ⟨by omega, ?_⟩⟩
  · have := key i
    rw [if_pos rfl, List.getElem?_eq_getElem (by omega)] at this
    exact Option.some.inj this
  · have := key m
    rw [if_neg hmi, List.getElem?_eq_getElem hm, List.getElem?_eq_getElem (by omega)] at this
    exact Option.some.inj this
theorem InsP.back {w y w' : World} {r : Nat} {L : List St} {hid : St → Bool} {F : Nat → Prop} {e : Ending} (b : Below w.heap.size w y) (h : InsP r L hid F y e w') : InsP r L hid F w e w' := by
  obtain ⟨h1, F', h2, h3, h4⟩ := h
  have hs := b.size
  exact ⟨h1, F', h2, (Ch.of_below b).trans h3 (fun _ _ e => e), fun x hx => (h4 x hx).imp id (fun e => by omega)⟩
set_option maxHeartbeats 4000000 in
set_option maxRecDepth 20000 in
theorem insert_in (w : World) (r wb hb : Nat) (rs : Value) (G : List RunG) (hid : St → Bool) (F : Nat → Prop) (hR : RopeAt w r wb hb rs G hid) (hS : ∀ g ∈ G, g.ks.length ≤ 32) (hF : ∀ x ∈ foot r wb hb rs G, F x) (hFs : ¬ F w.heap.size) (hL : (flat G).length + 1 < 4294967296) (hG : 0 < G.length)
    (k : St) (hk : k ∉ flat G) (a : Nat) (ha : a ≤ (flat G).length) (s : Bool) :
    Calls Try.prog 36 #[ptr r, .int .i64 a, encS k, .bool s] w (InsP r ((flat G).take a ++ k :: (flat G).drop a) (setH hid k (!s)) F w) := by
  have hlen := len_le_flat (w := w) (r := r) (wb := wb) (hb := hb) (rs := Value.nilFunc) (hid := hid) hR.ne
  have d0 : decide ((a : Int) < 0) = false := decide_eq_false (by omega)
  have d1 : decide (((flat G).length : Int) < (a : Int)) = false := decide_eq_false (by omega)
  have d2 : ((G.length : Int) == 0) = false := beq_eq_false_iff_ne.2 (by omega)
  have HR0 := Lib.hid hR
  have HK := Lib.hid hk
  have hfs : ∀ x ∈ foot r wb hb rs G, x ≠ w.heap.size := fun x hx e => by have := foot_lt hR x hx; omega
  have HFS := Lib.hid hfs
  clear hR hk hfs
  go_enter Try.func36, Try.ntmps36
  go_upto_region 3 with fail
  refine wp_let (KB w k w.heap.size) (KB.new w k) (fun x hx => ?_)
  have HX := Lib.hid hx.drew
  have hR2 := HR0.out.later hx.drew.b
  have hl := where_run hR2 k
  rw [whereF_none HK.out] at hl
  have e1 := blk_cell hR2.top 1
  have c0 := hx.drew.c0
  have c1 := hx.drew.c1
  clear hR2 hx
  go_region
  clear hl e1 c0 c1
  generalize x.drew = x2 at *
  have HR := Lib.hid (HR0.out.later HX.out.b)
  have H := Lib.hid (len_any x2 r (flat G) hid F ⟨by omega, wb, hb, rs, G, HR.out, rfl, hF, hS⟩)
  have HFD := Lib.hid (find_any x2 r wb hb rs G hid HR.out hG (by omega) a ha)
  obtain ⟨B, cap, hrs, hcell⟩ := runs_form HR.out hG
  subst hrs
  have e0 := blk_cell HR.out.top 0
  have f0 := blk_free HR.out.top 0
  have HC := Lib.hid hcell
  generalize w.heap.size = sk at *
  clear hcell
  go_wp2_with (go_at_call 52; with_reducible refine H.out.mono ?_; rintro e w' ⟨rfl, rfl⟩)
  with_reducible refine HFD.out.mono ?_
  rintro e w' ⟨⟨i, o, hi, rfl, ho, hcase⟩, rfl⟩
  have hol : o ≤ G[i].ks.length := by
    rcases hcase with h | ⟨_, h⟩
    · omega
    · exact h
  have hgm := List.getElem_mem hi
  have hc := HC.out i hi
  obtain ⟨X, cp, hsl, -, -, -⟩ := items_form HR.out G[i] hgm
  have hrun := (HR.out.run G[i] hgm).1
  have HSL := Lib.hid hsl
  have HO := Lib.hid ho
  clear hcase ho
  go_upto_region 11 with fail
  have c0 := HX.out.drew.c0
  have c1 := HX.out.drew.c1
  have hg0 := blk_cell (blk_drew hrun) 0
  have hlt2 := foot_lt HR.out
  have hins := ins_anyS G[i].sl G[i].ks.length o (stL G[i].ks) [.int .i64 k.1, .int .i64 k.2] x2.heap.size (x2.alloc (.cells #[.int .i64 k.1, .int .i64 k.2] 30)).drew hol (own_ch (HR.out.run G[i] hgm).2 (((Ch.refl (fun _ => False) x2).alloc _).drew) (fun _ _ e => e)) (by have := hS _ hgm; omega) (blk_drew (blk_new _ _)) (fun e => by
    have h1 := hlt2 _ ((mem_foot_run hgm).2 _ e)
    exact absurd (show x2.heap.size < x2.heap.size from h1) (Nat.lt_irrefl _)) rfl (fun u hu => by simp at hu; rcases hu with rfl | rfl <;> rfl) (stL_one _)
  have hg1 := blk_cell (blk_drew (blk_alloc (o' := .cells #[.int .i64 k.1, .int .i64 k.2] 30) hrun)) 0
  have c0' := (HX.out.later (((Below.refl _ _).alloc (Nat.le_refl _) (.cells #[.int .i64 k.1, .int .i64 k.2] 30)).drew)).c0
  have c1' := (HX.out.later (((Below.refl _ _).alloc (Nat.le_refl _) (.cells #[.int .i64 k.1, .int .i64 k.2] 30)).drew)).c1
  rw [hsl] at hins hg0 hg1
  have HI := Lib.hid hins
  have HRUN := Lib.hid hrun
  clear hsl hrun hins
  go_cut [] (fun y => ∃ g' cap', MidS x2 y G hid i G[i].b G[i].sl G[i].ks o k g' cap' ∧ y.heap[sk]? = some (.cells #[.int .i64 k.1, .int .i64 k.2] 30 (0, 0)))
  case first =>
    go_region_with (go_at_call 38; (with_reducible refine HI.out.mono ?_); rintro e wA ⟨g', cap', rfl, hown, hch, hloc⟩; rw [← HSL.out] at hch hloc; have k2 := blk_cell (hch.at (blk_drew (blk_alloc (o' := .cells #[.int .i64 k.1, .int .i64 k.2] 30) HRUN.out)) (fun e => ((apart_of HR.out.apart).run _ hgm).2.2.2 _ e |>.2.2.2 rfl)) 0; have k3 := blk_free (hch.at (blk_drew (blk_alloc (o' := .cells #[.int .i64 k.1, .int .i64 k.2] 30) HRUN.out)) (fun e => ((apart_of HR.out.apart).run _ hgm).2.2.2 _ e |>.2.2.2 rfl)) 0; have HO1 := Lib.hid hown; have HO2 := Lib.hid hch; have HO3 := Lib.hid hloc; clear hown hch hloc)
    all_goals
      go_wp2_with fail
      go_meet
      refine ⟨_, _, mids_of (HR.out.to0 hS) hi (((Below.refl _ _).alloc (Nat.le_refl _) _).drew) HO1.out HO2.out (HO3.out.imp id (fun e => e)), ?_⟩
      have hbx := blk_drew (blk_alloc (o' := .cells #[.int .i64 k.1, .int .i64 k.2] 30) HX.out.bx)
      have h1 := HO2.out.at hbx (fun e => HFS.out _ ((mem_foot_run hgm).2 _ e) rfl)
      exact ((Ch.refl (fun z => z = G[i].b) wA).setCell ⟨G[i].b, 0, none⟩ _ (fun _ => rfl)).at h1 (fun e => HFS.out _ (mem_foot_run hgm).1 e.symm)
  case rest =>
    obtain ⟨g', cap', hx, hbx⟩ := hcut
    have HKX := HX
    generalize wc = x at *
    clear hg0 hg1 c0' c1' c0 c1 e0 f0 hc
    have A := apart_of HR.out.apart
    have hxw : x.heap[r]? = _ := hx.ch.at HR.out.top (fun e => by
      rcases e with e | e
      · exact (A.run _ hgm).1 e.symm
      · exact ((A.run _ hgm).2.2.2 _ e).1 rfl)
    have hwx := HR.out.wh.ch hx.ch (fun e => by
      rcases e with e | e
      · exact (A.run _ hgm).2.1 e.symm
      · exact ((A.run _ hgm).2.2.2 _ e).2.1 rfl)
    have hhx := HR.out.hd.ch hx.ch (fun e => by
      rcases e with e | e
      · exact (A.run _ hgm).2.2.1 e.symm
      · exact ((A.run _ hgm).2.2.2 _ e).2.2.1 rfl)
    obtain ⟨c1, c2, v1, v2, v3, v4, r1, r2, r3, r4, q1, q2, q3, q4, m1, m2⟩ := entries_of (gb := G[i].b) hwx hhx A.wh HK.out
    have n1 : ¬ r = wb := A.rw
    have n2 : ¬ r = hb := A.rh
    have y1 : ¬ sk = wb := fun e => HFS.out wb (by simp [foot]) e.symm
    have y2 : ¬ sk = hb := fun e => HFS.out hb (by simp [foot]) e.symm
    have p0 := blk_cell (blk_drew hbx) 0
    have p0' := blk_cell (blk_drew hbx) 1
    have p1 := blk_cell (q1.at hbx y1) 0
    have p1' := blk_cell (q1.at hbx y1) 1
    have p2 := blk_cell (q2.at hbx y1) 0
    have p2' := blk_cell (q2.at hbx y1) 1
    have p3 := blk_cell (q3.at hbx (fun e => e.elim y1 y2)) 0
    have p3' := blk_cell (q3.at hbx (fun e => e.elim y1 y2)) 1
    have p4 := blk_cell (q4.at hbx (fun e => e.elim y1 y2)) 0
    have p4' := blk_cell (q4.at hbx (fun e => e.elim y1 y2)) 1
    have s0 := blk_cell (blk_drew hxw) 1
    have s0' := blk_cell (blk_drew hxw) 2
    have s1 := blk_cell (q1.at hxw n1) 1
    have s1' := blk_cell (q1.at hxw n1) 2
    have s2 := blk_cell (q2.at hxw n1) 1
    have s2' := blk_cell (q2.at hxw n1) 2
    have s3 := blk_cell (q3.at hxw (fun e => e.elim n1 n2)) 1
    have s3' := blk_cell (q3.at hxw (fun e => e.elim n1 n2)) 2
    have s4 := blk_cell (q4.at hxw (fun e => e.elim n1 n2)) 1
    have s4' := blk_cell (q4.at hxw (fun e => e.elim n1 n2)) 2
    have M1 := Lib.hid m1
    have M2 := Lib.hid m2
    have Q4 := Lib.hid q4
    have HX := Lib.hid hx
    clear hwx hhx m1 m2 q1 q2 q3 q4 hx
    go_upto_region 12 with fail
    go_region_held3 (fun w' => w'.cell? ⟨r, 1, none⟩ = some (.map (some wb)) ∧ w'.cell? ⟨r, 2, none⟩ = some (.map (some hb)) ∧ w'.cell? ⟨sk, 0, none⟩ = some (.int .i64 k.1) ∧ w'.cell? ⟨sk, 1, none⟩ = some (.int .i64 k.2)) (first | exact ⟨s0, s0', p0, p0'⟩ | exact ⟨s1, s1', p1, p1'⟩ | exact ⟨s2, s2', p2, p2'⟩ | exact ⟨s3, s3', p3, p3'⟩ | exact ⟨s4, s4', p4, p4'⟩) (fail)
    obtain ⟨hRv, hFv, hCv, hfl⟩ := mid_of (HR.out.to0 hS) hi HK.out hol (fun m hm _ => HR.out.ne _ (List.getElem_mem hm)) HX.out Q4.out M1.out M2.out
    have hgr : v4.heap[G[i].b]? = _ := Q4.out.at HX.out.run (fun e => e.elim (A.run _ hgm).2.1 (A.run _ hgm).2.2.1)
    have z0 := blk_cell hgr 0
    have z1 := blk_free hgr 0
    rw [HO.out] at hfl
    have hlen2 : ((flat G).take a ++ k :: (flat G).drop a).length = (flat G).length + 1 := ins_length' ha
    have HRV := Lib.hid hRv
    have HFV := Lib.hid hFv
    have HCV := Lib.hid hCv
    have HFL := Lib.hid hfl
    have HL2 := Lib.hid hlen2
    clear hRv hFv hCv hfl hlen2 hgr r1 r2 r3 r4 s0 s0' s1 s1' s2 s2' s3 s3' s4 s4' hxw p0 p0' p1 p1' p2 p2' p3 p3' p4 p4'
    have HBX := Lib.hid (Q4.out.at hbx (fun e => e.elim y1 y2))
    have hsk := heap_lt HKX.out.bx
    clear y1 y2 hbx
    by_cases h33 : G[i].ks.length = 32
    · have d3 : decide ((32 : Int) < (G[i].ks.length : Int) + 1) = true := decide_eq_true (by omega)
      obtain ⟨pi, pg, po⟩ := put_get hi (⟨G[i].b, .slice (some ⟨g', 0, none⟩) (G[i].ks.length + 1) cap', insKs G[i].ks o k⟩ : RunG)
      have hkl := insKs_length (ks := G[i].ks) (o := o) k hol
      have hsp := split_any v4 r wb hb _ _ _ (fun z => F z ∨ x2.heap.size ≤ z) HRV.out (fun z hz => (HFV.out z hz).imp (hF z) id) (by rw [HFL.out, HL2.out]; exact hL) i pi (by rw [pg]; show 17 ≤ (insKs G[i].ks o k).length; omega)
      have hcut := fun (w' : World) (e : Ending) (h : SplitP r wb hb (putG G i ⟨G[i].b, .slice (some ⟨g', 0, none⟩) (G[i].ks.length + 1) cap', insKs G[i].ks o k⟩) (setH hid k true) (fun z => F z ∨ x2.heap.size ≤ z) i (putG G i ⟨G[i].b, .slice (some ⟨g', 0, none⟩) (G[i].ks.length + 1) cap', insKs G[i].ks o k⟩)[i].ks v4 e w') => cut_rope (F' := fun z => F z ∨ x2.heap.size ≤ z) pi (by rw [pg]; show (insKs G[i].ks o k).length = 33; omega) (fun m hm hmi => by
        obtain ⟨h2, h3⟩ := po m hm hmi
        rw [h3]
        exact hS _ (List.getElem_mem h2)) (by rw [HL2.out]; exact hL) HFL.out h (fun z hz => by
          rcases hz with hz | hz
          · exact hz
          · right
            have := HCV.out.size
            omega)
      have HSP := Lib.hid hsp
      have HCUT := Lib.hid hcut
      clear hsp hcut pg po
      go_wp2_with fail
      with_reducible refine HSP.out.mono ?_
      intro e w5 h5
      obtain ⟨rfl, hr5, hc5⟩ := HCUT.out w5 e h5
      have HSH := Lib.hid (show_any w5 r _ _ _ hr5 k s)
      have HC5 := Lib.hid hc5
      have hbx5 := hc5.at HBX.out (fun e => by
        rcases e with e | e
        · exact hFs e
        · omega)
      have b0 := blk_cell hbx5 0
      have b1 := blk_cell hbx5 1
      clear h5 hr5 hc5 hbx5
      go_wp2_with fail
      with_reducible refine HSH.out.mono ?_
      intro e w' hsh
      have h0 : e = .returned (.int .i64 (itemE ((flat G).take a ++ k :: (flat G).drop a) k)) := by obtain ⟨h0, _⟩ := hsh; exact h0
      subst h0
      have HSS := Lib.hid hsh
      clear hsh
      go_wp2
      go_ret
      refine InsP.back HKX.out.b ?_
      exact ins_fin ((HCV.out.mono (fun z _ e => hF z e)).trans HC5.out (fun z hz e => by
        rcases e with e | e
        · exact e
        · omega)) (ins_mem.2 (Or.inl rfl)) HSS.out
    · have h32 := hS _ hgm
      have d3 : decide ((32 : Int) < (G[i].ks.length : Int) + 1) = false := decide_eq_false (by omega)
      have hrope : Rope v4 r ((flat G).take a ++ k :: (flat G).drop a) (setH hid k true) (fun z => F z ∨ x2.heap.size ≤ z) :=
        ⟨by rw [HL2.out]; exact hL, wb, hb, _, _, HRV.out, HFL.out, fun z hz => (HFV.out z hz).imp (hF z) id, fun g hg => by
          rcases (put_mem hi).1 hg with rfl | ⟨m, hm, hmi, rfl⟩
          · show (insKs G[i].ks o k).length ≤ 32
            rw [insKs_length k hol]; omega
          · exact hS _ (List.getElem_mem hm)⟩
      have hshow := show_any v4 r _ _ _ hrope k s
      have HSH := Lib.hid hshow
      have b0 := blk_cell HBX.out 0
      have b1 := blk_cell HBX.out 1
      clear hrope hshow
      go_wp2_with fail
      with_reducible refine HSH.out.mono ?_
      intro e w' hsh
      have h0 : e = .returned (.int .i64 (itemE ((flat G).take a ++ k :: (flat G).drop a) k)) := by obtain ⟨h0, _⟩ := hsh; exact h0
      subst h0
      have HSS := Lib.hid hsh
      clear hsh
      go_wp2
      go_ret
      refine InsP.back HKX.out.b ?_
      exact ins_fin (HCV.out.mono (fun z _ e => hF z e)) (ins_mem.2 (Or.inl rfl)) HSS.out
end Go.Proofs.Ytohpablkgfkelaa
