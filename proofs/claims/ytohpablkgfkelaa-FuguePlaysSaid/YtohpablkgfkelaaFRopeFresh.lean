/- A ROPE IN MEMORY: Insert, into an empty one. -/
import Derived.Test.YtohpablkgfkelaaFRopeInsert
namespace Go.Proofs.Ytohpablkgfkelaa
open Go.RowKit Go.Joins
set_option linter.unusedSimpArgs false
set_option linter.unusedVariables false

/-- a rope with one run, which is empty -/
structure FreshR (w x : World) (r wb hb nb B : Nat) : Prop where
  c : Ch (fun z => z = r) w x
  top : x.heap[r]? = some (.cells #[.slice (some ⟨B, 0, none⟩) 1 1, .map (some wb), .map (some hb), .int .i64 0] 98 (0, 0))
  row : x.heap[B]? = some (.cells #[ptr nb] 101 (0, 0))
  run : x.heap[nb]? = some (.cells #[.slice none 0 0, .int .i64 0] 103 (0, 0))
  n1 : w.heap.size ≤ nb
  n2 : w.heap.size ≤ B
  n3 : nb ≠ B
set_option maxHeartbeats 1000000 in
theorem find_fresh (w x : World) (r wb hb nb B : Nat) (h : FreshR w x r wb hb nb B) : Calls Try.prog 53 #[ptr r, .int .i64 0] x fun e w' => e = .returned (.tuple #[.int .i64 0, .int .i64 0]) ∧ x = w' := by
  have e0 := blk_cell h.top 0
  have f0 := blk_free h.top 0
  have e1 := blk_cell h.row 0
  have f1 := blk_free h.row 0
  have e2 := blk_cell h.run 0
  have f2 := blk_free h.run 0
  clear h
  go_enter Try.func53, Try.ntmps53
  go_wp2
  go_loop [1, 13] (fun a i => i = .int .i64 0 ∧ a = .int .i64 0) (fun _ _ => 0)
  case atStart => exact ⟨rfl, rfl⟩
  case round =>
    obtain ⟨rfl, rfl⟩ := hrel
    go_wp2
    go_ret2
    exact ⟨rfl, rfl⟩
theorem fresh0 {w x : World} {r wb hb nb B : Nat} {rs : Value} {hid : St → Bool} (h : RopeAt w r wb hb rs [] hid) (hx : FreshR w x r wb hb nb B) : Rope0 x r wb hb (.slice (some ⟨B, 0, none⟩) 1 1) [⟨nb, .slice none 0 0, []⟩] hid := by
  have A := apart_of h.apart
  have hlt := foot_lt h
  have hrw := hlt r (by simp [foot])
  have hwbw := hlt wb (by simp [foot])
  have hhbw := hlt hb (by simp [foot])
  have n1 := hx.n1
  have n2 := hx.n2
  refine ⟨?_, ⟨rfl, .inr ⟨B, 1, #[ptr nb], rfl, Nat.zero_le _, hx.row, Nat.le_refl _, by unfold maxLen; omega, rfl, rfl⟩⟩, fun g hg => ?_, (h.wh.ch hx.c (fun e => A.rw e.symm)).eqv (fun k => by simp [whereF]), (h.hd.ch hx.c (fun e => A.rh e.symm)).eqv (fun k => by simp [hideF, flat]), by simp [flat], ?_, fun g hg => ?_⟩
  · rw [hx.top]; rfl
  · simp only [List.mem_singleton] at hg
    subst hg
    exact ⟨hx.run, World.ownsRow_nil _ _ _ _⟩
  · have := A.rw
    have := A.rh
    have := A.wh
    have := hx.n3
    simp [foot, Value.ownBlock]
    omega
  · simp only [List.mem_singleton] at hg
    subst hg
    simp
theorem calls_let {P : Program} {f : Nat} {args : Array Value} {Q : Ending → World → Prop} {w : World} (R : World → Prop) (hR : R w) (h : ∀ x, R x → Calls P f args x Q) : Calls P f args w Q := h w hR
theorem fresh_world {w : World} {r wb hb : Nat} {rs : Value} {hid : St → Bool} (h : RopeAt w r wb hb rs [] hid) :
    FreshR w (((w.setCell ⟨r, 0, none⟩ (.slice (some ⟨w.heap.size + 1, 0, none⟩) 1 1)).alloc (.cells #[.slice none 0 0, .int .i64 0] 103)).alloc (.cells #[.pointer (some ⟨w.heap.size, 0, none⟩)] 101)) r wb hb w.heap.size (w.heap.size + 1) := by
  refine ⟨(((Ch.refl (fun z => z = r) w).setCell ⟨r, 0, none⟩ _ (fun _ => rfl)).alloc _).alloc _, ?_, ?_, ?_, Nat.le_refl _, by omega, by omega⟩
  · rw [blk_alloc (blk_alloc (blk_set h.top _))]; rfl
  · exact blk_at _ _ _ (by simp)
  · exact blk_alloc (blk_at _ _ _ (by simp))
theorem fin_fresh {w x v w' : World} {r wb hb nb B : Nat} {hid : St → Bool} {k : St} {s : Bool} {F : Nat → Prop} {e : Ending} (hx : FreshR w x r wb hb nb B) (hF : ∀ z, z = r ∨ z = wb ∨ z = hb → F z)
    (hc : Ch (fun z => z ∈ foot r wb hb (.slice (some ⟨B, 0, none⟩) 1 1) [⟨nb, .slice none 0 0, []⟩]) x v)
    (h : ShowP r [k] (showH [k] (setH hid k true) k s) (fun z => F z ∨ w.heap.size ≤ z) (itemE [k] k) v e w') : InsP r [k] (setH hid k (!s)) F w e w' := by
  refine ins_fin ((hx.c.mono (G := F) (fun z _ e => hF z (Or.inl e))).trans hc (fun z hz e => ?_)) (by simp) h
  have n1 := hx.n1
  have n2 := hx.n2
  simp [foot, Value.ownBlock] at e
  rcases e with e | e | e | e | e
  · exact hF z (.inl e)
  · exact hF z (.inr (.inl e))
  · exact hF z (.inr (.inr e))
  · omega
  · omega
set_option maxHeartbeats 4000000 in
set_option maxRecDepth 20000 in
theorem insert_fresh (w : World) (r wb hb : Nat) (rs : Value) (hid : St → Bool) (F : Nat → Prop) (hR : RopeAt w r wb hb rs [] hid) (hF : ∀ x ∈ foot r wb hb rs [], F x) (hFs : ¬ F w.heap.size) (k : St) (s : Bool) :
    Calls Try.prog 36 #[ptr r, .int .i64 0, encS k, .bool s] w (InsP r [k] (setH hid k (!s)) F w) := by
  have HR0 := Lib.hid hR
  have hfs : ∀ x ∈ foot r wb hb rs [], x ≠ w.heap.size := fun x hx e => by have := foot_lt hR x hx; omega
  have HFS := Lib.hid hfs
  have HF0 := Lib.hid hF
  clear hR hfs hF
  go_enter Try.func36, Try.ntmps36
  go_upto_region 3 with fail
  refine wp_let (KB w k w.heap.size) (KB.new w k) (fun x hx => ?_)
  have HKX := Lib.hid hx.drew
  have hR2 := HR0.out.later hx.drew.b
  have hl := where_run hR2 k
  rw [whereF_none (by simp [flat])] at hl
  have e1 := blk_cell hR2.top 1
  have c0 := hx.drew.c0
  have c1 := hx.drew.c1
  clear hR2 hx
  go_region
  clear hl e1 c0 c1
  generalize x.drew = x2 at *
  generalize hsk : w.heap.size = sk at *
  have hR := HR0.out.later HKX.out.b
  have hF := HF0.out
  have H := Lib.hid (len_any x2 r [] hid F ⟨by simp, wb, hb, rs, [], hR, rfl, hF, fun g hg => (by cases hg)⟩)
  have HFR := Lib.hid (fresh_world hR)
  obtain ⟨ao, cap, rfl, -⟩ := runs_any hR
  have e0 := blk_cell hR.top 0
  have f0 := blk_free hR.top 0
  have hrw := heap_lt hR.top
  have HR := Lib.hid hR
  have HF : ∀ z, z = r ∨ z = wb ∨ z = hb → F z := fun z hz => hF z (by unfold foot; simp; rcases hz with h | h | h <;> simp [h])
  have HF := Lib.hid HF
  have hskx := heap_lt HKX.out.bx
  have y0 : ¬ sk = r := fun e => HFS.out r (by simp [foot]) e.symm
  have y1 : ¬ sk = wb := fun e => HFS.out wb (by simp [foot]) e.symm
  have y2 : ¬ sk = hb := fun e => HFS.out hb (by simp [foot]) e.symm
  clear hR hF hsk
  go_wp2_with (go_at_call 52; with_reducible refine H.out.mono ?_; rintro e w' ⟨rfl, rfl⟩)
  refine calls_let (fun x => FreshR x2 x r wb hb x2.heap.size (x2.heap.size + 1)) HFR.out (fun x hx => ?_)
  clear HFR e0 f0
  generalize hnb : x2.heap.size = nb at hx ⊢
  generalize hB : nb + 1 = B at hx ⊢
  with_reducible refine (find_fresh x2 x r wb hb nb B hx).mono ?_
  rintro e w' ⟨rfl, rfl⟩
  have h0 := fresh0 HR.out hx
  have hbx0 := hx.c.at HKX.out.bx y0
  have e0 := blk_cell hx.top 0
  have f0 := blk_free hx.top 0
  have e3 := blk_cell hx.row 0
  have hg0 := blk_cell (blk_drew hx.run) 0
  have hg1 := blk_cell (blk_drew (blk_alloc (o' := .cells #[.int .i64 k.1, .int .i64 k.2] 30) hx.run)) 0
  have c0 := blk_cell (blk_drew hbx0) 0
  have c1 := blk_cell (blk_drew hbx0) 1
  have c0' := blk_cell (blk_drew (blk_alloc (o' := .cells #[.int .i64 k.1, .int .i64 k.2] 30) hbx0)) 0
  have c1' := blk_cell (blk_drew (blk_alloc (o' := .cells #[.int .i64 k.1, .int .i64 k.2] 30) hbx0)) 1
  have hrun := (h0.run ⟨nb, .slice none 0 0, []⟩ (by simp)).2
  have hnbx := heap_lt hx.run
  have hins : Calls Try.prog 38 #[.slice none 0 0, .int .i64 0, .slice (some ⟨x.heap.size, 0, none⟩) 1 1] (x.alloc (.cells #[.int .i64 k.1, .int .i64 k.2] 30)).drew _ := ins_anyS (.slice none 0 0) 0 0 (stL []) [.int .i64 k.1, .int .i64 k.2] x.heap.size (x.alloc (.cells #[.int .i64 k.1, .int .i64 k.2] 30)).drew (Nat.le_refl _) (own_ch hrun (((Ch.refl (fun _ => False) x).alloc _).drew) (fun _ _ e => e)) (by simp) (blk_drew (blk_new _ _)) (fun e => by cases e) rfl (fun u hu => by simp at hu; rcases hu with rfl | rfl <;> rfl) (stL_one _)
  have HI := Lib.hid hins
  have HX := Lib.hid hx
  have H0 := Lib.hid h0
  have HBX0 := Lib.hid hbx0
  have A := apart_of H0.out.apart
  have hgm : (⟨nb, .slice none 0 0, []⟩ : RunG) ∈ [(⟨nb, .slice none 0 0, []⟩ : RunG)] := by simp
  clear hins hrun hx h0 hbx0
  go_upto_region 11 with fail
  go_cut [] (fun y => ∃ g' cap', MidS x y [⟨nb, .slice none 0 0, []⟩] hid 0 nb (.slice none 0 0) [] 0 k g' cap' ∧ y.heap[sk]? = some (.cells #[.int .i64 k.1, .int .i64 k.2] 30 (0, 0)))
  case first =>
    go_region_with (go_at_call 38; (with_reducible refine HI.out.mono ?_); rintro e wA ⟨g', cap', rfl, hown, hch, hloc⟩; have k2 := blk_cell (hch.at (blk_drew (blk_alloc (o' := .cells #[.int .i64 k.1, .int .i64 k.2] 30) HX.out.run)) (fun e => by cases e)) 0; have k3 := blk_free (hch.at (blk_drew (blk_alloc (o' := .cells #[.int .i64 k.1, .int .i64 k.2] 30) HX.out.run)) (fun e => by cases e)) 0; have HO1 := Lib.hid hown; have HO2 := Lib.hid hch; have HO3 := Lib.hid hloc; clear hown hch hloc)
    all_goals
      go_wp2_with fail
      go_meet
      refine ⟨_, _, mids_of H0.out (i := 0) (by simp) (((Below.refl _ _).alloc (Nat.le_refl _) _).drew) HO1.out HO2.out (HO3.out.imp id (fun e => e)), ?_⟩
      have hbx := blk_drew (blk_alloc (o' := .cells #[.int .i64 k.1, .int .i64 k.2] 30) HBX0.out)
      have h1 := HO2.out.at hbx (fun e => by cases e)
      exact ((Ch.refl (fun z => z = nb) wA).setCell ⟨nb, 0, none⟩ _ (fun _ => rfl)).at h1 (by omega)
  case rest =>
    obtain ⟨g', cap', hy, hbx⟩ := hcut
    generalize wc = y at *
    clear hg0 hg1 c0' c1' c0 c1 e0 f0 e3
    have A1 := A.run _ hgm
    have hxw : y.heap[r]? = _ := hy.ch.at HX.out.top (fun e => by
      rcases e with e | e
      · exact A1.1 e.symm
      · cases e)
    have hwx := H0.out.wh.ch hy.ch (fun e => by
      rcases e with e | e
      · exact A1.2.1 e.symm
      · cases e)
    have hhx := H0.out.hd.ch hy.ch (fun e => by
      rcases e with e | e
      · exact A1.2.2.1 e.symm
      · cases e)
    have hk : k ∉ flat [(⟨nb, .slice none 0 0, []⟩ : RunG)] := by simp [flat]
    obtain ⟨c1, c2, v1, v2, v3, v4, r1, r2, r3, r4, q1, q2, q3, q4, m1, m2⟩ := entries_of (gb := nb) hwx hhx A.wh hk
    have n1 : ¬ r = wb := A.rw
    have n2 : ¬ r = hb := A.rh
    have p0 := blk_cell (blk_drew hbx) 0
    have p0' := blk_cell (blk_drew hbx) 1
    have p1 := blk_cell (q1.at hbx y1) 0
    have p1' := blk_cell (q1.at hbx y1) 1
    have p2 := blk_cell (q2.at hbx y1) 0
    have p2' := blk_cell (q2.at hbx y1) 1
    have p3 := blk_cell (q3.at hbx (fun e => e.elim y1 y2)) 0
    have p3' := blk_cell (q3.at hbx (fun e => e.elim y1 y2)) 1
    have p4 := blk_cell (q4.at hbx (fun e => e.elim y1 y2)) 0
    have p4' := blk_cell (q4.at hbx (fun e => e.elim y1 y2)) 1
    have s0 := blk_cell (blk_drew hxw) 1
    have s0' := blk_cell (blk_drew hxw) 2
    have s1 := blk_cell (q1.at hxw n1) 1
    have s1' := blk_cell (q1.at hxw n1) 2
    have s2 := blk_cell (q2.at hxw n1) 1
    have s2' := blk_cell (q2.at hxw n1) 2
    have s3 := blk_cell (q3.at hxw (fun e => e.elim n1 n2)) 1
    have s3' := blk_cell (q3.at hxw (fun e => e.elim n1 n2)) 2
    have s4 := blk_cell (q4.at hxw (fun e => e.elim n1 n2)) 1
    have s4' := blk_cell (q4.at hxw (fun e => e.elim n1 n2)) 2
    have M1 := Lib.hid m1
    have M2 := Lib.hid m2
    have Q4 := Lib.hid q4
    have HY := Lib.hid hy
    have HK := Lib.hid hk
    clear hwx hhx m1 m2 q1 q2 q3 q4 hy hk A1
    go_upto_region 12 with fail
    go_region_held3 (fun w' => w'.cell? ⟨r, 1, none⟩ = some (.map (some wb)) ∧ w'.cell? ⟨r, 2, none⟩ = some (.map (some hb)) ∧ w'.cell? ⟨sk, 0, none⟩ = some (.int .i64 k.1) ∧ w'.cell? ⟨sk, 1, none⟩ = some (.int .i64 k.2)) (first | exact ⟨s0, s0', p0, p0'⟩ | exact ⟨s1, s1', p1, p1'⟩ | exact ⟨s2, s2', p2, p2'⟩ | exact ⟨s3, s3', p3, p3'⟩ | exact ⟨s4, s4', p4, p4'⟩) (fail)
    obtain ⟨hRv, hFv, hCv, hfl⟩ := mid_of H0.out (i := 0) (by simp) HK.out (Nat.le_refl _) (fun m hm hne => by simp at hm; omega) HY.out Q4.out M1.out M2.out
    have hgr : v4.heap[nb]? = _ := Q4.out.at HY.out.run (fun e => e.elim (A.run _ hgm).2.1 (A.run _ hgm).2.2.1)
    have z0 := blk_cell hgr 0
    have z1 := blk_free hgr 0
    have hrope : Rope v4 r [k] (setH hid k true) (fun z => F z ∨ x2.heap.size ≤ z) :=
      ⟨by simp, wb, hb, _, _, hRv, hfl, fun z hz => by
        have n1 := HX.out.n1
        have n2 := HX.out.n2
        have n4 := HX.out.c.size
        rcases hFv z hz with e | e
        · simp [foot, Value.ownBlock] at e
          rcases e with e | e | e | e | e
          · exact .inl (HF.out z (.inl e))
          · exact .inl (HF.out z (.inr (.inl e)))
          · exact .inl (HF.out z (.inr (.inr e)))
          · right; omega
          · right; omega
        · right; omega, fun g hg => by
        rcases (put_mem (by simp)).1 hg with rfl | ⟨m, hm, hmi, rfl⟩
        · show (insKs [] 0 k).length ≤ 32
          simp [insKs]
        · simp at hm; omega⟩
    have hshow := show_any v4 r _ _ _ hrope k s
    have HSH := Lib.hid hshow
    have HCV := Lib.hid hCv
    clear hrope hshow hRv hFv hCv hfl hgr r1 r2 r3 r4 s0 s0' s1 s1' s2 s2' s3 s3' s4 s4' hxw p0 p0' p1 p1' p2 p2' p3 p3'
    go_wp2_with fail
    with_reducible refine HSH.out.mono ?_
    intro e w' hsh
    have h0 : e = .returned (.int .i64 (itemE [k] k)) := by obtain ⟨h0, _⟩ := hsh; exact h0
    subst h0
    have HSS := Lib.hid hsh
    clear hsh
    go_wp2
    go_ret
    refine InsP.back (y := x2) ?_ ?_
    · exact HKX.out.b
    · exact fin_fresh HX.out HF.out HCV.out HSS.out
end Go.Proofs.Ytohpablkgfkelaa
