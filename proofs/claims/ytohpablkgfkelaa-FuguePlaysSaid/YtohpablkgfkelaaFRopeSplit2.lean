/- A ROPE IN MEMORY: split, the walk. -/
import Derived.Test.YtohpablkgfkelaaFRopeSplit
namespace Go.Proofs.Ytohpablkgfkelaa
open Go.RowKit Go.Joins
set_option linter.unusedSimpArgs false
set_option linter.unusedVariables false
theorem SpW.later {w2 wr wz : World} {wb gb y : Nat} {G : List RunG} {hid : St → Bool} {slx sly : Value} {T D : List St} {n q : Nat} (h : SpW w2 wr wb gb y G hid slx sly T D n q) (b : Below wr.heap.size wr wz) : SpW w2 wz wb gb y G hid slx sly T D n q :=
  ⟨h.ch.later b, h.mp.at (b.block _ h.mp.lt), (b.block _ (heap_lt h.gx)).trans h.gx, (b.block _ (heap_lt h.gy)).trans h.gy⟩
set_option maxHeartbeats 4000000 in
set_option maxRecDepth 20000 in
theorem split_any (w : World) (r wb hb : Nat) (rs : Value) (G : List RunG) (hid : St → Bool) (F : Nat → Prop) (h : RopeAt w r wb hb rs G hid) (hF : ∀ x ∈ foot r wb hb rs G, F x) (hL : (flat G).length < 4294967296) (i : Nat) (hi : i < G.length) (h17 : 17 ≤ G[i].ks.length) :
    Calls Try.prog 54 #[ptr r, .int .i64 i] w (SplitP r wb hb G hid F i G[i].ks w) := by
  have A := apart_of h.apart
  have hg := List.getElem_mem hi
  have h33 := h.short _ hg
  obtain ⟨B, cap, rfl, hcell⟩ := runs_form h (by omega)
  obtain ⟨X, cp, hsl, hcp1, hcp2, hit⟩ := items_form h G[i] hg
  have hrun := (h.run _ hg).1
  rw [hsl] at hrun
  have hlen := len_le_flat (w := w) (r := r) (wb := wb) (hb := hb) (rs := Value.nilFunc) (hid := hid) h.ne
  have e0 := blk_cell h.top 0
  have f0 := blk_free h.top 0
  have ec := hcell i hi
  have e1 := blk_cell hrun 0
  have f1 := blk_free hrun 0
  have HCL := Lib.hid (clone_anyS X 32 (G[i].ks.length - 16) (cp - 16) (stL (G[i].ks.drop 16)) w (by omega) (by omega) (by rw [stL_length, List.length_drop]) (fun j u hj => by
    obtain ⟨x, q, hx, hq⟩ := stL_inv hj
    rw [List.getElem?_drop] at hx
    have hxx := hit _ _ hx
    rcases hq with ⟨rfl, rfl⟩ | ⟨rfl, rfl⟩
    · have := hxx.1
      rwa [show (16 + q) * 2 = 32 + q * 2 by omega] at this
    · have := hxx.2
      rwa [show (16 + q) * 2 + 1 = 32 + (q * 2 + 1) by omega] at this) (stL_one _))
  have HR := Lib.hid h
  have HRUN := Lib.hid hrun
  have HSL := Lib.hid hsl
  have hcn : ¬ (cp = 16) := by omega
  have i16 : (16 : Int) ≤ (G[i].ks.length : Int) := by omega
  have hcp3 : (cp : Int) ≤ 9223372036854775807 := by unfold maxLen at hcp2; omega
  clear hcell hit hsl hrun h
  go_enter Try.func54, Try.ntmps54
  go_wp2_with (go_at_call 63; (with_reducible refine HCL.out.mono ?_); rintro e w1 ⟨g2, cap2, rfl, hown2, hb1, hg2⟩; have HO2 := Lib.hid hown2; have hgb1 := (hb1.block _ (heap_lt HRUN.out)).trans HRUN.out; have q1 := blk_cell hgb1 0; have q2 := blk_free hgb1 0; have q3 : ¬ G[i].b = w1.heap.size := (by have h1 := heap_lt HRUN.out; have h2 := hb1.size; omega); have q4 : ¬ w1.heap.size = G[i].b := (fun e => q3 e.symm); have q5 := heap_lt hgb1; have HG1 := Lib.hid hgb1; have HB1 := Lib.hid hb1; clear hown2 hb1 hgb1)
  refine wp_let (fun x => SpB w x r wb hb G[i].b w1.heap.size g2 (.slice (some ⟨B, 0, none⟩) G.length cap) G hid X cp (G[i].ks.length - 16) cap2 (G[i].ks.take 16) (G[i].ks.drop 16)) (spb_of HR.out hi h17 HSL.out HB1.out HO2.out hg2) (fun x hx => ?_)
  have hkt : ∀ x ∈ G[i].ks.drop 16, x ∈ flat G := fun x hx => List.mem_flatMap.2 ⟨G[i], hg, List.mem_of_mem_drop hx⟩
  have hdl : (G[i].ks.drop 16).length = G[i].ks.length - 16 := List.length_drop
  have hDT : SplitP r wb hb G hid F i G[i].ks w = fun e w' => e = .returned (.tuple #[]) ∧ ∃ (rs' : Value) (a b : RunG), a.ks = G[i].ks.take 16 ∧ b.ks = G[i].ks.drop 16 ∧ RopeAt w' r wb hb rs' (cutG G i a b) hid ∧ (∀ x ∈ foot r wb hb rs' (cutG G i a b), F x ∨ w.heap.size ≤ x) ∧ Ch F w w' := rfl
  have HX0 := Lib.hid hx
  have HDT := Lib.hid (show G[i].ks.take 16 ++ G[i].ks.drop 16 = G[i].ks from List.take_append_drop _ _)
  have HX := Lib.hid hx
  have hy := hx.y2
  have HDL := Lib.hid hdl
  have HKT := Lib.hid hkt
  clear hx hdl hkt hDT HX0 e0 f0 ec e1 f1 q1 q2 q3 q4
  generalize hD : G[i].ks.drop 16 = D at HX HDL HKT HDT
  generalize hT : G[i].ks.take 16 = T at HX HDT
  have HDD := Lib.hid hD
  have HTT := Lib.hid hT
  clear hD hT
  go_loopw [36] (fun i' wr => ∃ q : Nat, q ≤ G[i].ks.length - 16 ∧ i' = .int .i64 q ∧ SpW x wr wb G[i].b w1.heap.size G hid (.slice (some ⟨X, 0, none⟩) 16 cp) (.slice (some ⟨g2, 0, none⟩) (G[i].ks.length - 16) cap2) T D (flat G).length q) (fun i' _ => G[i].ks.length - (intOf i').toNat)
  case atStart => exact ⟨0, Nat.zero_le _, rfl, HX.out.sp⟩
  case round =>
    obtain ⟨q, hq, rfl, hsp⟩ := hrel
    have a0 := A.run _ hg
    have hgw := heap_lt HRUN.out
    have hwbw := HR.out.wh.lt
    have hhbw := HR.out.hd.lt
    have hrw := heap_lt HR.out.top
    have hy1 := HX.out.y1
    have hg1 := HX.out.g1
    have hg3 := HX.out.g3
    have ne1 : ¬ r = G[i].b := fun e => a0.1 e.symm
    have ne2 : ¬ r = w1.heap.size := by omega
    have ne3 : ¬ r = wb := A.rw
    have ne4 : ¬ hb = wb := fun e => A.wh e.symm
    have ne5 : ¬ hb = G[i].b := fun e => a0.2.2.1 e.symm
    have ne6 : ¬ hb = w1.heap.size := by omega
    have ne7 : ¬ G[i].b = wb := a0.2.1
    have ne8 : ¬ w1.heap.size = wb := by omega
    have ne9 : ¬ G[i].b = w1.heap.size := by omega
    have htop := hsp.ch.at HX.out.top (fun e => e.elim ne3 (fun e => e.elim ne1 ne2))
    have hhd := hsp.ch
    have hhd := HX.out.hd.ch hsp.ch (fun e => e.elim ne4 (fun e => e.elim ne5 ne6))
    have hoy := own_ch HX.out.oy hsp.ch (fun b hb e => by
      cases hb
      rcases e with e | e | e
      · exact absurd (show g2 = wb from e) (by omega)
      · exact absurd (show g2 = G[i].b from e) (by omega)
      · exact absurd (show g2 = w1.heap.size from e) (by omega))
    by_cases hlt : q < G[i].ks.length - 16
    · have hqD : q < D.length := by rw [HDL.out]; exact hlt
      obtain ⟨_, _, _, cur, k4, k5, k6⟩ := own_partsS hoy
      obtain ⟨d, hd⟩ : ∃ d, D[q] = d := ⟨_, rfl⟩
      have hdq : D[q]? = some d := by rw [List.getElem?_eq_getElem hqD, hd]
      obtain ⟨i0, i1⟩ := stL_get D q d hdq
      have c0 := cell_of_ownS k4 k6 (q * 2) _ i0
      have c1 := cell_of_ownS k4 k6 (q * 2 + 1) _ i1
      have hkf : D[q] ∈ flat G := HKT.out _ (List.getElem_mem hqD)
      have hmore : more (spF G D w1.heap.size q) D[q] (flat G).length = (flat G).length := by
        unfold more spF
        have : ((if D[q] ∈ D.take q then some (ptr w1.heap.size) else whereF G D[q])).isSome = true := by
          split
          · rfl
          · obtain ⟨j, hj, hjk⟩ := mem_run hkf
            rw [whereF_some HR.out.nodup hj hjk]; rfl
        rw [if_pos this]
      have HTOP := Lib.hid htop
      have HHD := Lib.hid hhd
      have HSP := Lib.hid hsp
      have HM := Lib.hid hmore
      have HKF := Lib.hid hkf
      have HD := Lib.hid hd
      have b0 : (0 : Int) ≤ (q : Int) := by omega
      have b1 : (q : Int) < (G[i].ks.length - 16 : Nat) := by omega
      have hwrs : wb < wr.heap.size := by have := hsp.mp.lt; omega
      have hys : w1.heap.size < wr.heap.size := by have := heap_lt hsp.gy; omega
      clear hoy k4 k5 k6 hmore hsp htop hhd hkf a0 hdq i0 i1 hd
      go_upto_region 6 with fail
      refine wp_let (fun z => Below wr.heap.size wr z ∧ z.heap[wr.heap.size]? = some (.cells #[.int .i64 d.1, .int .i64 d.2] 30 (0, 0))) ⟨(Below.refl _ _).alloc (Nat.le_refl _) _, blk_new _ _⟩ (fun z hz => ?_)
      have HZ := Lib.hid (And.intro hz.1.drew (blk_drew hz.2))
      clear hz c0 c1
      have HSP2 := Lib.hid (HSP.out.later HZ.out.1)
      have HT2 := Lib.hid ((HZ.out.1.block _ (heap_lt HTOP.out)).trans HTOP.out)
      have HHD2 := Lib.hid (HHD.out.at (HZ.out.1.block _ HHD.out.lt))
      obtain ⟨wm, hrun, m1, ch1, sz1⟩ := HSP2.out.mp.update keyS Try.underlying95 D[q] (ptr w1.heap.size)
      simp only [HD.out] at hrun
      have t1 := blk_cell HT2.out 1
      have n0 := blk_cell HZ.out.2 0
      have n1 := blk_cell HZ.out.2 1
      have M1 := Lib.hid m1
      have CH1 := Lib.hid ch1
      clear m1 ch1
      go_region
      clear hrun t1 n0 n1
      go_upto_region 7 with fail
      have s1 := blk_cell (blk_drew (CH1.out.at HT2.out ne3)) 2
      have n0 := blk_cell (blk_drew (CH1.out.at HZ.out.2 (by omega))) 0
      have n1 := blk_cell (blk_drew (CH1.out.at HZ.out.2 (by omega))) 1
      have s3 := ((HHD2.out.ch CH1.out ne4).at (w' := wm.drew) rfl).lookup keyS Try.underlying70 (zero_bool wm.drew) D[q]
      rw [hideF, if_pos HKF.out] at s3
      simp only [HD.out] at s3
      cases hh : hid D[q] with
      | true =>
        have HH := Lib.hid hh
        rw [← HD.out, hh] at s3
        simp only [HD.out, Option.getD_some] at s3
        clear hh
        go_region
        go_wp2
        go_roundw
        case rel => exact ⟨q + 1, by omega, by go_num, (HSP2.out.hidden hqD HH.out HM.out M1.out CH1.out ne7 ne8).later ((Below.refl _ _).drew)⟩
        case measure => first | omega | (simp [intOf]; omega) | (simp [RowKit.intOf]; omega)
      | false =>
        have hb1 : cnt hid T ≤ 33 := by
          have h1 := cnt_le hid T
          rw [← HTT.out, List.length_take] at h1
          rw [← HTT.out]
          omega
        have hb2 : cnt hid (D.drop q) ≤ 33 := by
          have h1 := cnt_le hid (D.drop q)
          rw [List.length_drop, HDL.out] at h1
          omega
        have hb3 : cnt hid (D.take q) ≤ 33 := by
          have h1 := cnt_le hid (D.take q)
          rw [List.length_take] at h1
          omega
        have HH := Lib.hid hh
        have ne10 : ¬ w1.heap.size = G[i].b := fun e => ne9 e.symm
        rw [← HD.out, hh] at s3
        simp only [HD.out, Option.getD_some] at s3
        clear hh
        go_region
        clear s1 n0 n1 s3
        have g0 := blk_cell (blk_drew (CH1.out.at HSP2.out.gx ne7)) 1
        have g1 := blk_free (blk_drew (CH1.out.at HSP2.out.gx ne7)) 1
        have g2' := blk_cell (blk_drew (CH1.out.at HSP2.out.gy ne8)) 1
        have g3' := blk_free (blk_drew (CH1.out.at HSP2.out.gy ne8)) 1
        have M2 := Lib.hid (M1.out.at (w' := wm.drew) rfl)
        have CH2 := Lib.hid CH1.out.drew
        generalize wm.drew = wn at *
        go_wp2
        go_roundw
        case rel => exact ⟨q + 1, by omega, by go_num, HSP2.out.shown hqD HH.out HM.out M2.out CH2.out ne7 ne8 ne9 _ _ (by simp) (by simp)⟩
        case measure => first | omega | (simp [intOf]; omega) | (simp [RowKit.intOf]; omega)
    · obtain rfl : q = G[i].ks.length - 16 := by omega
      have t1 := blk_cell htop 0
      have t2 := blk_free htop 0
      have hBw := foot_lt HR.out B (mem_foot_rs rfl)
      obtain ⟨b1, b2, b3, b4⟩ := A.rs B rfl
      have hBg := (b4 _ hg).1
      have hsz := hsp.ch.size
      have hrow : wr.ownsRow 0 101 1 (.slice (some ⟨B, 0, none⟩) G.length cap) G.length (G.map fun g => ptr g.b) := own_ch (own_ch HR.out.runs HX.out.c0 (fun z hz e => by cases hz; exact hBg e)) hsp.ch (fun z hz e => by
        cases hz
        rcases e with e | e | e
        · exact b2 e
        · exact hBg e
        · exact absurd (show B = w1.heap.size from e) (by omega))
      have hins := ins_anyQ (.slice (some ⟨B, 0, none⟩) G.length cap) G.length (i + 1) (G.map fun g => ptr g.b) [ptr w1.heap.size] wr.heap.size (wr.alloc (.cells #[ptr w1.heap.size] 101)) (by omega) (hrow.alloc _) (by omega) (blk_new _ _) (fun e => by
        have : B = wr.heap.size := by simpa [Value.ownBlock] using e
        omega) rfl (fun u hu => by simp at hu; subst hu; rfl) (fun u hu => by obtain ⟨g, _, rfl⟩ := List.mem_map.1 hu; rfl)
      rw [show (((i + 1 : Nat)) : Int) = (i : Int) + 1 by omega] at hins
      have hi1 : (i : Int) + 1 ≤ 4294967296 := by omega
      have HI := Lib.hid hins
      have hs := hsp
      rw [← HDD.out, ← HTT.out] at hs
      have hx := HX.out
      rw [← HDD.out, ← HTT.out] at hx
      have FIN := Lib.hid (fun (w4 : World) (g' cap' : Nat) ho hc hgg => split_fin (w4 := w4) (g' := g') (cap' := cap') HR.out hF hi h17 HSL.out hx hs ho hc hgg)
      have HTOP := Lib.hid htop
      have nBr : ¬ r = B := fun e => b1 e.symm
      clear htop hhd hoy hrow hins hs hx hsp a0 b4
      go_wp2_with (go_at_call 64; (with_reducible refine HI.out.mono ?_); rintro e w4 ⟨g', cap', rfl, ho, hc, hgg⟩; have k1 := blk_cell (hc.at (blk_alloc HTOP.out) (fun e => nBr (by simpa [Value.ownBlock] using e.symm))) 0; have k2 := blk_free (hc.at (blk_alloc HTOP.out) (fun e => nBr (by simpa [Value.ownBlock] using e.symm))) 0; have HO := Lib.hid ho; have HC := Lib.hid hc; have HGG := Lib.hid hgg; clear ho hc hgg)
      go_end0
      exact FIN.out _ _ _ HO.out HC.out (HGG.out.imp (fun e => by simpa [Value.ownBlock] using e) id)
end Go.Proofs.Ytohpablkgfkelaa
