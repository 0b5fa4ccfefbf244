/- A TEXT IN MEMORY: the ends of what hangs on an element: first, last. -/
import Derived.Test.YtohpablkgfkelaaFSearch
import Derived.Test.YtohpablkgfkelaaFTextEl
import Derived.Deep.LoopGhost
namespace Go.Proofs.Ytohpablkgfkelaa
open Go.RowKit Go.Joins
set_option linter.unusedSimpArgs false
set_option linter.unusedVariables false

/-- the box turned to another stamp -/
theorem KB.turn {w y : World} {k q : St} {s : Nat} (h : KB w k s y) (hs : w.heap.size ≤ s) : KB w q s ((y.setCell ⟨s, 0, none⟩ (.int .i64 q.1)).setCell ⟨s, 1, none⟩ (.int .i64 q.2)) :=
  ⟨(h.b.setCell (p := ⟨s, 0, none⟩) hs _).setCell (p := ⟨s, 1, none⟩) hs _, blk_set (i := 1) (blk_set (i := 0) h.bx (.int .i64 q.1)) (.int .i64 q.2)⟩
/-- two boxes -/
structure KB2 (w : World) (k : St) (y : World) : Prop where
  kb : KB w k w.heap.size y
  rb : y.heap[w.heap.size + 1]? = some (.cells #[.int .i64 0, .int .i64 0] 30 (0, 0))
theorem KB2.drew {w y : World} {k : St} (h : KB2 w k y) : KB2 w k y.drew := ⟨h.kb.drew, blk_drew h.rb⟩
theorem KB2.new (w : World) (k : St) : KB2 w k ((w.alloc (.cells #[.int .i64 k.1, .int .i64 k.2] 30)).alloc (.cells #[.int .i64 0, .int .i64 0] 30)) :=
  ⟨(KB.new w k).later ((Below.refl _ _).alloc (Nat.le_refl _) _), blk_at _ _ _ (by simp)⟩
theorem KB2.turn {w y : World} {k : St} (q : St) (h : KB2 w k y) : KB2 w q ((y.setCell ⟨w.heap.size, 0, none⟩ (.int .i64 q.1)).setCell ⟨w.heap.size, 1, none⟩ (.int .i64 q.2)) :=
  ⟨h.kb.turn (Nat.le_refl _), blk_other (blk_other h.rb (by simp)) (by simp)⟩
set_option maxHeartbeats 2000000 in
set_option maxRecDepth 20000 in
theorem last_any (w : World) (t : Nat) (S : Tx) (F : Nat → Prop) (h : Text w t S F) (p : St) (hp : p ∈ S.L) (z : St) (D : List St) (hD : Fl S.K [p] (D ++ [z])) : Calls Try.prog 56 #[ptr t, encS p] w fun e w' => e = .returned (encS z) ∧ Below w.heap.size w w' := by
  obtain ⟨kb, cb, gb, r, sl, F0, hT, -⟩ := h
  have HT := Lib.hid hT
  have HD := Lib.hid hD
  have HP := Lib.hid hp
  clear hT hD hp
  go_enter Try.func56, Try.ntmps56
  go_upto_region 1 with fail
  refine wp_let (KB2 w p) (KB2.new w p) (fun x hx => ?_)
  have HX := Lib.hid hx.drew
  have hT2 := HT.out.later hx.drew.kb.b
  have hl := hT2.kid_run p 2
  have e1 := blk_cell hT2.top 0
  have c0 := hx.drew.kb.c0
  have c1 := hx.drew.kb.c1
  clear hT2 hx
  go_region
  clear hl e1 c0 c1
  generalize x.drew = x2 at *
  go_wp2
  go_loopg [5] (D.length + 1) (fun kx v wr => ∃ (q : St) (D' : List St), v = sl q 2 ∧ D'.length < kx ∧ Aside (q ∈ S.L) ∧ Aside (Fl S.K [q] (D' ++ [z])) ∧ Aside (KB2 w q wr))
  case atStart => exact ⟨p, D, rfl, Nat.lt_succ_self _, HP.out, HD.out, HX.out⟩
  case round =>
    obtain ⟨q, D', rfl, hlen, AQ, AF, AX⟩ := hrel
    have hTr := HT.out.later AX.out.kb.b
    obtain ⟨⟨ao, cap, hsl, hcells⟩, hmax⟩ := own_form (hTr.own q 2)
    rw [hsl]
    have HC := Lib.hid hcells
    clear hTr hsl hcells
    have hst := AF.out.last_step
    rcases Nat.eq_zero_or_pos (S.K q 2).length with h0 | h0
    · have he := List.eq_nil_of_length_eq_zero h0
      obtain ⟨A', hA⟩ := hst.1 he
      have hz : z = q := by
        have h2 := congrArg List.getLast? hA
        simpa using h2
      have HZ := Lib.hid hz
      have k0 := AX.out.kb.c0
      have k1 := AX.out.kb.c1
      have hrb := AX.out.rb
      have hb := AX.out.kb.b
      have HB := Lib.hid hb
      have HRB := Lib.hid hrb
      clear hst he hA hz hb hrb
      go_wp2_with (refine wpList_store_row rfl (.tmp 4) (.tmp 29) 30 rfl (w.heap.size + 1) #[.int .i64 0, .int .i64 0] #[.int .i64 q.1, .int .i64 q.2] rfl rfl HRB.out (by kernel_rfl) rfl (by kernel_rfl) ?_; intro y hc hy; have z0 := blk_cell hy 0; have z1 := blk_cell hy 1; have HCH := Lib.hid hc; clear hc hy)
      refine bodyPost_ret (v := encS q) (by simp [results, Try.results56, go_sem, z0, z1]) rfl ⟨by rw [HZ.out], ?_⟩
      exact ((Ch.of_below (F := fun y => y = w.heap.size + 1) HB.out).trans HCH.out (fun _ _ h => h)).below (Nat.le_refl _) (fun y hy e => by omega)
    · obtain ⟨q2, zs, hK⟩ : ∃ q2 zs, S.K q 2 = zs ++ [q2] := by
        rcases List.eq_nil_or_concat (S.K q 2) with e | ⟨zs, y, e⟩
        · rw [e] at h0; simp at h0
        · exact ⟨y, zs, by simpa using e⟩
      obtain ⟨A', B, hAB, hB, hlt⟩ := hst.2 zs q2 hK
      obtain ⟨D2, hD2⟩ : ∃ D2, B = D2 ++ [z] := by
        rcases List.eq_nil_or_concat B with e | ⟨D2, y, e⟩
        · exact absurd e hB.ne_nil
        · have h2 := congrArg List.getLast? hAB
          rw [e] at h2
          simp at h2
          exact ⟨D2, by rw [e, h2]; simp⟩
      have hq2 : q2 ∈ S.L := HT.out.ok.kid q 2 q2 (by rw [hK]; simp)
      have hlen2 : D2.length + 1 ≤ D'.length := by
        rw [hD2] at hlt
        simp at hlt
        omega
      rw [hD2] at hB
      obtain ⟨A, rfl, i0, i1⟩ := HC.out ((S.K q 2).length - 1) q2 (by rw [hK]; simp)
      have HB := Lib.hid hB
      have HQ := Lib.hid hq2
      have hmax2 : (S.K q 2).length < 9223372036854775808 := Nat.lt_of_le_of_lt hmax (by unfold maxLen; omega)
      have AX2 := Lib.hid (AX.out.turn q2)
      have hb0 := blk_cell AX.out.kb.bx 0
      have hb1 := blk_cell AX.out.kb.bx 1
      have hf0 := blk_free AX.out.kb.bx 0
      have hf1 := blk_free AX.out.kb.bx 1
      clear hst hK hAB hlt hD2 hB hq2 HC hmax
      have b0 : (0 : Int) ≤ ((S.K q 2).length : Int) - 1 := by omega
      have b1 : ((S.K q 2).length : Int) - 1 < ((S.K q 2).length : Int) := by omega
      have b2 : (((S.K q 2).length : Int) - 1).toNat = (S.K q 2).length - 1 := by omega
      go_upto_region 3 with fail
      refine wp_let (KB2 w q2) AX2.out (fun y hy => ?_)
      clear AX2 AX hb0 hb1 hf0 hf1 i0 i1
      have HY := Lib.hid hy.drew
      have hT2 := HT.out.later hy.drew.kb.b
      have hl := hT2.kid_run q2 2
      have e1 := blk_cell hT2.top 0
      have c0 := hy.drew.kb.c0
      have c1 := hy.drew.kb.c1
      clear hT2 hy
      go_region
      clear hl e1 c0 c1
      go_wp2
      go_roundg (gk - 1)
      case measure => omega
      case rel => exact ⟨q2, D2, rfl, by omega, HQ.out, HB.out, HY.out⟩
set_option maxHeartbeats 2000000 in
set_option maxRecDepth 20000 in
theorem first_any (w : World) (t : Nat) (S : Tx) (F : Nat → Prop) (h : Text w t S F) (p : St) (hp : p ∈ S.L) (z : St) (D : List St) (hD : Fl S.K [p] (z :: D)) : Calls Try.prog 57 #[ptr t, encS p] w fun e w' => e = .returned (encS z) ∧ Below w.heap.size w w' := by
  obtain ⟨kb, cb, gb, r, sl, F0, hT, -⟩ := h
  have HT := Lib.hid hT
  have HD := Lib.hid hD
  have HP := Lib.hid hp
  clear hT hD hp
  go_enter Try.func57, Try.ntmps57
  go_upto_region 1 with fail
  refine wp_let (KB2 w p) (KB2.new w p) (fun x hx => ?_)
  have HX := Lib.hid hx.drew
  have hT2 := HT.out.later hx.drew.kb.b
  have hl := hT2.kid_run p 1
  have e1 := blk_cell hT2.top 0
  have c0 := hx.drew.kb.c0
  have c1 := hx.drew.kb.c1
  clear hT2 hx
  go_region
  clear hl e1 c0 c1
  generalize x.drew = x2 at *
  go_wp2
  go_loopg [5] (D.length + 1) (fun kx v wr => ∃ (q : St) (D' : List St), v = sl q 1 ∧ D'.length < kx ∧ Aside (q ∈ S.L) ∧ Aside (Fl S.K [q] (z :: D')) ∧ Aside (KB2 w q wr))
  case atStart => exact ⟨p, D, rfl, Nat.lt_succ_self _, HP.out, HD.out, HX.out⟩
  case round =>
    obtain ⟨q, D', rfl, hlen, AQ, AF, AX⟩ := hrel
    have hTr := HT.out.later AX.out.kb.b
    obtain ⟨⟨ao, cap, hsl, hcells⟩, hmax⟩ := own_form (hTr.own q 1)
    rw [hsl]
    have HC := Lib.hid hcells
    clear hTr hsl hcells
    have hst := AF.out.first_step
    rcases Nat.eq_zero_or_pos (S.K q 1).length with h0 | h0
    · have he := List.eq_nil_of_length_eq_zero h0
      obtain ⟨A', hA⟩ := hst.1 he
      have hz : z = q := by
        have h2 := congrArg List.head? hA
        simpa using h2
      have HZ := Lib.hid hz
      have k0 := AX.out.kb.c0
      have k1 := AX.out.kb.c1
      have hrb := AX.out.rb
      have hb := AX.out.kb.b
      have HB := Lib.hid hb
      have HRB := Lib.hid hrb
      clear hst he hA hz hb hrb
      go_wp2_with (refine wpList_store_row rfl (.tmp 4) (.tmp 26) 30 rfl (w.heap.size + 1) #[.int .i64 0, .int .i64 0] #[.int .i64 q.1, .int .i64 q.2] rfl rfl HRB.out (by kernel_rfl) rfl (by kernel_rfl) ?_; intro y hc hy; have z0 := blk_cell hy 0; have z1 := blk_cell hy 1; have HCH := Lib.hid hc; clear hc hy)
      refine bodyPost_ret (v := encS q) (by simp [results, Try.results57, go_sem, z0, z1]) rfl ⟨by rw [HZ.out], ?_⟩
      exact ((Ch.of_below (F := fun y => y = w.heap.size + 1) HB.out).trans HCH.out (fun _ _ h => h)).below (Nat.le_refl _) (fun y hy e => by omega)
    · obtain ⟨q2, zs, hK⟩ : ∃ q2 zs, S.K q 1 = q2 :: zs := by
        cases e : S.K q 1 with
        | nil => rw [e] at h0; simp at h0
        | cons y zs => exact ⟨y, zs, rfl⟩
      obtain ⟨A', B, hAB, hB, hlt⟩ := hst.2 q2 zs hK
      obtain ⟨D2, hD2⟩ : ∃ D2, B = z :: D2 := by
        cases e : B with
        | nil => exact absurd e hB.ne_nil
        | cons y D2 =>
          have h2 := congrArg List.head? hAB
          rw [e] at h2
          simp at h2
          exact ⟨D2, by rw [h2]⟩
      have hq2 : q2 ∈ S.L := HT.out.ok.kid q 1 q2 (by rw [hK]; simp)
      have hlen2 : D2.length + 1 ≤ D'.length := by
        rw [hD2] at hlt
        simp at hlt
        omega
      rw [hD2] at hB
      obtain ⟨A, rfl, i0, i1⟩ := HC.out (0) q2 (by rw [hK]; simp)
      have HB := Lib.hid hB
      have HQ := Lib.hid hq2
      have hmax2 : (S.K q 1).length < 9223372036854775808 := Nat.lt_of_le_of_lt hmax (by unfold maxLen; omega)
      have AX2 := Lib.hid (AX.out.turn q2)
      have hb0 := blk_cell AX.out.kb.bx 0
      have hb1 := blk_cell AX.out.kb.bx 1
      have hf0 := blk_free AX.out.kb.bx 0
      have hf1 := blk_free AX.out.kb.bx 1
      clear hst hK hAB hlt hD2 hB hq2 HC hmax
      have b1 : (0 : Int) < ((S.K q 1).length : Int) := by omega
      go_upto_region 3 with fail
      refine wp_let (KB2 w q2) AX2.out (fun y hy => ?_)
      clear AX2 AX hb0 hb1 hf0 hf1 i0 i1
      have HY := Lib.hid hy.drew
      have hT2 := HT.out.later hy.drew.kb.b
      have hl := hT2.kid_run q2 1
      have e1 := blk_cell hT2.top 0
      have c0 := hy.drew.kb.c0
      have c1 := hy.drew.kb.c1
      clear hT2 hy
      go_region
      clear hl e1 c0 c1
      go_wp2
      go_roundg (gk - 1)
      case measure => omega
      case rel => exact ⟨q2, D2, rfl, by omega, HQ.out, HB.out, HY.out⟩
end Go.Proofs.Ytohpablkgfkelaa
