/- DOES ONE HANG ON ANOTHER: the law's own walk up the acts. -/
import Derived.Test.YtohpablkgfkelaaFTold
namespace Go.Proofs.Ytohpablkgfkelaa
open Go.RowKit Go.Joins
set_option linter.unusedSimpArgs false
set_option linter.unusedVariables false

/-- the two boxes -/
structure HB (w : World) (cur top : St) (y : World) : Prop where
  b : Below w.heap.size w y
  cb : y.heap[w.heap.size]? = some (.cells #[.int .i64 cur.1, .int .i64 cur.2] 30 (0, 0))
  tb : y.heap[w.heap.size + 1]? = some (.cells #[.int .i64 top.1, .int .i64 top.2] 30 (0, 0))
theorem HB.new (w : World) (x p : St) : HB w x p ((w.alloc (stO x)).alloc (stO p)) :=
  ⟨((Below.refl _ _).alloc (Nat.le_refl _) _).alloc (by simp) _, blk_alloc (blk_new _ _), blk_at _ _ _ (by simp)⟩
theorem HB.later {w y z : World} {x p : St} (h : HB w x p y) (b : Below y.heap.size y z) : HB w x p z :=
  ⟨h.b.trans (b.mono h.b.size), (b.block _ (heap_lt h.cb)).trans h.cb, (b.block _ (heap_lt h.tb)).trans h.tb⟩
theorem HB.drew {w y : World} {x p : St} (h : HB w x p y) : HB w x p y.drew := h.later (Below.refl _ _).drew
theorem HB.turn {w y : World} {x p : St} (q : St) (h : HB w x p y) : HB w q p ((y.setCell ⟨w.heap.size, 0, none⟩ (.int .i64 q.1)).setCell ⟨w.heap.size, 1, none⟩ (.int .i64 q.2)) :=
  ⟨(h.b.setCell (p := ⟨w.heap.size, 0, none⟩) (Nat.le_refl _) _).setCell (p := ⟨w.heap.size, 1, none⟩) (Nat.le_refl _) _, blk_set (i := 1) (blk_set (i := 0) h.cb (.int .i64 q.1)) (.int .i64 q.2), blk_other (blk_other h.tb (by simp)) (by simp)⟩
/-- how far up -/
def Up (l : List ActG) (cur : St) (k : Nat) : Prop := cur = (0, 0) ∨ ∃ (j : Nat) (a : ActG), l[j]? = some a ∧ a.kd = 1 ∧ a.id = cur ∧ k + j + 1 ≤ l.length
/-- the act that put it in, among the first i -/
def Got (l : List ActG) (cur : St) (i : Nat) (v : Int) : Prop := (v = -1 ∧ ∀ (j : Nat) (a : ActG), j < i → l[j]? = some a → ¬ (a.kd = 1 ∧ a.id = cur)) ∨ ∃ (j : Nat) (a : ActG), v = j ∧ j < i ∧ l[j]? = some a ∧ a.kd = 1 ∧ a.id = cur
theorem Got.no {l : List ActG} {cur : St} {i : Nat} {v : Int} (h : Got l cur i v) {a : ActG} (ha : l[i]? = some a) (hn : ¬ (a.kd = 1 ∧ a.id = cur)) : Got l cur (i + 1) v := by
  rcases h with ⟨h1, h2⟩ | ⟨j, b, h1, h2, h3⟩
  · refine .inl ⟨h1, fun j b hj hb => ?_⟩
    rcases Nat.lt_or_ge j i with e | e
    · exact h2 j b e hb
    · obtain rfl : j = i := by omega
      rw [ha] at hb
      obtain rfl := Option.some.inj hb
      exact hn
  · exact .inr ⟨j, b, h1, by omega, h3⟩
theorem Got.yes {l : List ActG} {cur : St} {i : Nat} {a : ActG} (ha : l[i]? = some a) (hy : a.kd = 1 ∧ a.id = cur) : Got l cur (i + 1) i := .inr ⟨i, a, rfl, by omega, ha, hy⟩
theorem Up.none {l : List ActG} {cur : St} {k : Nat} {v : Int} (h : Up l cur k) (g : Got l cur l.length v) (hv : v < 0) : cur = (0, 0) := by
  rcases h with e | ⟨j, a, ha, h1, h2, _⟩
  · exact e
  · rcases g with ⟨_, g⟩ | ⟨j2, _, e, _⟩
    · exact absurd ⟨h1, h2⟩ (g j a (List.getElem?_eq_some_iff.1 ha).1 ha)
    · omega
theorem Up.next {l : List ActG} {S : Tx} (hT : Told l S) {cur : St} {k : Nat} {j : Nat} {a : ActG} (h : Up l cur k) (ha : l[j]? = some a) (h1 : a.kd = 1) (h2 : a.id = cur) : Up l a.par (k + 1) := by
  have hj : k + j + 1 ≤ l.length := by
    rcases h with e | ⟨j2, b, hb, b1, b2, b3⟩
    · exact absurd (h2.trans e) (right_ne (hT.arg a (List.mem_of_getElem? ha) h1).1)
    · have := hT.uniq j j2 a b ha hb h1 b1 (h2.trans b2.symm)
      omega
  rcases hT.early j a ha h1 with e | ⟨j2, b, hb, h3, h4, h5⟩
  · exact .inl e
  · exact .inr ⟨j2, b, h3, h4, h5, by omega⟩
set_option maxHeartbeats 8000000 in
set_option maxRecDepth 20000 in
theorem hangs_any (w : World) (ao : Option Addr) (cap : Nat) (l : List ActG) (S : Tx) (hT : Told l S) (hA : ActsAt w ao l) (hlen : l.length ≤ 80) (top : St) (D : List St) (hD : ∀ a ∈ l, a.kd = 1 → a.id ≠ top → (a.id ∈ D ↔ a.par ∈ D)) (htop : top ∈ D) (h0 : (0, 0) ∉ D) (id : St) (hid : id ∈ S.L) :
    Calls Try.prog 19 #[.slice ao l.length cap, encS id, encS top] w fun e w' => e = .returned (.bool (decide (id ∈ D))) ∧ Below w.heap.size w w' := by
  have HT := Lib.hid hT
  have HA := Lib.hid hA
  have HD := Lib.hid hD
  have HTOP := Lib.hid htop
  have H00 := Lib.hid h0
  have hup : Up l id 0 := by
    obtain ⟨a, ha, h1, h2⟩ := (hT.mem id).1 hid
    obtain ⟨j, hj⟩ := List.mem_iff_getElem?.1 ha
    exact .inr ⟨j, a, hj, h1, h2, by have := (List.getElem?_eq_some_iff.1 hj).1; omega⟩
  have HUP := Lib.hid hup
  obtain ⟨d, hd⟩ : ∃ d, decide (id ∈ D) = d := ⟨_, rfl⟩
  rw [hd]
  have HDD := Lib.hid hd
  clear hT hA hD htop h0 hup hid hd
  have hgs := run_stGuard
  go_enter Try.func19, Try.ntmps19
  go_upto_region 1 with fail
  refine wp_let (HB w id top) (HB.new w id top) (fun x hx => ?_)
  have HX := Lib.hid hx
  clear hx
  go_wp2
  go_loopw [7] (fun k wr => ∃ (n : Nat) (cur : St), k = .int .i64 n ∧ n ≤ l.length + 1 ∧ Aside (cur ∈ D ↔ id ∈ D) ∧ Aside (Up l cur n) ∧ Aside (HB w cur top wr)) (fun k _ => l.length + 2 - (intOf k).toNat)
  case atStart => exact ⟨0, id, rfl, Nat.zero_le _, Iff.rfl, HUP.out, HX.out⟩
  case round =>
    obtain ⟨n, cur, rfl, hn, AI, AU, AX⟩ := hrel
    by_cases hnl : n ≤ l.length
    · have c0 := blk_cell AX.out.cb 0
      have c1 := blk_cell AX.out.cb 1
      have t0 := blk_cell AX.out.tb 0
      have t1 := blk_cell AX.out.tb 1
      by_cases hct : cur = top
      · have heq := fun w => st_eq (a := cur) (b := top) (decide_eq_true hct) w
        have hdt : d = true := by rw [← HDD.out]; exact decide_eq_true (AI.out.1 (hct ▸ HTOP.out))
        have HDT := Lib.hid hdt
        clear hct hdt
        go_wp2
        go_ret
        exact ⟨congrArg (fun b => Ending.returned (.bool b)) HDT.out.symm, AX.out.b⟩
      · have heq := fun w => st_eq (a := cur) (b := top) (decide_eq_false hct) w
        have HCT := Lib.hid hct
        clear hct
        go_wp2
        clear c0 c1 t0 t1
        go_loopw [8, 9] (fun v i wr2 => ∃ (q : Nat) (at' : Int), i = .int .i64 q ∧ v = .int .i64 at' ∧ q ≤ l.length ∧ Aside (Got l cur q at') ∧ Aside (HB w cur top wr2)) (fun _ i _ => l.length - (intOf i).toNat)
        case atStart => exact ⟨0, -1, rfl, rfl, Nat.zero_le _, .inl ⟨rfl, fun j a h => by omega⟩, AX.out⟩
        case round =>
          obtain ⟨q, at', rfl, rfl, hq, AG, AX2⟩ := hrel
          by_cases hql : q < l.length
          · obtain ⟨a, ha⟩ : ∃ a, l[q]? = some a := ⟨_, List.getElem?_eq_getElem hql⟩
            obtain ⟨B1, off, rfl, -, hc⟩ := HA.out.below AX2.out.drew.b q a ha
            have d0 := hc 0 _ rfl
            have d1 := hc 1 _ rfl
            have d2 := hc 2 _ rfl
            simp only [Nat.add_zero] at d0
            have c0 := blk_cell AX2.out.drew.cb 0
            have c1 := blk_cell AX2.out.drew.cb 1
            have b0 : (0 : Int) ≤ (q : Int) := by omega
            have b1 : (q : Int) < (l.length : Int) := by omega
            have HQ := Lib.hid ha
            clear hc ha
            by_cases hkd : a.kd = 1
            · have k1 : (a.kd == 1) = true := beq_iff_eq.2 hkd
              by_cases hac : a.id = cur
              · have heq2 := fun w => st_eq (a := a.id) (b := cur) (decide_eq_true hac) w
                have HY := Lib.hid (And.intro hkd hac)
                clear hkd hac
                go_wp2
                go_region
                go_wp2
                go_roundw
                case rel => exact ⟨q + 1, q, by go_num, rfl, by omega, Got.yes HQ.out HY.out, AX2.out.drew⟩
                case measure => simp [intOf]; omega
              · have heq2 := fun w => st_eq (a := a.id) (b := cur) (decide_eq_false hac) w
                have HY := Lib.hid hac
                clear hkd hac
                go_wp2
                go_region
                go_wp2
                go_roundw
                case rel => exact ⟨q + 1, at', by go_num, rfl, by omega, AG.out.no HQ.out (fun h => HY.out h.2), AX2.out.drew⟩
                case measure => simp [intOf]; omega
            · have k1 : (a.kd == 1) = false := beq_eq_false_iff_ne.2 hkd
              have HY := Lib.hid hkd
              clear hkd
              go_wp2
              go_region
              go_wp2
              go_roundw
              case rel => exact ⟨q + 1, at', by go_num, rfl, by omega, AG.out.no HQ.out (fun h => HY.out h.1), AX2.out.drew⟩
              case measure => simp [intOf]; omega
          · obtain rfl : q = l.length := by omega
            by_cases hat : at' < 0
            · have hdf : d = false := by
                rw [← HDD.out]
                exact decide_eq_false (fun h => H00.out (AU.out.none AG.out hat ▸ AI.out.2 h))
              have HDF := Lib.hid hdf
              clear hdf
              go_wp2
              go_ret
              exact ⟨congrArg (fun b => Ending.returned (.bool b)) HDF.out.symm, AX2.out.b⟩
            · obtain ⟨j, a, rfl, hjl, ha, h1, h2⟩ : ∃ (j : Nat) (a : ActG), at' = j ∧ j < l.length ∧ l[j]? = some a ∧ a.kd = 1 ∧ a.id = cur := by
                rcases AG.out with ⟨h, _⟩ | h
                · omega
                · exact h
              obtain ⟨B1, off, rfl, -, hc⟩ := HA.out.below AX2.out.b j a ha
              have d3 := hc 3 _ rfl
              have d4 := hc 4 _ rfl
              have c0 := blk_cell AX2.out.cb 0
              have c1 := blk_cell AX2.out.cb 1
              have f0 := blk_free AX2.out.cb 0
              have f1 := blk_free AX2.out.cb 1
              have b0 : (0 : Int) ≤ (j : Int) := by omega
              have b1 : (j : Int) < (l.length : Int) := by omega
              have HUN := Lib.hid (AU.out.next HT.out ha h1 h2)
              have hin := HD.out a (List.mem_of_getElem? ha) h1 (fun e => HCT.out (h2.symm.trans e))
              rw [h2] at hin
              have HIN := Lib.hid (hin.symm.trans AI.out)
              clear hc ha h1 h2 hin hat
              go_wp2
              go_roundw
              case rel => exact ⟨n + 1, a.par, by go_num, by omega, HIN.out, HUN.out, AX2.out.turn a.par⟩
              case measure => simp [intOf]; omega
    · have hc0 : cur = (0, 0) := by
        rcases AU.out with e | ⟨j, a, _, _, _, e⟩
        · exact e
        · omega
      have hdf : d = false := by rw [← HDD.out]; exact decide_eq_false (fun h => H00.out (hc0 ▸ AI.out.2 h))
      have HDF := Lib.hid hdf
      clear hc0 hdf
      go_wp2
      go_ret
      exact ⟨congrArg (fun b => Ending.returned (.bool b)) HDF.out.symm, AX.out.b⟩
end Go.Proofs.Ytohpablkgfkelaa
