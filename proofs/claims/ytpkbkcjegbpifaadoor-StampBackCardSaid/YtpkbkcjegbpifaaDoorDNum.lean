/- THE CLOSURE OF PARSE: figures read; what it captured is told whole. -/
import Derived.Test.YtpkbkcjegbpifaaDoorDScan
import Derived.Test.YtpkbkcjegbpifaaDoorHeap
import Derived.Laws.IdiomStrings
import Derived.BigGuard
namespace Go.Proofs.YtpkbkcjegbpifaaDoor
open Go.RowKit Go.Lib
set_option linter.unusedSimpArgs false
set_option linter.unusedVariables false

def numV (l : List UInt8) : Int := (scan l 0).getD 0
def numOk (l : List UInt8) (k : Bool) : Bool := k && (scan l 0).isSome && shape l
/-- a step of figures -/
theorem scan_step (l : List UInt8) (k : Nat) (hk : k < l.length) (m : Int) (h : scan (l.drop k) m = scan l 0) :
    (badC l[k] ∨ 1048576 < m → scan l 0 = none) ∧ (¬ badC l[k] → ¬ 1048576 < m → scan (l.drop (k + 1)) (10 * m + ((l[k].toNat : Int) - 48)) = scan l 0) := by
  rw [List.drop_eq_getElem_cons hk, scan] at h
  constructor
  · intro hb; rw [if_pos hb] at h; exact h.symm
  · intro h1 h2; rw [if_neg (fun h => h.elim h1 h2)] at h; exact h
/-- behind the conversion to bytes -/
structure Cv (s : ByteArray) (ob : Nat) (k : Bool) (w x : World) : Prop where
  ch : Ch (fun _ => False) w x
  size : x.heap.size = w.heap.size + 1
  byte : ∀ i (h : i < s.data.toList.length), x.cell? ⟨w.heap.size, i, none⟩ = some (.int .u8 (s.data.toList[i].toNat : Int))
  ok : x.heap[ob]? = some (.cells #[.bool k] 4 (0, 0))
theorem cv_of (s : ByteArray) (ob : Nat) (k : Bool) (w : World) (hc : w.heap[ob]? = some (.cells #[.bool k] 4 (0, 0))) (cap : Nat) (e : TypeId) (fr : Nat × Nat) :
    Cv s ob k w (w.alloc (.cells (bytesRow s cap) e fr)) := by
  refine ⟨(Ch.refl _ _).alloc _, by simp, fun i h => ?_, blk_alloc hc⟩
  have hb : (w.alloc (.cells (bytesRow s cap) e fr)).heap[w.heap.size]? = some (.cells (bytesRow s cap) e fr) := blk_at _ _ _ rfl
  rw [blk_cell hb]
  unfold bytesRow
  have hi : i < s.data.size := by simpa using h
  rw [Array.getElem?_append_left (by simpa using h), Array.getElem?_map, Array.getElem?_eq_getElem hi]
  simp
theorem Cv.drew {s : ByteArray} {ob : Nat} {k : Bool} {w x : World} (h : Cv s ob k w x) : Cv s ob k w x.drew := ⟨h.ch.drew, h.size, h.byte, h.ok⟩
theorem num_none {l : List UInt8} {k : Bool} (h : scan l 0 = none) : numV l = 0 ∧ numOk l k = false := by
  unfold numV numOk; rw [h]; simp
theorem num_some {l : List UInt8} {k : Bool} {m : Int} (h : scan l 0 = some m) : numV l = m ∧ numOk l k = (k && shape l) := by
  unfold numV numOk; rw [h]; simp
theorem set_ok {w : World} {ob : Nat} {a b : Bool} (h : w.heap[ob]? = some (.cells #[.bool a] 4 (0, 0))) : (w.setCell ⟨ob, 0, none⟩ (.bool b)).heap[ob]? = some (.cells #[.bool b] 4 (0, 0)) := blk_set h _
set_option maxHeartbeats 1000000 in
theorem num_any (s : ByteArray) (hs : s.size ≤ maxLen) (ob : Nat) (k : Bool) (w : World) (hc : w.heap[ob]? = some (.cells #[.bool k] 4 (0, 0))) :
    Calls Tryd.prog 14 #[.string s, .pointer (some ⟨ob, 0, none⟩)] w fun e w' => e = .returned (.int .i64 (numV s.data.toList)) ∧
      Ch (fun x => x = ob) w w' ∧ w'.heap[ob]? = some (.cells #[.bool (numOk s.data.toList k)] 4 (0, 0)) := by
  have hcv := fun w : World => run_bytes_of_string (P := Tryd.prog) w 9 35 5 s Tryd.underlying9 Tryd.underlying35 Tryd.underlying5
  have HC := Lib.hid hc
  clear hc
  unfold maxLen at hs
  have hsz : s.data.toList.length = s.size := rfl
  have HSZ := Lib.hid hsz
  clear hsz
  go_enter Tryd.func14, Tryd.ntmps14
  go_wp2
  generalize grownCap w s.size 0 5 = cap
  refine wp_let (Cv s ob k w) (Cv.drew (cv_of s ob k w HC.out _ _ _)) (fun x hx => ?_)
  have HX := Lib.hid hx
  clear hx hcv
  go_loop [4, 10] (fun n i => ∃ (j : Nat) (m : Int), j ≤ s.size ∧ i = .int .i64 j ∧ n = .int .i64 m ∧ 0 ≤ m ∧ m ≤ 10485769 ∧ scan (s.data.toList.drop j) m = scan s.data.toList 0) (fun _ i => s.size - (RowKit.intOf i).toNat)
  case atStart => exact ⟨0, 0, by omega, rfl, rfl, by omega, by omega, rfl⟩
  case round =>
    obtain ⟨j, m, hj, rfl, rfl, h0, h1, hscan⟩ := hrel
    have HS := Lib.hid hscan
    clear hscan
    by_cases hlt : j < s.size
    · have hl : j < s.data.toList.length := hlt
      obtain ⟨hbad, hgood⟩ := scan_step _ j hl m HS.out
      have hcell := HX.out.byte j hl
      have hb256 : s.data.toList[j].toNat < 256 := UInt8.toNat_lt _
      have e0 := blk_cell HX.out.ok 0
      have e1 := blk_free HX.out.ok 0
      generalize s.data.toList[j] = c at *
      have HB := Lib.hid hbad
      have HG := Lib.hid hgood
      clear hbad hgood
      unfold badC at HB HG
      have hbad0 : (c.toNat < 48 ∨ 57 < c.toNat) ∨ 1048576 < m → scan s.data.toList 0 = none := HB.out
      by_cases c1 : c.toNat < 48
      · have hn := Lib.hid (num_none (k := k) (hbad0 (Or.inl (Or.inl c1))))
        clear hbad0
        have d1 : decide ((c.toNat : Int) < 48) = true := by simp; omega
        go_wp2
        go_ret
        exact ⟨congrArg (fun n => Ending.returned (.int .i64 n)) hn.out.1.symm, (HX.out.ch.mono (fun _ _ h => h.elim)).setCell _ _ (fun _ => rfl), by rw [hn.out.2]; exact set_ok HX.out.ok⟩
      · have d1 : decide ((c.toNat : Int) < 48) = false := by simp; omega
        by_cases c2 : 57 < c.toNat
        · have hn := Lib.hid (num_none (k := k) (hbad0 (Or.inl (Or.inr c2))))
          clear hbad0
          have d2 : decide (57 < (c.toNat : Int)) = true := by simp; omega
          go_wp2
          go_ret
          exact ⟨congrArg (fun n => Ending.returned (.int .i64 n)) hn.out.1.symm, (HX.out.ch.mono (fun _ _ h => h.elim)).setCell _ _ (fun _ => rfl), by rw [hn.out.2]; exact set_ok HX.out.ok⟩
        · have d2 : decide (57 < (c.toNat : Int)) = false := by simp; omega
          by_cases c3 : 1048576 < m
          · have hn := Lib.hid (num_none (k := k) (hbad0 (Or.inr c3)))
            clear hbad0
            go_wp2
            go_ret
            exact ⟨congrArg (fun n => Ending.returned (.int .i64 n)) hn.out.1.symm, (HX.out.ch.mono (fun _ _ h => h.elim)).setCell _ _ (fun _ => rfl), by rw [hn.out.2]; exact set_ok HX.out.ok⟩
          · have d3 : decide (1048576 < m) = false := by simp; omega
            clear hbad0
            have hc48 : 48 ≤ (c.toNat : Int) := by omega
            have hc57 : (c.toNat : Int) ≤ 57 := by omega
            have hm3 : m ≤ 1048576 := by omega
            have hg := Lib.hid (HG.out (by omega) (by omega))
            clear c1 c2 c3
            go_wp2
            go_round
            case rel => exact ⟨j + 1, 10 * m + ((c.toNat : Int) - 48), by omega, by go_num, rfl, by omega, by omega, hg.out⟩
            case measure => simp [RowKit.intOf]; omega
    · have hj2 : j = s.data.toList.length := by have := HSZ.out; omega
      have hfin : scan s.data.toList 0 = some m := by
        have := HS.out
        rw [hj2, List.drop_length, scan] at this
        exact this.symm
      have hn := Lib.hid (num_some (k := k) hfin)
      have e0 := blk_cell HX.out.ok 0
      have e1 := blk_free HX.out.ok 0
      clear hfin hj2
      have hd : decide ((j : Int) < (s.size : Int)) = false := by simp; omega
      cases k with
      | false =>
        go_wp2
        go_ret
        exact ⟨congrArg (fun n => Ending.returned (.int .i64 n)) hn.out.1.symm, (HX.out.ch.mono (fun _ _ h => h.elim)).setCell _ _ (fun _ => rfl), by rw [hn.out.2]; exact set_ok HX.out.ok⟩
      | true =>
        by_cases s1 : s.size = 1
        · have d1 : ((s.size : Int) == 1) = true := by simp; omega
          have hsh := Lib.hid (show shape s.data.toList = true by unfold shape; rw [HSZ.out, s1]; rfl)
          clear s1
          go_wp2
          go_ret
          exact ⟨congrArg (fun n => Ending.returned (.int .i64 n)) hn.out.1.symm, (HX.out.ch.mono (fun _ _ h => h.elim)).setCell _ _ (fun _ => rfl), by rw [hn.out.2, hsh.out]; exact set_ok HX.out.ok⟩
        · have d1 : ((s.size : Int) == 1) = false := by simp; omega
          by_cases s2 : 1 < s.size
          · have d2 : decide (1 < (s.size : Int)) = true := by simp; omega
            have hp : 0 < s.size := by omega
            have hhead : s.data.toList.head? = some (s[0]'hp) := by
              rw [List.head?_eq_getElem?, List.getElem?_eq_getElem (show 0 < s.data.toList.length from hp)]
              rfl
            by_cases hz : (s[0]'hp).toNat = 48
            · have z1 : (((s[0]'hp).toNat : Int) == 48) = true := by simp; omega
              have z2 : (((s[0]'hp).toNat : Int) != 48) = false := by simp; omega
              have hsh := Lib.hid (show shape s.data.toList = false by
                unfold shape
                rw [hhead, HSZ.out, show (s.size == 1) = false by simp; omega, show s[0]'hp = 48 from UInt8.toNat_inj.1 hz]
                simp)
              have HH := Lib.hid hhead
              clear hhead hz s1 s2
              go_wp2
              go_ret
              exact ⟨congrArg (fun n => Ending.returned (.int .i64 n)) hn.out.1.symm, (HX.out.ch.mono (fun _ _ h => h.elim)).setCell _ _ (fun _ => rfl), by rw [hn.out.2, hsh.out]; exact set_ok HX.out.ok⟩
            · have z1 : (((s[0]'hp).toNat : Int) == 48) = false := by simp; omega
              have z2 : (((s[0]'hp).toNat : Int) != 48) = true := by simp; omega
              have hsh := Lib.hid (show shape s.data.toList = true by
                have : ¬ s[0]'hp = 48 := fun e => hz (by rw [e]; rfl)
                unfold shape
                rw [hhead, HSZ.out, show (some (s[0]'hp) == some (48 : UInt8)) = (s[0]'hp == 48) from rfl, beq_eq_false_iff_ne.2 this]
                simp; omega)
              have HH := Lib.hid hhead
              clear hhead hz s1 s2
              go_wp2
              go_ret
              exact ⟨congrArg (fun n => Ending.returned (.int .i64 n)) hn.out.1.symm, (HX.out.ch.mono (fun _ _ h => h.elim)).setCell _ _ (fun _ => rfl), by rw [hn.out.2, hsh.out]; exact set_ok HX.out.ok⟩
          · have d2 : decide (1 < (s.size : Int)) = false := by simp; omega
            have hsh := Lib.hid (show shape s.data.toList = false by unfold shape; rw [HSZ.out]; have a1 : (s.size == 1) = false := by simp; omega
                                                                     rw [a1]; simp; omega)
            clear s1 s2
            go_wp2
            go_ret
            exact ⟨congrArg (fun n => Ending.returned (.int .i64 n)) hn.out.1.symm, (HX.out.ch.mono (fun _ _ h => h.elim)).setCell _ _ (fun _ => rfl), by rw [hn.out.2, hsh.out]; exact set_ok HX.out.ok⟩
end Go.Proofs.YtpkbkcjegbpifaaDoor
