/- A KEY BETWEEN TWO KEYS: package orderkey's middle computes it. -/
import Derived.Test.YtdhhjojfakkjoaaKMid
import Derived.Laws.BytesArg
namespace Go.Proofs.Ytdhhjojfakkjoaa
open Go.RowKit Go.Joins
set_option linter.unusedSimpArgs false
set_option linter.unusedVariables false

def val (b : UInt8) : Nat := (figV b).toNat
def chr (v : Nat) : UInt8 := figs.getD v 0
theorem val_bytes : ∀ n : Fin 256, fig (UInt8.ofNat n.val) = true → figV (UInt8.ofNat n.val) = (val (UInt8.ofNat n.val) : Int) ∧ val (UInt8.ofNat n.val) < 36 ∧ chr (val (UInt8.ofNat n.val)) = UInt8.ofNat n.val := by decide +kernel
theorem val_fig (b : UInt8) (h : fig b = true) : figV b = (val b : Int) ∧ val b < 36 ∧ chr (val b) = b := by
  have k := val_bytes ⟨b.toNat, b.toNat_lt⟩
  simp only [ofNat_toNat8] at k
  exact k h
theorem chr_vals : ∀ v : Fin 36, fig (chr v.val) = true ∧ val (chr v.val) = v.val ∧ (chr v.val = 48 → v.val = 0) := by decide +kernel
theorem chr_fig {v : Nat} (h : v < 36) : fig (chr v) = true := (chr_vals ⟨v, h⟩).1
theorem val_chr {v : Nat} (h : v < 36) : val (chr v) = v := (chr_vals ⟨v, h⟩).2.1
theorem chr_zero {v : Nat} (h : v < 36) (k : chr v = 48) : v = 0 := (chr_vals ⟨v, h⟩).2.2 k
theorem chr_lts : ∀ v w : Fin 36, decide (chr v.val < chr w.val) = decide (v.val < w.val) := by decide +kernel
theorem chr_lt {v w : Nat} (h : v < 36) (k : w < 36) : decide (chr v < chr w) = decide (v < w) := chr_lts ⟨v, h⟩ ⟨w, k⟩
theorem chr_eq {v w : Nat} (h : v < 36) (k : w < 36) : (chr v == chr w) = (v == w) := by
  rw [Bool.eq_iff_iff, beq_iff_eq, beq_iff_eq]
  constructor
  · intro e; rw [← val_chr h, ← val_chr k, e]
  · rintro rfl; rfl
theorem less_map : ∀ (a b : List Nat), Figs a → Figs b → Op.bytesLess (a.map chr) (b.map chr) = ltN a b
  | _, [], _, _ => by simp [Op.bytesLess, ltN]
  | [], y :: b, _, _ => by simp [Op.bytesLess, ltN]
  | x :: a, y :: b, ha, hb => by
    have hx : x < 36 := ha x (by simp)
    have hy : y < 36 := hb y (by simp)
    simp only [List.map_cons, Op.bytesLess, ltN, chr_eq hx hy, less_map a b (fun z hz => ha z (by simp [hz])) (fun z hz => hb z (by simp [hz]))]
    rw [chr_lt hx hy]
def vals (s : ByteArray) : List Nat := s.data.toList.map val
theorem vals_length (s : ByteArray) : (vals s).length = s.size := by rw [vals, List.length_map, Lib.size_eq]
theorem vals_figs {s : ByteArray} (h : s.data.toList.all fig = true) : Figs (vals s) := by
  intro x hx
  obtain ⟨b, hb, rfl⟩ := List.mem_map.1 hx
  exact (val_fig b (List.all_eq_true.1 h b hb)).2.1
theorem vals_back {s : ByteArray} (h : s.data.toList.all fig = true) : (vals s).map chr = s.data.toList := by
  unfold vals
  rw [List.map_map]
  conv => rhs; rw [← List.map_id s.data.toList]
  exact List.map_congr_left fun b hb => (val_fig b (List.all_eq_true.1 h b hb)).2.2
theorem fig_at {s : ByteArray} (h : s.data.toList.all fig = true) (i : Nat) (hi : i < s.size) : fig s[i] = true :=
  List.all_eq_true.1 h _ (Array.mem_toList_iff.2 (Array.getElem_mem (xs := s.data) hi))
theorem vals_at {s : ByteArray} (i : Nat) (hi : i < s.size) : ((vals s).drop i).headD 0 = val s[i] := by
  have hl : i < (vals s).length := by rw [vals_length]; exact hi
  rw [List.drop_eq_getElem_cons hl, List.headD_cons]
  simp only [vals, List.getElem_map]
  rfl
theorem vals_past {s : ByteArray} (i : Nat) (hi : s.size ≤ i) : ((vals s).drop i).headD 0 = 0 := by
  rw [List.drop_eq_nil_of_le (by rw [vals_length]; exact hi)]; rfl

theorem figure_any (k : ByteArray) (hs : k.size ≤ maxLen) (h : k.data.toList.all fig = true) (i : Nat) (w : World) : Calls Try.prog 17 #[.string k, .int .i64 i] w fun e w' => e = .returned (.int .i64 (((vals k).drop i).headD 0 : Nat)) ∧ w' = w := by
  unfold maxLen at hs
  by_cases hi : i < k.size
  · have hv : figV k[i] = (((vals k).drop i).headD 0 : Nat) := by rw [vals_at i hi]; exact (val_fig _ (fig_at h i hi)).1
    have HV := Lib.hid hv
    clear hv
    go_enter Try.func17, Try.ntmps17
    go_wp2_with (go_at_call 12; refine (indexByte_any _ _).mono ?_; rintro e w' ⟨rfl, rfl⟩)
    go_ret
    exact ⟨congrArg (fun n => Ending.returned (.int .i64 n)) HV.out, rfl⟩
  · have hv : (0 : Int) = (((vals k).drop i).headD 0 : Nat) := by rw [vals_past i (by omega)]; rfl
    have HV := Lib.hid hv
    clear hv
    go_enter Try.func17, Try.ntmps17
    go_wp2
    go_ret
    exact ⟨congrArg (fun n => Ending.returned (.int .i64 n)) HV.out, rfl⟩
theorem Slot.info5 : (Try.prog.info? 5).map (fun i => (i.zero, i.size, i.bytes)) = some (some (.int .u8 0), 1, 1) := by kernel_rfl
theorem figs_index (n : Nat) (h : n < 36) (w : World) : (Instr.index 9 (.string ⟨#[48, 49, 50, 51, 52, 53, 54, 55, 56, 57, 97, 98, 99, 100, 101, 102, 103, 104, 105, 106, 107, 108, 109, 110, 111, 112, 113, 114, 115, 116, 117, 118, 119, 120, 121, 122]⟩) (.int .i64 n)).run Try.prog w = .ok (.int .u8 (chr n).toNat) w := by
  have hsz : n < (⟨#[48, 49, 50, 51, 52, 53, 54, 55, 56, 57, 97, 98, 99, 100, 101, 102, 103, 104, 105, 106, 107, 108, 109, 110, 111, 112, 113, 114, 115, 116, 117, 118, 119, 120, 121, 122]⟩ : ByteArray).size := h
  have e : (⟨#[48, 49, 50, 51, 52, 53, 54, 55, 56, 57, 97, 98, 99, 100, 101, 102, 103, 104, 105, 106, 107, 108, 109, 110, 111, 112, 113, 114, 115, 116, 117, 118, 119, 120, 121, 122]⟩ : ByteArray)[n].toNat = (chr n).toNat := by
    have k : ∀ m : Fin 36, ((⟨#[48, 49, 50, 51, 52, 53, 54, 55, 56, 57, 97, 98, 99, 100, 101, 102, 103, 104, 105, 106, 107, 108, 109, 110, 111, 112, 113, 114, 115, 116, 117, 118, 119, 120, 121, 122]⟩ : ByteArray).data.toList.getD m.val 0).toNat = (chr m.val).toNat := by decide +kernel
    rw [← k ⟨n, h⟩]
    simp only [List.getD_eq_getElem?_getD]
    rw [List.getElem?_eq_getElem (by exact h)]
    rfl
  rw [← e]
  simp [go_sem]
  rw [dif_pos (show (n : Int) < 36 by omega)]
def total (a b : ByteArray) : List Nat := rem (decide (b.size = 0)) (vals a) (vals b)
def bytesOfN (l : List Nat) : List Value := l.map fun n => .int .u8 ((chr n).toNat : Int)

theorem str_total (l : List Nat) : strOfNums (l.map fun n => ((chr n).toNat : Int)) = ⟨(l.map chr).toArray⟩ := by
  unfold strOfNums
  rw [List.map_map]
  congr 2
  apply List.map_congr_left
  intro n _
  simp
theorem take_last {l : List Nat} {k x : Nat} (h : l.drop k = [x]) : l = l.take k ++ [x] := by
  rw [← h, List.take_append_drop]
theorem take_next {l r : List Nat} {k x : Nat} (h : l.drop k = x :: r) : l.take (k + 1) = l.take k ++ [x] ∧ l.drop (k + 1) = r ∧ k < l.length := by
  have hk : k < l.length := by
    rcases Nat.lt_or_ge k l.length with h' | h'
    · exact h'
    · rw [List.drop_eq_nil_of_le h'] at h; cases h
  rw [List.drop_eq_getElem_cons hk] at h
  obtain ⟨h1, h2⟩ := List.cons.inj h
  exact ⟨by rw [List.take_succ_eq_append_getElem hk, h1], h2, hk⟩
theorem cells_new (w : World) (v : Value) (t : TypeId) : ∀ j u, [v][j]? = some u → (w.alloc (.cells #[v] t)).cell? ((⟨w.heap.size, 0, none⟩ : Addr).add j) = some u := by
  intro j u hj
  match j, hj with
  | 0, hj => simp at hj; subst hj; simp [Addr.add]
theorem next_of {l : List Nat} {k x : Nat} {op : Bool} {A B : List Nat} (h : l.drop k = x :: rem op A B) (hok : Okay op A B) : l.take (k + 1) = l.take k ++ [x] ∧ l.drop (k + 1) = rem op A B ∧ k + 1 < l.length := by
  obtain ⟨h1, h2, h3⟩ := take_next h
  refine ⟨h1, h2, ?_⟩
  rcases Nat.lt_or_ge (k + 1) l.length with h' | h'
  · exact h'
  · rw [List.drop_eq_nil_of_le h'] at h2
    exact absurd h2.symm (rem_ne hok)
theorem own_below {W wr w1 : World} {e : TypeId} {size n : Nat} {v : Value} {xs : List Value} {o : Obj} (hbel : Below W.heap.size W wr) (hown : wr.ownsRow W.heap.size e size v n xs) (hg : (wr.alloc o).grownBy w1 v.ownBlock) : Below W.heap.size W w1 := by
  refine (hbel.alloc hbel.size o).grown hg (by have := hbel.size; simp; omega) (fun k hk => ?_)
  rcases hown.2 with ⟨rfl, _⟩ | ⟨g, cap, cur, rfl, hb, _⟩
  · cases hk
  · simp [Value.ownBlock] at hk; omega
/-- what string(out) reads -/
theorem conv_own {w : World} {base n : Nat} {v : Value} {l : List Nat} (hn : l.length = n) (hpos : 0 < n) (h : w.ownsRow base 5 1 v n (bytesOfN l)) :
    ∃ g cap, v = .slice (some ⟨g, 0, none⟩) n cap ∧ (convert 35 9 (.slice (some ⟨g, 0, none⟩) n cap)).run Try.prog w = .ok (.string ⟨(l.map chr).toArray⟩) w := by
  obtain ⟨g, cap, rfl⟩ := ownsRow_form h hpos
  refine ⟨g, cap, rfl, ?_⟩
  have hc : ∀ i, i < n → w.cell? ⟨g, 0 + i, none⟩ = some (.int .u8 ((l.map fun n => ((chr n).toNat : Int)).getD i 0)) := by
    intro i hi
    rcases h.2 with ⟨h0, _⟩ | ⟨g', cap', cur, he, _, hg, _, _, _, htk⟩
    · cases h0
    · obtain ⟨rfl, rfl⟩ : g = g' ∧ cap = cap' := by simpa using he
      rw [Joins.cell_of_block hg]
      have : cur[0 + i]? = (bytesOfN l)[i]? := by
        rw [← htk, List.getElem?_take_of_lt (by omega), Nat.zero_add, Array.getElem?_toList]
      rw [this]
      simp [bytesOfN, List.getElem?_map, List.getElem?_eq_getElem (show i < l.length by omega)]
  have := run_convert_bytes_arg w 35 5 Try.underlying35 Try.underlying5 g 0 n cap (l.map fun n => ((chr n).toNat : Int)) (by simpa using hn) hc 9 Try.underlying9
  rw [str_total] at this
  exact this

set_option maxHeartbeats 2000000 in
theorem middle_any (a b : ByteArray) (ha : a.size ≤ 64) (hb : b.size ≤ 64) (fa : a.data.toList.all fig = true) (fb : b.data.toList.all fig = true)
    (hk : Okay (decide (b.size = 0)) (vals a) (vals b)) (hlen : (total a b).length ≤ 65) (w : World) :
    Calls Try.prog 14 #[.string a, .string b] w fun e w' => e = .returned (.string ⟨((total a b).map chr).toArray⟩) ∧ Below w.heap.size w w' := by
  obtain ⟨i0, hi, hz0, hz1, hz2⟩ := info_parts Slot.info5
  have hb0 : b.toList.isEmpty = decide (b.size = 0) := by
    rw [Bool.eq_iff_iff, List.isEmpty_iff, toList_nil, decide_eq_true_iff]
  have HB := Lib.hid hb0
  have HL := Lib.hid hlen
  clear hb0 hlen
  go_enter Try.func14, Try.ntmps14
  go_wp2
  go_loopw [5, 6, 7] (fun v o i wr => ∃ (k : Nat) (op : Bool), k < (total a b).length ∧ i = .int .i64 k ∧ o = .bool op ∧ (total a b).drop k = rem op ((vals a).drop k) ((vals b).drop k) ∧ Okay op ((vals a).drop k) ((vals b).drop k) ∧
      wr.ownsRow w.heap.size 5 1 v k (bytesOfN ((total a b).take k)) ∧ Below w.heap.size w wr) (fun _ _ i _ => 66 - (intOf i).toNat)
  case atStart => exact ⟨0, decide (b.size = 0), List.length_pos_iff.2 (rem_ne hk), rfl, by rw [HB.out], rfl, hk, World.ownsRow_nil _ _ _ _, Below.refl _ _⟩
  case round =>
    obtain ⟨k, op, hkl, rfl, rfl, hrem, hok, hown, hbel⟩ := hrel
    have hl65 := HL.out
    have hkk : k < 65 := by omega
    have faD := vals_figs fa
    have fbD := vals_figs fb
    have hfa := fun w => (figure_any a (by unfold maxLen; omega) fa k w).mono fun _ _ h => And.intro h.1 h.2.symm
    have hfb := fun w => (figure_any b (by unfold maxLen; omega) fb k w).mono fun _ _ h => And.intro h.1 h.2.symm
    have hA : Figs ((vals a).drop k) := fun x hx => faD x (List.mem_of_mem_drop hx)
    have hBf : Figs ((vals b).drop k) := fun x hx => fbD x (List.mem_of_mem_drop hx)
    have hlo := hA.head
    have hhi := high_le (o := op) hBf
    have hle := low_le_high hA hBf hok
    have hstop := rem_stop hok
    have hgo := rem_go hA hBf hok
    rw [List.tail_drop, List.tail_drop] at hgo
    generalize hlow : ((vals a).drop k).headD 0 = lo at *
    cases op with
    | true =>
      have hh : high true ((vals b).drop k) = 36 := rfl
      rw [hh] at hstop hgo
      clear hh hhi hle hfb
      have HS := Lib.hid hstop
      have HG := Lib.hid hgo
      have HR := Lib.hid hrem
      have HW := Lib.hid hlow
      clear hstop hgo hrem hok hA hBf faD fbD hlow
      by_cases hst : 1 < 36 - lo
      · have hmark : True := trivial
        have hx := figs_index ((lo + 36) / 2) (by omega)
        have ex : (((lo + 36) / 2 : Nat) : Int) = ((lo : Int) + 36) / 2 := by omega
        rw [ex] at hx
        clear ex
        have hst' : 1 < (36 : Int) - lo := by omega
        have htot := take_last (HR.out.trans (HS.out hst))
        have HT := Lib.hid htot
        clear htot
        go_wp2_with (first | (go_at_call 17; with_reducible refine (hfa _).mono ?_; rintro e w' ⟨rfl, rfl⟩) | (at_builtin; refine wpList_append_own _ rfl _ _ 35 rfl w.heap.size 5 i0 (.int .u8 0) 1 1 Try.underlying35 hi hz0 hz1 hz2 rfl (by decide) _ _ _ rfl (hown.alloc _) ⟨wr.heap.size, 0, none⟩ 1 1 [.int .u8 (chr ((lo + 36) / 2)).toNat] rfl rfl (cells_new _ _ _) (by intro u hu; simp at hu; subst hu; rfl) (by unfold maxLen; omega) (by omega) (by have := hbel.size; simp; omega) ?_; intro v' w1 hown' hgrow hnil))
        have hown2 : w1.ownsRow w.heap.size 5 1 v' (k + 1) (bytesOfN (total a b)) := by
          have := hown'
          rw [HT.out]
          simpa [bytesOfN] using this
        have hlen2 : (total a b).length = k + 1 := by rw [HT.out]; simp; omega
        have hbelow := own_below hbel hown hgrow
        obtain ⟨g, cap, rfl, hconv⟩ := conv_own hlen2 (by omega) hown2
        clear hown2 hown' hown hgrow hnil
        simp only [hconv]
        go_wp2
        go_ret
        exact ⟨rfl, hbelow⟩
      · have hlo35 : lo = 35 := by omega
        have hst' : (36 : Int) - lo ≤ 1 := by omega
        clear hlo35
        have hx := figs_index lo hlo
        obtain ⟨n1, n2, n3⟩ := next_of (HR.out.trans (HG.out hst).1) (HG.out hst).2
        have hok2 := (HG.out hst).2
        have N1 := Lib.hid n1
        have N2 := Lib.hid n2
        have N4 := Lib.hid hok2
        clear n1 n2 hok2
        go_wp2_with (first | (go_at_call 17; with_reducible refine (hfa _).mono ?_; rintro e w' ⟨rfl, rfl⟩) | (at_builtin; refine wpList_append_own _ rfl _ _ 35 rfl w.heap.size 5 i0 (.int .u8 0) 1 1 Try.underlying35 hi hz0 hz1 hz2 rfl (by decide) _ _ _ rfl (hown.alloc _) ⟨wr.heap.size, 0, none⟩ 1 1 [.int .u8 (chr lo).toNat] rfl rfl (cells_new _ _ _) (by intro u hu; simp at hu; subst hu; rfl) (by unfold maxLen; omega) (by omega) (by have := hbel.size; simp; omega) ?_; intro v' w1 hown' hgrow hnil))
        have hbelow := own_below hbel hown hgrow
        have hown2 : w1.ownsRow w.heap.size 5 1 v' (k + 1) (bytesOfN ((total a b).take (k + 1))) := by
          have := hown'
          rw [N1.out]
          simpa [bytesOfN] using this
        clear hown' hown hgrow hnil
        go_wp2
        go_roundw
        case rel => exact ⟨k + 1, true, n3, by go_num, rfl, N2.out, N4.out, hown2, hbelow⟩
        case measure => simp [intOf]; omega
    | false =>
      have hh : high false ((vals b).drop k) = ((vals b).drop k).headD 0 := rfl
      rw [hh] at hstop hgo hle
      have hhi := hBf.head
      generalize hhig : ((vals b).drop k).headD 0 = hg at *
      clear hh
      have HS := Lib.hid hstop
      have HG := Lib.hid hgo
      have HR := Lib.hid hrem
      have HW := Lib.hid hlow
      have HV := Lib.hid hhig
      clear hstop hgo hrem hok hA hBf faD fbD hlow hhig
      by_cases hst : 1 < hg - lo
      · have hmark : True := trivial
        have hx := figs_index ((lo + hg) / 2) (by omega)
        have ex : (((lo + hg) / 2 : Nat) : Int) = ((lo : Int) + hg) / 2 := by omega
        rw [ex] at hx
        clear ex
        have hst' : 1 < (hg : Int) - lo := by omega
        have htot := take_last (HR.out.trans (HS.out hst))
        have HT := Lib.hid htot
        clear htot
        go_wp2_with (first | (go_at_call 17; with_reducible refine (hfa _).mono ?_; rintro e w' ⟨rfl, rfl⟩) | (go_at_call 17; with_reducible refine (hfb _).mono ?_; rintro e w' ⟨rfl, rfl⟩) | (at_builtin; refine wpList_append_own _ rfl _ _ 35 rfl w.heap.size 5 i0 (.int .u8 0) 1 1 Try.underlying35 hi hz0 hz1 hz2 rfl (by decide) _ _ _ rfl (hown.alloc _) ⟨wr.heap.size, 0, none⟩ 1 1 [.int .u8 (chr ((lo + hg) / 2)).toNat] rfl rfl (cells_new _ _ _) (by intro u hu; simp at hu; subst hu; rfl) (by unfold maxLen; omega) (by omega) (by have := hbel.size; simp; omega) ?_; intro v' w1 hown' hgrow hnil))
        have hown2 : w1.ownsRow w.heap.size 5 1 v' (k + 1) (bytesOfN (total a b)) := by
          have := hown'
          rw [HT.out]
          simpa [bytesOfN] using this
        have hlen2 : (total a b).length = k + 1 := by rw [HT.out]; simp; omega
        have hbelow := own_below hbel hown hgrow
        obtain ⟨g, cap, rfl, hconv⟩ := conv_own hlen2 (by omega) hown2
        clear hown2 hown' hown hgrow hnil
        simp only [hconv]
        go_wp2
        go_ret
        exact ⟨rfl, hbelow⟩
      · have hst' : (hg : Int) - lo ≤ 1 := by omega
        by_cases hlt : lo < hg
        · have e2 : (false || decide (lo < hg)) = true := by rw [decide_eq_true hlt]; rfl
          have HG2 := HG.out hst
          rw [e2] at HG2
          have hx := figs_index lo hlo
          obtain ⟨n1, n2, n3⟩ := next_of (HR.out.trans HG2.1) HG2.2
          have hok2 := HG2.2
          have N1 := Lib.hid n1
          have N2 := Lib.hid n2
          have N4 := Lib.hid hok2
          clear n1 n2 hok2
          go_wp2_with (first | (go_at_call 17; with_reducible refine (hfa _).mono ?_; rintro e w' ⟨rfl, rfl⟩) | (go_at_call 17; with_reducible refine (hfb _).mono ?_; rintro e w' ⟨rfl, rfl⟩) | (at_builtin; refine wpList_append_own _ rfl _ _ 35 rfl w.heap.size 5 i0 (.int .u8 0) 1 1 Try.underlying35 hi hz0 hz1 hz2 rfl (by decide) _ _ _ rfl (hown.alloc _) ⟨wr.heap.size, 0, none⟩ 1 1 [.int .u8 (chr lo).toNat] rfl rfl (cells_new _ _ _) (by intro u hu; simp at hu; subst hu; rfl) (by unfold maxLen; omega) (by omega) (by have := hbel.size; simp; omega) ?_; intro v' w1 hown' hgrow hnil))
          have hbelow := own_below hbel hown hgrow
          have hown2 : w1.ownsRow w.heap.size 5 1 v' (k + 1) (bytesOfN ((total a b).take (k + 1))) := by
            have := hown'
            rw [N1.out]
            simpa [bytesOfN] using this
          clear hown' hown hgrow hnil
          go_wp2
          go_roundw
          case rel => exact ⟨k + 1, true, n3, by go_num, rfl, N2.out, N4.out, hown2, hbelow⟩
          case measure => simp [intOf]; omega
        · have e2 : (false || decide (lo < hg)) = false := by rw [decide_eq_false hlt]; rfl
          have HG2 := HG.out hst
          rw [e2] at HG2
          have hlt' : decide ((lo : Int) < hg) = false := by simp; omega
          have hx := figs_index lo hlo
          obtain ⟨n1, n2, n3⟩ := next_of (HR.out.trans HG2.1) HG2.2
          have hok2 := HG2.2
          have N1 := Lib.hid n1
          have N2 := Lib.hid n2
          have N4 := Lib.hid hok2
          clear n1 n2 hok2
          go_wp2_with (first | (go_at_call 17; with_reducible refine (hfa _).mono ?_; rintro e w' ⟨rfl, rfl⟩) | (go_at_call 17; with_reducible refine (hfb _).mono ?_; rintro e w' ⟨rfl, rfl⟩) | (at_builtin; refine wpList_append_own _ rfl _ _ 35 rfl w.heap.size 5 i0 (.int .u8 0) 1 1 Try.underlying35 hi hz0 hz1 hz2 rfl (by decide) _ _ _ rfl (hown.alloc _) ⟨wr.heap.size, 0, none⟩ 1 1 [.int .u8 (chr lo).toNat] rfl rfl (cells_new _ _ _) (by intro u hu; simp at hu; subst hu; rfl) (by unfold maxLen; omega) (by omega) (by have := hbel.size; simp; omega) ?_; intro v' w1 hown' hgrow hnil))
          have hbelow := own_below hbel hown hgrow
          have hown2 : w1.ownsRow w.heap.size 5 1 v' (k + 1) (bytesOfN ((total a b).take (k + 1))) := by
            have := hown'
            rw [N1.out]
            simpa [bytesOfN] using this
          clear hown' hown hgrow hnil
          go_wp2
          go_roundw
          case rel => exact ⟨k + 1, false, n3, by go_num, rfl, N2.out, N4.out, hown2, hbelow⟩
          case measure => simp [intOf]; omega
end Go.Proofs.Ytdhhjojfakkjoaa
