/- TEXTS OF OPERATIONS: names, values, keys, by package ops and by the reference. -/
import Derived.Test.YtiamohfpohjdpaaDoorBase
import Derived.Test.YtiamohfpohjdpaaDoorOShelf
import Derived.Lib.Hide
import Derived.Laws.IdiomStrings
namespace Go.Proofs.YtiamohfpohjdpaaDoor
open Go.RowKit
set_option linter.unusedSimpArgs false
set_option linter.unusedVariables false

def fig (b : UInt8) : Bool := (decide (48 ≤ b.toNat) && decide (b.toNat ≤ 57)) || (decide (97 ≤ b.toNat) && decide (b.toNat ≤ 122))
def keyB (l : List UInt8) : Bool := l.all fig && decide (1 ≤ l.length) && decide (l.length ≤ 64) && !(l.getLast? == some 48)
theorem keyB_bad (s : ByteArray) (k : Nat) (hk : k < s.size) (h : fig s[k] = false) : keyB s.data.toList = false := by
  have : s.data.toList.all fig = false := by
    rw [List.all_eq_false]
    exact ⟨s[k], Array.mem_toList_iff.2 (Array.getElem_mem (xs := s.data) hk), by simp [h]⟩
  simp [keyB, this]
theorem all_fig (s : ByteArray) (h : ∀ j (hj : j < s.size), fig s[j] = true) : s.data.toList.all fig = true := by
  rw [List.all_eq_true]
  intro b hb
  obtain ⟨i, hi, rfl⟩ := List.getElem_of_mem hb
  exact h i (by simpa using hi)
theorem keyB_all (s : ByteArray) (h : ∀ j (hj : j < s.size), fig s[j] = true) : keyB s.data.toList = (decide (1 ≤ s.size) && decide (s.size ≤ 64) && !(s.data.toList.getLast? == some 48)) := by
  have hl : s.data.toList.length = s.size := (Lib.size_eq s).symm
  simp only [keyB, all_fig s h, hl, Bool.true_and]
theorem suffix_last (l : List UInt8) (hl : l ≠ []) : Lib.hasSuffix l [48] = (l.getLast? == some 48) := by
  unfold Lib.hasSuffix
  rcases List.eq_nil_or_concat l with h | ⟨m, x, rfl⟩
  · exact absurd h hl
  · rw [Bool.eq_iff_iff, List.isSuffixOf_iff_suffix]
    simp
    exact eq_comm
theorem toList_nil (s : ByteArray) : s.toList = [] ↔ s.size = 0 := by
  rw [ByteArray.toList_eq, Lib.size_eq, List.length_eq_zero_iff]

theorem fig_or (b : UInt8) : fig b = ((decide (48 ≤ (b.toNat : Int)) && decide ((b.toNat : Int) ≤ 57)) || (decide (97 ≤ (b.toNat : Int)) && decide ((b.toNat : Int) ≤ 122))) := by
  unfold fig
  congr 1 <;> congr 1 <;> exact decide_eq_decide.2 (by omega)
theorem last_at (s : ByteArray) (h : s.size - 1 < s.size) : s.data.toList.getLast? = some s[s.size - 1] := by
  rw [List.getLast?_eq_getElem?, ← Lib.size_eq, List.getElem?_eq_getElem (by rw [← Lib.size_eq]; exact h)]
  rfl
theorem byte_ne (b : UInt8) : ((b.toNat : Int) != 48) = !(b == 48) := by
  rw [bne]
  congr 1
  rw [Bool.eq_iff_iff, beq_iff_eq, beq_iff_eq]
  constructor
  · intro h
    exact UInt8.toNat_inj.1 (by show b.toNat = 48; omega)
  · rintro rfl; rfl
set_option maxHeartbeats 2000000 in
theorem key_any (s : ByteArray) (hs : s.size ≤ maxLen) (w : World) : Calls Tryd.prog 57 #[.string s] w fun e w' => e = .returned (.bool (keyB s.data.toList)) ∧ Below w.heap.size w w' := by
  unfold maxLen at hs
  go_enter Tryd.func57, Tryd.ntmps57
  go_wp2
  go_loop [3] (fun n => ∃ pos : Nat, pos ≤ s.size ∧ n = .int .i64 pos ∧ ∀ j (hj : j < s.size), j < pos → fig s[j] = true) (fun n => s.size - (intOf n).toNat)
  case atStart => exact ⟨0, by omega, rfl, fun j hj h => by omega⟩
  case round =>
    obtain ⟨pos, hpos, rfl, hf⟩ := hrel
    have HF := Lib.hid hf
    clear hf
    by_cases hp : pos < s.size
    · by_cases hg : fig s[pos] = true
      · have HG := Lib.hid hg
        have hor := fig_or s[pos]
        rw [hg] at hor
        have hd : (48 ≤ (s[pos].toNat : Int) ∧ (s[pos].toNat : Int) ≤ 57) ∨ (57 < (s[pos].toNat : Int) ∧ 97 ≤ (s[pos].toNat : Int) ∧ (s[pos].toNat : Int) ≤ 122) := by
          simp at hor; omega
        clear hg hor
        have hend : ∀ j (hj : j < s.size), j < pos + 1 → fig s[j] = true := fun j hj h => by
          rcases Nat.lt_or_ge j pos with k | k
          · exact HF.out j hj k
          · obtain rfl : j = pos := by omega
            exact HG.out
        have HE := Lib.hid hend
        clear hend
        rcases hd with ⟨d1, d2⟩ | ⟨d1, d2, d3⟩
        · go_wp2
          all_goals
            go_round
            case rel => exact ⟨pos + 1, by omega, by go_num, HE.out⟩
            case measure => simp [intOf]; omega
        · go_wp2
          all_goals
            go_round
            case rel => exact ⟨pos + 1, by omega, by go_num, HE.out⟩
            case measure => simp [intOf]; omega
      · have hg' : fig s[pos] = false := by simpa using hg
        have HK := Lib.hid (keyB_bad s pos hp hg')
        have hor := fig_or s[pos]
        rw [hg'] at hor
        have hd : ((s[pos].toNat : Int) < 48) ∨ (48 ≤ (s[pos].toNat : Int) ∧ 57 < (s[pos].toNat : Int) ∧ (s[pos].toNat : Int) < 97) ∨ (48 ≤ (s[pos].toNat : Int) ∧ 57 < (s[pos].toNat : Int) ∧ 97 ≤ (s[pos].toNat : Int) ∧ 122 < (s[pos].toNat : Int)) := by
          simp at hor; omega
        clear hg hg' hor
        rcases hd with d1 | ⟨d1, d2, d3⟩ | ⟨d1, d2, d3, d4⟩
        · have q0 : decide (48 ≤ (s[pos].toNat : Int)) = false := by simp; omega
          have q1 : decide (97 ≤ (s[pos].toNat : Int)) = false := by simp; omega
          go_wp2
          go_ret
          exact ⟨congrArg (fun b => Ending.returned (.bool b)) HK.out.symm, by (repeat' (first | with_reducible exact Below.refl _ _ | with_reducible assumption | with_reducible refine below_ext ?_ ?_ | with_reducible refine Below.alloc ?_ ?_ _ | with_reducible refine Below.drew ?_ | with_reducible refine below_drewN ?_ _ | with_reducible refine Below.setCell ?_ ?_ _ | go_size))⟩
        · have q0 : decide (48 ≤ (s[pos].toNat : Int)) = true := by simp; omega
          have q1 : decide ((s[pos].toNat : Int) ≤ 57) = false := by simp; omega
          have q2 : decide (97 ≤ (s[pos].toNat : Int)) = false := by simp; omega
          go_wp2
          go_ret
          exact ⟨congrArg (fun b => Ending.returned (.bool b)) HK.out.symm, by (repeat' (first | with_reducible exact Below.refl _ _ | with_reducible assumption | with_reducible refine below_ext ?_ ?_ | with_reducible refine Below.alloc ?_ ?_ _ | with_reducible refine Below.drew ?_ | with_reducible refine below_drewN ?_ _ | with_reducible refine Below.setCell ?_ ?_ _ | go_size))⟩
        · have q0 : decide (48 ≤ (s[pos].toNat : Int)) = true := by simp; omega
          have q1 : decide ((s[pos].toNat : Int) ≤ 57) = false := by simp; omega
          have q2 : decide (97 ≤ (s[pos].toNat : Int)) = true := by simp; omega
          have q3 : decide ((s[pos].toNat : Int) ≤ 122) = false := by simp; omega
          go_wp2
          go_ret
          exact ⟨congrArg (fun b => Ending.returned (.bool b)) HK.out.symm, by (repeat' (first | with_reducible exact Below.refl _ _ | with_reducible assumption | with_reducible refine below_ext ?_ ?_ | with_reducible refine Below.alloc ?_ ?_ _ | with_reducible refine Below.drew ?_ | with_reducible refine below_drewN ?_ _ | with_reducible refine Below.setCell ?_ ?_ _ | go_size))⟩
    · have hall : ∀ j (hj : j < s.size), fig s[j] = true := fun j hj => HF.out j hj (by omega)
      have HK := Lib.hid (keyB_all s hall)
      clear hall HF
      by_cases h0 : s.size = 0
      · have hv : false = keyB s.data.toList := by rw [HK.out, h0]; rfl
        have hn : (s.size : Int) < 1 := by omega
        have HV := Lib.hid hv
        clear hv h0 HK
        go_wp2
        go_ret
        exact ⟨congrArg (fun b => Ending.returned (.bool b)) HV.out, by (repeat' (first | with_reducible exact Below.refl _ _ | with_reducible assumption | with_reducible refine below_ext ?_ ?_ | with_reducible refine Below.alloc ?_ ?_ _ | with_reducible refine Below.drew ?_ | with_reducible refine below_drewN ?_ _ | with_reducible refine Below.setCell ?_ ?_ _ | go_size))⟩
      · have hn : 1 ≤ (s.size : Int) := by omega
        by_cases h64 : s.size ≤ 64
        · have hlt : s.size - 1 < s.size := by omega
          have hv : (!(s[s.size - 1] == 48)) = keyB s.data.toList := by
            rw [HK.out, last_at s hlt, decide_eq_true h64, decide_eq_true (show 1 ≤ s.size by omega)]; simp
          have HV := Lib.hid hv
          clear hv HK
          go_wp2
          go_ret
          refine ⟨congrArg (fun b => Ending.returned (.bool b)) (Eq.trans (byte_ne _) HV.out), by (repeat' (first | with_reducible exact Below.refl _ _ | with_reducible assumption | with_reducible refine below_ext ?_ ?_ | with_reducible refine Below.alloc ?_ ?_ _ | with_reducible refine Below.drew ?_ | with_reducible refine below_drewN ?_ _ | with_reducible refine Below.setCell ?_ ?_ _ | go_size))⟩
        · have hv : false = keyB s.data.toList := by
            rw [HK.out, decide_eq_false h64]; simp
          have hb : 64 < (s.size : Int) := by omega
          have HV := Lib.hid hv
          clear hv HK h64
          go_wp2
          go_ret
          exact ⟨congrArg (fun b => Ending.returned (.bool b)) HV.out, by (repeat' (first | with_reducible exact Below.refl _ _ | with_reducible assumption | with_reducible refine below_ext ?_ ?_ | with_reducible refine Below.alloc ?_ ?_ _ | with_reducible refine Below.drew ?_ | with_reducible refine below_drewN ?_ _ | with_reducible refine Below.setCell ?_ ?_ _ | go_size))⟩
/-! ### strings.Trim at a set of letters -/
theorem dropWhile_nil {p : UInt8 → Bool} : ∀ {l : List UInt8}, l.dropWhile p = [] ↔ ∀ x ∈ l, p x = true
  | [] => by simp
  | a :: l => by
    rw [List.dropWhile_cons]
    cases h : p a
    · simp [h]
    · simp [h, dropWhile_nil (l := l)]
theorem trimS_nil (l cs : List UInt8) : Lib.trimS l cs = [] ↔ l.all (cs.contains ·) = true := by
  unfold Lib.trimS Lib.trimLeftS Lib.trimRightS
  constructor
  · intro h
    rw [dropWhile_nil] at h
    have hm : l.reverse.dropWhile (cs.contains ·) = [] := by
      cases hd : l.reverse.dropWhile (cs.contains ·) with
      | nil => rfl
      | cons x m =>
        exfalso
        have h1 := List.head_dropWhile_not (cs.contains ·) (l := l.reverse) (by rw [hd]; simp)
        simp only [hd, List.head_cons] at h1
        have h2 := h x (by rw [hd]; simp)
        rw [h1] at h2
        cases h2
    rw [dropWhile_nil] at hm
    rw [List.all_eq_true]
    exact fun x hx => hm x (by simpa using hx)
  · intro h
    rw [List.all_eq_true] at h
    have hm : l.reverse.dropWhile (cs.contains ·) = [] := by
      rw [dropWhile_nil]
      exact fun x hx => h x (by simpa using hx)
    rw [hm]; rfl
def low (b : UInt8) : Bool := decide (97 ≤ b.toNat) && decide (b.toNat ≤ 122)
def lows : List UInt8 := [97, 98, 99, 100, 101, 102, 103, 104, 105, 106, 107, 108, 109, 110, 111, 112, 113, 114, 115, 116, 117, 118, 119, 120, 121, 122]
def figs : List UInt8 := [48, 49, 50, 51, 52, 53, 54, 55, 56, 57, 97, 98, 99, 100, 101, 102, 103, 104, 105, 106, 107, 108, 109, 110, 111, 112, 113, 114, 115, 116, 117, 118, 119, 120, 121, 122]
theorem set_bytes : ∀ n : Fin 256, (lows.contains (UInt8.ofNat n.val) = low (UInt8.ofNat n.val)) ∧ (figs.contains (UInt8.ofNat n.val) = fig (UInt8.ofNat n.val)) := by decide +kernel
theorem lows_low (b : UInt8) : lows.contains b = low b := by
  have h := (set_bytes ⟨b.toNat, b.toNat_lt⟩).1
  simpa using h
theorem figs_fig (b : UInt8) : figs.contains b = fig b := by
  have h := (set_bytes ⟨b.toNat, b.toNat_lt⟩).2
  simpa using h
theorem trim_yes (s : ByteArray) (cs : List UInt8) (hs : s.size ≤ 9223372036854775807) (hc : cs.length < 4294967281) (ha : cs.all (fun b => decide (b.toNat < 128)) = true) (h : s.data.toList.all (cs.contains ·) = true) (w : World) :
    Calls Tryd.prog 65 #[.string s, .string ⟨cs.toArray⟩] w fun e w' => e = .returned (.string ⟨#[]⟩) ∧ Below w.heap.size w w' := by
  have := trim_any s ⟨cs.toArray⟩ w hs (by rw [Lib.size_mk]; exact hc) (ascii_of_all ha)
  rwa [show (⟨cs.toArray⟩ : ByteArray).data.toList = cs from rfl, (trimS_nil _ _).2 h] at this
theorem trim_not (s : ByteArray) (cs : List UInt8) (hs : s.size ≤ 9223372036854775807) (hc : cs.length < 4294967281) (ha : cs.all (fun b => decide (b.toNat < 128)) = true) (h : s.data.toList.all (cs.contains ·) = false) :
    ∃ t : ByteArray, t.size ≠ 0 ∧ ∀ w, Calls Tryd.prog 65 #[.string s, .string ⟨cs.toArray⟩] w fun e w' => e = .returned (.string t) ∧ Below w.heap.size w w' := by
  refine ⟨⟨(Lib.trimS s.data.toList cs).toArray⟩, fun h0 => ?_, fun w => trim_any s ⟨cs.toArray⟩ w hs (by rw [Lib.size_mk]; exact hc) (ascii_of_all ha)⟩
  rw [Lib.size_mk, List.length_eq_zero_iff] at h0
  rw [(trimS_nil _ _).1 h0] at h
  cases h
def nameB (s : ByteArray) : Bool := s.data.toList.all low && decide (1 ≤ s.size) && decide (s.size ≤ 8)
theorem all_congr {l : List UInt8} {p q : UInt8 → Bool} (h : ∀ b, p b = q b) : l.all p = l.all q := by
  congr 1; funext b; exact h b
set_option maxHeartbeats 1000000 in
theorem name_any (s : ByteArray) (hs : s.size ≤ maxLen) (w : World) : Calls Tryd.prog 44 #[.string s] w fun e w' => e = .returned (.bool (nameB s)) ∧ Below w.heap.size w w' := by
  unfold maxLen at hs
  by_cases h1 : 1 ≤ s.size
  · by_cases h8 : s.size ≤ 8
    · have i1 : (1 : Int) ≤ s.size := by omega
      have i8 : (s.size : Int) ≤ 8 := by omega
      cases ha : s.data.toList.all low with
      | true =>
        have hT := Lib.hid (trim_yes s lows hs (by decide) (by decide) (by rw [all_congr lows_low]; exact ha))
        have hv : nameB s = true := by simp [nameB, ha, h1, h8]
        rw [hv]
        clear hv ha h1 h8
        go_enter Tryd.func44, Tryd.ntmps44
        go_wp2_with fail
        refine (hT.out _).mono ?_
        rintro e w' ⟨rfl, hb⟩
        go_wp2
        go_ret
        exact ⟨rfl, hb⟩
      | false =>
        obtain ⟨t, h0, hT⟩ := trim_not s lows hs (by decide) (by decide) (by rw [all_congr lows_low]; exact ha)
        have hn : ¬ t.toList = [] := fun h => h0 ((toList_nil t).1 h)
        have hn' : (!t.toList.isEmpty) = true := by simpa using hn
        have hn2 : t.toList.isEmpty = false := by simpa using hn
        have hT := Lib.hid hT
        have hv : nameB s = false := by simp [nameB, ha]
        rw [hv]
        clear hv ha h1 h8 h0
        go_enter Tryd.func44, Tryd.ntmps44
        go_wp2_with fail
        refine (hT.out _).mono ?_
        rintro e w' ⟨rfl, hb⟩
        go_wp2
        go_ret
        exact ⟨by simp_all, hb⟩
    · have hv : nameB s = false := by simp [nameB, h8]
      have i1 : (1 : Int) ≤ s.size := by omega
      have i8 : 8 < (s.size : Int) := by omega
      rw [hv]
      clear hv h1 h8
      go_enter Tryd.func44, Tryd.ntmps44
      go_wp2
      go_ret
      exact ⟨rfl, Below.refl _ _⟩
  · have hv : nameB s = false := by simp [nameB, h1]
    have i1 : (s.size : Int) < 1 := by omega
    rw [hv]
    clear hv h1
    go_enter Tryd.func44, Tryd.ntmps44
    go_wp2
    go_ret
    exact ⟨rfl, Below.refl _ _⟩
set_option maxHeartbeats 1000000 in
theorem opsKey_any (s : ByteArray) (hs : s.size ≤ maxLen) (w : World) : Calls Tryd.prog 43 #[.string s] w fun e w' => e = .returned (.bool (keyB s.data.toList)) ∧ Below w.heap.size w w' := by
  unfold maxLen at hs
  have hl : s.data.toList.length = s.size := (Lib.size_eq s).symm
  by_cases h1 : 1 ≤ s.size
  · by_cases h8 : s.size ≤ 64
    · have i1 : (1 : Int) ≤ s.size := by omega
      have i8 : (s.size : Int) ≤ 64 := by omega
      cases ha : s.data.toList.all fig with
      | true =>
        have hT := Lib.hid (trim_yes s figs hs (by decide) (by decide) (by rw [all_congr figs_fig]; exact ha))
        have hne : s.data.toList ≠ [] := fun h => by rw [h] at hl; simp at hl; omega
        have hv : (!(Lib.hasSuffix s.data.toList [48])) = keyB s.data.toList := by
          rw [suffix_last _ hne, keyB, ha, hl, decide_eq_true h1, decide_eq_true h8]; rfl
        have hS := Lib.hid (fun w => suffix_any s ⟨#[48]⟩ w hs)
        have HV := Lib.hid hv
        clear hv ha h1 h8 hl hne
        go_enter Tryd.func43, Tryd.ntmps43
        go_wp2_with fail
        refine (hT.out _).mono ?_
        rintro e w' ⟨rfl, hb⟩
        have HB := Lib.hid hb
        clear hb
        go_wp2_with (refine (hS.out _).mono ?_; rintro e w' ⟨rfl, rfl⟩)
        go_ret
        exact ⟨congrArg (fun b => Ending.returned (.bool b)) HV.out, HB.out⟩
      | false =>
        obtain ⟨t, h0, hT⟩ := trim_not s figs hs (by decide) (by decide) (by rw [all_congr figs_fig]; exact ha)
        have hn : ¬ t.toList = [] := fun h => h0 ((toList_nil t).1 h)
        have hn' : (!t.toList.isEmpty) = true := by simpa using hn
        have hn2 : t.toList.isEmpty = false := by simpa using hn
        have hT := Lib.hid hT
        have hv : keyB s.data.toList = false := by simp [keyB, ha]
        rw [hv]
        clear hv ha h1 h8 h0 hl
        go_enter Tryd.func43, Tryd.ntmps43
        go_wp2_with fail
        refine (hT.out _).mono ?_
        rintro e w' ⟨rfl, hb⟩
        have HB := Lib.hid hb
        clear hb
        go_wp2
        go_ret
        exact ⟨rfl, HB.out⟩
    · have hv : keyB s.data.toList = false := by simp only [keyB, hl]; simp [h8]
      have i1 : (1 : Int) ≤ s.size := by omega
      have i8 : 64 < (s.size : Int) := by omega
      rw [hv]
      clear hv h1 h8 hl
      go_enter Tryd.func43, Tryd.ntmps43
      go_wp2
      go_ret
      exact ⟨rfl, Below.refl _ _⟩
  · have hv : keyB s.data.toList = false := by simp only [keyB, hl]; simp [h1]
    have i1 : (s.size : Int) < 1 := by omega
    rw [hv]
    clear hv h1 hl
    go_enter Tryd.func43, Tryd.ntmps43
    go_wp2
    go_ret
    exact ⟨rfl, Below.refl _ _⟩
def prn (b : UInt8) : Bool := decide (32 ≤ b.toNat) && decide (b.toNat ≤ 126)
def valB (s : ByteArray) : Bool := s.data.toList.all prn && decide (s.size ≤ 16)
theorem all_bad {p : UInt8 → Bool} (s : ByteArray) (k : Nat) (hk : k < s.size) (h : p s[k] = false) : s.data.toList.all p = false := by
  rw [List.all_eq_false]
  exact ⟨s[k], Array.mem_toList_iff.2 (Array.getElem_mem (xs := s.data) hk), by simp [h]⟩
theorem all_good {p : UInt8 → Bool} (s : ByteArray) (h : ∀ j (hj : j < s.size), p s[j] = true) : s.data.toList.all p = true := by
  rw [List.all_eq_true]
  intro b hb
  obtain ⟨i, hi, rfl⟩ := List.getElem_of_mem hb
  exact h i (by simpa using hi)
/-- behind the conversion to bytes -/
structure ByR (s : ByteArray) (w x : World) : Prop where
  below : Below w.heap.size w x
  byte : ∀ i (h : i < s.size), x.cell? ⟨w.heap.size, i, none⟩ = some (.int .u8 (s[i].toNat : Int))
theorem byR_of (s : ByteArray) (w : World) (cap : Nat) (e : TypeId) (fr : Nat × Nat) : ByR s w (w.alloc (.cells (bytesRow s cap) e fr)).drew := by
  refine ⟨((Below.refl _ _).alloc (Nat.le_refl _) _).drew, fun i h => ?_⟩
  have hb : (w.alloc (.cells (bytesRow s cap) e fr)).heap[w.heap.size]? = some (.cells (bytesRow s cap) e fr) := blk_at _ _ _ rfl
  have hc : (w.alloc (.cells (bytesRow s cap) e fr)).drew.cell? ⟨w.heap.size, i, none⟩ = (bytesRow s cap)[i]? := Joins.cell_of_block hb i
  rw [hc]
  unfold bytesRow
  have hi : i < s.data.size := by simpa using h
  rw [Array.getElem?_append_left (by simpa using h), Array.getElem?_map, Array.getElem?_eq_getElem hi]
  simp
  rfl
theorem wp_let' {P : Program} {c : Code} {Q : Exit → Act → World → Prop} {a : Act} {w : World} (R : World → Prop) (hR : R w) (h : ∀ x, R x → c.wp P Q a x) : c.wp P Q a w := h w hR
set_option maxHeartbeats 2000000 in
theorem opsValue_any (s : ByteArray) (hs : s.size ≤ maxLen) (w : World) : Calls Tryd.prog 45 #[.string s] w fun e w' => e = .returned (.bool (valB s)) ∧ Below w.heap.size w w' := by
  have hcv := fun w : World => run_bytes_of_string (P := Tryd.prog) w 9 84 5 s Tryd.underlying9 Tryd.underlying84 Tryd.underlying5
  unfold maxLen at hs
  go_enter Tryd.func45, Tryd.ntmps45
  go_wp2
  generalize grownCap w s.size 0 5 = cap
  refine wp_let' (ByR s w) (byR_of s w _ _ _) (fun x hx => ?_)
  have HX := Lib.hid hx
  clear hx hcv
  go_loop [8] (fun i => ∃ j : Nat, j ≤ s.size ∧ i = .int .i64 j ∧ ∀ q (hq : q < s.size), q < j → prn s[q] = true) (fun i => s.size - (RowKit.intOf i).toNat)
  case atStart => exact ⟨0, by omega, rfl, fun j hj h => by omega⟩
  case round =>
    obtain ⟨j, hj, rfl, hf⟩ := hrel
    have HF := Lib.hid hf
    clear hf
    by_cases hlt : j < s.size
    · have hcell := HX.out.byte j hlt
      have hbad : prn s[j] = false → valB s = false := fun h => by simp [valB, all_bad s j hlt h]
      have HBad := Lib.hid hbad
      have hgo : prn s[j] = true → ∀ q (hq : q < s.size), q < j + 1 → prn s[q] = true := fun hc q hq h => by
        rcases Nat.lt_or_ge q j with k | k
        · exact HF.out q hq k
        · obtain rfl : q = j := by omega
          exact hc
      have HGo := Lib.hid hgo
      clear hbad hgo
      have hb256 : s[j].toNat < 256 := UInt8.toNat_lt _
      by_cases c1 : s[j].toNat < 32
      · have d1 : decide ((s[j].toNat : Int) < 32) = true := by simp; omega
        have HK := Lib.hid (HBad.out (by simp [prn]; omega))
        generalize s[j] = c at *
        go_wp2
        go_ret
        exact ⟨congrArg (fun b => Ending.returned (.bool b)) HK.out.symm, HX.out.below⟩
      · by_cases c2 : 126 < s[j].toNat
        · have d1 : decide ((s[j].toNat : Int) < 32) = false := by simp; omega
          have d2 : decide (126 < (s[j].toNat : Int)) = true := by simp; omega
          have HK := Lib.hid (HBad.out (by simp [prn]; omega))
          generalize s[j] = c at *
          go_wp2
          go_ret
          exact ⟨congrArg (fun b => Ending.returned (.bool b)) HK.out.symm, HX.out.below⟩
        · have d1 : decide ((s[j].toNat : Int) < 32) = false := by simp; omega
          have d2 : decide (126 < (s[j].toNat : Int)) = false := by simp; omega
          have HK := Lib.hid (HGo.out (by simp [prn]; omega))
          clear HGo HBad
          generalize s[j] = c at *
          go_wp2
          go_round
          case rel => exact ⟨j + 1, by omega, by go_num, HK.out⟩
          case measure => simp [RowKit.intOf]; omega
    · have hall : s.data.toList.all prn = true := all_good s (fun q hq => HF.out q hq (by omega))
      have hv : decide ((s.size : Int) ≤ 16) = valB s := by
        rw [valB, hall, Bool.true_and]; exact decide_eq_decide.2 (by omega)
      have HV := Lib.hid hv
      clear hv hall
      go_wp2
      go_ret
      exact ⟨congrArg (fun b => Ending.returned (.bool b)) HV.out, HX.out.below⟩
set_option maxHeartbeats 2000000 in
theorem refWord_any (s : ByteArray) (hs : s.size ≤ maxLen) (w : World) : Calls Tryd.prog 58 #[.string s] w fun e w' => e = .returned (.bool (nameB s)) ∧ Below w.heap.size w w' := by
  unfold maxLen at hs
  go_enter Tryd.func58, Tryd.ntmps58
  go_wp2
  go_loop [3] (fun i => ∃ j : Nat, j ≤ s.size ∧ i = .int .i64 j ∧ ∀ q (hq : q < s.size), q < j → low s[q] = true) (fun i => s.size - (RowKit.intOf i).toNat)
  case atStart => exact ⟨0, by omega, rfl, fun j hj h => by omega⟩
  case round =>
    obtain ⟨j, hj, rfl, hf⟩ := hrel
    have HF := Lib.hid hf
    clear hf
    by_cases hlt : j < s.size
    · have hbad : low s[j] = false → nameB s = false := fun h => by simp [nameB, all_bad s j hlt h]
      have HBad := Lib.hid hbad
      have hgo : low s[j] = true → ∀ q (hq : q < s.size), q < j + 1 → low s[q] = true := fun hc q hq h => by
        rcases Nat.lt_or_ge q j with k | k
        · exact HF.out q hq k
        · obtain rfl : q = j := by omega
          exact hc
      have HGo := Lib.hid hgo
      clear hbad hgo
      by_cases c1 : s[j].toNat < 97
      · have d1 : decide ((s[j].toNat : Int) < 97) = true := by simp; omega
        have HK := Lib.hid (HBad.out (by simp [low]; omega))
        go_wp2
        go_ret
        exact ⟨congrArg (fun b => Ending.returned (.bool b)) HK.out.symm, Below.refl _ _⟩
      · by_cases c2 : 122 < s[j].toNat
        · have d1 : decide ((s[j].toNat : Int) < 97) = false := by simp; omega
          have d2 : decide (122 < (s[j].toNat : Int)) = true := by simp; omega
          have HK := Lib.hid (HBad.out (by simp [low]; omega))
          go_wp2
          go_ret
          exact ⟨congrArg (fun b => Ending.returned (.bool b)) HK.out.symm, Below.refl _ _⟩
        · have d1 : decide ((s[j].toNat : Int) < 97) = false := by simp; omega
          have d2 : decide (122 < (s[j].toNat : Int)) = false := by simp; omega
          have HK := Lib.hid (HGo.out (by simp [low]; omega))
          clear HGo HBad
          go_wp2
          go_round
          case rel => exact ⟨j + 1, by omega, by go_num, HK.out⟩
          case measure => simp [RowKit.intOf]; omega
    · have hall : s.data.toList.all low = true := all_good s (fun q hq => HF.out q hq (by omega))
      by_cases h1 : 1 ≤ s.size
      · have hv : decide ((s.size : Int) ≤ 8) = nameB s := by
          rw [nameB, hall, decide_eq_true h1, Bool.true_and, Bool.true_and]; exact decide_eq_decide.2 (by omega)
        have i1 : 1 ≤ (s.size : Int) := by omega
        have HV := Lib.hid hv
        clear hv hall h1
        go_wp2
        go_ret
        exact ⟨congrArg (fun b => Ending.returned (.bool b)) HV.out, Below.refl _ _⟩
      · have hv : false = nameB s := by
          rw [nameB, decide_eq_false h1]; simp
        have i1 : (s.size : Int) < 1 := by omega
        have HV := Lib.hid hv
        clear hv hall h1
        go_wp2
        go_ret
        exact ⟨congrArg (fun b => Ending.returned (.bool b)) HV.out, Below.refl _ _⟩
set_option maxHeartbeats 2000000 in
theorem refValue_any (s : ByteArray) (hs : s.size ≤ maxLen) (w : World) : Calls Tryd.prog 59 #[.string s] w fun e w' => e = .returned (.bool (valB s)) ∧ Below w.heap.size w w' := by
  unfold maxLen at hs
  go_enter Tryd.func59, Tryd.ntmps59
  go_wp2
  go_loop [3] (fun i => ∃ j : Nat, j ≤ s.size ∧ i = .int .i64 j ∧ ∀ q (hq : q < s.size), q < j → prn s[q] = true) (fun i => s.size - (RowKit.intOf i).toNat)
  case atStart => exact ⟨0, by omega, rfl, fun j hj h => by omega⟩
  case round =>
    obtain ⟨j, hj, rfl, hf⟩ := hrel
    have HF := Lib.hid hf
    clear hf
    by_cases hlt : j < s.size
    · have hbad : prn s[j] = false → valB s = false := fun h => by simp [valB, all_bad s j hlt h]
      have HBad := Lib.hid hbad
      have hgo : prn s[j] = true → ∀ q (hq : q < s.size), q < j + 1 → prn s[q] = true := fun hc q hq h => by
        rcases Nat.lt_or_ge q j with k | k
        · exact HF.out q hq k
        · obtain rfl : q = j := by omega
          exact hc
      have HGo := Lib.hid hgo
      clear hbad hgo
      by_cases c1 : s[j].toNat < 32
      · have d1 : decide ((s[j].toNat : Int) < 32) = true := by simp; omega
        have HK := Lib.hid (HBad.out (by simp [prn]; omega))
        go_wp2
        go_ret
        exact ⟨congrArg (fun b => Ending.returned (.bool b)) HK.out.symm, Below.refl _ _⟩
      · by_cases c2 : 126 < s[j].toNat
        · have d1 : decide ((s[j].toNat : Int) < 32) = false := by simp; omega
          have d2 : decide (126 < (s[j].toNat : Int)) = true := by simp; omega
          have HK := Lib.hid (HBad.out (by simp [prn]; omega))
          go_wp2
          go_ret
          exact ⟨congrArg (fun b => Ending.returned (.bool b)) HK.out.symm, Below.refl _ _⟩
        · have d1 : decide ((s[j].toNat : Int) < 32) = false := by simp; omega
          have d2 : decide (126 < (s[j].toNat : Int)) = false := by simp; omega
          have HK := Lib.hid (HGo.out (by simp [prn]; omega))
          clear HGo HBad
          go_wp2
          go_round
          case rel => exact ⟨j + 1, by omega, by go_num, HK.out⟩
          case measure => simp [RowKit.intOf]; omega
    · have hall : s.data.toList.all prn = true := all_good s (fun q hq => HF.out q hq (by omega))
      have hv : decide ((s.size : Int) ≤ 16) = valB s := by
        rw [valB, hall, Bool.true_and]; exact decide_eq_decide.2 (by omega)
      have HV := Lib.hid hv
      clear hv hall
      go_wp2
      go_ret
      exact ⟨congrArg (fun b => Ending.returned (.bool b)) HV.out, Below.refl _ _⟩
end Go.Proofs.YtiamohfpohjdpaaDoor
