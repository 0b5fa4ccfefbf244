/- KEYS: whether a text is a key, by package orderkey and by the reference. -/
import Derived.Test.YtdhhjojfakkjoaaBase
import Derived.Test.YtdhhjojfakkjoaaKShelf
import Derived.Lib.Hide
namespace Go.Proofs.Ytdhhjojfakkjoaa
open Go.RowKit
set_option linter.unusedSimpArgs false
set_option linter.unusedVariables false

def fig (b : UInt8) : Bool := (decide (48 ≤ b.toNat) && decide (b.toNat ≤ 57)) || (decide (97 ≤ b.toNat) && decide (b.toNat ≤ 122))
def figs : List UInt8 := [48, 49, 50, 51, 52, 53, 54, 55, 56, 57, 97, 98, 99, 100, 101, 102, 103, 104, 105, 106, 107, 108, 109, 110, 111, 112, 113, 114, 115, 116, 117, 118, 119, 120, 121, 122]
def figV (b : UInt8) : Int := Lib.indexByte figs b
def keyB (l : List UInt8) : Bool := l.all fig && decide (1 ≤ l.length) && decide (l.length ≤ 64) && !(l.getLast? == some 48)
theorem fig_bytes : ∀ n : Fin 256, (decide (figV (UInt8.ofNat n.val) < 0) = !(fig (UInt8.ofNat n.val))) ∧ (fig (UInt8.ofNat n.val) = true → n.val < 128) := by decide +kernel
theorem ofNat_toNat8 (b : UInt8) : UInt8.ofNat b.toNat = b := by simp
theorem figV_neg (b : UInt8) : decide (figV b < 0) = !(fig b) := by
  have h := (fig_bytes ⟨b.toNat, b.toNat_lt⟩).1
  simpa only [ofNat_toNat8] using h
theorem fig_ascii (b : UInt8) (h : fig b = true) : b.toNat < 128 := by
  have k := (fig_bytes ⟨b.toNat, b.toNat_lt⟩).2
  simp only [ofNat_toNat8] at k
  exact k h
theorem indexByte_any (b : UInt8) (w : World) : Calls Try.prog 12 #[.string ⟨#[48, 49, 50, 51, 52, 53, 54, 55, 56, 57, 97, 98, 99, 100, 101, 102, 103, 104, 105, 106, 107, 108, 109, 110, 111, 112, 113, 114, 115, 116, 117, 118, 119, 120, 121, 122]⟩, .int .u8 b.toNat] w fun e w' => e = .returned (.int .i64 (figV b)) ∧ w' = w := by
  have h := Try.strings_IndexByte ⟨#[48, 49, 50, 51, 52, 53, 54, 55, 56, 57, 97, 98, 99, 100, 101, 102, 103, 104, 105, 106, 107, 108, 109, 110, 111, 112, 113, 114, 115, 116, 117, 118, 119, 120, 121, 122]⟩ b.toNat w
  have e : ((b.toNat : Int).toNat.toUInt8) = b := by simp
  rw [e] at h
  exact h
theorem keyB_bad (s : ByteArray) (k : Nat) (hk : k < s.size) (h : fig s[k] = false) : keyB s.data.toList = false := by
  have : s.data.toList.all fig = false := by
    rw [List.all_eq_false]
    exact ⟨s[k], Array.mem_toList_iff.2 (Array.getElem_mem (xs := s.data) hk), by simp [h]⟩
  simp [keyB, this]
theorem all_fig (s : ByteArray) (h : ∀ j (hj : j < s.size), fig s[j] = true) : s.data.toList.all fig = true := by
  rw [List.all_eq_true]
  intro b hb
  obtain ⟨i, hi, rfl⟩ := List.getElem_of_mem hb
  exact h i (by simpa using hi)
theorem keyB_all (s : ByteArray) (h : ∀ j (hj : j < s.size), fig s[j] = true) : keyB s.data.toList = (decide (1 ≤ s.size) && decide (s.size ≤ 64) && !(s.data.toList.getLast? == some 48)) := by
  have hl : s.data.toList.length = s.size := (Lib.size_eq s).symm
  simp only [keyB, all_fig s h, hl, Bool.true_and]
theorem suffix_last (l : List UInt8) (hl : l ≠ []) : Lib.hasSuffix l [48] = (l.getLast? == some 48) := by
  unfold Lib.hasSuffix
  rcases List.eq_nil_or_concat l with h | ⟨m, x, rfl⟩
  · exact absurd h hl
  · rw [Bool.eq_iff_iff, List.isSuffixOf_iff_suffix]
    simp
    exact eq_comm
theorem toList_nil (s : ByteArray) : s.toList = [] ↔ s.size = 0 := by
  rw [ByteArray.toList_eq, Lib.size_eq, List.length_eq_zero_iff]

set_option maxHeartbeats 1000000 in
theorem right_any (s : ByteArray) (hs : s.size ≤ maxLen) (w : World) : Calls Try.prog 7 #[.string s] w fun e w' => e = .returned (.bool (keyB s.data.toList)) ∧ Below w.heap.size w w' := by
  unfold maxLen at hs
  go_enter Try.func7, Try.ntmps7
  go_wp2
  go_loopw [3] (fun n w' => ∃ pos : Nat, pos ≤ s.size ∧ w' = w.iter s pos ∧ ∀ j (hj : j < s.size), j < pos → fig s[j] = true) (fun _ w' => s.size - w'.iterPos w.heap.size)
  case atStart => exact ⟨0, by omega, rfl, fun j hj h => by omega⟩
  case round =>
    obtain ⟨pos, hpos, rfl, hf⟩ := hrel
    have HF := Lib.hid hf
    clear hf
    by_cases hp : pos < s.size
    · by_cases hg : fig s[pos] = true
      · have hnx : ∀ ty, (Instr.next (.pointer (some ⟨w.heap.size, 0, none⟩)) true ty).run Try.prog (w.iter s pos) = _ := fun ty => run_next_ascii w s pos ty hp (fig_ascii _ hg)
        have hn : decide (figV s[pos] < 0) = false := by rw [figV_neg, hg]; rfl
        have HG := Lib.hid hg
        clear hg
        go_wp2_with (go_at_call 12; refine (indexByte_any _ _).mono ?_; rintro e w' ⟨rfl, rfl⟩)
        go_roundw
        case rel => exact ⟨pos + 1, by omega, rfl, fun j hj h => by
          rcases Nat.lt_or_ge j pos with k | k
          · exact HF.out j hj k
          · obtain rfl : j = pos := by omega
            exact HG.out⟩
        case measure => simp; omega
      · have hnx : ∀ ty, (Instr.next (.pointer (some ⟨w.heap.size, 0, none⟩)) true ty).run Try.prog (w.iter s pos) = _ := fun ty => run_next_any w s pos ty hp
        have hg' : fig s[pos] = false := by simpa using hg
        have hn : decide (figV s[pos] < 0) = true := by rw [figV_neg, hg']; rfl
        have HK := Lib.hid (keyB_bad s pos hp hg')
        clear hg hg'
        go_wp2_with (go_at_call 12; refine (indexByte_any _ _).mono ?_; rintro e w' ⟨rfl, rfl⟩)
        go_ret
        exact ⟨congrArg (fun b => Ending.returned (.bool b)) HK.out.symm, (Below.refl _ _).alloc (Nat.le_refl _) _⟩
    · have hnx : ∀ ty, (Instr.next (.pointer (some ⟨w.heap.size, 0, none⟩)) true ty).run Try.prog (w.iter s pos) = _ := fun ty => run_next_end w s pos ty hp
      have hall : ∀ j (hj : j < s.size), fig s[j] = true := fun j hj => HF.out j hj (by omega)
      have HK := Lib.hid (keyB_all s hall)
      clear hall HF
      by_cases h0 : s.size = 0
      · have hv : false = keyB s.data.toList := by rw [HK.out, h0]; rfl
        have hn := (toList_nil s).2 h0
        have HV := Lib.hid hv
        clear hv h0 HK
        go_wp2_with fail
        go_ret
        exact ⟨congrArg (fun b => Ending.returned (.bool b)) HV.out, (Below.refl _ _).alloc (Nat.le_refl _) _⟩
      · have hn : ¬ s.toList = [] := fun h => h0 ((toList_nil s).1 h)
        have hn' : (!s.toList.isEmpty) = true := by simpa using hn
        have hlen : s.data.toList ≠ [] := fun h => h0 (by rw [Lib.size_eq, h]; rfl)
        by_cases h64 : s.size ≤ 64
        · have hv : (!(Lib.hasSuffix s.data.toList [48])) = keyB s.data.toList := by
            rw [HK.out, suffix_last _ hlen, decide_eq_true h64, decide_eq_true (show 1 ≤ s.size by omega)]; rfl
          have HV := Lib.hid hv
          clear hv HK hlen
          go_wp2_with (go_at_call 13; refine (Try.strings_HasSuffix _ _ _ hs).mono ?_; rintro e w' ⟨rfl, rfl⟩)
          go_ret
          exact ⟨congrArg (fun b => Ending.returned (.bool b)) HV.out, (Below.refl _ _).alloc (Nat.le_refl _) _⟩
        · have hv : false = keyB s.data.toList := by
            rw [HK.out, decide_eq_false h64]; simp
          have hb : 64 < (s.size : Int) := by omega
          have HV := Lib.hid hv
          clear hv HK hlen h64
          go_wp2_with fail
          go_ret
          exact ⟨congrArg (fun b => Ending.returned (.bool b)) HV.out, (Below.refl _ _).alloc (Nat.le_refl _) _⟩

theorem fig_or (b : UInt8) : fig b = ((decide (48 ≤ (b.toNat : Int)) && decide ((b.toNat : Int) ≤ 57)) || (decide (97 ≤ (b.toNat : Int)) && decide ((b.toNat : Int) ≤ 122))) := by
  unfold fig
  congr 1 <;> congr 1 <;> exact decide_eq_decide.2 (by omega)
theorem last_at (s : ByteArray) (h : s.size - 1 < s.size) : s.data.toList.getLast? = some s[s.size - 1] := by
  rw [List.getLast?_eq_getElem?, ← Lib.size_eq, List.getElem?_eq_getElem (by rw [← Lib.size_eq]; exact h)]
  rfl
theorem byte_ne (b : UInt8) : ((b.toNat : Int) != 48) = !(b == 48) := by
  rw [bne]
  congr 1
  rw [Bool.eq_iff_iff, beq_iff_eq, beq_iff_eq]
  constructor
  · intro h
    exact UInt8.toNat_inj.1 (by show b.toNat = 48; omega)
  · rintro rfl; rfl
set_option maxHeartbeats 2000000 in
theorem key_any (s : ByteArray) (hs : s.size ≤ maxLen) (w : World) : Calls Try.prog 8 #[.string s] w fun e w' => e = .returned (.bool (keyB s.data.toList)) ∧ Below w.heap.size w w' := by
  unfold maxLen at hs
  go_enter Try.func8, Try.ntmps8
  go_wp2
  go_loop [3] (fun n => ∃ pos : Nat, pos ≤ s.size ∧ n = .int .i64 pos ∧ ∀ j (hj : j < s.size), j < pos → fig s[j] = true) (fun n => s.size - (intOf n).toNat)
  case atStart => exact ⟨0, by omega, rfl, fun j hj h => by omega⟩
  case round =>
    obtain ⟨pos, hpos, rfl, hf⟩ := hrel
    have HF := Lib.hid hf
    clear hf
    by_cases hp : pos < s.size
    · by_cases hg : fig s[pos] = true
      · have HG := Lib.hid hg
        have hor := fig_or s[pos]
        rw [hg] at hor
        have hd : (48 ≤ (s[pos].toNat : Int) ∧ (s[pos].toNat : Int) ≤ 57) ∨ (57 < (s[pos].toNat : Int) ∧ 97 ≤ (s[pos].toNat : Int) ∧ (s[pos].toNat : Int) ≤ 122) := by
          simp at hor; omega
        clear hg hor
        have hend : ∀ j (hj : j < s.size), j < pos + 1 → fig s[j] = true := fun j hj h => by
          rcases Nat.lt_or_ge j pos with k | k
          · exact HF.out j hj k
          · obtain rfl : j = pos := by omega
            exact HG.out
        have HE := Lib.hid hend
        clear hend
        rcases hd with ⟨d1, d2⟩ | ⟨d1, d2, d3⟩
        · go_wp2
          all_goals
            go_round
            case rel => exact ⟨pos + 1, by omega, by go_num, HE.out⟩
            case measure => simp [intOf]; omega
        · go_wp2
          all_goals
            go_round
            case rel => exact ⟨pos + 1, by omega, by go_num, HE.out⟩
            case measure => simp [intOf]; omega
      · have hg' : fig s[pos] = false := by simpa using hg
        have HK := Lib.hid (keyB_bad s pos hp hg')
        have hor := fig_or s[pos]
        rw [hg'] at hor
        have hd : ((s[pos].toNat : Int) < 48) ∨ (48 ≤ (s[pos].toNat : Int) ∧ 57 < (s[pos].toNat : Int) ∧ (s[pos].toNat : Int) < 97) ∨ (48 ≤ (s[pos].toNat : Int) ∧ 57 < (s[pos].toNat : Int) ∧ 97 ≤ (s[pos].toNat : Int) ∧ 122 < (s[pos].toNat : Int)) := by
          simp at hor; omega
        clear hg hg' hor
        rcases hd with d1 | ⟨d1, d2, d3⟩ | ⟨d1, d2, d3, d4⟩
        · have q0 : decide (48 ≤ (s[pos].toNat : Int)) = false := by simp; omega
          have q1 : decide (97 ≤ (s[pos].toNat : Int)) = false := by simp; omega
          go_wp2
          go_ret
          exact ⟨congrArg (fun b => Ending.returned (.bool b)) HK.out.symm, by (repeat' (first | with_reducible exact Below.refl _ _ | with_reducible assumption | with_reducible refine below_ext ?_ ?_ | with_reducible refine Below.alloc ?_ ?_ _ | with_reducible refine Below.drew ?_ | with_reducible refine below_drewN ?_ _ | with_reducible refine Below.setCell ?_ ?_ _ | go_size))⟩
        · have q0 : decide (48 ≤ (s[pos].toNat : Int)) = true := by simp; omega
          have q1 : decide ((s[pos].toNat : Int) ≤ 57) = false := by simp; omega
          have q2 : decide (97 ≤ (s[pos].toNat : Int)) = false := by simp; omega
          go_wp2
          go_ret
          exact ⟨congrArg (fun b => Ending.returned (.bool b)) HK.out.symm, by (repeat' (first | with_reducible exact Below.refl _ _ | with_reducible assumption | with_reducible refine below_ext ?_ ?_ | with_reducible refine Below.alloc ?_ ?_ _ | with_reducible refine Below.drew ?_ | with_reducible refine below_drewN ?_ _ | with_reducible refine Below.setCell ?_ ?_ _ | go_size))⟩
        · have q0 : decide (48 ≤ (s[pos].toNat : Int)) = true := by simp; omega
          have q1 : decide ((s[pos].toNat : Int) ≤ 57) = false := by simp; omega
          have q2 : decide (97 ≤ (s[pos].toNat : Int)) = true := by simp; omega
          have q3 : decide ((s[pos].toNat : Int) ≤ 122) = false := by simp; omega
          go_wp2
          go_ret
          exact ⟨congrArg (fun b => Ending.returned (.bool b)) HK.out.symm, by (repeat' (first | with_reducible exact Below.refl _ _ | with_reducible assumption | with_reducible refine below_ext ?_ ?_ | with_reducible refine Below.alloc ?_ ?_ _ | with_reducible refine Below.drew ?_ | with_reducible refine below_drewN ?_ _ | with_reducible refine Below.setCell ?_ ?_ _ | go_size))⟩
    · have hall : ∀ j (hj : j < s.size), fig s[j] = true := fun j hj => HF.out j hj (by omega)
      have HK := Lib.hid (keyB_all s hall)
      clear hall HF
      by_cases h0 : s.size = 0
      · have hv : false = keyB s.data.toList := by rw [HK.out, h0]; rfl
        have hn : (s.size : Int) < 1 := by omega
        have HV := Lib.hid hv
        clear hv h0 HK
        go_wp2
        go_ret
        exact ⟨congrArg (fun b => Ending.returned (.bool b)) HV.out, by (repeat' (first | with_reducible exact Below.refl _ _ | with_reducible assumption | with_reducible refine below_ext ?_ ?_ | with_reducible refine Below.alloc ?_ ?_ _ | with_reducible refine Below.drew ?_ | with_reducible refine below_drewN ?_ _ | with_reducible refine Below.setCell ?_ ?_ _ | go_size))⟩
      · have hn : 1 ≤ (s.size : Int) := by omega
        by_cases h64 : s.size ≤ 64
        · have hlt : s.size - 1 < s.size := by omega
          have hv : (!(s[s.size - 1] == 48)) = keyB s.data.toList := by
            rw [HK.out, last_at s hlt, decide_eq_true h64, decide_eq_true (show 1 ≤ s.size by omega)]; simp
          have HV := Lib.hid hv
          clear hv HK
          go_wp2
          go_ret
          refine ⟨congrArg (fun b => Ending.returned (.bool b)) (Eq.trans (byte_ne _) HV.out), by (repeat' (first | with_reducible exact Below.refl _ _ | with_reducible assumption | with_reducible refine below_ext ?_ ?_ | with_reducible refine Below.alloc ?_ ?_ _ | with_reducible refine Below.drew ?_ | with_reducible refine below_drewN ?_ _ | with_reducible refine Below.setCell ?_ ?_ _ | go_size))⟩
        · have hv : false = keyB s.data.toList := by
            rw [HK.out, decide_eq_false h64]; simp
          have hb : 64 < (s.size : Int) := by omega
          have HV := Lib.hid hv
          clear hv HK h64
          go_wp2
          go_ret
          exact ⟨congrArg (fun b => Ending.returned (.bool b)) HV.out, by (repeat' (first | with_reducible exact Below.refl _ _ | with_reducible assumption | with_reducible refine below_ext ?_ ?_ | with_reducible refine Below.alloc ?_ ?_ _ | with_reducible refine Below.drew ?_ | with_reducible refine below_drewN ?_ _ | with_reducible refine Below.setCell ?_ ?_ _ | go_size))⟩
end Go.Proofs.Ytdhhjojfakkjoaa
