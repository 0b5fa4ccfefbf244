/- NUMERALS STAND AS NUMBERS DO: plain laws; no program in sight. -/
import Derived.Test.YtpkbkcjegbpifaaDoorDText
namespace Go.Proofs.YtpkbkcjegbpifaaDoor
open Go.RowKit Go.Lib
set_option linter.unusedSimpArgs false
set_option linter.unusedVariables false

theorem less_append (x y : List UInt8) : ∀ a b : List UInt8, a.length = b.length → Op.bytesLess (a ++ x) (b ++ y) = (Op.bytesLess a b || (a == b && Op.bytesLess x y))
  | [], [], _ => by simp [Op.bytesLess]
  | [], _ :: _, h => by simp at h
  | _ :: _, [], h => by simp at h
  | c :: a, d :: b, h => by
    have ih := less_append x y a b (by simpa using h)
    have e : (c :: a == d :: b) = (c == d && a == b) := rfl
    simp only [List.cons_append, Op.bytesLess, ih, e]
    cases decide (c < d) <;> cases (c == d) <;> cases (a == b) <;> cases Op.bytesLess a b <;> rfl
theorem less_irrefl : ∀ x : List UInt8, Op.bytesLess x x = false
  | [] => rfl
  | a :: x => by
    have := less_irrefl x
    simp [Op.bytesLess, this]
theorem dig_lt {a b : Nat} (ha : a < 10) (hb : b < 10) : decide (UInt8.ofNat (48 + a) < UInt8.ofNat (48 + b)) = decide (a < b) := by
  rw [Bool.eq_iff_iff]
  simp only [decide_eq_true_eq, UInt8.lt_iff_toNat_lt, UInt8.toNat_ofNat']
  omega
theorem dig_eq {a b : Nat} (ha : a < 10) (hb : b < 10) : (UInt8.ofNat (48 + a) == UInt8.ofNat (48 + b)) = decide (a = b) := by
  rw [Bool.eq_iff_iff]
  simp only [beq_iff_eq, decide_eq_true_eq, ← UInt8.toNat_inj, UInt8.toNat_ofNat']
  omega
theorem dec_ne (u : Nat) : decDigits u ≠ [] := by
  rw [decDigits]; split <;> simp
theorem dec_len (u : Nat) (h : ¬ u < 10) : 2 ≤ (decDigits u).length := by
  rw [decDigits, dif_neg h]
  have := List.length_pos_iff.2 (dec_ne (u / 10))
  simp; omega
theorem dec_one (u : Nat) (h : u < 10) : decDigits u = [UInt8.ofNat (48 + u)] := by rw [decDigits, dif_pos h]
theorem dec_less (u : Nat) : ∀ v, (decDigits u).length = (decDigits v).length → Op.bytesLess (decDigits u) (decDigits v) = decide (u < v) := by
  induction u using Nat.strongRecOn with
  | _ u ih =>
    intro v hl
    by_cases hu : u < 10
    · by_cases hv : v < 10
      · rw [dec_one u hu, dec_one v hv]
        simp only [Op.bytesLess, dig_lt hu hv, Bool.and_false, Bool.or_false]
      · have := dec_len v hv
        rw [dec_one u hu] at hl
        simp at hl; omega
    · by_cases hv : v < 10
      · have := dec_len u hu
        rw [dec_one v hv] at hl
        simp at hl; omega
      · have eu : decDigits u = decDigits (u / 10) ++ [UInt8.ofNat (48 + u % 10)] := by rw [decDigits, dif_neg hu]
        have ev : decDigits v = decDigits (v / 10) ++ [UInt8.ofNat (48 + v % 10)] := by rw [decDigits, dif_neg hv]
        have hl' : (decDigits (u / 10)).length = (decDigits (v / 10)).length := by
          rw [eu, ev] at hl; simpa using hl
        have i1 := ih (u / 10) (by omega) (v / 10) hl'
        rw [eu, ev, less_append _ _ _ _ hl', i1]
        have hm1 : u % 10 < 10 := by omega
        have hm2 : v % 10 < 10 := by omega
        have e1 : Op.bytesLess [UInt8.ofNat (48 + u % 10)] [UInt8.ofNat (48 + v % 10)] = decide (u % 10 < v % 10) := by
          simp only [Op.bytesLess, dig_lt hm1 hm2, Bool.and_false, Bool.or_false]
        rw [e1]
        by_cases hq : u / 10 = v / 10
        · rw [hq]
          simp only [beq_self_eq_true, Bool.true_and, Nat.lt_irrefl, decide_false, Bool.false_or]
          exact decide_eq_decide.2 (by omega)
        · have hne : (decDigits (u / 10) == decDigits (v / 10)) = false := by
            rw [beq_eq_false_iff_ne]
            intro he
            rcases Nat.lt_or_gt_of_ne hq with h | h
            · rw [he, less_irrefl] at i1
              exact absurd h (by simpa using i1.symm)
            · have i3 := ih (v / 10) (by omega) (u / 10) hl'.symm
              rw [he, less_irrefl] at i3
              exact absurd h (by simpa using i3.symm)
          rw [hne]
          simp only [Bool.false_and, Bool.or_false]
          exact decide_eq_decide.2 (by omega)

theorem itoa_pos {n : Int} (h : 0 ≤ n) : Lib.itoa n = decDigits n.toNat := by rw [Lib.itoa, if_neg (by omega)]
theorem txtL_list (n r : Int) : (txtL n r).toList = Lib.itoa n ++ [46] ++ Lib.itoa r := by
  rw [ByteArray.toList_eq]
  simp [txtL, itS]
theorem txt_right {n r : Int} (h : rightB n r = true) : txt n r = txtL n r := if_pos (Or.inr h)
theorem txt_size {n r : Int} (h : rightB n r = true) : (txt n r).size = (decDigits n.toNat).length + 2 := by
  obtain ⟨h1, h2, h3, h4⟩ := of_decide_eq_true h
  rw [txt_right h]
  have e : (txtL n r).size = (Lib.itoa n ++ [46] ++ Lib.itoa r).length := by
    unfold txtL itS
    rw [ByteArray.size_append, ByteArray.size_append]
    simp only [ByteArray.size, List.size_toArray, List.length_append, List.length_cons, List.length_nil]
  rw [e, itoa_pos (by omega), itoa_pos (by omega), dec_one r.toNat (by omega)]
  simp
/-- OF TWO STAMPS WHOSE TEXTS ARE AS LONG THE ONE THAT COMES FIRST HAS THE TEXT THAT COMES FIRST -/
theorem txt_less {n r m q : Int} (h : rightB n r = true) (k : rightB m q = true) (hl : (txt n r).size = (txt m q).size) : Op.bytesLess (txt n r).toList (txt m q).toList = decide (cmpS n r m q < 0) := by
  rw [txt_size h, txt_size k] at hl
  obtain ⟨h1, h2, h3, h4⟩ := of_decide_eq_true h
  obtain ⟨k1, k2, k3, k4⟩ := of_decide_eq_true k
  rw [txt_right h, txt_right k, txtL_list, txtL_list, itoa_pos (by omega), itoa_pos (by omega), itoa_pos (by omega), itoa_pos (by omega), dec_one r.toNat (by omega), dec_one q.toNat (by omega)]
  rw [List.append_assoc, List.append_assoc, less_append _ _ _ _ (by omega), dec_less _ _ (by omega)]
  have e1 : Op.bytesLess ([46] ++ [UInt8.ofNat (48 + r.toNat)]) ([46] ++ [UInt8.ofNat (48 + q.toNat)]) = decide (r.toNat < q.toNat) := by
    simp [Op.bytesLess]
    have := dig_lt (a := r.toNat) (b := q.toNat) (by omega) (by omega)
    simpa using this
  rw [e1]
  by_cases he : n = m
  · subst he
    simp only [Nat.lt_irrefl, decide_false, beq_self_eq_true, Bool.true_and, Bool.false_or]
    refine decide_eq_decide.2 ?_
    unfold cmpS cmpI
    repeat (first | omega | split)
  · have hne : (decDigits n.toNat == decDigits m.toNat) = false := by
      rw [beq_eq_false_iff_ne]
      intro hd
      have a1 := dec_less n.toNat m.toNat (by omega)
      have a2 := dec_less m.toNat n.toNat (by omega)
      rw [hd, less_irrefl] at a1
      rw [hd, less_irrefl] at a2
      have a1 := of_decide_eq_false a1.symm
      have a2 := of_decide_eq_false a2.symm
      omega
    rw [hne]
    simp only [Bool.false_and, Bool.or_false]
    refine decide_eq_decide.2 ?_
    unfold cmpS cmpI
    repeat (first | omega | split)
theorem txt_12 : txt 12 0 = ⟨#[49, 50, 46, 48]⟩ := by
  rw [txt_right (by decide)]
  unfold txtL itS
  rw [itoa_pos (by decide), itoa_pos (by decide), show (12 : Int).toNat = 12 from rfl, show (0 : Int).toNat = 0 from rfl, dec_one 0 (by decide), decDigits, dif_neg (by decide), dec_one _ (by decide)]
  rfl
end Go.Proofs.YtpkbkcjegbpifaaDoor
