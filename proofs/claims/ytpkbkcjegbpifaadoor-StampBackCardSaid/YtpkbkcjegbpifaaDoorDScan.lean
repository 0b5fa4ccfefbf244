/- NUMBERS OUT OF FIGURES: plain laws; no program in sight. -/
import Derived.Test.YtpkbkcjegbpifaaDoorDPlain
namespace Go.Proofs.YtpkbkcjegbpifaaDoor
open Go.RowKit Go.Lib
set_option linter.unusedSimpArgs false
set_option linter.unusedVariables false

def badC (c : UInt8) : Prop := c.toNat < 48 ∨ 57 < c.toNat
instance (c : UInt8) : Decidable (badC c) := by unfold badC; infer_instance
/-- the program's: figures read on from n -/
def scan : List UInt8 → Int → Option Int
  | [], n => some n
  | c :: r, n => if badC c ∨ 1048576 < n then none else scan r (10 * n + ((c.toNat : Int) - 48))
def shape (l : List UInt8) : Bool := l.length == 1 || (decide (1 < l.length) && !(l.head? == some 48))
/-- the reference's -/
def rscan : List UInt8 → Int → Int
  | [], n => if 1048576 < n then -1 else n
  | c :: r, n => if 1048576 < n then -1 else if badC c then -1 else rscan r (10 * n + ((c.toNat : Int) - 48))
def rnum (l : List UInt8) : Int := if l = [] then -1 else rscan l 0

theorem fig_ok (d : Nat) (h : d < 10) : (UInt8.ofNat (48 + d)).toNat = 48 + d := by
  simp only [UInt8.toNat_ofNat']; omega
theorem dec_next (m d : Nat) (hm : 1 ≤ m) (hd : d < 10) : decDigits (10 * m + d) = decDigits m ++ [UInt8.ofNat (48 + d)] := by
  rw [decDigits, dif_neg (by omega), show (10 * m + d) / 10 = m by omega, show (10 * m + d) % 10 = d by omega]
theorem scan_dec (u : Nat) : ∀ r, u ≤ 1048576 * 10 → scan (decDigits u ++ r) 0 = scan r u := by
  induction u using Nat.strongRecOn with
  | _ u ih =>
    intro r hu
    by_cases h : u < 10
    · rw [dec_one u h, List.singleton_append, scan, if_neg (by unfold badC; rw [fig_ok u h]; omega), fig_ok u h]
      congr 1; omega
    · rw [decDigits, dif_neg h, List.append_assoc, ih (u / 10) (by omega) _ (by omega), List.singleton_append, scan, if_neg (by unfold badC; rw [fig_ok _ (by omega)]; omega), fig_ok _ (by omega)]
      congr 1; omega
theorem rscan_dec (u : Nat) : ∀ r, u ≤ 1048576 * 10 → rscan (decDigits u ++ r) 0 = rscan r u := by
  induction u using Nat.strongRecOn with
  | _ u ih =>
    intro r hu
    by_cases h : u < 10
    · rw [dec_one u h, List.singleton_append, rscan, if_neg (by omega), if_neg (by unfold badC; rw [fig_ok u h]; omega), fig_ok u h]
      congr 1; omega
    · rw [decDigits, dif_neg h, List.append_assoc, ih (u / 10) (by omega) _ (by omega), List.singleton_append, rscan, if_neg (by omega), if_neg (by unfold badC; rw [fig_ok _ (by omega)]; omega), fig_ok _ (by omega)]
      congr 1; omega
theorem dec_head (u : Nat) : 1 ≤ u → ∃ d r, 1 ≤ d ∧ d < 10 ∧ decDigits u = UInt8.ofNat (48 + d) :: r := by
  induction u using Nat.strongRecOn with
  | _ u ih =>
    intro h1
    by_cases h : u < 10
    · exact ⟨u, [], h1, h, dec_one u h⟩
    · obtain ⟨d, r, d1, d2, e⟩ := ih (u / 10) (by omega) (by omega)
      refine ⟨d, r ++ [UInt8.ofNat (48 + u % 10)], d1, d2, ?_⟩
      rw [decDigits, dif_neg h, e]; rfl
theorem dec_figs (u : Nat) : ∀ c ∈ decDigits u, 48 ≤ c.toNat ∧ c.toNat ≤ 57 := by
  induction u using Nat.strongRecOn with
  | _ u ih =>
    intro c hc
    by_cases h : u < 10
    · rw [dec_one u h] at hc
      simp only [List.mem_singleton] at hc
      rw [hc, fig_ok u h]; omega
    · rw [decDigits, dif_neg h] at hc
      rcases List.mem_append.1 hc with hc | hc
      · exact ih (u / 10) (by omega) c hc
      · simp only [List.mem_singleton] at hc
        rw [hc, fig_ok _ (by omega)]; omega
theorem dec_point (u : Nat) : (46 : UInt8) ∉ decDigits u := fun h => by
  have := dec_figs u 46 h
  simp at this
theorem dec_short (k : Nat) : ∀ u, u < 10 ^ k → 1 ≤ k → (decDigits u).length ≤ k := by
  induction k with
  | zero => intro u _ h; omega
  | succ k ih =>
    intro u hu _
    by_cases h : u < 10
    · rw [dec_one u h]; simp
    · rw [decDigits, dif_neg h]
      have hk : 1 ≤ k := by
        rcases Nat.eq_zero_or_pos k with rfl | hk
        · simp at hu; omega
        · exact hk
      have := ih (u / 10) (by rw [Nat.pow_succ] at hu; omega) hk
      simp; omega
theorem dec_shape (u : Nat) : shape (decDigits u) = true := by
  by_cases h : u < 10
  · rw [dec_one u h]; rfl
  · obtain ⟨d, r, d1, d2, e⟩ := dec_head u (by omega)
    have hl := dec_len u h
    unfold shape
    have : ¬ (UInt8.ofNat (48 + d) = 48) := fun k => by
      have := congrArg UInt8.toNat k
      rw [fig_ok d d2] at this
      simp at this; omega
    rw [e] at hl ⊢
    rw [show ((UInt8.ofNat (48 + d) :: r).head? == some (48 : UInt8)) = (UInt8.ofNat (48 + d) == 48) from rfl, beq_eq_false_iff_ne.2 this]
    simp only [Bool.not_false, Bool.and_true, Bool.or_eq_true, decide_eq_true_eq]
    exact Or.inr hl
theorem fig_back {c : UInt8} (h : ¬ badC c) : c.toNat - 48 < 10 ∧ c = UInt8.ofNat (48 + (c.toNat - 48)) := by
  unfold badC at h
  refine ⟨by omega, ?_⟩
  apply UInt8.toNat_inj.1
  rw [fig_ok _ (by omega)]; omega
theorem scan_back : ∀ (r : List UInt8) (m : Nat) (n : Int), 1 ≤ m → scan r m = some n → 0 ≤ n ∧ decDigits m ++ r = decDigits n.toNat
  | [], m, n, hm, h => by
    simp only [scan, Option.some.injEq] at h
    subst h
    exact ⟨by omega, by simp⟩
  | c :: r, m, n, hm, h => by
    rw [scan] at h
    split at h
    · cases h
    · rename_i hb
      obtain ⟨h1, h2⟩ := fig_back (c := c) (fun k => hb (Or.inl k))
      have hc : ¬ badC c := fun k => hb (Or.inl k)
      unfold badC at hc
      have e : 10 * (m : Int) + ((c.toNat : Int) - 48) = ((10 * m + (c.toNat - 48) : Nat) : Int) := by omega
      rw [e] at h
      obtain ⟨h3, h4⟩ := scan_back r (10 * m + (c.toNat - 48)) n (by omega) h
      refine ⟨h3, ?_⟩
      rw [← h4, dec_next m _ hm h1, ← h2]
      simp
/-- what is read in full, and has no figure 0 ahead, is the numeral -/
theorem scan_numeral {l : List UInt8} {n : Int} (h : scan l 0 = some n) (hs : shape l = true) : 0 ≤ n ∧ l = decDigits n.toNat := by
  cases l with
  | nil => simp [shape] at hs
  | cons c r =>
    rw [scan] at h
    split at h
    · cases h
    · rename_i hb
      have hc : ¬ badC c := fun k => hb (Or.inl k)
      obtain ⟨h1, h2⟩ := fig_back hc
      unfold badC at hc
      have e : 10 * (0 : Int) + ((c.toNat : Int) - 48) = ((c.toNat - 48 : Nat) : Int) := by omega
      rw [e] at h
      by_cases h0 : 1 ≤ c.toNat - 48
      · obtain ⟨h3, h4⟩ := scan_back r _ n h0 h
        refine ⟨h3, ?_⟩
        rw [← h4, dec_one _ h1, ← h2]; rfl
      · have hr : r = [] := by
          unfold shape at hs
          have h48 : c = 48 := by rw [h2, show c.toNat - 48 = 0 by omega]; rfl
          subst h48
          simp at hs
          exact hs
        subst hr
        simp only [scan, Option.some.injEq] at h
        subst h
        refine ⟨by omega, ?_⟩
        rw [Int.toNat_natCast, dec_one _ h1, ← h2]
theorem scan_numeral_of {n : Int} (h0 : 0 ≤ n) (h1 : n ≤ 1048576) : scan (Lib.itoa n) 0 = some n ∧ shape (Lib.itoa n) = true ∧ rnum (Lib.itoa n) = n ∧ (46 : UInt8) ∉ Lib.itoa n ∧ (Lib.itoa n).length ≤ 7 := by
  rw [itoa_pos h0]
  have a := scan_dec n.toNat [] (by omega)
  have b := rscan_dec n.toNat [] (by omega)
  rw [List.append_nil] at a b
  refine ⟨?_, dec_shape _, ?_, dec_point _, dec_short 7 _ (by omega) (by omega)⟩
  · rw [a, scan]; congr 1; omega
  · rw [rnum, if_neg (dec_ne _), b, rscan, if_neg (by omega)]; omega
/-- a stamp whose text is parsed -/
def okS (n r : Int) : Prop := (n = 0 ∧ r = 0) ∨ rightB n r = true
theorem okS_range {n r : Int} (h : okS n r) : 0 ≤ n ∧ n ≤ 1048576 ∧ 0 ≤ r ∧ r < 8 := by
  rcases h with ⟨rfl, rfl⟩ | h
  · omega
  · obtain ⟨h1, h2, h3, h4⟩ := of_decide_eq_true h; omega
theorem txt_okS {n r : Int} (h : okS n r) : txt n r = txtL n r := if_pos h
theorem txt_nok {n r : Int} (h : ¬ okS n r) : txt n r = ⟨#[]⟩ := if_neg h
theorem txtL_data (n r : Int) : (txtL n r).data.toList = Lib.itoa n ++ 46 :: Lib.itoa r := by
  simp [txtL, itS]
theorem data_ext {s t : ByteArray} (h : s.data.toList = t.data.toList) : s = t := ByteArray.ext (Array.toList_inj.1 h)
/-- the text of a stamp that may be, parsed as parts -/
theorem parse_parts {s : ByteArray} {a b : List UInt8} (hs : s.data.toList = a ++ 46 :: b) {n r : Int} (ha : scan a 0 = some n) (hb : scan b 0 = some r) (sa : shape a = true) (sb : shape b = true) : s = txtL n r := by
  obtain ⟨h0, h1⟩ := scan_numeral ha sa
  obtain ⟨h2, h3⟩ := scan_numeral hb sb
  apply data_ext
  rw [txtL_data, hs, h1, h3, itoa_pos h0, itoa_pos h2]
theorem txtL_inj {n r m q : Int} (h : okS n r) (k : okS m q) (e : txtL n r = txtL m q) : n = m ∧ r = q := by
  obtain ⟨h0, h1, h2, h3⟩ := okS_range h
  obtain ⟨k0, k1, k2, k3⟩ := okS_range k
  have e := congrArg (fun s : ByteArray => s.data.toList) e
  simp only [txtL_data] at e
  have key : ∀ (x y z t : List UInt8), 46 ∉ x → 46 ∉ z → x ++ 46 :: y = z ++ 46 :: t → x = z ∧ y = t := by
    intro x
    induction x with
    | nil =>
      intro y z t _ hz e
      cases z with
      | nil => simpa using e
      | cons c z => simp at e; exact absurd (by simp [e.1]) hz
    | cons c x ih =>
      intro y z t hx hz e
      cases z with
      | nil => simp at e; exact absurd (by simp [e.1]) hx
      | cons d z =>
        simp only [List.cons_append, List.cons.injEq] at e
        obtain ⟨rfl, e⟩ := e
        obtain ⟨rfl, rfl⟩ := ih y z t (fun m => hx (by simp [m])) (fun m => hz (by simp [m])) e
        exact ⟨rfl, rfl⟩
  obtain ⟨a1, a2, _, a3, _⟩ := scan_numeral_of h0 h1
  obtain ⟨b1, _, _, b3, _⟩ := scan_numeral_of k0 k1
  obtain ⟨c1, _⟩ := scan_numeral_of h2 (by omega : r ≤ 1048576)
  obtain ⟨d1, _⟩ := scan_numeral_of k2 (by omega : q ≤ 1048576)
  obtain ⟨e1, e2⟩ := key _ _ _ _ a3 b3 e
  rw [e1, b1] at a1
  rw [e2, d1] at c1
  exact ⟨(Option.some.inj a1).symm, (Option.some.inj c1).symm⟩
end Go.Proofs.YtpkbkcjegbpifaaDoor
