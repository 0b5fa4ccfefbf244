/- WHAT EITHER PARSE ANSWERS: the one stamp that may be whose text it is, or the error. -/
import Derived.Test.YtpkbkcjegbpifaaDoorDParse
namespace Go.Proofs.YtpkbkcjegbpifaaDoor
open Go.RowKit Go.Lib
set_option linter.unusedSimpArgs false
set_option linter.unusedVariables false

def Parsed (s : ByteArray) (n r e : Int) : Prop := (e = 0 ∧ okS n r ∧ s = txtL n r) ∨ (e = 12 ∧ n = 0 ∧ r = 0 ∧ ∀ m q, okS m q → s ≠ txtL m q)
theorem parsed_some (s : ByteArray) : ∃ n r e, Parsed s n r e := by
  by_cases h : ∃ m q, okS m q ∧ s = txtL m q
  · obtain ⟨m, q, h1, h2⟩ := h
    exact ⟨m, q, 0, Or.inl ⟨rfl, h1, h2⟩⟩
  · exact ⟨0, 0, 12, Or.inr ⟨rfl, rfl, rfl, fun m q h1 h2 => h ⟨m, q, h1, h2⟩⟩⟩
theorem split_unique : ∀ (x y z t : List UInt8), 46 ∉ x → 46 ∉ z → x ++ 46 :: y = z ++ 46 :: t → x = z ∧ y = t := by
  intro x
  induction x with
  | nil =>
    intro y z t _ hz e
    cases z with
    | nil => simpa using e
    | cons c z => simp at e; exact absurd (by simp [e.1]) hz
  | cons c x ih =>
    intro y z t hx hz e
    cases z with
    | nil => simp at e; exact absurd (by simp [e.1]) hx
    | cons d z =>
      simp only [List.cons_append, List.cons.injEq] at e
      obtain ⟨rfl, e⟩ := e
      obtain ⟨rfl, rfl⟩ := ih y z t (fun m => hx (by simp [m])) (fun m => hz (by simp [m])) e
      exact ⟨rfl, rfl⟩
theorem itoa_point {n r : Int} (h : okS n r) : (46 : UInt8) ∉ Lib.itoa n := (scan_numeral_of (okS_range h).1 (okS_range h).2.1).2.2.2.1
/-- the parts of a text that is a stamp's -/
theorem parts_of {a b : List UInt8} {n r : Int} (ha : 46 ∉ a) (h : okS n r) {s : ByteArray} (hs : s.data.toList = a ++ 46 :: b) (e : s = txtL n r) : a = Lib.itoa n ∧ b = Lib.itoa r := by
  rw [e, txtL_data] at hs
  obtain ⟨h1, h2⟩ := split_unique _ _ _ _ (itoa_point h) ha hs
  exact ⟨h1.symm, h2.symm⟩
theorem numOk_parts {a : List UInt8} {k : Bool} (h : numOk a k = true) : k = true ∧ scan a 0 = some (numV a) ∧ shape a = true := by
  unfold numOk at h
  simp only [Bool.and_eq_true] at h
  obtain ⟨⟨h1, h2⟩, h3⟩ := h
  obtain ⟨n, hn⟩ := Option.isSome_iff_exists.1 h2
  exact ⟨h1, by rw [numV, hn]; rfl, h3⟩
theorem numOk_itoa {n : Int} (h0 : 0 ≤ n) (h1 : n ≤ 1048576) (k : Bool) : numOk (Lib.itoa n) k = k ∧ numV (Lib.itoa n) = n := by
  obtain ⟨a, b, _⟩ := scan_numeral_of h0 h1
  unfold numOk numV
  rw [a, b]
  simp
theorem parse_any (s : ByteArray) (hs : s.size ≤ maxLen) (n r e : Int) (h : Parsed s n r e) (w : World) :
    Calls Tryd.prog 9 #[.string s] w fun en w' => en = .returned (.tuple #[st n r, .int .i64 e]) ∧ Below w.heap.size w w' := by
  rcases point_split s.data.toList with ⟨hno, hi⟩ | ⟨a, b, hsp, ha, hi⟩
  · have hc : Cuts s s ⟨#[]⟩ false := fun w => cut_no s hi w
    rcases h with ⟨_, h1, h2⟩ | ⟨rfl, rfl, rfl, _⟩
    · exfalso
      apply hno
      rw [h2, txtL_data]; simp
    · exact parse_1 s s ⟨#[]⟩ hs (by show 0 ≤ maxLen; exact Nat.zero_le _) hc w
  · have hc : Cuts s ⟨a.toArray⟩ ⟨b.toArray⟩ true := fun w => cut_point a b ha s hsp hs hi w
    have hl : s.size = a.length + (b.length + 1) := by
      rw [show s.size = s.data.toList.length from rfl, hsp, List.length_append, List.length_cons]
    have za : (⟨a.toArray⟩ : ByteArray).size ≤ maxLen := by
      have : (⟨a.toArray⟩ : ByteArray).size = a.length := by simp [ByteArray.size]
      omega
    have zb : (⟨b.toArray⟩ : ByteArray).size ≤ maxLen := by
      have : (⟨b.toArray⟩ : ByteArray).size = b.length := by simp [ByteArray.size]
      omega
    have da : (⟨a.toArray⟩ : ByteArray).data.toList = a := rfl
    have db : (⟨b.toArray⟩ : ByteArray).data.toList = b := rfl
    cases hok : numOk b (numOk a true) with
    | false =>
      rcases h with ⟨_, h1, h2⟩ | ⟨rfl, rfl, rfl, _⟩
      · exfalso
        obtain ⟨k0, k1, k2, k3⟩ := okS_range h1
        obtain ⟨e1, e2⟩ := parts_of ha h1 hsp h2
        rw [e1, e2, (numOk_itoa k0 k1 true).1, (numOk_itoa k2 (by omega) true).1] at hok
        cases hok
      · exact parse_2 s _ _ za zb hc (by rw [da, db]; exact hok) w
    | true =>
      obtain ⟨o1, o2, o3⟩ := numOk_parts hok
      obtain ⟨_, o4, o5⟩ := numOk_parts o1
      have hs' := parse_parts hsp o4 o2 o5 o3
      by_cases hk : okS (numV a) (numV b)
      · have hnr : n = numV a ∧ r = numV b ∧ e = 0 := by
          rcases h with ⟨h0, h1, h2⟩ | ⟨_, _, _, h3⟩
          · obtain ⟨e1, e2⟩ := txtL_inj h1 hk (h2.symm.trans hs')
            exact ⟨e1, e2, h0⟩
          · exact absurd hs' (h3 _ _ hk)
        obtain ⟨rfl, rfl, rfl⟩ := hnr
        by_cases z1 : numV a = 0
        · by_cases z2 : numV b = 0
          · have c := parse_3 s _ _ za zb hc (by rw [da, db]; exact hok) (by rw [da]; exact z1) (by rw [db]; exact z2) w
            rwa [z1, z2]
          · have hB : rightB 0 (numV b) = true := by
              rcases hk with ⟨_, k2⟩ | k
              · exact absurd k2 z2
              · rwa [z1] at k
            have c := parse_4b s _ _ za zb hc (by rw [da, db]; exact hok) (by rw [da]; exact z1) (by rw [db]; exact beq_eq_false_iff_ne.2 z2) (by rw [db]; exact hB) w
            rw [db] at c
            rwa [z1]
        · have hB : rightB (numV a) (numV b) = true := by
            rcases hk with ⟨k1, _⟩ | k
            · exact absurd k1 z1
            · exact k
          exact parse_4a s _ _ za zb hc (by rw [da, db]; exact hok) (by rw [da]; exact beq_eq_false_iff_ne.2 z1) (by rw [da, db]; exact hB) w
      · rcases h with ⟨_, h1, h2⟩ | ⟨rfl, rfl, rfl, _⟩
        · exfalso
          obtain ⟨k0, k1, k2, k3⟩ := okS_range h1
          obtain ⟨e1, e2⟩ := parts_of ha h1 hsp h2
          rw [e1, e2, (numOk_itoa k0 k1 true).2, (numOk_itoa k2 (by omega) true).2] at hk
          exact hk h1
        · have hB : rightB (numV a) (numV b) = false := by
            cases hx : rightB (numV a) (numV b) with
            | false => rfl
            | true => exact absurd (Or.inr hx) hk
          by_cases z1 : numV a = 0
          · have z2 : ¬ numV b = 0 := fun z2 => hk (Or.inl ⟨z1, z2⟩)
            exact parse_5b s _ _ za zb hc (by rw [da, db]; exact hok) (by rw [da]; exact z1) (by rw [db]; exact beq_eq_false_iff_ne.2 z2) (by rw [db, ← z1]; exact hB) w
          · exact parse_5a s _ _ za zb hc (by rw [da, db]; exact hok) (by rw [da]; exact beq_eq_false_iff_ne.2 z1) (by rw [da, db]; exact hB) w
/-- a text parted at a point that is its first -/
theorem split_at (s : ByteArray) (k : Nat) (hk : k < s.size) (hc : s[k] = 46) (hb : ∀ j (hj : j < s.size), j < k → s[j] ≠ 46) :
    s.data.toList = (s.extract 0 k).data.toList ++ 46 :: (s.extract (k + 1) s.size).data.toList ∧ 46 ∉ (s.extract 0 k).data.toList := by
  have hl : k < s.data.toList.length := hk
  have e1 : (s.extract 0 k).data.toList = s.data.toList.take k := by
    rw [ByteArray.data_extract, Array.toList_extract, List.extract_eq_take_drop]; simp
  have e2 : (s.extract (k + 1) s.size).data.toList = s.data.toList.drop (k + 1) := by
    rw [ByteArray.data_extract, Array.toList_extract, List.extract_eq_take_drop, List.take_of_length_le (by rw [List.length_drop]; exact Nat.le_refl _)]
  rw [e1, e2]
  constructor
  · have := List.take_append_drop k s.data.toList
    rw [List.drop_eq_getElem_cons hl, show s.data.toList[k] = 46 from hc] at this
    exact this.symm
  · intro hm
    obtain ⟨j, hj, he⟩ := List.mem_iff_getElem.1 hm
    have hj' : j < k := by simp at hj; omega
    rw [List.getElem_take] at he
    exact hb j (by omega) hj' he
theorem rp_of {s : ByteArray} {n r e : Int} (h : Parsed s n r e) : RP s n r e where
  eq := fun k hk h20 hc hb ht => by
    have hne : s.size ≠ 0 := by omega
    have hok : okS (numA s k) (numB s k) := Classical.byContradiction fun hn => by
      rw [txt_nok hn] at ht
      exact hne (by rw [← ht]; rfl)
    rw [txt_okS hok] at ht
    rcases h with ⟨h0, h1, h2⟩ | ⟨_, _, _, h3⟩
    · obtain ⟨e1, e2⟩ := txtL_inj h1 hok (h2.symm.trans ht.symm)
      exact ⟨e1, e2, h0⟩
    · exact absurd ht.symm (h3 _ _ hok)
  ne := fun k hk h20 hc hb ht => by
    rcases h with ⟨h0, h1, h2⟩ | ⟨rfl, rfl, rfl, _⟩
    · exfalso
      apply ht
      obtain ⟨hsp, hpt⟩ := split_at s k hk hc hb
      obtain ⟨e1, e2⟩ := parts_of hpt h1 hsp h2
      obtain ⟨k0, k1, k2, k3⟩ := okS_range h1
      have a1 : numA s k = n := by rw [numA, e1]; exact (scan_numeral_of k0 k1).2.2.1
      have a2 : numB s k = r := by rw [numB, e2]; exact (scan_numeral_of k2 (by omega)).2.2.1
      rw [a1, a2, txt_okS h1, h2]
    · exact ⟨rfl, rfl, rfl⟩
  no := fun hb => by
    rcases h with ⟨h0, h1, h2⟩ | ⟨rfl, rfl, rfl, _⟩
    · exfalso
      obtain ⟨k0, k1, k2, k3⟩ := okS_range h1
      have hl := (scan_numeral_of k0 k1).2.2.2.2
      have hd : s.data.toList = Lib.itoa n ++ 46 :: Lib.itoa r := by rw [h2, txtL_data]
      have hs : s.size = (Lib.itoa n).length + ((Lib.itoa r).length + 1) := by
        rw [show s.size = s.data.toList.length from rfl, hd, List.length_append, List.length_cons]
      refine hb (Lib.itoa n).length (by omega) (by omega) ?_
      have : s.data.toList[(Lib.itoa n).length]? = some 46 := by rw [hd]; simp
      obtain ⟨_, h5⟩ := List.getElem?_eq_some_iff.1 this
      exact h5
    · exact ⟨rfl, rfl, rfl⟩
theorem refParsed_any (s : ByteArray) (hs : s.size ≤ maxLen) (n r e : Int) (h : Parsed s n r e) (w : World) :
    Calls Tryd.prog 10 #[.string s] w fun en w' => en = .returned (.tuple #[st n r, .int .i64 e]) ∧ Below w.heap.size w w' := refParse_any s hs n r e (rp_of h) w
end Go.Proofs.YtpkbkcjegbpifaaDoor
