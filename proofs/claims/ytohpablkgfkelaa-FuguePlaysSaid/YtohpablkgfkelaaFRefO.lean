/- THE DOCUMENT's TEXT: order, All, Shown. -/
import Derived.Test.YtohpablkgfkelaaFRefKO
namespace Go.Proofs.Ytohpablkgfkelaa
open Go.RowKit Go.Joins
set_option linter.unusedSimpArgs false
set_option linter.unusedVariables false

/-- a row of elements, as append takes it -/
theorem RowEl.news {w : World} {base : Nat} {v : Value} {l : List El} {n : Nat} (h : RowEl w base v l) (hn : l.length = n) : ∃ ao cap, v = .slice ao n cap ∧ (ao = none → n = 0 ∧ cap = 0) ∧ (∀ ad, ao = some ad → ∀ j u, (elL l)[j]? = some u → w.cell? (ad.add j) = some u) := by
  subst hn
  rcases h.2 with ⟨rfl, h0⟩ | ⟨A, cap, cur, he, _, hb, hnc, hc, hs, ht⟩
  · exact ⟨none, 0, by rw [h0], fun _ => ⟨h0, rfl⟩, fun a h => (by cases h)⟩
  · refine ⟨some ⟨A, 0, none⟩, cap, he, fun h => (by cases h), fun ad e j u hj => ?_⟩
    cases e
    rw [Addr.add_lit, Nat.zero_add, blk_cell hb, ← Array.getElem?_toList]
    rw [← ht, List.getElem?_take] at hj
    split at hj
    · exact hj
    · cases hj
theorem RowIt.news {w : World} {base : Nat} {v : Value} {l : List It} {n : Nat} (h : RowIt w base v l) (hn : l.length = n) : ∃ ao cap, v = .slice ao n cap ∧ ItsAt w ao l := by
  subst hn
  obtain ⟨ao, cap, rfl, h1, -⟩ := h.form
  exact ⟨ao, cap, rfl, h1⟩
def OrdT (S : Tx) (C : List St) (w : World) (e : Ending) (w' : World) : Prop := ∃ v, e = .returned v ∧ RowEl w' w.heap.size v (C.map S.el) ∧ Below w.heap.size w w'
/-- what order asks -/
structure OrdQ (w : World) (m : Nat) (I : List It) (S : Tx) (F : Nat → Prop) (ao : Option Addr) (L : List It) (C : List St) : Prop where
  ref : RefM w m I F
  at' : ItsAt w ao L
  sub : ∀ a ∈ L, a ∈ I
  fl : Fl S.K (L.map (·.e.k)) C
theorem KI.le {I : List It} {p : St} {s : Int} {L : List It} {S : Tx} (h : Ref I S) (k : KI I p s I.length L) : L.length ≤ I.length := by
  have hn : L.Nodup := by
    have h1 := k.so
    rw [List.pairwise_map] at h1
    exact h1.imp (fun h e => by subst e; exact ltS_irrefl _ h)
  have hs : ∀ a ∈ L, a ∈ I := fun a ha => by have := ((k.mem a).1 ha).1; rwa [List.take_length] at this
  have le : ∀ {l m : List It}, l.Nodup → (∀ x ∈ l, x ∈ m) → l.length ≤ m.length := fun {l m} hn hs => by
    induction l generalizing m with
    | nil => exact Nat.zero_le _
    | cons x l ih =>
      obtain ⟨n1, n2⟩ := List.nodup_cons.1 hn
      have hx := hs x (by simp)
      have := ih (m := m.erase x) n2 (fun y hy => (List.mem_erase_of_ne (fun e => n1 (by rw [← e]; exact hy))).2 (hs y (by simp [hy])))
      have hl := List.length_erase_of_mem hx
      have := List.length_pos_of_mem hx
      simp
      omega
  exact le hn hs
set_option maxHeartbeats 8000000 in
set_option maxRecDepth 40000 in
theorem order_any (m : Nat) (I : List It) (S : Tx) (F : Nat → Prop) (hR : Ref I S) (hl : I.length < 4294967296) : ∀ (k : Nat) (C : List St), C.length ≤ k → C.length < 4294967296 → ∀ (w : World) (ao : Option Addr) (cap : Nat) (L : List It) (n : Nat), L.length = n → n < 4294967296 → OrdQ w m I S F ao L C →
    Calls Try.prog 50 #[ptr m, .slice ao n cap] w (OrdT S C w) := by
  intro k
  induction k with
  | zero =>
    intro C hC hCb w ao cap L n hn hnb hQ
    have hC0 := List.length_eq_zero_iff.1 (Nat.le_zero.1 hC)
    subst hC0
    have hL0 : L = [] := by
      cases L with
      | nil => rfl
      | cons x L => exact absurd (hQ.fl.mem x.e.k (by simp)) (by simp)
    subst hL0
    obtain rfl : 0 = n := hn
    clear hQ
    go_enter Try.func50, Try.ntmps50
    go_wp2
    go_loopw [5, 6] (fun v i wr => v = .slice none 0 0 ∧ i = .int .i64 0 ∧ wr = w) (fun _ i _ => 0)
    case atStart => exact ⟨rfl, rfl, rfl⟩
    case round =>
      obtain ⟨rfl, rfl, rfl⟩ := hrel
      go_wp2
      go_ret
      exact ⟨_, rfl, World.ownsRow_nil _ _ _ _, Below.refl _ _⟩
  | succ k IH =>
    intro C hC hCb w ao cap L n hn hnb hQ
    obtain ⟨i0, hi, hz0, hz1, hz2⟩ := info_parts infoEl
    have HIH := Lib.hid IH
    have HQ := Lib.hid hQ
    have HN := Lib.hid hn
    have HRF := Lib.hid hR
    clear IH hQ hn hR
    go_enter Try.func50, Try.ntmps50
    go_wp2
    go_loopw [5, 6] (fun v i wr => ∃ (q : Nat) (D E : List St), i = .int .i64 q ∧ q ≤ n ∧ Hid (C = D ++ E ∧ Fl S.K ((L.map (·.e.k)).drop q) E) ∧ RowEl wr w.heap.size v (D.map S.el) ∧ Below w.heap.size w wr) (fun _ i _ => n - (intOf i).toNat)
    case atStart => exact ⟨0, [], C, rfl, Nat.zero_le _, Lib.hid ⟨rfl, HQ.out.fl⟩, World.ownsRow_nil _ _ _ _, Below.refl _ _⟩
    case round =>
      obtain ⟨q, D, E, rfl, hq, HE, hrow, hbel⟩ := hrel
      have HRW := Lib.hid hrow
      have HB := Lib.hid hbel
      clear hrow hbel
      by_cases hql : q < n
      · obtain ⟨x, hx⟩ : ∃ x, L[q]? = some x := ⟨_, List.getElem?_eq_getElem (by rw [HN.out]; exact hql)⟩
        obtain ⟨B1, rfl, -, c1⟩ := HQ.out.at'.below HB.out q x hx
        have HC1 := Lib.hid c1
        obtain ⟨A, B, E2, hE, hA, hBB, hE2⟩ : ∃ A B E2, E = A ++ x.e.k :: (B ++ E2) ∧ Fl S.K (S.K x.e.k 1) A ∧ Fl S.K (S.K x.e.k 2) B ∧ Fl S.K ((L.map (·.e.k)).drop (q + 1)) E2 := by
          have h1 := HE.out.2
          have hd : (L.map (·.e.k)).drop q = x.e.k :: (L.map (·.e.k)).drop (q + 1) := by
            obtain ⟨h2, h3⟩ := List.getElem?_eq_some_iff.1 hx
            rw [List.drop_eq_getElem_cons (by simpa using h2)]
            simp [h3]
          rw [hd] at h1
          cases h1 with
          | cons h1 h2 h3 => exact ⟨_, _, _, rfl, h1, h2, h3⟩
        have hCe : C = D ++ (A ++ x.e.k :: (B ++ E2)) := by rw [← hE]; exact HE.out.1
        have hlen := congrArg List.length hCe
        simp only [List.length_append, List.length_cons] at hlen
        have HCE := Lib.hid hCe
        have HLN := Lib.hid hlen
        have HFA := Lib.hid hA
        have HFB := Lib.hid hBB
        have HFE := Lib.hid hE2
        have HXQ := Lib.hid hx
        have HXI := Lib.hid (HQ.out.sub x (List.mem_of_getElem? hx))
        have d0 := c1 0 _ rfl
        have d1 := c1 1 _ rfl
        simp only [Nat.add_zero] at d0
        have b0 : (0 : Int) ≤ (q : Int) := by omega
        have b1 : (q : Int) < (n : Int) := by omega
        clear c1 hx hE hA hBB hE2 hCe hlen
        have HKD1 := Lib.hid (kids_any wr m I S F (HQ.out.ref.later HB.out) HRF.out hl x.e.k 1)
        go_wp2_with fail
        with_reducible refine HKD1.out.mono ?_
        rintro e w1 ⟨v1, L1, rfl, hk, hr, hbb⟩
        obtain ⟨n1, hn1⟩ : ∃ z, L1.length = z := ⟨_, rfl⟩
        obtain ⟨ak1, ck1, rfl, hat⟩ := hr.news hn1
        have HBK1 := Lib.hid (HB.out.trans (hbb.mono HB.out.size))
        have HOD1 := Lib.hid (HIH.out A (by have := HLN.out; omega) (by have := HLN.out; omega) w1 ak1 ck1 L1 n1 hn1 (by have := hk.le HRF.out; omega) ⟨HQ.out.ref.later HBK1.out, hat, fun a ha => by (have := ((hk.mem a).1 ha).1; rwa [List.take_length] at this), by rw [hk.keys HRF.out]; exact HFA.out⟩)
        have hro := HRW.out.later hbb
        have HRK1 := Lib.hid hro
        clear hk hr hat hbb hro HKD1 hn1
        go_wp2_with fail
        with_reducible refine HOD1.out.mono ?_
        rintro e w2 ⟨v2, rfl, hr, hbb⟩
        obtain ⟨ao1, co1, rfl, hno1, hnw1⟩ := hr.news (n := A.length) (by simp)
        have HBO1 := Lib.hid (HBK1.out.trans (hbb.mono HBK1.out.size))
        have HRO1 := Lib.hid (HRK1.out.later hbb)
        have HNO1 := Lib.hid hno1
        have HNW1 := Lib.hid hnw1
        clear hr hbb hno1 hnw1 HOD1 HRK1
        go_upto_region 6 with (at_builtin; refine append_any rfl (.tmp 13) (.tmp 23) 38 rfl w.heap.size 44 i0 _ 4 32 Try.underlying38 hi hz0 hz1 hz2 rfl (by decide) u5 _ _ rfl HRO1.out ao1 A.length co1 (elL (A.map S.el)) rfl (by rw [elL_length]; simp) (HNO1.out) (HNW1.out) (elL_one _) (by have := HLN.out; simp; unfold maxLen; omega) (by have := HLN.out; simp; omega) (HBO1.out.size) ?_; intro v3 w3 own grow)
        have HB3 := Lib.hid (HBO1.out.grown grow HBO1.out.size (fun z hz => (HRO1.out.lt z hz).1))
        have HR3 := Lib.hid (show RowEl w3 w.heap.size v3 ((D ++ A).map S.el) by unfold RowEl; rw [List.map_append, elL_append, List.length_append, show (List.map S.el A).length = A.length by simp]; exact own)
        clear own grow HRO1 HNO1 HNW1 d0 d1
        obtain ⟨_, e1, -, c3⟩ := HQ.out.at'.below HB3.out q x HXQ.out
        cases e1
        have d0 := c3 0 _ rfl
        have d1 := c3 1 _ rfl
        have d2 := c3 2 _ rfl
        have d3 := c3 3 _ rfl
        simp only [Nat.add_zero] at d0
        have HRA := Lib.hid (HR3.out.later ((Below.refl w3.heap.size w3).alloc (Nat.le_refl _) (.cells #[.int .i64 x.e.k.1, .int .i64 x.e.k.2, .int .i64 x.e.c, .bool x.e.g] 44)))
        have HBA := Lib.hid (HB3.out.alloc HB3.out.size (.cells #[.int .i64 x.e.k.1, .int .i64 x.e.k.2, .int .i64 x.e.c, .bool x.e.g] 44))
        clear c3
        go_upto_region 7 with (at_builtin; refine append_any rfl (.tmp 25) (.tmp 31) 38 rfl w.heap.size 44 i0 _ 4 32 Try.underlying38 hi hz0 hz1 hz2 rfl (by decide) v3 _ _ rfl HRA.out (some ⟨w3.heap.size, 0, none⟩) 1 1 (elC x.e) rfl (rfl) (by intro h; cases h) (fun ad e j u hj => by cases e; rw [Addr.add_lit, Nat.zero_add, blk_cell (blk_new _ _), ← Array.getElem?_toList]; exact hj) (elC_one _) (by have := HLN.out; simp; unfold maxLen; omega) (by have := HLN.out; simp; omega) (HBA.out.size) ?_; intro v4 w4 own grow)
        have HB4 := Lib.hid (HBA.out.grown grow HBA.out.size (fun z hz => (HRA.out.lt z hz).1))
        have HR4 := Lib.hid (show RowEl w4 w.heap.size v4 ((D ++ A ++ [x.e.k]).map S.el) by
          unfold RowEl
          rw [List.map_append, elL_append, List.length_append, show elL (List.map S.el [x.e.k]) = elC x.e by rw [HRF.out.el x HXI.out]; simp [elL, Tx.el]]
          exact own)
        clear own grow HRA HBA d0 d1 d2 d3
        obtain ⟨_, e1, -, c3⟩ := HQ.out.at'.below HB4.out q x HXQ.out
        cases e1
        have d0 := c3 0 _ rfl
        have d1 := c3 1 _ rfl
        simp only [Nat.add_zero] at d0
        clear c3
        have HKD2 := Lib.hid (kids_any w4 m I S F (HQ.out.ref.later HB4.out) HRF.out hl x.e.k 2)
        go_wp2_with fail
        with_reducible refine HKD2.out.mono ?_
        rintro e w5 ⟨v5, L2, rfl, hk, hr, hbb⟩
        obtain ⟨n2, hn2⟩ : ∃ z, L2.length = z := ⟨_, rfl⟩
        obtain ⟨ak2, ck2, rfl, hat⟩ := hr.news hn2
        have HBK2 := Lib.hid (HB4.out.trans (hbb.mono HB4.out.size))
        have HOD2 := Lib.hid (HIH.out B (by have := HLN.out; omega) (by have := HLN.out; omega) w5 ak2 ck2 L2 n2 hn2 (by have := hk.le HRF.out; omega) ⟨HQ.out.ref.later HBK2.out, hat, fun a ha => by (have := ((hk.mem a).1 ha).1; rwa [List.take_length] at this), by rw [hk.keys HRF.out]; exact HFB.out⟩)
        have hro := HR4.out.later hbb
        have HRK2 := Lib.hid hro
        clear hk hr hat hbb hro HKD2 hn2
        go_wp2_with fail
        with_reducible refine HOD2.out.mono ?_
        rintro e w6 ⟨v6, rfl, hr, hbb⟩
        obtain ⟨ao2, co2, rfl, hno2, hnw2⟩ := hr.news (n := B.length) (by simp)
        have HBO2 := Lib.hid (HBK2.out.trans (hbb.mono HBK2.out.size))
        have HRO2 := Lib.hid (HRK2.out.later hbb)
        have HNO2 := Lib.hid hno2
        have HNW2 := Lib.hid hnw2
        clear hr hbb hno2 hnw2 HOD2 HRK2
        go_wp2_with (at_builtin; refine append_any rfl (.tmp 33) (.tmp 43) 38 rfl w.heap.size 44 i0 _ 4 32 Try.underlying38 hi hz0 hz1 hz2 rfl (by decide) v4 _ _ rfl HRO2.out ao2 B.length co2 (elL (B.map S.el)) rfl (by rw [elL_length]; simp) (HNO2.out) (HNW2.out) (elL_one _) (by have := HLN.out; simp; unfold maxLen; omega) (by have := HLN.out; simp; omega) (HBO2.out.size) ?_; intro v7 w7 own grow)
        have HB7 := Lib.hid (HBO2.out.grown grow HBO2.out.size (fun z hz => (HRO2.out.lt z hz).1))
        have HR7 := Lib.hid (show RowEl w7 w.heap.size v7 ((D ++ A ++ [x.e.k] ++ B).map S.el) by unfold RowEl; rw [List.map_append, elL_append, List.length_append, show (List.map S.el B).length = B.length by simp]; exact own)
        clear own grow
        go_roundw
        case rel => exact ⟨q + 1, D ++ A ++ [x.e.k] ++ B, E2, by go_num, by omega, Lib.hid ⟨by rw [HCE.out]; simp, HFE.out⟩, HR7.out, HB7.out⟩
        case measure => simp [intOf]; omega
      · obtain rfl : q = n := by omega
        have hE : E = [] := by
          have h1 := HE.out.2
          rw [← HN.out, List.drop_of_length_le (by simp)] at h1
          exact h1.nil_of
        have HCD := Lib.hid (show C = D by rw [HE.out.1, hE, List.append_nil])
        clear hE
        go_wp2
        go_ret
        exact ⟨_, rfl, HCD.out ▸ HRW.out, HB.out⟩
end Go.Proofs.Ytohpablkgfkelaa
