/- CAUSAL'S LAWS: two stores side by side; a slice of Bools that came in; what one lacks. CAUSAL, WHO LACKS IS TOLD JUST WHAT IT LACKS: the walk. -/
import Derived.Test.YtiamohfpohjdpaaDoorCTwice
import Derived.ProofKit
import Derived.OpenShut
import Derived.ChangeSlices
namespace Go.Proofs.YtiamohfpohjdpaaDoor
open Go.ChangeShapes Go.WideShapes Go.RowKit Go.Joins
set_option linter.unusedSimpArgs false
set_option linter.unusedVariables false
theorem open_ints_arg {H : Type} {enc : TypeId × Value → H} {P : Program} {w : World} {spare : Nat → Bool} {held : Bool} {v : Value} {d : DataW H} {ps : List MemPlace} {t e : TypeId} {r : Reach} {b0 : Nat} (ht : P.underlying t = some (.slice e)) (he : P.underlying e = some (.int .i64)) (hc : P.cellsOf e = 1)
    (hval : Value.okWide P w r b0 t v) (hd : DataW.Trod enc P w 0 spare held t v d ps) : ∃ (ao : Option Addr) (len cap : Nat) (zs : List Int), v = .slice ao len cap ∧
      (∀ i, i < len → ∃ b off, ao = some ⟨b, off, none⟩ ∧ w.cell? ⟨b, off + i, none⟩ = some (.int .i64 (zs.getD i 0))) ∧
      (∀ i, i < len → -9223372036854775808 ≤ zs.getD i 0 ∧ zs.getD i 0 ≤ 9223372036854775807) := by
  obtain ⟨a0, len, cap, rfl⟩ := okWide_slice ht hval
  obtain ⟨fuel, hf⟩ := hd
  rcases open_ints ht he hc hf with ⟨hcs, hx⟩ | ⟨a, len', cap', zs, hcs, hb, hl, hm, hz, hx, hcell, hwf⟩
  · simp [Value.cells] at hcs
    obtain ⟨rfl, rfl, rfl⟩ := hcs
    exact ⟨none, 0, 0, [], rfl, fun i h => by omega, fun i h => by omega⟩
  · simp [Value.cells] at hcs
    obtain ⟨rfl, rfl, rfl⟩ := hcs
    have hlen : len ≤ zs.length := by rw [hz]; split <;> omega
    refine ⟨some a, len, cap, zs, rfl, fun i h => ?_, fun i h => ?_⟩
    · obtain ⟨b, off, rfl, hk⟩ := Go.ints_at hcell (by omega)
      exact ⟨b, off, rfl, hk i (by omega)⟩
    · have hm := hwf (zs.getD i 0) (by rw [List.getD_eq_getElem?_getD, List.getElem?_eq_getElem (by omega)]; exact List.getElem_mem _)
      have e1 : IntKind.i64.min = -9223372036854775808 := by decide
      have e2 : IntKind.i64.max = 9223372036854775807 := by decide
      simp [Lit.wf] at hm
      simp only [List.getD_eq_getElem?_getD]
      omega
theorem open_bools_arg {H : Type} {enc : TypeId × Value → H} {P : Program} {w : World} {spare : Nat → Bool} {held : Bool} {v : Value} {d : DataW H} {ps : List MemPlace} {t e : TypeId} {r : Reach} {b0 : Nat} (ht : P.underlying t = some (.slice e)) (he : P.underlying e = some .bool) (hc : P.cellsOf e = 1)
    (hval : Value.okWide P w r b0 t v) (hd : DataW.Trod enc P w 0 spare held t v d ps) : ∃ (ao : Option Addr) (len cap : Nat) (B : Nat → Bool), v = .slice ao len cap ∧
      (∀ i, i < len → ∃ b off, ao = some ⟨b, off, none⟩ ∧ w.cell? ⟨b, off + i, none⟩ = some (.bool (B i))) ∧ len ≤ maxLen := by
  obtain ⟨a0, len, cap, rfl⟩ := okWide_slice ht hval
  obtain ⟨fuel, hf⟩ := hd
  rcases Deep.open_slice1 ht hc hf with ⟨hcs, hx⟩ | ⟨a, len', cap', m, n, V, D, Pl, hcs, hb, hl, hm, hmm, hx, hi⟩
  · simp [Value.cells] at hcs
    obtain ⟨rfl, rfl, rfl⟩ := hcs
    exact ⟨none, 0, 0, fun _ => false, rfl, fun i h => by omega, by omega⟩
  · simp [Value.cells] at hcs
    obtain ⟨rfl, rfl, rfl⟩ := hcs
    have hm' : len ≤ m := by rw [hmm]; split <;> omega
    obtain ⟨B, hB⟩ := Deep.choose_lt (α := Bool) (n := m) (p := fun i b => V i = .bool b) (fun i hi2 => by
      obtain ⟨b, h1, -⟩ := DataW.trod_bool he (hi i hi2).2
      exact ⟨b, by simpa using h1⟩)
    refine ⟨some a, len, cap, B, rfl, fun i hil => ?_, by omega⟩
    obtain ⟨b, off, spot⟩ := a
    have h1 := (hi i (by omega)).1
    have hs : spot = none := by simpa [Addr.add] using World.cell?_spot (hi 0 (by omega)).1
    subst hs
    refine ⟨b, off, rfl, ?_⟩
    rw [← hB i (by omega), ← h1]
    simp [add_plain]
/-- two stores, apart -/
structure S2 (w : World) (s t : Nat) (A W : List OpG) (k : Nat) (F : Nat → Prop) (B V : List OpG) (m : Nat) (G : Nat → Prop) (z : World) : Prop where
  s : SL w s A W k F z
  t : SL w t B V m G z
  ne : ∀ x, F x → ¬ G x
section
variable {w z z' : World} {s t k m k' m' : Nat} {A W A' W' B V B' V' : List OpG} {F F' G G' : Nat → Prop}
theorem SL.blk (h : SL w s A W k F z) : ∃ c T, z.heap[s]? = some (.cells c T (0, 0)) := by
  obtain ⟨tb, db, va, vw, hG⟩ := h.sf.st
  exact ⟨_, _, hG.top⟩
theorem S2.later (h : S2 w s t A W k F B V m G z) (b : Below z.heap.size z z') : S2 w s t A W k F B V m G z' := ⟨h.s.later b, h.t.later b, h.ne⟩
theorem S2.turnT (h : S2 w s t A W k F B V m G z) (h2 : SF t B' V' m' G' z') (c : Ch G z z') (hG : ∀ x, G' x → G x ∨ z.heap.size ≤ x) : S2 w s t A W k F B' V' m' G' z' :=
  ⟨⟨h.s.sf.ch c h.ne, h.s.up, (h.t.turn h2 c hG).b⟩, h.t.turn h2 c hG, fun x hx hy => (hG x hy).elim (h.ne x hx) (fun h3 => by have := h.s.sf.bd x hx; omega)⟩
theorem S2.turnS (h : S2 w s t A W k F B V m G z) (h2 : SF s A' W' k' F' z') (c : Ch F z z') (hF : ∀ x, F' x → F x ∨ z.heap.size ≤ x) : S2 w s t A' W' k' F' B V m G z' :=
  ⟨h.s.turn h2 c hF, ⟨h.t.sf.ch c (fun x hx hy => h.ne x hy hx), h.t.up, (h.s.turn h2 c hF).b⟩, fun x hx hy => (hF x hx).elim (fun h3 => h.ne x h3 hy) (fun h3 => by have := h.t.sf.bd x hy; omega)⟩
theorem KR.zero {w0 n c : Nat} {ao : Option Addr} {L : List OpG} (h : KR w0 ao n c L F z) : KR 0 ao n c L F z := ⟨h.own.base (fun _ _ => Nat.zero_le _), h.nf⟩
theorem KR.stepT {w0 n c : Nat} {ao : Option Addr} {L : List OpG} (h : KR w0 ao n c L (fun x => F x ∨ G x) z) (c' : Ch G z z') (hG : ∀ x, G' x → G x ∨ z.heap.size ≤ x) : KR w0 ao n c L (fun x => F x ∨ G' x) z' :=
  h.step (c'.mono (fun x _ h => .inr h)) (fun x hx => hx.elim (fun h => .inl (.inl h)) (fun h => (hG x h).elim (fun h => .inl (.inr h)) .inr))
theorem S2.bd (h : S2 w s t A W k F B V m G z) : ∀ x, (F x ∨ G x) → x < z.heap.size := fun x hx => hx.elim (h.s.sf.bd x) (h.t.sf.bd x)
theorem OwnO.long {base n c : Nat} {ao : Option Addr} {L : List OpG} (h : OwnO z base (.slice ao n c) L) (h0 : 0 < L.length) : n = L.length ∧ n ≤ c ∧ c ≤ maxLen ∧ ∃ b, ao = some ⟨b, 0, none⟩ := by
  rcases h.form with ⟨-, rfl⟩ | ⟨b, c', cur, he, hB, hb, hn, hc, hs, ht⟩
  · simp at h0
  · cases he; exact ⟨rfl, hn, hc, b, rfl⟩
end
theorem srt_perm : ∀ l l2 : List OpG, SortOf l l2 → l2.Perm l := fun l l2 h => h.perm
theorem nodupA {A W : List OpG} (h : Cz.Stb MO A W) : (Cz.ids MO A).Nodup := by
  have := h.nodup
  rw [Cz.ids_app, List.nodup_append] at this
  exact this.1
theorem missL_lacks {A B : List OpG} (hok : ∀ x ∈ A, MO.ok x) (hl : A.length ≤ 200) : missL (knownV B) 200 A = Cz.lacks MO A B := by
  unfold missL Cz.lacks
  have e : (A.filter fun x => !(knownV B).has x.n x.r) = A.filter fun x => !decide ((MO.id x).1 ≤ Cz.known MO B (MO.id x).2) := by
    refine List.filter_congr fun x hx => ?_
    obtain ⟨h0, h8⟩ := MO.rep x (hok x hx)
    have h1 : (knownV B).has x.n x.r = decide (x.n ≤ Cz.known MO B x.r) := by
      unfold V8.has
      rw [knownV_at B x.r h0 h8]
      have : knownB x.r = true := by
        have a : (0 : Int) ≤ x.r := h0
        have b : x.r < 8 := h8
        simp [knownB]; omega
      rw [this, Bool.true_and]
    rw [h1]
    rfl
  rw [e]
  refine List.take_of_length_le (Nat.le_trans (List.length_filter_le _ _) ?_)
  simpa using hl
theorem cut_split {R : List OpG} {j : Nat} {o : OpG} (h : R[j]? = some o) : (∀ x, x ∈ R ↔ x ∈ R.take j ++ R.drop (j + 1) ∨ x = o) ∧ (R.take j ++ R.drop (j + 1)).length + 1 = R.length := by
  obtain ⟨hj, rfl⟩ := List.getElem?_eq_some_iff.1 h
  have e : R = R.take j ++ R[j] :: R.drop (j + 1) := by rw [← List.drop_eq_getElem_cons hj, List.take_append_drop]
  refine ⟨fun x => ?_, by simp; omega⟩
  conv => lhs; rw [e]
  simp only [List.mem_append, List.mem_cons]
  constructor
  · rintro (h | h | h)
    · exact .inl (.inl h)
    · exact .inr h
    · exact .inl (.inr h)
  · rintro ((h | h) | h)
    · exact .inl h
    · exact .inr (.inr h)
    · exact .inr (.inl h)
end Go.Proofs.YtiamohfpohjdpaaDoor
namespace Go.Proofs.YtiamohfpohjdpaaDoor
open Go.RowKit Go.Joins
set_option linter.unusedSimpArgs false
set_option linter.unusedVariables false
set_option maxHeartbeats 8000000 in
set_option maxRecDepth 100000 in
theorem cmissing_walk (L : List OpG) (ao : Option Addr) (cap : Nat) (fo : Option Addr) (fn fc : Nat) (fb : Nat → Bool) (w : World) (hL : L.length ≤ maxLen) (hfi : ∀ o ∈ L, o.fine) (hat : OpsAt w ao L)
    (hz1 : ∀ i, i < fn → ∃ b off, fo = some ⟨b, off, none⟩ ∧ w.cell? ⟨b, off + i, none⟩ = some (.bool (fb i))) (hfn : fn ≤ maxLen) :
    Calls Tryd.prog 6 #[.slice ao L.length cap, .slice fo fn fc] w fun e w' => e = .returned (.bool true) ∧ Below w.heap.size w w' := by
  have AL := Lib.hid alive_any
  have HA := Lib.hid hat
  have HF := Lib.hid hfi
  have HZ1 := Lib.hid hz1
  unfold maxLen at hL hfn
  clear hat hfi hz1
  go_enter Tryd.func6, Tryd.ntmps6
  go_wp2_with fail
  with_reducible refine (newF_any w).mono ?_
  rintro e w1 ⟨s, rfl, ⟨F0, h1, h2⟩, hb⟩
  have H1 := Lib.hid (show SL w s [] [] 0 F0 w1 from ⟨h1, h2, hb⟩)
  clear h1 h2 hb
  go_wp2_with fail
  with_reducible refine (newF_any w1).mono ?_
  rintro e w2 ⟨t, rfl, ⟨G0, h1, h2⟩, hb⟩
  have H2 := Lib.hid (show S2 w s t [] [] 0 F0 [] [] 0 G0 w2 from ⟨H1.out.later hb, ⟨h1, fun x hx => Nat.le_trans H1.out.b.size (h2 x hx), (H1.out.later hb).b⟩, fun x hx hy => by have := H1.out.sf.bd x hx; have := h2 x hy; omega⟩)
  clear h1 h2 hb H1
  go_wp2_with fail
  with_reducible refine (AL.out _).mono ?_
  rintro e w3 ⟨rfl, hb⟩
  have H3 := Lib.hid (H2.out.later hb)
  clear hb H2
  obtain ⟨cs, T, hsp⟩ := H3.out.s.blk
  obtain ⟨cs2, T2, htp⟩ := H3.out.t.blk
  go_upto_block 0 with fail
  clear hsp htp
  go_cut [] (fun y => ∃ k A W F, k ≤ 200 ∧ S2 w s t A W k F [] [] 0 G0 y)
  case first =>
    go_wp2_with fail
    go_loopw [7] (fun vi wr => ∃ (q : Nat) (A W : List OpG) (F : Nat → Prop), vi = .int .i64 q ∧ q ≤ L.length ∧ q ≤ 200 ∧ S2 w s t A W q F [] [] 0 G0 wr) (fun vi _ => L.length - (intOf vi).toNat)
    case atStart => exact ⟨0, [], [], F0, rfl, Nat.zero_le _, Nat.zero_le _, H3.out⟩
    case round =>
      obtain ⟨q, A, W, F, rfl, hq1, hq2, hs⟩ := hrel
      have HS := Lib.hid hs
      clear hs
      by_cases hk : q < L.length ∧ q < 200
      · obtain ⟨hk, h3⟩ := hk
        obtain ⟨o, ho⟩ : ∃ o, L[q]? = some o := ⟨_, List.getElem?_eq_getElem hk⟩
        obtain ⟨b, off, rfl, hbw, hc⟩ := HA.out.below HS.out.s.b q o ho
        have HFO := Lib.hid (HF.out o (List.mem_of_getElem? ho))
        have HC := Lib.hid hc
        have b0 : (0 : Int) ≤ (q : Int) := by omega
        have b1 : (q : Int) < (L.length : Int) := by omega
        clear hc hbw ho
        go_wp2_with (refine wpList_load_at (.tmp 40) 39 rfl rfl b (off + q * 26) o.cells rfl Tryd.underlying39 (by kernel_rfl) HC.out ?_)
        with_reducible refine (HS.out.s.sf.add (by omega) o HFO.out).mono ?_
        rintro e y ⟨ao2, c2, n2, res, err, A2, W2, F2, rfl, rfl, h1, h2, h3', h4, h5⟩
        have HS2 := Lib.hid (HS.out.turnS h2 h3' h4)
        clear h1 h2 h3' h4 h5
        go_wp2
        go_roundw
        case rel => exact ⟨q + 1, A2, W2, F2, by go_num, by omega, by omega, HS2.out⟩
        case measure => simp [intOf]; omega
      · rcases (show (q < L.length ∧ ¬ q < 200) ∨ ¬ q < L.length by omega) with ⟨g1, g2⟩ | g1
        all_goals
          go_wp2_with fail
          go_meet
          exact ⟨q, A, W, F, hq2, HS.out⟩
  case rest =>
    obtain ⟨k, A, W, F, hk2, hs⟩ := hcut
    obtain ⟨wk, hwk⟩ : ∃ wk, wk = wc := ⟨_, rfl⟩
    subst hwk
    have HS := Lib.hid hs
    have HD := Lib.hid hs.s.sf.stb.valid
    have HN := Lib.hid (nodupA hs.s.sf.stb)
    have HOK := Lib.hid (fun x hx => hs.s.sf.stb.ok x (List.mem_append_left W hx))
    have hAl := hs.s.sf.alen
    have hAl2 : A.length ≤ 200 := by omega
    clear hs H3 HA HF
    go_wp2_with fail
    with_reducible refine (HS.out.s.sf.all (by omega)).mono ?_
    rintro e w4 ⟨al, nl, cl, rfl, rfl, h1, h2⟩
    have H4 := Lib.hid (HS.out.later h2)
    have HR4 := Lib.hid (show KR 0 al A.length cl A (fun x => F x ∨ G0 x) w4 from (KR.new h1 HS.out.bd).zero)
    clear h1 h2 HS
    go_wp2
    go_loopw [9] (fun iv wr => ∃ (q : Nat) (B V : List OpG) (G : Nat → Prop), iv = .int .i64 q ∧ q ≤ A.length ∧ Cz.Of MO A B V ∧ S2 w s t A W k F B V q G wr ∧ KR 0 al A.length cl A (fun x => F x ∨ G x) wr) (fun iv _ => A.length - (intOf iv).toNat)
    case atStart => exact ⟨0, [], [], G0, rfl, Nat.zero_le _, Cz.Of.nil, H4.out, HR4.out⟩
    case round =>
      obtain ⟨q, B, V, G, rfl, hq, hof, hs, hr⟩ := hrel
      have HS := Lib.hid hs
      have HR := Lib.hid hr
      have HOF := Lib.hid hof
      clear hs hr hof H4 HR4
      by_cases hql : q < A.length
      · obtain ⟨o, ho⟩ : ∃ o, A[q]? = some o := ⟨_, List.getElem?_eq_getElem hql⟩
        obtain ⟨-, b, off, rfl, hbw, hc⟩ := HR.out.get ho
        have HC := Lib.hid hc
        have HOO := Lib.hid ho
        have HFO := Lib.hid (HS.out.s.sf.fine (List.mem_append_left W (List.mem_of_getElem? ho)))
        have b0 : (0 : Int) ≤ (q : Int) := by omega
        have b1 : (q : Int) < (A.length : Int) := by omega
        clear hc hbw ho
        go_upto_region 13 with fail
        go_cut [60] (fun v z => (∃ g : Bool, v = .bool g) ∧ z = wr)
        case first =>
          by_cases hno : q < fn
          · obtain ⟨fbk, foff, rfl, hcell⟩ := HZ1.out q hno
            have hc2 : wr.cell? ⟨fbk, foff + q, none⟩ = some (.bool (fb q)) := (HS.out.s.b.cell (World.block_lt_of_cell? _ _ hcell)).trans hcell
            have b2 : (q : Int) < (fn : Int) := by omega
            clear hcell
            generalize fb q = g at *
            go_wp2_with fail
            go_meet
            exact ⟨⟨g, rfl⟩, rfl⟩
          · go_wp2_with fail
            go_meet
            exact ⟨⟨false, rfl⟩, rfl⟩
        case rest =>
          obtain ⟨⟨g, rfl⟩, rfl⟩ := hcut
          cases g with
          | false =>
            go_wp2
            go_roundw
            case rel => exact ⟨q + 1, B, V, G, by go_num, by omega, HOF.out, ⟨HS.out.s, ⟨HS.out.t.sf.le (by omega), HS.out.t.up, HS.out.t.b⟩, HS.out.ne⟩, HR.out⟩
            case measure => simp [intOf]; omega
          | true =>
            go_wp2_with (refine wpList_load_at (.tmp 64) 39 rfl rfl b (off + q * 26) o.cells rfl Tryd.underlying39 (by kernel_rfl) HC.out ?_)
            with_reducible refine (HS.out.t.sf.add (by omega) o HFO.out).mono ?_
            rintro e y ⟨ao2, c2, n2, res, err, B2, V2, G2, rfl, rfl, h1, h2, h3, h4, h5⟩
            have HS2 := Lib.hid (HS.out.turnT h2 h3 h4)
            have HR2 := Lib.hid (HR.out.stepT h3 h4)
            have HOF2 := Lib.hid (show Cz.Of MO A B2 V2 from by
              rcases h1.of srt_perm HD.out HN.out HOF.out (List.mem_of_getElem? HOO.out) with ⟨-, rfl, rfl, -, -⟩ | ⟨-, h, -, -⟩
              · exact HOF.out
              · exact h)
            clear h1 h2 h3 h4 h5
            go_wp2
            go_roundw
            case rel => exact ⟨q + 1, B2, V2, G2, by go_num, by omega, HOF2.out, HS2.out, HR2.out⟩
            case measure => simp [intOf]; omega
      · have hqe : q = A.length := by omega
        have dq : decide ((q : Int) < (A.length : Int)) = false := decide_eq_false (by omega)
        go_wp2_with fail
        with_reducible refine (HS.out.t.sf.pending (by omega)).mono ?_
        rintro e y1 ⟨a1, n1, c1, rfl, rfl, -, h2⟩
        have HS1 := Lib.hid (HS.out.later h2)
        clear h2
        go_wp2_with fail
        with_reducible refine HS1.out.t.sf.known.mono ?_
        rintro e y2 ⟨rfl, h2⟩
        have HS2 := Lib.hid (HS1.out.later h2)
        clear h2
        have hm := HS2.out.s.sf.missing (by omega) (knownV B) 200
        rw [missL_lacks HOK.out hAl2] at hm
        obtain ⟨K, hK⟩ : ∃ K, Cz.lacks MO A B = K := ⟨_, rfl⟩
        rw [hK] at hm
        have HK := Lib.hid hK
        have HM := Lib.hid hm
        have hKl : K.length ≤ A.length := by rw [← hK]; exact List.length_filter_le _ _
        clear hm hK
        go_wp2_with fail
        with_reducible refine HM.out.mono ?_
        rintro e y3 ⟨ak, nk, ck, rfl, rfl, h1, h2⟩
        have HS3 := Lib.hid (HS2.out.later h2)
        have HR3 := Lib.hid (show KR 0 ak K.length ck K (fun x => F x ∨ G x) y3 from (KR.new h1 HS2.out.bd).zero)
        clear h1 h2 HM HR HS HS1 HS2
        have hVl := HS3.out.t.sf.wlen
        go_wp2
        go_loopw [12] (fun iv wx => ∃ (p : Nat) (B' V' : List OpG) (G' : Nat → Prop), iv = .int .i64 p ∧ p ≤ K.length ∧ Cz.Of MO A B' V' ∧ (∃ X, B' = B ++ X) ∧ (∀ y ∈ K.take p, y ∈ B') ∧ (V = [] → V' = [] ∧ B' = B ++ K.take p) ∧ S2 w s t A W k F B' V' (q + p) G' wx ∧ KR 0 ak K.length ck K (fun x => F x ∨ G' x) wx) (fun iv _ => K.length - (intOf iv).toNat)
        case atStart => exact ⟨0, B, V, G, rfl, Nat.zero_le _, HOF.out, ⟨[], by simp⟩, fun y h => by simp at h, fun h => ⟨h, by simp⟩, HS3.out, HR3.out⟩
        case round =>
          obtain ⟨p, B', V', G', rfl, hp, hof, hx, htk, hv0, hs, hr⟩ := hrel
          have HS := Lib.hid hs
          have HR := Lib.hid hr
          have HOF' := Lib.hid hof
          have HX := Lib.hid hx
          have HTK := Lib.hid htk
          have HV0 := Lib.hid hv0
          clear hs hr hof hx htk hv0 HS3 HR3
          by_cases hpl : p < K.length
          · obtain ⟨o, ho⟩ : ∃ o, K[p]? = some o := ⟨_, List.getElem?_eq_getElem hpl⟩
            obtain ⟨-, b, off, rfl, hbw, hc⟩ := HR.out.get ho
            have HC := Lib.hid hc
            have HOO := Lib.hid ho
            have HOA := Lib.hid (show o ∈ A from by
              have h := List.mem_of_getElem? ho
              rw [← HK.out] at h
              exact (List.mem_filter.1 h).1)
            have HFO := Lib.hid (HS.out.s.sf.fine (List.mem_append_left W HOA.out))
            have b0 : (0 : Int) ≤ (p : Int) := by omega
            have b1 : (p : Int) < (K.length : Int) := by omega
            clear hc hbw ho
            go_wp2_with (refine wpList_load_at (.tmp 84) 39 rfl rfl b (off + p * 26) o.cells rfl Tryd.underlying39 (by kernel_rfl) HC.out ?_)
            with_reducible refine (HS.out.t.sf.add (by omega) o HFO.out).mono ?_
            rintro e y ⟨ao2, c2, n2, res, err, B2, V2, G2, rfl, rfl, h1, h2, h3, h4, h5⟩
            have HS2 := Lib.hid (HS.out.turnT h2 h3 h4)
            have HR2 := Lib.hid (HR.out.stepT h3 h4)
            obtain ⟨he, g1, g2, g3, g4⟩ := h1.lack (j := p) srt_perm HD.out HN.out HOF.out HOF'.out HX.out (by rw [HK.out]; exact HOO.out) (by rw [HK.out]; exact HTK.out) (by rw [HK.out]; exact HV0.out)
            rw [HK.out] at g3 g4
            subst he
            have G1 := Lib.hid (And.intro g1 (And.intro g2 g3))
            have G4 := Lib.hid g4
            clear h1 h2 h3 h4 h5 g1 g2 g3 g4
            by_cases hV : V = []
            · have hv : V.length = 0 := by rw [hV]; rfl
              have hv2 : ((V.length : Int) == 0) = true := by simp [hv]
              obtain ⟨e1, e2, e3⟩ := G4.out hV
              rw [e3]
              have HE := Lib.hid (fun _ : V = [] => And.intro e1 e2)
              clear e1 e2 e3 hv hV
              go_wp2
              go_roundw
              case rel => exact ⟨p + 1, B2, V2, G2, by go_num, by omega, G1.out.1, G1.out.2.1, G1.out.2.2, HE.out, HS2.out, HR2.out⟩
              case measure => simp [intOf]; omega
            · have hv2 : ((V.length : Int) == 0) = false := beq_eq_false_iff_ne.2 (fun e => hV (List.eq_nil_of_length_eq_zero (by omega)))
              have HE := Lib.hid (fun h : V = [] => (absurd h hV : V2 = [] ∧ B2 = B ++ K.take (p + 1)))
              clear hV
              go_wp2
              go_roundw
              case rel => exact ⟨p + 1, B2, V2, G2, by go_num, by omega, G1.out.1, G1.out.2.1, G1.out.2.2, HE.out, HS2.out, HR2.out⟩
              case measure => simp [intOf]; omega
          · have hpe : p = K.length := by omega
            have hall : ∀ x ∈ A, x ∈ B' := fun x hx => by
              by_cases hxb : x ∈ B
              · obtain ⟨X, hX⟩ := HX.out
                rw [hX]; simp [hxb]
              · refine HTK.out x ?_
                rw [hpe, List.take_length, ← HK.out]
                exact (Cz.lacks_mem HD.out HN.out HOF.out).2 ⟨hx, hxb⟩
            obtain ⟨hV', hBl, hkn⟩ := HOF'.out.all HD.out HN.out (fun x hx => List.mem_append_left _ (hall x hx))
            subst hV'
            have hlk : Cz.lacks MO A B' = [] := List.eq_nil_iff_forall_not_mem.2 fun x hx => by
              have := (Cz.lacks_mem HD.out HN.out HOF'.out).1 hx
              exact this.2 (hall x this.1)
            have hkv := knownV_same hkn
            have HLK := Lib.hid (And.intro hlk hkv)
            have dp : decide ((p : Int) < (K.length : Int)) = false := decide_eq_false (by omega)
            have hgd := run_guard
            have dq : decide ((q : Int) < (A.length : Int)) = false := decide_eq_false (by omega)
            have HBL := Lib.hid hBl
            clear hlk hkv hall hkn hBl HK HX HTK HV0
            go_wp2_with fail
            with_reducible refine HS.out.t.sf.known.mono ?_
            rintro e y1 ⟨rfl, h2⟩
            have HS1 := Lib.hid (HS.out.later h2)
            rw [HLK.out.2]
            clear h2
            go_wp2_with fail
            with_reducible refine HS1.out.s.sf.known.mono ?_
            rintro e y2 ⟨rfl, h2⟩
            have HS2 := Lib.hid (HS1.out.later h2)
            have hm := fun z (h : S2 w s t A W k F B' [] (q + p) G' z) => h.s.sf.missing (by omega) (knownV B') 200
            have hkw := fun z (h : S2 w s t A W k F B' [] (q + p) G' z) => h.t.sf.known
            rw [missL_lacks HOK.out hAl2, HLK.out.1] at hm
            rw [HLK.out.2] at hm hkw
            have HM := Lib.hid hm
            have HKW := Lib.hid hkw
            clear h2 hm hkw HLK
            generalize knownV A = U at *
            have hev : ∀ y, (Op.equalIn 10000 33 U.val U.val).run Tryd.prog y = .ok true y := fun y => (run_eqV U U y).trans (by rw [(beq_iff U U).2 rfl])
            go_wp2_with fail
            with_reducible refine (HS2.out.t.sf.all (by omega)).mono ?_
            rintro e y3 ⟨a3, n3, c3, rfl, rfl, -, h2⟩
            have HS3 := Lib.hid (HS2.out.later h2)
            have hBl := HBL.out
            rw [hBl]
            clear h2
            go_wp2_with fail
            with_reducible refine (HS3.out.t.sf.pending (by omega)).mono ?_
            rintro e y4 ⟨a4, n4, c4, rfl, rfl, -, h2⟩
            have HS4 := Lib.hid (HS3.out.later h2)
            clear h2
            go_wp2_with fail
            with_reducible refine (HKW.out _ HS4.out).mono ?_
            rintro e y5 ⟨rfl, h2⟩
            have HS5 := Lib.hid (HS4.out.later h2)
            clear h2
            go_wp2_with fail
            with_reducible refine (HM.out _ HS5.out).mono ?_
            rintro e y6 ⟨a6, n6, c6, rfl, rfl, -, h2⟩
            have HS6 := Lib.hid (HS5.out.later h2)
            clear h2
            go_wp2
            go_ret
            exact ⟨rfl, HS6.out.s.b⟩
end Go.Proofs.YtiamohfpohjdpaaDoor
