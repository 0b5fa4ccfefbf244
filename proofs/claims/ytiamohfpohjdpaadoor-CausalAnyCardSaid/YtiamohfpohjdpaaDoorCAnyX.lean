/- CAUSAL'S LAWS: two stores side by side; a slice of Bools that came in; what one lacks. CAUSAL, ANY ORDER DOES: the walk. -/
import Derived.Test.YtiamohfpohjdpaaDoorCTwice
import Derived.ProofKit
import Derived.OpenShut
import Derived.ChangeSlices
namespace Go.Proofs.YtiamohfpohjdpaaDoor
open Go.ChangeShapes Go.WideShapes Go.RowKit Go.Joins
set_option linter.unusedSimpArgs false
set_option linter.unusedVariables false
theorem open_ints_arg {H : Type} {enc : TypeId × Value → H} {P : Program} {w : World} {spare : Nat → Bool} {held : Bool} {v : Value} {d : DataW H} {ps : List MemPlace} {t e : TypeId} {r : Reach} {b0 : Nat} (ht : P.underlying t = some (.slice e)) (he : P.underlying e = some (.int .i64)) (hc : P.cellsOf e = 1)
    (hval : Value.okWide P w r b0 t v) (hd : DataW.Trod enc P w 0 spare held t v d ps) : ∃ (ao : Option Addr) (len cap : Nat) (zs : List Int), v = .slice ao len cap ∧
      (∀ i, i < len → ∃ b off, ao = some ⟨b, off, none⟩ ∧ w.cell? ⟨b, off + i, none⟩ = some (.int .i64 (zs.getD i 0))) ∧
      (∀ i, i < len → -9223372036854775808 ≤ zs.getD i 0 ∧ zs.getD i 0 ≤ 9223372036854775807) := by
  obtain ⟨a0, len, cap, rfl⟩ := okWide_slice ht hval
  obtain ⟨fuel, hf⟩ := hd
  rcases open_ints ht he hc hf with ⟨hcs, hx⟩ | ⟨a, len', cap', zs, hcs, hb, hl, hm, hz, hx, hcell, hwf⟩
  · simp [Value.cells] at hcs
    obtain ⟨rfl, rfl, rfl⟩ := hcs
    exact ⟨none, 0, 0, [], rfl, fun i h => by omega, fun i h => by omega⟩
  · simp [Value.cells] at hcs
    obtain ⟨rfl, rfl, rfl⟩ := hcs
    have hlen : len ≤ zs.length := by rw [hz]; split <;> omega
    refine ⟨some a, len, cap, zs, rfl, fun i h => ?_, fun i h => ?_⟩
    · obtain ⟨b, off, rfl, hk⟩ := Go.ints_at hcell (by omega)
      exact ⟨b, off, rfl, hk i (by omega)⟩
    · have hm := hwf (zs.getD i 0) (by rw [List.getD_eq_getElem?_getD, List.getElem?_eq_getElem (by omega)]; exact List.getElem_mem _)
      have e1 : IntKind.i64.min = -9223372036854775808 := by decide
      have e2 : IntKind.i64.max = 9223372036854775807 := by decide
      simp [Lit.wf] at hm
      simp only [List.getD_eq_getElem?_getD]
      omega
theorem open_bools_arg {H : Type} {enc : TypeId × Value → H} {P : Program} {w : World} {spare : Nat → Bool} {held : Bool} {v : Value} {d : DataW H} {ps : List MemPlace} {t e : TypeId} {r : Reach} {b0 : Nat} (ht : P.underlying t = some (.slice e)) (he : P.underlying e = some .bool) (hc : P.cellsOf e = 1)
    (hval : Value.okWide P w r b0 t v) (hd : DataW.Trod enc P w 0 spare held t v d ps) : ∃ (ao : Option Addr) (len cap : Nat) (B : Nat → Bool), v = .slice ao len cap ∧
      (∀ i, i < len → ∃ b off, ao = some ⟨b, off, none⟩ ∧ w.cell? ⟨b, off + i, none⟩ = some (.bool (B i))) ∧ len ≤ maxLen := by
  obtain ⟨a0, len, cap, rfl⟩ := okWide_slice ht hval
  obtain ⟨fuel, hf⟩ := hd
  rcases Deep.open_slice1 ht hc hf with ⟨hcs, hx⟩ | ⟨a, len', cap', m, n, V, D, Pl, hcs, hb, hl, hm, hmm, hx, hi⟩
  · simp [Value.cells] at hcs
    obtain ⟨rfl, rfl, rfl⟩ := hcs
    exact ⟨none, 0, 0, fun _ => false, rfl, fun i h => by omega, by omega⟩
  · simp [Value.cells] at hcs
    obtain ⟨rfl, rfl, rfl⟩ := hcs
    have hm' : len ≤ m := by rw [hmm]; split <;> omega
    obtain ⟨B, hB⟩ := Deep.choose_lt (α := Bool) (n := m) (p := fun i b => V i = .bool b) (fun i hi2 => by
      obtain ⟨b, h1, -⟩ := DataW.trod_bool he (hi i hi2).2
      exact ⟨b, by simpa using h1⟩)
    refine ⟨some a, len, cap, B, rfl, fun i hil => ?_, by omega⟩
    obtain ⟨b, off, spot⟩ := a
    have h1 := (hi i (by omega)).1
    have hs : spot = none := by simpa [Addr.add] using World.cell?_spot (hi 0 (by omega)).1
    subst hs
    refine ⟨b, off, rfl, ?_⟩
    rw [← hB i (by omega), ← h1]
    simp [add_plain]
/-- two stores, apart -/
structure S2 (w : World) (s t : Nat) (A W : List OpG) (k : Nat) (F : Nat → Prop) (B V : List OpG) (m : Nat) (G : Nat → Prop) (z : World) : Prop where
  s : SL w s A W k F z
  t : SL w t B V m G z
  ne : ∀ x, F x → ¬ G x
section
variable {w z z' : World} {s t k m k' m' : Nat} {A W A' W' B V B' V' : List OpG} {F F' G G' : Nat → Prop}
theorem SL.blk (h : SL w s A W k F z) : ∃ c T, z.heap[s]? = some (.cells c T (0, 0)) := by
  obtain ⟨tb, db, va, vw, hG⟩ := h.sf.st
  exact ⟨_, _, hG.top⟩
theorem S2.later (h : S2 w s t A W k F B V m G z) (b : Below z.heap.size z z') : S2 w s t A W k F B V m G z' := ⟨h.s.later b, h.t.later b, h.ne⟩
theorem S2.turnT (h : S2 w s t A W k F B V m G z) (h2 : SF t B' V' m' G' z') (c : Ch G z z') (hG : ∀ x, G' x → G x ∨ z.heap.size ≤ x) : S2 w s t A W k F B' V' m' G' z' :=
  ⟨⟨h.s.sf.ch c h.ne, h.s.up, (h.t.turn h2 c hG).b⟩, h.t.turn h2 c hG, fun x hx hy => (hG x hy).elim (h.ne x hx) (fun h3 => by have := h.s.sf.bd x hx; omega)⟩
theorem S2.turnS (h : S2 w s t A W k F B V m G z) (h2 : SF s A' W' k' F' z') (c : Ch F z z') (hF : ∀ x, F' x → F x ∨ z.heap.size ≤ x) : S2 w s t A' W' k' F' B V m G z' :=
  ⟨h.s.turn h2 c hF, ⟨h.t.sf.ch c (fun x hx hy => h.ne x hy hx), h.t.up, (h.s.turn h2 c hF).b⟩, fun x hx hy => (hF x hx).elim (fun h3 => h.ne x h3 hy) (fun h3 => by have := h.t.sf.bd x hy; omega)⟩
theorem KR.zero {w0 n c : Nat} {ao : Option Addr} {L : List OpG} (h : KR w0 ao n c L F z) : KR 0 ao n c L F z := ⟨h.own.base (fun _ _ => Nat.zero_le _), h.nf⟩
theorem KR.stepT {w0 n c : Nat} {ao : Option Addr} {L : List OpG} (h : KR w0 ao n c L (fun x => F x ∨ G x) z) (c' : Ch G z z') (hG : ∀ x, G' x → G x ∨ z.heap.size ≤ x) : KR w0 ao n c L (fun x => F x ∨ G' x) z' :=
  h.step (c'.mono (fun x _ h => .inr h)) (fun x hx => hx.elim (fun h => .inl (.inl h)) (fun h => (hG x h).elim (fun h => .inl (.inr h)) .inr))
theorem S2.bd (h : S2 w s t A W k F B V m G z) : ∀ x, (F x ∨ G x) → x < z.heap.size := fun x hx => hx.elim (h.s.sf.bd x) (h.t.sf.bd x)
theorem OwnO.long {base n c : Nat} {ao : Option Addr} {L : List OpG} (h : OwnO z base (.slice ao n c) L) (h0 : 0 < L.length) : n = L.length ∧ n ≤ c ∧ c ≤ maxLen ∧ ∃ b, ao = some ⟨b, 0, none⟩ := by
  rcases h.form with ⟨-, rfl⟩ | ⟨b, c', cur, he, hB, hb, hn, hc, hs, ht⟩
  · simp at h0
  · cases he; exact ⟨rfl, hn, hc, b, rfl⟩
end
theorem srt_perm : ∀ l l2 : List OpG, SortOf l l2 → l2.Perm l := fun l l2 h => h.perm
theorem nodupA {A W : List OpG} (h : Cz.Stb MO A W) : (Cz.ids MO A).Nodup := by
  have := h.nodup
  rw [Cz.ids_app, List.nodup_append] at this
  exact this.1
theorem missL_lacks {A B : List OpG} (hok : ∀ x ∈ A, MO.ok x) (hl : A.length ≤ 200) : missL (knownV B) 200 A = Cz.lacks MO A B := by
  unfold missL Cz.lacks
  have e : (A.filter fun x => !(knownV B).has x.n x.r) = A.filter fun x => !decide ((MO.id x).1 ≤ Cz.known MO B (MO.id x).2) := by
    refine List.filter_congr fun x hx => ?_
    obtain ⟨h0, h8⟩ := MO.rep x (hok x hx)
    have h1 : (knownV B).has x.n x.r = decide (x.n ≤ Cz.known MO B x.r) := by
      unfold V8.has
      rw [knownV_at B x.r h0 h8]
      have : knownB x.r = true := by
        have a : (0 : Int) ≤ x.r := h0
        have b : x.r < 8 := h8
        simp [knownB]; omega
      rw [this, Bool.true_and]
    rw [h1]
    rfl
  rw [e]
  refine List.take_of_length_le (Nat.le_trans (List.length_filter_le _ _) ?_)
  simpa using hl
theorem cut_split {R : List OpG} {j : Nat} {o : OpG} (h : R[j]? = some o) : (∀ x, x ∈ R ↔ x ∈ R.take j ++ R.drop (j + 1) ∨ x = o) ∧ (R.take j ++ R.drop (j + 1)).length + 1 = R.length := by
  obtain ⟨hj, rfl⟩ := List.getElem?_eq_some_iff.1 h
  have e : R = R.take j ++ R[j] :: R.drop (j + 1) := by rw [← List.drop_eq_getElem_cons hj, List.take_append_drop]
  refine ⟨fun x => ?_, by simp; omega⟩
  conv => lhs; rw [e]
  simp only [List.mem_append, List.mem_cons]
  constructor
  · rintro (h | h | h)
    · exact .inl (.inl h)
    · exact .inr h
    · exact .inl (.inr h)
  · rintro ((h | h) | h)
    · exact .inl h
    · exact .inr (.inr h)
    · exact .inr (.inl h)
end Go.Proofs.YtiamohfpohjdpaaDoor
namespace Go.Proofs.YtiamohfpohjdpaaDoor
open Go.RowKit Go.Joins
set_option linter.unusedSimpArgs false
set_option linter.unusedVariables false
set_option maxHeartbeats 8000000 in
set_option maxRecDepth 100000 in
theorem cany_walk (L : List OpG) (ao : Option Addr) (cap : Nat) (oo : Option Addr) (on oc : Nat) (zs : List Int) (w : World) (hL : L.length ≤ maxLen) (hfi : ∀ o ∈ L, o.fine) (hat : OpsAt w ao L)
    (hz1 : ∀ i, i < on → ∃ b off, oo = some ⟨b, off, none⟩ ∧ w.cell? ⟨b, off + i, none⟩ = some (.int .i64 (zs.getD i 0))) (hz2 : ∀ i, i < on → -9223372036854775808 ≤ zs.getD i 0 ∧ zs.getD i 0 ≤ 9223372036854775807) :
    Calls Tryd.prog 3 #[.slice ao L.length cap, .slice oo on oc] w fun e w' => e = .returned (.bool true) ∧ Below w.heap.size w w' := by
  have AL := Lib.hid alive_any
  have HA := Lib.hid hat
  have HF := Lib.hid hfi
  have HZ1 := Lib.hid hz1
  have HZ2 := Lib.hid hz2
  unfold maxLen at hL
  clear hat hfi hz1 hz2
  go_enter Tryd.func3, Tryd.ntmps3
  go_wp2_with fail
  with_reducible refine (newF_any w).mono ?_
  rintro e w1 ⟨s, rfl, ⟨F0, h1, h2⟩, hb⟩
  have H1 := Lib.hid (show SL w s [] [] 0 F0 w1 from ⟨h1, h2, hb⟩)
  clear h1 h2 hb
  go_wp2_with fail
  with_reducible refine (newF_any w1).mono ?_
  rintro e w2 ⟨t, rfl, ⟨G0, h1, h2⟩, hb⟩
  have H2 := Lib.hid (show S2 w s t [] [] 0 F0 [] [] 0 G0 w2 from ⟨H1.out.later hb, ⟨h1, fun x hx => Nat.le_trans H1.out.b.size (h2 x hx), (H1.out.later hb).b⟩, fun x hx hy => by have := H1.out.sf.bd x hx; have := h2 x hy; omega⟩)
  clear h1 h2 hb H1
  go_wp2_with fail
  with_reducible refine (AL.out _).mono ?_
  rintro e w3 ⟨rfl, hb⟩
  have H3 := Lib.hid (H2.out.later hb)
  clear hb H2
  obtain ⟨cs, T, hsp⟩ := H3.out.s.blk
  obtain ⟨cs2, T2, htp⟩ := H3.out.t.blk
  go_upto_block 0 with fail
  clear hsp htp
  go_cut [] (fun y => ∃ k A W F, k ≤ 200 ∧ S2 w s t A W k F [] [] 0 G0 y)
  case first =>
    go_wp2_with fail
    go_loopw [7] (fun vi wr => ∃ (q : Nat) (A W : List OpG) (F : Nat → Prop), vi = .int .i64 q ∧ q ≤ L.length ∧ q ≤ 200 ∧ S2 w s t A W q F [] [] 0 G0 wr) (fun vi _ => L.length - (intOf vi).toNat)
    case atStart => exact ⟨0, [], [], F0, rfl, Nat.zero_le _, Nat.zero_le _, H3.out⟩
    case round =>
      obtain ⟨q, A, W, F, rfl, hq1, hq2, hs⟩ := hrel
      have HS := Lib.hid hs
      clear hs
      by_cases hk : q < L.length ∧ q < 200
      · obtain ⟨hk, h3⟩ := hk
        obtain ⟨o, ho⟩ : ∃ o, L[q]? = some o := ⟨_, List.getElem?_eq_getElem hk⟩
        obtain ⟨b, off, rfl, hbw, hc⟩ := HA.out.below HS.out.s.b q o ho
        have HFO := Lib.hid (HF.out o (List.mem_of_getElem? ho))
        have HC := Lib.hid hc
        have b0 : (0 : Int) ≤ (q : Int) := by omega
        have b1 : (q : Int) < (L.length : Int) := by omega
        clear hc hbw ho
        go_wp2_with (refine wpList_load_at (.tmp 40) 39 rfl rfl b (off + q * 26) o.cells rfl Tryd.underlying39 (by kernel_rfl) HC.out ?_)
        with_reducible refine (HS.out.s.sf.add (by omega) o HFO.out).mono ?_
        rintro e y ⟨ao2, c2, n2, res, err, A2, W2, F2, rfl, rfl, h1, h2, h3', h4, h5⟩
        have HS2 := Lib.hid (HS.out.turnS h2 h3' h4)
        clear h1 h2 h3' h4 h5
        go_wp2
        go_roundw
        case rel => exact ⟨q + 1, A2, W2, F2, by go_num, by omega, by omega, HS2.out⟩
        case measure => simp [intOf]; omega
      · rcases (show (q < L.length ∧ ¬ q < 200) ∨ ¬ q < L.length by omega) with ⟨g1, g2⟩ | g1
        all_goals
          go_wp2_with fail
          go_meet
          exact ⟨q, A, W, F, hq2, HS.out⟩
  case rest =>
    obtain ⟨k, A, W, F, hk2, hs⟩ := hcut
    obtain ⟨wk, hwk⟩ : ∃ wk, wk = wc := ⟨_, rfl⟩
    subst hwk
    have HS := Lib.hid hs
    have HD := Lib.hid hs.s.sf.stb.valid
    have HN := Lib.hid (nodupA hs.s.sf.stb)
    have hAl := hs.s.sf.alen
    clear hs H3 HA HF
    go_wp2_with fail
    with_reducible refine (HS.out.s.sf.all (by omega)).mono ?_
    rintro e w4 ⟨al0, nl, cl0, rfl, rfl, h1, h2⟩
    have H4 := Lib.hid (HS.out.later h2)
    have HR4 := Lib.hid (show KR 0 al0 A.length cl0 A (fun x => F x ∨ G0 x) w4 from (KR.new h1 HS.out.bd).zero)
    clear h1 h2 HS
    go_wp2
    go_loopw [8, 10] (fun lv iv wr => ∃ (q : Nat) (R B V : List OpG) (G : Nat → Prop) (al : Option Addr) (cl : Nat), iv = .int .i64 q ∧ lv = .slice al R.length cl ∧ q + R.length = A.length ∧ (∀ x ∈ R, x ∈ A) ∧ (∀ x ∈ A, x ∈ R ∨ x ∈ B ++ V) ∧ Cz.Of MO A B V ∧ S2 w s t A W k F B V q G wr ∧ KR 0 al R.length cl R (fun x => F x ∨ G x) wr) (fun _ iv _ => 201 - (intOf iv).toNat)
    case atStart => exact ⟨0, A, [], [], G0, al0, cl0, rfl, rfl, by omega, fun x h => h, fun x h => .inl h, Cz.Of.nil, H4.out, HR4.out⟩
    case round =>
      obtain ⟨q, R, B, V, G, al, cl, rfl, rfl, hqr, hra, hall, hof, hs, hr⟩ := hrel
      have HS := Lib.hid hs
      have HR := Lib.hid hr
      have HRA := Lib.hid hra
      have HAL := Lib.hid hall
      have HOF := Lib.hid hof
      clear hs hr hra hall hof H4 HR4
      rcases Nat.eq_zero_or_pos R.length with h0 | h0
      · have hR0 := List.eq_nil_of_length_eq_zero h0
        subst hR0
        obtain ⟨hV, hBl, hkn⟩ := HOF.out.all HD.out HN.out (fun x hx => (HAL.out x hx).elim (fun h => by simp at h) id)
        subst hV
        have hkv := knownV_same hkn
        have hgd := run_guard
        go_wp2_with fail
        with_reducible refine (HS.out.t.sf.all (by omega)).mono ?_
        rintro e y1 ⟨a1, n1, c1, rfl, rfl, -, h2⟩
        have HS1 := Lib.hid (HS.out.later h2)
        clear h2
        go_wp2_with fail
        with_reducible refine HS1.out.t.sf.known.mono ?_
        rintro e y2 ⟨rfl, h2⟩
        have HS2 := Lib.hid (HS1.out.later h2)
        rw [hkv]
        clear h2
        go_wp2_with fail
        with_reducible refine HS2.out.s.sf.known.mono ?_
        rintro e y3 ⟨rfl, h2⟩
        have HS3 := Lib.hid (HS2.out.later h2)
        clear h2 hkv
        generalize knownV A = K
        have hev : ∀ y, (Op.equalIn 10000 33 K.val K.val).run Tryd.prog y = .ok true y := fun y => (run_eqV K K y).trans (by rw [(beq_iff K K).2 rfl])
        go_wp2_with fail
        with_reducible refine (HS3.out.t.sf.pending (by omega)).mono ?_
        rintro e y4 ⟨a4, n4, c4, rfl, rfl, -, h2⟩
        have HS4 := Lib.hid (HS3.out.later h2)
        clear h2
        go_wp2
        go_ret
        exact ⟨rfl, HS4.out.s.b⟩
      · have hq2 : q < 200 := by omega
        go_upto_if 59 with fail
        go_cut [11] (fun v z => ∃ j : Nat, v = .int .i64 j ∧ j < R.length ∧ z = wr)
        case first =>
          by_cases hno : q < on
          · obtain ⟨b, off, rfl, hcell⟩ := HZ1.out q hno
            have hc2 : wr.cell? ⟨b, off + q, none⟩ = some (.int .i64 (zs.getD q 0)) := (HS.out.s.b.cell (World.block_lt_of_cell? _ _ hcell)).trans hcell
            obtain ⟨hr1, hr2⟩ := HZ2.out q hno
            generalize zs.getD q 0 = z0 at *
            clear hcell
            go_upto_if 65 with fail
            go_cut [11] (fun v z => (∃ nn : Nat, v = .int .i64 nn ∧ nn < 9223372036854775808) ∧ z = wr)
            case first =>
              by_cases hneg : z0 < 0
              · go_wp2_with fail
                go_meet
                exact ⟨⟨(-(z0 + 1)).toNat, congrArg (Value.int .i64) (by omega), by omega⟩, rfl⟩
              · go_wp2_with fail
                go_meet
                exact ⟨⟨z0.toNat, congrArg (Value.int .i64) (by omega), by omega⟩, rfl⟩
            case rest =>
              obtain ⟨⟨nn, rfl, hnn⟩, rfl⟩ := hcut
              obtain ⟨j, hj⟩ : ∃ j, nn % R.length = j := ⟨_, rfl⟩
              have hjl : j < R.length := by rw [← hj]; exact Nat.mod_lt _ h0
              have hj2 : (nn : Int).tmod (R.length : Int) = (j : Int) := by rw [← hj]; rfl
              have hj3 : (nn : Int) % (R.length : Int) = (j : Int) := by rw [← hj]; rfl
              clear hc2
              go_wp2_with fail
              go_meet
              exact ⟨j, rfl, hjl, rfl⟩
          · go_wp2_with fail
            go_meet
            exact ⟨0, rfl, h0, rfl⟩
        case rest =>
          obtain ⟨j, rfl, hj, rfl⟩ := hcut
          obtain ⟨o, ho⟩ : ∃ o, R[j]? = some o := ⟨_, List.getElem?_eq_getElem hj⟩
          obtain ⟨-, hRc, hcm, B0, rfl⟩ := HR.out.own.long h0
          obtain ⟨-, b, off, hB0, hbw, hc⟩ := HR.out.get ho
          cases hB0
          simp only [Nat.zero_add] at hc
          have HOO := Lib.hid ho
          have HFO := Lib.hid (HS.out.s.sf.fine (List.mem_append_left W (HRA.out o (List.mem_of_getElem? ho))))
          have HC := Lib.hid hc
          have b0 : (0 : Int) ≤ (j : Int) := by omega
          have b1 : (j : Int) < (R.length : Int) := by omega
          have b2 : (j : Int) ≤ (cl : Int) := by omega
          have b3 : (0 : Int) ≤ (j : Int) + 1 := by omega
          have b4 : (j : Int) + 1 ≤ (R.length : Int) := by omega
          have b5 : (R.length : Int) ≤ (cl : Int) := by omega
          unfold maxLen at hcm
          clear hc hbw ho
          go_wp2_with (refine wpList_load_at (.tmp 77) 39 rfl rfl B0 (j * 26) o.cells rfl Tryd.underlying39 (by kernel_rfl) HC.out ?_)
          with_reducible refine (HS.out.t.sf.add (by omega) o HFO.out).mono ?_
          rintro e y ⟨ao2, c2, n2, res, err, B2, V2, G2, rfl, rfl, h1, h2, h3, h4, h5⟩
          have HS2 := Lib.hid (HS.out.turnT h2 h3 h4)
          have HR2 := Lib.hid (HR.out.stepT h3 h4)
          rcases h1.of srt_perm HD.out HN.out HOF.out (HRA.out o (List.mem_of_getElem? HOO.out)) with ⟨rfl, -, -, -, -⟩ | ⟨rfl, hof2, hmem, -⟩
          · clear h1 h2 h3 h4 h5 HR2
            go_wp2
            go_ret
            exact ⟨rfl, HS2.out.s.b⟩
          · have HOF2 := Lib.hid hof2
            have HMM := Lib.hid hmem
            have HTL := Lib.hid (show (R.take j).length = j by rw [List.length_take]; omega)
            have HDL := Lib.hid (show (R.drop (j + 1)).length = R.length - (j + 1) by rw [List.length_drop])
            have hsp := cut_split HOO.out
            have HSP := Lib.hid hsp
            clear h1 h2 h3 h4 h5 hof2 hmem hsp HC
            go_upto_region 27 with (refine wpList_appO rfl (.tmp 86) (.tmp 89) rfl y.heap.size (.slice none 0 0) [] (R.take j) rfl (OwnO.nil _ _) (some ⟨B0, 0, none⟩) cl (by rw [HTL.out]; rfl) (by intro h; cases h) (HR2.out.own.at.2.take j) (by rw [HTL.out]; simp; omega) (Nat.le_refl _) ?_; intro v1 wx own1 grow1; have bb := (Below.refl y.heap.size y).grown grow1 (Nat.le_refl _) (fun x hx => by cases hx); have HO1 := Lib.hid own1; have HB1 := Lib.hid bb; clear own1 grow1 bb)
            have HR3 := Lib.hid (HR2.out.later HB1.out)
            go_cut [14] (fun v2 wy => OwnO wy y.heap.size v2 (R.take j ++ R.drop (j + 1)) ∧ Below y.heap.size y wy)
            case first =>
              rcases Nat.lt_or_ge (j + 1) cl with hcc | hcc
              · go_wp2_with (refine wpList_appO rfl (.tmp 91) (.tmp 95) rfl y.heap.size v1 ([] ++ R.take j) (R.drop (j + 1)) rfl HO1.out (some ⟨B0, (j + 1) * 26, none⟩) (cl - (j + 1)) (by rw [HDL.out]; rfl) (by intro h; cases h) (by have := HR3.out.own.at.2.drop (j + 1); rwa [Nat.zero_add] at this) (by rw [HDL.out, List.nil_append, HTL.out]; omega) HB1.out.size ?_; intro v2 wy own2 grow2; have bb := HB1.out.grown grow2 HB1.out.size (fun x hx => (World.ownsRow.lt HO1.out x hx).1); have HO2 := Lib.hid own2; have HB2 := Lib.hid bb; clear own2 grow2 bb)
                go_meet
                exact ⟨by have := HO2.out; rwa [List.nil_append] at this, HB2.out⟩
              · obtain rfl : cl = j + 1 := by omega
                have HDN := Lib.hid (show R.drop (j + 1) = [] from List.drop_eq_nil_of_le (by omega))
                have hrl : (R.length : Int) = (j : Int) + 1 := by omega
                go_wp2_with (refine wpList_appO rfl (.tmp 91) (.tmp 95) rfl y.heap.size v1 ([] ++ R.take j) (R.drop (j + 1)) rfl HO1.out (some ⟨B0, 0, none⟩) 0 (by first | (rw [HDL.out]; rfl) | (rw [HDL.out, show R.length - (j + 1) = 0 from by omega]; rfl)) (by intro h; cases h) (by rw [HDN.out]; intro i o2 hi; simp at hi) (by rw [HDL.out, List.nil_append, HTL.out]; omega) HB1.out.size ?_; intro v2 wy own2 grow2; have bb := HB1.out.grown grow2 HB1.out.size (fun x hx => (World.ownsRow.lt HO1.out x hx).1); have HO2 := Lib.hid own2; have HB2 := Lib.hid bb; clear own2 grow2 bb)
                go_meet
                exact ⟨by have := HO2.out; rwa [List.nil_append] at this, HB2.out⟩
            case rest =>
              obtain ⟨hown, hb⟩ := hcut
              obtain ⟨wy, hwy⟩ : ∃ wy, wy = wc := ⟨_, rfl⟩
              subst hwy
              obtain ⟨al3, cl3, rfl, -, -⟩ := hown.at'
              have HO3 := Lib.hid hown
              have HB3 := Lib.hid hb
              clear hown hb
              go_wp2
              go_roundw
              case rel =>
                refine ⟨q + 1, R.take j ++ R.drop (j + 1), B2, V2, G2, al3, cl3, by go_num, rfl, ?_, ?_, ?_, HOF2.out, HS2.out.later HB3.out, (KR.new HO3.out HS2.out.bd).zero⟩
                · have := HSP.out.2; omega
                · exact fun x hx => HRA.out x ((HSP.out.1 x).2 (.inl hx))
                · intro x hx
                  rcases HAL.out x hx with h | h
                  · rcases (HSP.out.1 x).1 h with h | rfl
                    · exact .inl h
                    · exact .inr ((HMM.out x).2 (.inr rfl))
                  · exact .inr ((HMM.out x).2 (.inl h))
              case measure => simp [intOf]; omega
end Go.Proofs.YtiamohfpohjdpaaDoor
