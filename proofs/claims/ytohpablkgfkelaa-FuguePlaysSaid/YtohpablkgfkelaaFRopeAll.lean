/- A ROPE IN MEMORY: it stays while other memory turns; All; New. -/
import Derived.Test.YtohpablkgfkelaaFRopeAt
import Derived.Laws.AppendOwnNone
namespace Go.Proofs.Ytohpablkgfkelaa
open Go.RowKit Go.Joins
set_option linter.unusedSimpArgs false
set_option linter.unusedVariables false

theorem own_ch {F : Nat → Prop} {w w' : World} {base : Nat} {e : TypeId} {size : Nat} {v : Value} {n : Nat} {xs : List Value} (h : w.ownsRow base e size v n xs) (c : Ch F w w') (hd : ∀ b, v.ownBlock = some b → ¬ F b) : w'.ownsRow base e size v n xs := by
  refine ⟨h.1, ?_⟩
  rcases h.2 with hn | ⟨g, cap, cur, rfl, hbb, hgg, rest⟩
  · exact .inl hn
  · exact .inr ⟨g, cap, cur, rfl, hbb, c.at hgg (hd g rfl), rest⟩
theorem mem_foot_run {r wb hb : Nat} {rs : Value} {G : List RunG} {g : RunG} (h : g ∈ G) : g.b ∈ foot r wb hb rs G ∧ ∀ x, g.sl.ownBlock = some x → x ∈ foot r wb hb rs G := by
  unfold foot
  refine ⟨?_, fun x hx => ?_⟩
  · simp only [List.mem_cons, List.mem_append]
    exact Or.inr (Or.inr (Or.inr (Or.inr (List.mem_flatMap.2 ⟨g, h, by simp⟩))))
  · simp only [List.mem_cons, List.mem_append]
    exact Or.inr (Or.inr (Or.inr (Or.inr (List.mem_flatMap.2 ⟨g, h, by simp [hx]⟩))))
theorem mem_foot_rs {r wb hb : Nat} {rs : Value} {G : List RunG} {x : Nat} (h : rs.ownBlock = some x) : x ∈ foot r wb hb rs G := by
  unfold foot; simp [h]
theorem RopeAt.ch {F : Nat → Prop} {w w' : World} {r wb hb : Nat} {rs : Value} {G : List RunG} {hid : St → Bool} (h : RopeAt w r wb hb rs G hid) (c : Ch F w w') (hd : ∀ x ∈ foot r wb hb rs G, ¬ F x) : RopeAt w' r wb hb rs G hid where
  top := c.at h.top (hd r (by simp [foot]))
  runs := own_ch h.runs c (fun b hb => hd b (mem_foot_rs hb))
  run := fun g hg => ⟨c.at (h.run g hg).1 (hd _ (mem_foot_run hg).1), own_ch (h.run g hg).2 c (fun b hb => hd b ((mem_foot_run hg).2 b hb))⟩
  wh := h.wh.ch c (hd wb (by simp [foot]))
  hd := h.hd.ch c (hd hb (by simp [foot]))
  nodup := h.nodup
  apart := h.apart
  ne := h.ne
  short := h.short
theorem Rope.ch {F F' : Nat → Prop} {w w' : World} {r : Nat} {L : List St} {hid : St → Bool} (h : Rope w r L hid F) (c : Ch F' w w') (hd : ∀ x, F x → ¬ F' x) : Rope w' r L hid F := by
  obtain ⟨hL, wb, hb, rs, G, hR, e, hF⟩ := h
  exact ⟨hL, wb, hb, rs, G, hR.ch c (fun x hx => hd x (hF.1 x hx)), e, hF⟩
theorem Rope.mono {F F' : Nat → Prop} {w : World} {r : Nat} {L : List St} {hid : St → Bool} (h : Rope w r L hid F) (hF : ∀ x, F x → F' x) : Rope w r L hid F' := by
  obtain ⟨hL, wb, hb, rs, G, hR, e, hf⟩ := h
  exact ⟨hL, wb, hb, rs, G, hR, e, fun x hx => hF x (hf.1 x hx), hf.2⟩
theorem runs_any {w : World} {r wb hb : Nat} {rs : Value} {G : List RunG} {hid : St → Bool} (h : RopeAt w r wb hb rs G hid) :
    ∃ ao cap, rs = .slice ao G.length cap ∧ ∀ k (hk : k < G.length), ∃ B, ao = some ⟨B, 0, none⟩ ∧ w.cell? ⟨B, k, none⟩ = some (ptr G[k].b) := by
  rcases Nat.eq_zero_or_pos G.length with h0 | h0
  · rcases h.runs.2 with ⟨rfl, _⟩ | ⟨B, cap, cur, rfl, _⟩
    · exact ⟨none, 0, by rw [h0], fun k hk => by omega⟩
    · exact ⟨_, cap, rfl, fun k hk => by omega⟩
  · obtain ⟨B, cap, rfl, hc⟩ := runs_form h h0
    exact ⟨_, cap, rfl, fun k hk => ⟨B, rfl, hc k hk⟩⟩
def AllP (L : List St) (w : World) (e : Ending) (w' : World) : Prop := ∃ v, e = .returned v ∧ w'.ownsRow w.heap.size 30 2 v L.length (stL L) ∧ Below w.heap.size w w'
theorem Slot.infoSt : (Try.prog.info? 30).map (fun i => (i.zero, i.size, i.bytes)) = some (some (.agg #[.int .i64 0, .int .i64 0]), 2, 16) := by kernel_rfl
/-- a cell of the row is a stamp's -/
theorem stL_inv : ∀ {ks : List St} {j : Nat} {u : Value}, (stL ks)[j]? = some u → ∃ (x : St) (q : Nat), ks[q]? = some x ∧ ((j = q * 2 ∧ u = .int .i64 x.1) ∨ (j = q * 2 + 1 ∧ u = .int .i64 x.2))
  | [], j, u, h => by simp [stL] at h
  | x :: ks, 0, u, h => by
    have : some (Value.int .i64 x.1) = some u := h
    cases this
    exact ⟨x, 0, rfl, .inl ⟨rfl, rfl⟩⟩
  | x :: ks, 1, u, h => by
    have : some (Value.int .i64 x.2) = some u := h
    cases this
    exact ⟨x, 0, rfl, .inr ⟨rfl, rfl⟩⟩
  | x :: ks, j + 2, u, h => by
    have h' : (stL ks)[j]? = some u := h
    obtain ⟨y, q, h1, h2⟩ := stL_inv h'
    refine ⟨y, q + 1, by simpa using h1, ?_⟩
    rcases h2 with ⟨h2, h3⟩ | ⟨h2, h3⟩
    · exact .inl ⟨by omega, h3⟩
    · exact .inr ⟨by omega, h3⟩
set_option maxHeartbeats 2000000 in
set_option maxRecDepth 20000 in
theorem all_any (w : World) (r : Nat) (L : List St) (hid : St → Bool) (F : Nat → Prop) (h : Rope w r L hid F) :
    Calls Try.prog 40 #[ptr r] w (AllP L w) := by
  obtain ⟨hL, wb, hb, rs, G, hR, rfl, hF⟩ := h
  obtain ⟨i0, hi, hz0, hz1, hz2⟩ := info_parts Slot.infoSt
  obtain ⟨ao, cap, rfl, hcell⟩ := runs_any hR
  have hlen := len_le_flat (w := w) (r := r) (wb := wb) (hb := hb) (rs := Value.nilFunc) (hid := hid) hR.ne
  have e0 := blk_cell hR.top 0
  have f0 := blk_free hR.top 0
  have HR := Lib.hid hR
  have HC := Lib.hid hcell
  clear hR hcell
  go_enter Try.func40, Try.ntmps40
  go_wp2
  go_loopw [3, 13] (fun v i wr => ∃ k : Nat, k ≤ G.length ∧ i = .int .i64 k ∧ wr.ownsRow w.heap.size 30 2 v (flat (G.take k)).length (stL (flat (G.take k))) ∧ Below w.heap.size w wr) (fun _ i _ => G.length - (intOf i).toNat)
  case atStart => exact ⟨0, Nat.zero_le _, rfl, World.ownsRow_nil _ _ _ _, Below.refl _ _⟩
  case round =>
    obtain ⟨k, hk, rfl, hown, hbel⟩ := hrel
    by_cases hlt : k < G.length
    · have hRr := HR.out.ch (Ch.of_below (F := fun _ => False) hbel) (fun _ _ h => h)
      obtain ⟨B, rfl, hc0⟩ := HC.out k hlt
      have hc : wr.cell? ⟨B, k, none⟩ = some (ptr G[k].b) := (hbel.cell (World.block_lt_of_cell? _ _ hc0)).trans hc0
      obtain ⟨A, cp, hsl, -, -, hit⟩ := items_form hRr G[k] (List.getElem_mem hlt)
      have hrun := (hRr.run G[k] (List.getElem_mem hlt)).1
      rw [hsl] at hrun
      have e1 := blk_cell hrun 0
      have f1 := blk_free hrun 0
      have hfl : flat (G.take (k + 1)) = flat (G.take k) ++ G[k].ks := by
        rw [List.take_succ_eq_append_getElem hlt, flat_append]; simp [flat]
      have hb1 := offs_succ G k hlt
      have hb2 := offs_le G (k + 1)
      have hb3 : (flat (G.take k)).length = offs G k := flat_take_length G k
      have hb4 : (flat (G.take k)).length + G[k].ks.length ≤ (flat G).length := by omega
      have HFL := Lib.hid hfl
      have HO := Lib.hid hown
      have HB := Lib.hid hbel
      have HI := Lib.hid hit
      clear hRr hc0 hsl hrun hfl hb1 hb2 hb3 hown hbel hit
      go_wp2_with (at_builtin; refine wpList_append_own _ rfl (.tmp 17) (.tmp 21) 80 rfl w.heap.size 30 i0 (.agg #[.int .i64 0, .int .i64 0]) 2 16 Try.underlying80 hi hz0 hz1 hz2 rfl (by decide) u3 _ _ rfl HO.out ⟨A, 0, none⟩ G[k].ks.length cp (stL G[k].ks) rfl (by rw [stL_length]) (fun j u hj => by
          rw [Addr.add_lit, Nat.zero_add]
          obtain ⟨x, q, hx, hq⟩ := stL_inv hj
          rcases hq with ⟨rfl, rfl⟩ | ⟨rfl, rfl⟩
          · exact (HI.out q x hx).1
          · exact (HI.out q x hx).2) (stL_one _) (by unfold maxLen; omega) (by omega) (HB.out.size) ?_; intro v1 w1 hown1 hgrow1 _)
      go_roundw
      case rel => exact ⟨k + 1, by omega, by go_num, by rw [HFL.out, stL_append, List.length_append]; exact hown1, HB.out.grown hgrow1 HB.out.size (fun x hx => (HO.out.lt x hx).1)⟩
      case measure => simp [intOf]; omega
    · obtain rfl : k = G.length := by omega
      have HO := Lib.hid hown
      have HB := Lib.hid hbel
      clear hown hbel
      go_wp2
      go_ret
      refine ⟨_, rfl, ?_, HB.out⟩
      have := HO.out
      rwa [List.take_length] at this
end Go.Proofs.Ytohpablkgfkelaa
