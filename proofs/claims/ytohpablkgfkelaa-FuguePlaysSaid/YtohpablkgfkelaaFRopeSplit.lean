/- A ROPE IN MEMORY: split. -/
import Derived.Test.YtohpablkgfkelaaFRopeShow
import Derived.Test.YtohpablkgfkelaaSInsS
import Derived.Test.YtohpablkgfkelaaSInsQ
import Derived.Test.YtohpablkgfkelaaSCloneS
namespace Go.Proofs.Ytohpablkgfkelaa
open Go.RowKit Go.Joins
set_option linter.unusedSimpArgs false
set_option linter.unusedVariables false

theorem whereF_mem {G : List RunG} (hn : (flat G).Nodup) {k : St} {g : RunG} (hg : g ∈ G) (h : k ∈ g.ks) : whereF G k = some (ptr g.b) := by
  obtain ⟨j, hj, rfl⟩ := List.mem_iff_getElem.1 hg
  exact whereF_some hn hj h
/-- what is told of the runs' map in the midst of a split -/
def spF (G : List RunG) (D : List St) (y q : Nat) (x : St) : Option Value := if x ∈ D.take q then some (ptr y) else whereF G x
theorem spF_step {G : List RunG} {D : List St} {y q : Nat} (hq : q < D.length) (x : St) : upd (spF G D y q) D[q] (ptr y) x = spF G D y (q + 1) x := by
  unfold upd spF
  rw [List.take_succ_eq_append_getElem hq]
  by_cases h : x = D[q]
  · rw [if_pos h, if_pos (List.mem_append.2 (Or.inr (List.mem_singleton.2 h)))]
  · rw [if_neg h]
    by_cases h2 : x ∈ D.take q
    · rw [if_pos h2, if_pos (List.mem_append.2 (Or.inl h2))]
    · rw [if_neg h2, if_neg (fun hm => (List.mem_append.1 hm).elim h2 (fun hm => h (List.mem_singleton.1 hm)))]
/-- a rope with run i cut in two -/
def cutG (G : List RunG) (i : Nat) (a b : RunG) : List RunG := G.take i ++ (a :: b :: G.drop (i + 1))
theorem cut_flat {G : List RunG} {i : Nat} (hi : i < G.length) {a b : RunG} (h : a.ks ++ b.ks = G[i].ks) : flat (cutG G i a b) = flat G := by
  rw [flat_at G i hi]
  unfold cutG
  rw [flat_append]
  congr 1
  show a.ks ++ (b.ks ++ flat (G.drop (i + 1))) = _
  rw [← h, List.append_assoc]
theorem cut_mem {G : List RunG} {i : Nat} (hi : i < G.length) {a b g : RunG} : g ∈ cutG G i a b ↔ g = a ∨ g = b ∨ ∃ (m : Nat) (hm : m < G.length), m ≠ i ∧ g = G[m] := by
  unfold cutG
  simp only [List.mem_append, List.mem_cons]
  constructor
  · rintro (h | h | h | h)
    · obtain ⟨m, hm, rfl⟩ := List.mem_take_iff_getElem.1 h
      exact Or.inr (Or.inr ⟨m, by omega, by omega, rfl⟩)
    · exact Or.inl h
    · exact Or.inr (Or.inl h)
    · obtain ⟨m, hm, rfl⟩ := List.mem_iff_getElem.1 h
      rw [List.length_drop] at hm
      exact Or.inr (Or.inr ⟨i + 1 + m, by omega, by omega, by rw [List.getElem_drop]⟩)
  · rintro (h | h | ⟨m, hm, hne, rfl⟩)
    · exact Or.inr (Or.inl h)
    · exact Or.inr (Or.inr (Or.inl h))
    · by_cases hlt : m < i
      · exact Or.inl (List.mem_take_iff_getElem.2 ⟨m, by omega, rfl⟩)
      · refine Or.inr (Or.inr (Or.inr (List.mem_iff_getElem.2 ⟨m - (i + 1), by rw [List.length_drop]; omega, ?_⟩)))
        rw [List.getElem_drop]; congr 1; omega
theorem cut_where {G : List RunG} {i : Nat} (hi : i < G.length) (hn : (flat G).Nodup) {a b : RunG} (h : a.ks ++ b.ks = G[i].ks) (ha : a.b = G[i].b) (x : St) : spF G b.ks b.b b.ks.length x = whereF (cutG G i a b) x := by
  have hn' : (flat (cutG G i a b)).Nodup := by rw [cut_flat hi h]; exact hn
  unfold spF
  rw [List.take_length]
  by_cases hb : x ∈ b.ks
  · rw [if_pos hb, whereF_mem hn' ((cut_mem hi).2 (Or.inr (Or.inl rfl))) hb]
  · rw [if_neg hb]
    by_cases hx : x ∈ flat G
    · obtain ⟨m, hm, hxm⟩ := mem_run hx
      rw [whereF_some hn hm hxm]
      by_cases hmi : m = i
      · subst hmi
        rw [← h] at hxm
        have hxa : x ∈ a.ks := by
          rcases List.mem_append.1 hxm with h | h
          · exact h
          · exact absurd h hb
        rw [whereF_mem hn' ((cut_mem hi).2 (Or.inl rfl)) hxa, ha]
      · rw [whereF_mem hn' ((cut_mem hi).2 (Or.inr (Or.inr ⟨m, hm, hmi, rfl⟩))) hxm]
    · rw [whereF_none hx, whereF_none (by rw [cut_flat hi h]; exact hx)]
theorem cut_blocks {G : List RunG} {i : Nat} (hi : i < G.length) {a b : RunG} (ha : a.b = G[i].b) :
    (cutG G i a b).map (fun g => ptr g.b) = (G.map fun g => ptr g.b).take (i + 1) ++ [ptr b.b] ++ (G.map fun g => ptr g.b).drop (i + 1) := by
  unfold cutG
  rw [List.map_append, List.map_cons, List.map_cons, ← List.map_take, ← List.map_drop, List.take_succ_eq_append_getElem hi, List.map_append, ha]
  simp
/-- in the midst of the split -/
structure SpW (w2 wr : World) (wb gb y : Nat) (G : List RunG) (hid : St → Bool) (slx sly : Value) (T D : List St) (n q : Nat) : Prop where
  ch : Ch (fun x => x = wb ∨ x = gb ∨ x = y) w2 wr
  mp : MapIs wr wb encS (spF G D y q) n
  gx : wr.heap[gb]? = some (.cells #[slx, .int .i64 ((cnt hid T + cnt hid (D.drop q) : Nat) : Int)] 103 (0, 0))
  gy : wr.heap[y]? = some (.cells #[sly, .int .i64 (cnt hid (D.take q) : Nat)] 103 (0, 0))
structure SpB (w x : World) (r wb hb gb y g2 : Nat) (rs : Value) (G : List RunG) (hid : St → Bool) (X cp n2 cap2 : Nat) (T D : List St) : Prop where
  c0 : Ch (fun z => z = gb) w x
  sp : SpW x x wb gb y G hid (.slice (some ⟨X, 0, none⟩) 16 cp) (.slice (some ⟨g2, 0, none⟩) n2 cap2) T D (flat G).length 0
  top : x.heap[r]? = some (.cells #[rs, .map (some wb), .map (some hb), .int .i64 (cnt hid (flat G))] 98 (0, 0))
  hd : MapIs x hb encS (hideF (flat G) hid) (flat G).length
  ox : x.ownsRow 0 30 2 (.slice (some ⟨X, 0, none⟩) 16 cp) 16 (stL T)
  oy : x.ownsRow 0 30 2 (.slice (some ⟨g2, 0, none⟩) n2 cap2) n2 (stL D)
  y1 : w.heap.size ≤ y
  y2 : x.heap.size = y + 1
  g1 : w.heap.size ≤ g2
  g3 : g2 < y
theorem stL_take : ∀ (ks : List St) (m : Nat), stL (ks.take m) = (stL ks).take (m * 2)
  | [], m => by simp [stL]
  | k :: ks, 0 => by simp [stL]
  | k :: ks, m + 1 => by
    have := stL_take ks m
    rw [show (m + 1) * 2 = m * 2 + 2 by omega]
    show [Value.int .i64 k.1, Value.int .i64 k.2] ++ stL (ks.take m) = ([Value.int .i64 k.1, Value.int .i64 k.2] ++ stL ks).take (m * 2 + 2)
    rw [this]
    simp
/-- less of a row is owned -/
theorem own_less {w : World} {X n m cp : Nat} {ks : List St} (h : w.ownsRow 0 30 2 (.slice (some ⟨X, 0, none⟩) n cp) n (stL ks)) (hm : m ≤ n) : w.ownsRow 0 30 2 (.slice (some ⟨X, 0, none⟩) m cp) m (stL (ks.take m)) := by
  obtain ⟨h1, h2, h3, cur, h4, h5, h6⟩ := own_partsS h
  have hl : ks.length = n := by have := stL_length ks; omega
  refine own_makeS (by rw [stL_length, List.length_take]; omega) (by omega) h3 h4 h5 ?_
  have : stL (ks.take m) = (stL ks).take (m * 2) := stL_take ks m
  rw [this, ← h6, List.take_take]; congr 1; omega
theorem spb_of {w w1 : World} {r wb hb : Nat} {rs : Value} {G : List RunG} {hid : St → Bool} (h : RopeAt w r wb hb rs G hid) {i : Nat} (hi : i < G.length) (h17 : 17 ≤ G[i].ks.length) {X cp g2 cap2 : Nat} (hsl : G[i].sl = .slice (some ⟨X, 0, none⟩) G[i].ks.length cp)
    (hb1 : Below w.heap.size w w1) (hown2 : w1.ownsRow 0 30 2 (.slice (some ⟨g2, 0, none⟩) (G[i].ks.length - 16) cap2) (G[i].ks.length - 16) (stL (G[i].ks.drop 16))) (hg2 : w.heap.size ≤ g2) :
    SpB w ((w1.setCell ⟨G[i].b, 0, none⟩ (.slice (some ⟨X, 0, none⟩) 16 cp)).alloc (.cells #[.slice (some ⟨g2, 0, none⟩) (G[i].ks.length - 16) cap2, .int .i64 0] 103)) r wb hb G[i].b w1.heap.size g2 rs G hid X cp (G[i].ks.length - 16) cap2 (G[i].ks.take 16) (G[i].ks.drop 16) := by
  have A := apart_of h.apart
  have hg := List.getElem_mem hi
  obtain ⟨a1, a2, a3, a4⟩ := A.run _ hg
  have hrun := h.run _ hg
  have hXg : X ≠ G[i].b := (a4 X (by rw [hsl]; rfl)).2.2.2
  have hgw := heap_lt hrun.1
  have hg2w : g2 < w1.heap.size := (hown2.lt g2 rfl).2
  have c0 : Ch (fun z => z = G[i].b) w ((w1.setCell ⟨G[i].b, 0, none⟩ (.slice (some ⟨X, 0, none⟩) 16 cp)).alloc (.cells #[.slice (some ⟨g2, 0, none⟩) (G[i].ks.length - 16) cap2, .int .i64 0] 103)) :=
    ((Ch.of_below (F := fun z => z = G[i].b) hb1).setCell _ _ (fun _ => rfl)).alloc _
  have hgb : ((w1.setCell ⟨G[i].b, 0, none⟩ (.slice (some ⟨X, 0, none⟩) 16 cp)).alloc (.cells #[.slice (some ⟨g2, 0, none⟩) (G[i].ks.length - 16) cap2, .int .i64 0] 103)).heap[G[i].b]? = some (.cells #[.slice (some ⟨X, 0, none⟩) 16 cp, .int .i64 (cnt hid G[i].ks)] 103 (0, 0)) := by
    refine blk_alloc ?_
    have := blk_set (i := 0) ((hb1.block _ hgw).trans hrun.1) (.slice (some ⟨X, 0, none⟩) 16 cp)
    rw [this]; rfl
  have hcs : cnt hid G[i].ks = cnt hid (G[i].ks.take 16) + cnt hid (G[i].ks.drop 16) := by rw [← cnt_append, List.take_append_drop]
  have hox : w.ownsRow 0 30 2 (.slice (some ⟨X, 0, none⟩) G[i].ks.length cp) G[i].ks.length (stL G[i].ks) := by
    have := hrun.2
    rwa [hsl] at this
  refine ⟨c0, ⟨Ch.refl _ _, (h.wh.ch c0 (fun e => a2 e.symm)).eqv (fun x => by simp [spF]), ?_, ?_⟩, c0.at h.top (fun e => a1 e.symm), h.hd.ch c0 (fun e => a3 e.symm), own_ch (own_less hox (by omega)) c0 (fun b hb e => ?_), ?_, hb1.size, by simp, hg2, hg2w⟩
  · rw [hgb, hcs]; rfl
  · have := blk_new (w1.setCell ⟨G[i].b, 0, none⟩ (.slice (some ⟨X, 0, none⟩) 16 cp)) (.cells #[.slice (some ⟨g2, 0, none⟩) (G[i].ks.length - 16) cap2, .int .i64 0] 103)
    rw [World.size_setCell] at this
    rw [this]; rfl
  · cases hb; exact hXg e
  · have c1 : Ch (fun z => z = G[i].b) w1 ((w1.setCell ⟨G[i].b, 0, none⟩ (.slice (some ⟨X, 0, none⟩) 16 cp)).alloc (.cells #[.slice (some ⟨g2, 0, none⟩) (G[i].ks.length - 16) cap2, .int .i64 0] 103)) :=
      ((Ch.refl (fun z => z = G[i].b) w1).setCell _ _ (fun _ => rfl)).alloc _
    exact own_ch hown2 c1 (fun b hb e => by cases hb; exact absurd (show g2 = G[i].b from e) (by omega))
theorem cnt_drop {hid : St → Bool} {D : List St} {q : Nat} (hq : q < D.length) : cnt hid (D.drop q) = (if hid D[q] then 0 else 1) + cnt hid (D.drop (q + 1)) ∧ cnt hid (D.take (q + 1)) = cnt hid (D.take q) + (if hid D[q] then 0 else 1) := by
  constructor
  · rw [List.drop_eq_getElem_cons hq, show D[q] :: D.drop (q + 1) = [D[q]] ++ D.drop (q + 1) from rfl, cnt_append, cnt_one]
  · rw [List.take_succ_eq_append_getElem hq, cnt_append, cnt_one]
theorem SpW.hidden {w2 wr wm : World} {wb gb y : Nat} {G : List RunG} {hid : St → Bool} {slx sly : Value} {T D : List St} {n q : Nat} (h : SpW w2 wr wb gb y G hid slx sly T D n q) (hq : q < D.length) (hh : hid D[q] = true)
    (hn : more (spF G D y q) D[q] n = n) (m1 : MapIs wm wb encS (upd (spF G D y q) D[q] (ptr y)) (more (spF G D y q) D[q] n)) (c1 : Ch (fun x => x = wb) wr wm) (hg : gb ≠ wb) (hy : y ≠ wb) : SpW w2 wm wb gb y G hid slx sly T D n (q + 1) := by
  obtain ⟨d1, d2⟩ := cnt_drop (hid := hid) hq
  rw [hh] at d1 d2
  simp only [if_true] at d1 d2
  rw [hn] at m1
  refine ⟨h.ch.trans c1 (fun _ _ e => Or.inl e), m1.eqv (fun x => spF_step hq x), ?_, ?_⟩
  · rw [c1.at h.gx hg, d1, Nat.zero_add]
  · rw [c1.at h.gy hy, d2, Nat.add_zero]
theorem SpW.shown {w2 wr wm : World} {wb gb y : Nat} {G : List RunG} {hid : St → Bool} {slx sly : Value} {T D : List St} {n q : Nat} (h : SpW w2 wr wb gb y G hid slx sly T D n q) (hq : q < D.length) (hh : hid D[q] = false)
    (hn : more (spF G D y q) D[q] n = n) (m1 : MapIs wm wb encS (upd (spF G D y q) D[q] (ptr y)) (more (spF G D y q) D[q] n)) (c1 : Ch (fun x => x = wb) wr wm) (hg : gb ≠ wb) (hy : y ≠ wb) (hgy : gb ≠ y)
    (v1 v2 : Int) (h1 : v1 = (cnt hid T + cnt hid (D.drop q) : Nat) - 1) (h2 : v2 = (cnt hid (D.take q) : Nat) + 1) : SpW w2 ((wm.setCell ⟨gb, 1, none⟩ (.int .i64 v1)).setCell ⟨y, 1, none⟩ (.int .i64 v2)) wb gb y G hid slx sly T D n (q + 1) := by
  obtain ⟨d1, d2⟩ := cnt_drop (hid := hid) hq
  rw [hh] at d1 d2
  simp only [Bool.false_eq_true, if_false] at d1 d2
  rw [hn] at m1
  have c2 : Ch (fun x => x = wb ∨ x = gb ∨ x = y) wr ((wm.setCell ⟨gb, 1, none⟩ (.int .i64 v1)).setCell ⟨y, 1, none⟩ (.int .i64 v2)) :=
    ((c1.mono (G := fun x => x = wb ∨ x = gb ∨ x = y) (fun _ _ e => Or.inl e)).setCell ⟨gb, 1, none⟩ (.int .i64 v1) (fun _ => Or.inr (Or.inl rfl))).setCell ⟨y, 1, none⟩ (.int .i64 v2) (fun _ => Or.inr (Or.inr rfl))
  refine ⟨h.ch.trans c2 (fun _ _ e => e), ((m1.at (Below.heap_setCell _ _ _ _ (fun e => hg e.symm))).at (Below.heap_setCell _ _ _ _ (fun e => hy e.symm))).eqv (fun x => spF_step hq x), ?_, ?_⟩
  · have := blk_other (p := ⟨y, 1, none⟩) (v := .int .i64 v2) (blk_set (i := 1) (c1.at h.gx hg) (.int .i64 v1)) hgy
    have e : ((cnt hid T + cnt hid (D.drop q) : Nat) : Int) - 1 = ((cnt hid T + cnt hid (D.drop (q + 1)) : Nat) : Int) := by rw [d1]; omega
    rw [this, h1, e]; rfl
  · have := blk_set (i := 1) (blk_other (p := ⟨gb, 1, none⟩) (v := .int .i64 v1) (c1.at h.gy hy) (fun e => hgy e.symm)) (.int .i64 v2)
    have e : ((cnt hid (D.take q) : Nat) : Int) + 1 = ((cnt hid (D.take (q + 1)) : Nat) : Int) := by rw [d2]; omega
    rw [this, h2, e]; rfl
theorem foot_lt {w : World} {r wb hb : Nat} {rs : Value} {G : List RunG} {hid : St → Bool} (h : RopeAt w r wb hb rs G hid) : ∀ x ∈ foot r wb hb rs G, x < w.heap.size := by
  intro x hx
  unfold foot at hx
  simp only [List.mem_cons, List.mem_append] at hx
  rcases hx with rfl | rfl | rfl | hx | hx
  · exact heap_lt h.top
  · exact h.wh.lt
  · exact h.hd.lt
  · exact (h.runs.lt x (by simpa using hx)).2
  · obtain ⟨g, hg, hx⟩ := List.mem_flatMap.1 hx
    rcases List.mem_cons.1 hx with rfl | hx
    · exact heap_lt (h.run g hg).1
    · exact ((h.run g hg).2.lt x (by simpa using hx)).2
theorem cut_foot {r wb hb B g' : Nat} {rs rs' : Value} {G : List RunG} {i : Nat} (hi : i < G.length) {a b : RunG} {y g2 S : Nat} (hrs : rs.ownBlock = some B) (hrs' : rs'.ownBlock = some g') (ha : a.b = G[i].b) (ha2 : a.sl.ownBlock = G[i].sl.ownBlock) (hbb : b.b = y) (hb2 : b.sl.ownBlock = some g2)
    (hn : (foot r wb hb rs G).Nodup) (hlt : ∀ x ∈ foot r wb hb rs G, x < S) (hy : S ≤ y) (hg2 : S ≤ g2) (hyg : g2 < y) (hg' : g' = B ∨ y < g') :
    (foot r wb hb rs' (cutG G i a b)).Nodup ∧ ∀ x ∈ foot r wb hb rs' (cutG G i a b), x ∈ foot r wb hb rs G ∨ x = y ∨ x = g2 ∨ x = g' := by
  have e1 : G.flatMap (fun g => g.b :: g.sl.ownBlock.toList) = (G.take i).flatMap (fun g => g.b :: g.sl.ownBlock.toList) ++ ((G[i].b :: G[i].sl.ownBlock.toList) ++ (G.drop (i + 1)).flatMap (fun g => g.b :: g.sl.ownBlock.toList)) := by
    have e : G = G.take i ++ G[i] :: G.drop (i + 1) := by rw [← List.drop_eq_getElem_cons hi, List.take_append_drop]
    have e2 := congrArg (fun G => List.flatMap (fun g : RunG => g.b :: g.sl.ownBlock.toList) G) e
    simp only [List.flatMap_append, List.flatMap_cons] at e2
    exact e2
  have e2 : (cutG G i a b).flatMap (fun g => g.b :: g.sl.ownBlock.toList) = (G.take i).flatMap (fun g => g.b :: g.sl.ownBlock.toList) ++ ((G[i].b :: G[i].sl.ownBlock.toList) ++ (y :: g2 :: (G.drop (i + 1)).flatMap (fun g => g.b :: g.sl.ownBlock.toList))) := by
    unfold cutG
    simp only [List.flatMap_append, List.flatMap_cons, ha, ha2, hbb, hb2]
    rfl
  have hold : foot r wb hb rs G = r :: wb :: hb :: B :: ((G.take i).flatMap (fun g => g.b :: g.sl.ownBlock.toList) ++ ((G[i].b :: G[i].sl.ownBlock.toList) ++ (G.drop (i + 1)).flatMap (fun g => g.b :: g.sl.ownBlock.toList))) := by
    unfold foot; rw [hrs, e1]; rfl
  have hnew : foot r wb hb rs' (cutG G i a b) = r :: wb :: hb :: g' :: ((G.take i).flatMap (fun g => g.b :: g.sl.ownBlock.toList) ++ ((G[i].b :: G[i].sl.ownBlock.toList) ++ (y :: g2 :: (G.drop (i + 1)).flatMap (fun g => g.b :: g.sl.ownBlock.toList)))) := by
    unfold foot; rw [hrs', e2]; rfl
  rw [hold] at hn hlt ⊢
  rw [hnew]
  generalize (G.take i).flatMap (fun g => g.b :: g.sl.ownBlock.toList) = P1 at *
  generalize (G[i].b :: G[i].sl.ownBlock.toList) = P2 at *
  generalize (G.drop (i + 1)).flatMap (fun g => g.b :: g.sl.ownBlock.toList) = P3 at *
  constructor
  · have hp : (r :: wb :: hb :: g' :: (P1 ++ (P2 ++ (y :: g2 :: P3)))).Perm (y :: g2 :: g' :: r :: wb :: hb :: (P1 ++ (P2 ++ P3))) := by
      rw [List.perm_iff_count]
      intro z
      simp only [List.count_append, List.count_cons]
      omega
    rw [hp.nodup_iff]
    have hn1 : (B :: r :: wb :: hb :: (P1 ++ (P2 ++ P3))).Nodup := by
      have hp2 : (r :: wb :: hb :: B :: (P1 ++ (P2 ++ P3))).Perm (B :: r :: wb :: hb :: (P1 ++ (P2 ++ P3))) := by
        rw [List.perm_iff_count]
        intro z
        simp only [List.count_cons]
        omega
      exact hp2.nodup_iff.1 hn
    have hlt' : ∀ x ∈ B :: r :: wb :: hb :: (P1 ++ (P2 ++ P3)), x < S := fun x hx => hlt x (by
      simp only [List.mem_cons] at hx ⊢
      rcases hx with h | h | h | h | h
      · exact Or.inr (Or.inr (Or.inr (Or.inl h)))
      · exact Or.inl h
      · exact Or.inr (Or.inl h)
      · exact Or.inr (Or.inr (Or.inl h))
      · exact Or.inr (Or.inr (Or.inr (Or.inr h))))
    have hB : B < S := hlt' B (by simp)
    have hn2 : (g' :: r :: wb :: hb :: (P1 ++ (P2 ++ P3))).Nodup := by
      rcases hg' with rfl | h
      · exact hn1
      · refine List.nodup_cons.2 ⟨fun hm => ?_, (List.nodup_cons.1 hn1).2⟩
        have := hlt' g' (List.mem_cons_of_mem _ hm)
        omega
    refine List.nodup_cons.2 ⟨fun hm => ?_, List.nodup_cons.2 ⟨fun hm => ?_, hn2⟩⟩
    · rcases List.mem_cons.1 hm with e | hm
      · omega
      · rcases List.mem_cons.1 hm with e | hm
        · omega
        · have := hlt' y (List.mem_cons_of_mem _ hm)
          omega
    · rcases List.mem_cons.1 hm with e | hm
      · omega
      · have := hlt' g2 (List.mem_cons_of_mem _ hm)
        omega
  · intro x hx
    simp only [List.mem_cons, List.mem_append] at hx ⊢
    rcases hx with h | h | h | h | h | h | h | h | h
    · exact Or.inl (Or.inl h)
    · exact Or.inl (Or.inr (Or.inl h))
    · exact Or.inl (Or.inr (Or.inr (Or.inl h)))
    · exact Or.inr (Or.inr (Or.inr h))
    · exact Or.inl (Or.inr (Or.inr (Or.inr (Or.inr (Or.inl h)))))
    · exact Or.inl (Or.inr (Or.inr (Or.inr (Or.inr (Or.inr (Or.inl h))))))
    · exact Or.inr (Or.inl h)
    · exact Or.inr (Or.inr (Or.inl h))
    · exact Or.inl (Or.inr (Or.inr (Or.inr (Or.inr (Or.inr (Or.inr h))))))
def SplitP (r wb hb : Nat) (G : List RunG) (hid : St → Bool) (F : Nat → Prop) (i : Nat) (ks : List St) (w : World) (e : Ending) (w' : World) : Prop :=
  e = .returned (.tuple #[]) ∧ ∃ (rs' : Value) (a b : RunG), a.ks = ks.take 16 ∧ b.ks = ks.drop 16 ∧ RopeAt w' r wb hb rs' (cutG G i a b) hid ∧ (∀ x ∈ foot r wb hb rs' (cutG G i a b), F x ∨ w.heap.size ≤ x) ∧ Ch F w w'
theorem ch_hit {F : Nat → Prop} {w w' : World} {b : Nat} {o : Obj} (c : Ch F w w') (h : w.heap[b]? = some o) (hn : ¬ F b) : w'.heap[b]? = some o := c.at h hn
set_option maxHeartbeats 1000000 in
theorem split_fin {w x wr w4 : World} {r wb hb B cap y g2 g' cap' : Nat} {G : List RunG} {hid : St → Bool} {F : Nat → Prop} (h : RopeAt w r wb hb (.slice (some ⟨B, 0, none⟩) G.length cap) G hid) (hF : ∀ z ∈ foot r wb hb (.slice (some ⟨B, 0, none⟩) G.length cap) G, F z) {i : Nat} (hi : i < G.length) (h17 : 17 ≤ G[i].ks.length)
    {X cp cap2 : Nat} (hsl : G[i].sl = .slice (some ⟨X, 0, none⟩) G[i].ks.length cp)
    (hx : SpB w x r wb hb G[i].b y g2 (.slice (some ⟨B, 0, none⟩) G.length cap) G hid X cp (G[i].ks.length - 16) cap2 (G[i].ks.take 16) (G[i].ks.drop 16))
    (hs : SpW x wr wb G[i].b y G hid (.slice (some ⟨X, 0, none⟩) 16 cp) (.slice (some ⟨g2, 0, none⟩) (G[i].ks.length - 16) cap2) (G[i].ks.take 16) (G[i].ks.drop 16) (flat G).length (G[i].ks.length - 16))
    (ho : w4.ownsRow 0 101 1 (.slice (some ⟨g', 0, none⟩) (G.length + 1) cap') (G.length + 1) ((G.map fun g => ptr g.b).take (i + 1) ++ [ptr y] ++ (G.map fun g => ptr g.b).drop (i + 1)))
    (hc : Ch (fun b => (Value.slice (some ⟨B, 0, none⟩) G.length cap).ownBlock = some b) (wr.alloc (.cells #[ptr y] 101)) w4) (hg : B = g' ∨ (wr.alloc (.cells #[ptr y] 101)).heap.size ≤ g') :
    SplitP r wb hb G hid F i G[i].ks w (.returned (.tuple #[])) (w4.setCell ⟨r, 0, none⟩ (.slice (some ⟨g', 0, none⟩) (G.length + 1) cap')) := by
  have A := apart_of h.apart
  have hgm := List.getElem_mem hi
  obtain ⟨a1, a2, a3, a4⟩ := A.run _ hgm
  obtain ⟨b1, b2, b3, b4⟩ := A.rs B rfl
  obtain ⟨x1, x2, x3, x4⟩ := a4 X (by rw [hsl]; rfl)
  have hlt := foot_lt h
  have hrw := hlt r (by simp [foot])
  have hwbw := hlt wb (by simp [foot])
  have hhbw := hlt hb (by simp [foot])
  have hBw := hlt B (mem_foot_rs rfl)
  have hgw := hlt _ (mem_foot_run hgm).1
  have hXw := hlt X ((mem_foot_run hgm).2 X (by rw [hsl]; rfl))
  have hBX : B ≠ X := fun e => (b4 _ hgm).2 (by rw [hsl, e]; rfl)
  have hBg : B ≠ G[i].b := (b4 _ hgm).1
  have y1 := hx.y1
  have y2 := hx.y2
  have g1 := hx.g1
  have g3 := hx.g3
  have hsz := hs.ch.size
  simp only [World.size_alloc] at hg
  have hyw : y < wr.heap.size := by omega
  let a : RunG := ⟨G[i].b, .slice (some ⟨X, 0, none⟩) 16 cp, G[i].ks.take 16⟩
  let b : RunG := ⟨y, .slice (some ⟨g2, 0, none⟩) (G[i].ks.length - 16) cap2, G[i].ks.drop 16⟩
  have hab : a.ks ++ b.ks = G[i].ks := List.take_append_drop _ _
  have hfl := cut_flat hi hab
  have hgr : g' ≠ r := by rcases hg with e | e <;> omega
  -- the world behind, block by block
  have cA : Ch (fun _ => False) wr (wr.alloc (.cells #[ptr y] 101)) := (Ch.refl _ _).alloc _
  have c45 : Ch (fun z => z = r) w4 (w4.setCell ⟨r, 0, none⟩ (.slice (some ⟨g', 0, none⟩) (G.length + 1) cap')) := (Ch.refl (fun z => z = r) w4).setCell ⟨r, 0, none⟩ _ (fun _ => rfl)
  have cr5 : Ch (fun z => z = B ∨ z = r) wr (w4.setCell ⟨r, 0, none⟩ (.slice (some ⟨g', 0, none⟩) (G.length + 1) cap')) := by
    refine ((cA.mono (G := fun z => z = B ∨ z = r) (fun _ _ e => e.elim)).trans hc (fun z _ e => ?_)).trans c45 (fun z _ e => Or.inr e)
    exact Or.inl (by have : B = z := by simpa [Value.ownBlock] using e
                     exact this.symm)
  have c05 : Ch (fun z => z = G[i].b ∨ z = wb ∨ z = B ∨ z = r) w (w4.setCell ⟨r, 0, none⟩ (.slice (some ⟨g', 0, none⟩) (G.length + 1) cap')) := by
    refine ((hx.c0.mono (G := fun z => z = G[i].b ∨ z = wb ∨ z = B ∨ z = r) (fun z _ e => Or.inl e)).trans hs.ch (fun z hz e => ?_)).trans cr5 (fun z hz e => ?_)
    · rcases e with e | e | e
      · exact Or.inr (Or.inl e)
      · exact Or.inl e
      · omega
    · rcases e with e | e
      · exact Or.inr (Or.inr (Or.inl e))
      · exact Or.inr (Or.inr (Or.inr e))
  have hgo : g' = B ∨ y < g' := by
    rcases hg with e | e
    · exact Or.inl e.symm
    · exact Or.inr (by omega)
  have hft := cut_foot (g' := g') (G := G) (i := i) hi (a := a) (b := b) (y := y) (g2 := g2) (S := w.heap.size) (rs := .slice (some ⟨B, 0, none⟩) G.length cap) (rs' := .slice (some ⟨g', 0, none⟩) (G.length + 1) cap') rfl rfl rfl (by rw [hsl]; rfl) rfl rfl h.apart hlt y1 g1 g3 hgo
  refine ⟨rfl, .slice (some ⟨g', 0, none⟩) (G.length + 1) cap', a, b, rfl, rfl, ?_, ?_, ?_⟩
  · refine ⟨?_, ?_, ?_, ?_, ?_, by rw [hfl]; exact h.nodup, hft.1, ?_, ?_⟩
    · have t1 : wr.heap[r]? = _ := hs.ch.at hx.top (fun e => by rcases e with e | e | e <;> first | exact A.rw e | exact a1 e.symm | omega)
      have t2 := hc.at (cA.at t1 (fun e => e)) (fun e => by
        have : B = r := by simpa [Value.ownBlock] using e
        exact b1 this)
      rw [blk_set t2, hfl]; rfl
    · rw [cut_blocks hi (a := a) (b := b) rfl]
      have hl : (cutG G i a b).length = G.length + 1 := by
        unfold cutG; simp; omega
      rw [hl]
      exact own_ch ho c45 (fun z hz e => by cases hz; exact hgr e)
    · intro g hgc
      rcases (cut_mem hi).1 hgc with rfl | rfl | ⟨m, hm, hmi, rfl⟩
      · have o1 := own_ch hx.ox hs.ch (fun z hz e => by
          cases hz
          rcases e with e | e | e
          · exact x2 e
          · exact x4 e
          · exact absurd (show X = y from e) (by omega))
        have o2 := own_ch o1 cr5 (fun z hz e => by
          cases hz
          rcases e with e | e
          · exact hBX (show X = B from e).symm
          · exact x1 e)
        have hl : a.ks.length = 16 := by show (G[i].ks.take 16).length = 16; rw [List.length_take]; omega
        refine ⟨?_, by rw [hl]; exact o2⟩
        have t := cr5.at hs.gx (fun e => by
          rcases e with e | e
          · exact hBg e.symm
          · exact a1 e)
        rw [show a.b = G[i].b from rfl, t]
        have : (G[i].ks.drop 16).drop (G[i].ks.length - 16) = [] := List.drop_eq_nil_of_le (by rw [List.length_drop]; exact Nat.le_refl _)
        rw [this]; rfl
      · have o1 := own_ch hx.oy hs.ch (fun z hz e => by
          cases hz
          rcases e with e | e | e
          · exact absurd (show g2 = wb from e) (by omega)
          · exact absurd (show g2 = G[i].b from e) (by omega)
          · exact absurd (show g2 = y from e) (by omega))
        have o2 := own_ch o1 cr5 (fun z hz e => by
          cases hz
          rcases e with e | e
          · exact absurd (show g2 = B from e) (by omega)
          · exact absurd (show g2 = r from e) (by omega))
        have hl : b.ks.length = G[i].ks.length - 16 := List.length_drop
        refine ⟨?_, by rw [hl]; exact o2⟩
        have t := cr5.at hs.gy (fun e => by rcases e with e | e <;> omega)
        rw [show b.b = y from rfl, t]
        have : (G[i].ks.drop 16).take (G[i].ks.length - 16) = G[i].ks.drop 16 := List.take_of_length_le (by rw [List.length_drop]; exact Nat.le_refl _)
        rw [this]
      · have hmm := List.getElem_mem hm
        obtain ⟨m1, m2, m3, m4⟩ := A.run _ hmm
        obtain ⟨n1, n2, n3⟩ := A.two m i hm hi hmi
        obtain ⟨p1, p2⟩ := b4 _ hmm
        refine ⟨c05.at (h.run _ hmm).1 (fun e => ?_), own_ch (h.run _ hmm).2 c05 (fun z hz e => ?_)⟩
        · rcases e with e | e | e | e
          · exact n1 e
          · exact m2 e
          · exact p1 e.symm
          · exact m1 e
        · obtain ⟨q1, q2, q3, q4⟩ := m4 z hz
          rcases e with e | e | e | e
          · exact n2 (by rw [hz, e])
          · exact q2 e
          · exact p2 (by rw [hz, e])
          · exact q1 e
    · have m := hs.mp.ch cr5 (fun e => by rcases e with e | e; exact b2 e.symm; exact A.rw e.symm)
      rw [hfl]
      refine m.eqv (fun z => ?_)
      have hw := cut_where hi h.nodup hab (show a.b = G[i].b from rfl) z
      rw [← hw]
      have : b.ks.length = G[i].ks.length - 16 := List.length_drop
      rw [this]
    · rw [hfl]
      refine h.hd.ch c05 (fun e => ?_)
      rcases e with e | e | e | e
      · exact a3 e.symm
      · exact A.wh e.symm
      · exact b3 e.symm
      · exact A.rh e.symm
    · intro g hgc
      rcases (cut_mem hi).1 hgc with rfl | rfl | ⟨m, hm, hmi, rfl⟩
      · intro e
        have := congrArg List.length (show G[i].ks.take 16 = [] from e)
        rw [List.length_take, List.length_nil] at this; omega
      · intro e
        have := congrArg List.length (show G[i].ks.drop 16 = [] from e)
        rw [List.length_drop, List.length_nil] at this; omega
      · exact h.ne _ (List.getElem_mem hm)
    · intro g hgc
      have h33 := h.short _ hgm
      rcases (cut_mem hi).1 hgc with rfl | rfl | ⟨m, hm, hmi, rfl⟩
      · show (G[i].ks.take 16).length ≤ 33; rw [List.length_take]; omega
      · show (G[i].ks.drop 16).length ≤ 33; rw [List.length_drop]; omega
      · exact h.short _ (List.getElem_mem hm)
  · intro z hz
    rcases hft.2 z hz with e | e | e | e
    · exact Or.inl (hF z e)
    · right; omega
    · right; omega
    · have e : z = g' := e
      rcases hg with e2 | e2
      · left; rw [e, ← e2]; exact hF B (mem_foot_rs rfl)
      · right; omega
  · refine c05.mono (fun z _ e => hF z ?_)
    rcases e with e | e | e | e
    · rw [e]; exact (mem_foot_run hgm).1
    · rw [e]; simp [foot]
    · rw [e]; exact mem_foot_rs rfl
    · rw [e]; simp [foot]
end Go.Proofs.Ytohpablkgfkelaa
