/- A ROPE IN MEMORY: how many stand ahead of an item: ahead, Place, Rank. -/
import Derived.Test.YtohpablkgfkelaaFRopeFind
import Derived.Deep.DeepCutAuto
import Derived.Deep.CutRange
import Derived.Deep.RegionHeld3
namespace Go.Proofs.Ytohpablkgfkelaa
open Go.RowKit Go.Joins
set_option linter.unusedSimpArgs false
set_option linter.unusedVariables false

theorem cnt_append (hid : St → Bool) (a b : List St) : cnt hid (a ++ b) = cnt hid a + cnt hid b := by simp [cnt]
theorem cnt_le (hid : St → Bool) (a : List St) : cnt hid a ≤ a.length := List.length_filter_le _ _
theorem cnt_one (hid : St → Bool) (k : St) : cnt hid [k] = if hid k then 0 else 1 := by
  unfold cnt; cases h : hid k <;> simp [h]
theorem flat_append (a b : List RunG) : flat (a ++ b) = flat a ++ flat b := by simp [flat]
theorem flat_take_length (G : List RunG) (k : Nat) : (flat (G.take k)).length = offs G k := by unfold flat offs; simp [List.length_flatMap]
/-- the rope parted at a run -/
theorem flat_at (G : List RunG) (j : Nat) (hj : j < G.length) : flat G = flat (G.take j) ++ (G[j].ks ++ flat (G.drop (j + 1))) := by
  have e : G = G.take j ++ G[j] :: G.drop (j + 1) := by rw [← List.drop_eq_getElem_cons hj, List.take_append_drop]
  have e2 : flat G = flat (G.take j ++ G[j] :: G.drop (j + 1)) := congrArg flat e
  rw [e2, flat_append]
  rfl
theorem mem_run {G : List RunG} {k : St} (h : k ∈ flat G) : ∃ (j : Nat) (hj : j < G.length), k ∈ G[j].ks := by
  unfold flat at h
  obtain ⟨g, hg, hk⟩ := List.mem_flatMap.1 h
  obtain ⟨j, hj, rfl⟩ := List.mem_iff_getElem.1 hg
  exact ⟨j, hj, hk⟩
theorem run_unique {G : List RunG} (hn : (flat G).Nodup) {k : St} {i j : Nat} (hi : i < G.length) (hj : j < G.length) (h1 : k ∈ G[i].ks) (h2 : k ∈ G[j].ks) : i = j := by
  rcases Nat.lt_trichotomy i j with h | h | h
  · exfalso
    rw [flat_at G j hj] at hn
    have := (List.nodup_append.1 hn).2.2 k (by
      unfold flat
      refine List.mem_flatMap.2 ⟨G[i], ?_, h1⟩
      exact List.mem_take_iff_getElem.2 ⟨i, by omega, rfl⟩) k (by simp [h2])
    exact this rfl
  · exact h
  · exfalso
    rw [flat_at G i hi] at hn
    have := (List.nodup_append.1 hn).2.2 k (by
      unfold flat
      refine List.mem_flatMap.2 ⟨G[j], ?_, h2⟩
      exact List.mem_take_iff_getElem.2 ⟨j, by omega, rfl⟩) k (by simp [h1])
    exact this rfl
theorem whereF_none {G : List RunG} {k : St} (h : k ∉ flat G) : whereF G k = none := by
  unfold whereF
  rw [List.find?_eq_none.2 (fun g hg => by
    simp only [List.contains_iff_mem, decide_eq_true_eq]
    exact fun hk => h (List.mem_flatMap.2 ⟨g, hg, hk⟩))]
  rfl
theorem whereF_some {G : List RunG} (hn : (flat G).Nodup) {k : St} {j : Nat} (hj : j < G.length) (h : k ∈ G[j].ks) : whereF G k = some (ptr G[j].b) := by
  unfold whereF
  cases hf : G.find? (fun g => g.ks.contains k) with
  | none =>
    have := List.find?_eq_none.1 hf G[j] (List.getElem_mem hj)
    simp at this
    exact absurd h this
  | some g =>
    have h1 := List.find?_some hf
    have h2 := List.mem_of_find?_eq_some hf
    obtain ⟨i, hi, rfl⟩ := List.mem_iff_getElem.1 h2
    simp at h1
    obtain rfl := run_unique hn hi hj h1 h
    rfl
theorem idx_not {l : List St} {k : St} {q : Nat} (hq : q < l.length) (h : q < l.idxOf k) : ¬ l[q] = k := fun e => by
  have := List.not_of_lt_findIdx (p := (· == k)) (xs := l) (i := q) h
  rw [e] at this
  simp at this
theorem run_blocks {r wb hb : Nat} {rs : Value} {G : List RunG} (h : (foot r wb hb rs G).Nodup) {i j : Nat} (hi : i < G.length) (hj : j < G.length) (e : G[i].b = G[j].b) : i = j := by
  have h1 : (G.flatMap fun g => g.b :: g.sl.ownBlock.toList).Nodup := by
    unfold foot at h
    simp only [List.nodup_cons] at h
    exact (List.nodup_append.1 h.2.2.2).2.1
  clear h
  have key : ∀ (G : List RunG) (i j : Nat) (hi : i < G.length) (hj : j < G.length), (G.flatMap fun g => g.b :: g.sl.ownBlock.toList).Nodup → i < j → G[i].b ≠ G[j].b := by
    intro G
    induction G with
    | nil => intro i j hi; simp at hi
    | cons g G ih =>
      intro i j hi hj hn hij
      rw [List.flatMap_cons] at hn
      cases j with
      | zero => omega
      | succ j =>
        cases i with
        | zero =>
          intro e
          have hj' : j < G.length := by simpa using hj
          have hm : G[j].b ∈ G.flatMap fun g => g.b :: g.sl.ownBlock.toList := List.mem_flatMap.2 ⟨G[j], List.getElem_mem _, by simp⟩
          exact (List.nodup_append.1 hn).2.2 g.b (by simp) _ hm (by simpa using e)
        | succ i => exact ih i j (by simpa using hi) (by simpa using hj) (List.nodup_append.1 hn).2.1 (by omega)
  rcases Nat.lt_trichotomy i j with hij | hij | hij
  · exact absurd e (key G i j hi hj h1 hij)
  · exact hij
  · exact absurd e.symm (key G j i hj hi h1 hij)
/-- the place of an item -/
theorem idx_at {G : List RunG} (hn : (flat G).Nodup) {k : St} {j : Nat} (hj : j < G.length) (h : k ∈ G[j].ks) : (flat G).idxOf k = offs G j + G[j].ks.idxOf k := by
  have hk : k ∉ flat (G.take j) := fun hm => by
    rw [flat_at G j hj] at hn
    exact (List.nodup_append.1 hn).2.2 k hm k (by simp [h]) rfl
  rw [flat_at G j hj, List.idxOf_append, if_neg hk, List.idxOf_append, if_pos h, flat_take_length, Nat.add_comm]
theorem take_at {G : List RunG} {j : Nat} (hj : j < G.length) (m : Nat) (hm : m ≤ G[j].ks.length) : (flat G).take (offs G j + m) = flat (G.take j) ++ G[j].ks.take m := by
  conv => lhs; rw [flat_at G j hj]
  rw [← flat_take_length, List.take_length_add_append, List.take_append_of_le_length hm]
theorem zero_ptr (w : World) : (zeroValue 101).run Try.prog w = .ok (.pointer none) w := by kernel_rfl
theorem zero_bool (w : World) : (zeroValue 4).run Try.prog w = .ok (.bool false) w := by kernel_rfl
theorem keyS : KeyIs Try.prog 30 encS := keyIs_stamp
theorem where_run {w : World} {r wb hb : Nat} {rs : Value} {G : List RunG} {hid : St → Bool} (h : RopeAt w r wb hb rs G hid) (k : St) :
    (Instr.lookup 95 (.map (some wb)) (.agg #[.int .i64 k.1, .int .i64 k.2]) false).run Try.prog w = .ok ((whereF G k).getD (.pointer none)) w :=
  h.wh.lookup keyS Try.underlying95 (zero_ptr w) k
theorem ptr_eq {w : World} {r wb hb : Nat} {rs : Value} {G : List RunG} {hid : St → Bool} (h : RopeAt w r wb hb rs G hid) {i j : Nat} (hi : i < G.length) (hj : j < G.length) :
    (binOp .eql 101 (ptr G[i].b) (ptr G[j].b)).run Try.prog w = .ok (.bool (decide (i = j))) w := by
  obtain ⟨i0, h0⟩ : ∃ i0, Try.prog.info? 103 = some i0 := by
    cases hx : Try.prog.info? 103 with
    | some i0 => exact ⟨i0, rfl⟩
    | none => exact absurd (show (Try.prog.info? 103).isSome = true by kernel_rfl) (by rw [hx]; simp)
  have hc : Try.prog.cellsOf 103 = 2 := by kernel_rfl
  rw [run_eql_ptr Try.underlying101 h0 (by rw [hc]; decide) (h.run G[i] (List.getElem_mem hi)).1 (h.run G[j] (List.getElem_mem hj)).1]
  have : decide (G[i].b = G[j].b) = decide (i = j) := decide_eq_decide.2 ⟨run_blocks h.apart hi hj, fun e => by subst e; rfl⟩
  rw [this]
theorem hides_run {w : World} {r wb hb : Nat} {rs : Value} {G : List RunG} {hid : St → Bool} (h : RopeAt w r wb hb rs G hid) (k : St) :
    (Instr.lookup 70 (.map (some hb)) (.agg #[.int .i64 k.1, .int .i64 k.2]) false).run Try.prog w = .ok ((hideF (flat G) hid k).getD (.bool false)) w :=
  h.hd.lookup keyS Try.underlying70 (zero_bool w) k
theorem hides_in {w : World} {r wb hb : Nat} {rs : Value} {G : List RunG} {hid : St → Bool} (h : RopeAt w r wb hb rs G hid) (k : St) (hk : k ∈ flat G) :
    (Instr.lookup 70 (.map (some hb)) (.agg #[.int .i64 k.1, .int .i64 k.2]) false).run Try.prog w = .ok (.bool (hid k)) w := by
  have := hides_run h k
  rwa [hideF, if_pos hk] at this
/-- the call's world: what is new; the key's box -/
structure KB (w : World) (k : St) (s : Nat) (y : World) : Prop where
  b : Below w.heap.size w y
  bx : y.heap[s]? = some (.cells #[.int .i64 k.1, .int .i64 k.2] 30 (0, 0))
theorem KB.new (w : World) (k : St) : KB w k w.heap.size (w.alloc (.cells #[.int .i64 k.1, .int .i64 k.2] 30)) := ⟨(Below.refl _ _).alloc (Nat.le_refl _) _, blk_new _ _⟩
theorem KB.later {w y z : World} {k : St} {s : Nat} (h : KB w k s y) (b : Below y.heap.size y z) : KB w k s z := ⟨h.b.trans (b.mono h.b.size), (b.block _ (heap_lt h.bx)).trans h.bx⟩
theorem KB.drew {w y : World} {k : St} {s : Nat} (h : KB w k s y) : KB w k s y.drew := h.later (Below.refl _ _).drew
theorem KB.c0 {w y : World} {k : St} {s : Nat} (h : KB w k s y) : y.cell? ⟨s, 0, none⟩ = some (.int .i64 k.1) := blk_cell h.bx 0
theorem KB.c1 {w y : World} {k : St} {s : Nat} (h : KB w k s y) : y.cell? ⟨s, 1, none⟩ = some (.int .i64 k.2) := blk_cell h.bx 1
set_option maxHeartbeats 1000000 in
theorem ahead_no (w : World) (r wb hb : Nat) (rs : Value) (G : List RunG) (hid : St → Bool) (hR : RopeAt w r wb hb rs G hid) (k : St) (hk : k ∉ flat G) :
    Calls Try.prog 60 #[ptr r, encS k] w fun e w' => e = .returned (.tuple #[.int .i64 0, .int .i64 0, .int .i64 111]) ∧ Below w.heap.size w w' := by
  have HR := Lib.hid hR
  have HK := Lib.hid hk
  clear hR hk
  go_enter Try.func60, Try.ntmps60
  go_upto_region 3 with fail
  refine wp_let (KB w k w.heap.size) (KB.new w k) (fun x hx => ?_)
  have HX := Lib.hid hx
  have hR2 := HR.out.later hx.b
  have hl := where_run (hR2.later (Below.refl _ _).drew) k
  rw [whereF_none HK.out] at hl
  have e1 := blk_cell (blk_drew hR2.top) 1
  have c0 := hx.drew.c0
  have c1 := hx.drew.c1
  clear hR2 hx
  go_region
  go_wp2
  go_ret3
  exact ⟨rfl, HX.out.drew.b⟩
set_option maxHeartbeats 4000000 in
set_option maxRecDepth 20000 in
theorem ahead_yes (w : World) (r wb hb : Nat) (rs : Value) (G : List RunG) (hid : St → Bool) (hR : RopeAt w r wb hb rs G hid) (hL : (flat G).length < 4294967296) (k : St) (j : Nat) (hj : j < G.length) (hk : k ∈ G[j].ks) :
    Calls Try.prog 60 #[ptr r, encS k] w fun e w' => e = .returned (.tuple #[.int .i64 ((flat G).idxOf k : Nat), .int .i64 (cnt hid ((flat G).take ((flat G).idxOf k)) : Nat), .int .i64 0]) ∧ Below w.heap.size w w' := by
  have hidx := idx_at hR.nodup hj hk
  have htk := take_at hj (G[j].ks.idxOf k) (List.idxOf_le_length)
  rw [hidx, htk]
  have hlen := len_le_flat (w := w) (r := r) (wb := wb) (hb := hb) (rs := Value.nilFunc) (hid := hid) hR.ne
  have hlj : G[j].ks.length ≤ (flat G).length := by
    have h1 := offs_succ G j hj
    have h2 := offs_le G (j + 1)
    omega
  have hix := List.idxOf_lt_length_of_mem hk
  have HR := Lib.hid hR
  have HK := Lib.hid hk
  clear hR hk hidx htk
  go_enter Try.func60, Try.ntmps60
  go_upto_region 3 with fail
  refine wp_let (KB w k w.heap.size) (KB.new w k) (fun x hx => ?_)
  have HX := Lib.hid hx
  have hR2 := HR.out.later hx.drew.b
  have HR2 := Lib.hid hR2
  have hl := where_run hR2 k
  rw [whereF_some hR2.nodup hj HK.out] at hl
  have e1 := blk_cell hR2.top 1
  have c0 := hx.drew.c0
  have c1 := hx.drew.c1
  clear hR2 hx
  go_region
  clear hl e1 c0 c1
  have HX := Lib.hid HX.out.drew
  generalize x.drew = x0 at *
  obtain ⟨B, cap, rfl, hcell⟩ := runs_form HR2.out (by omega)
  have e0 := blk_cell HR2.out.top 0
  have e2 := blk_cell HR2.out.top 2
  obtain ⟨A, cp, hsl, -, -, hitem⟩ := items_form HR2.out G[j] (List.getElem_mem hj)
  have hrj := (HR2.out.run G[j] (List.getElem_mem hj)).1
  rw [hsl] at hrj
  have ej := blk_cell hrj 0
  have HC := Lib.hid hcell
  have HI := Lib.hid hitem
  clear hcell hitem hrj hsl
  go_wp2
  go_loop [8, 9, 29] (fun n s i => ∃ m : Nat, m ≤ j ∧ i = .int .i64 m ∧ n = .int .i64 (offs G m : Nat) ∧ s = .int .i64 (cnt hid (flat (G.take m)) : Nat)) (fun _ _ i => G.length - (intOf i).toNat)
  case atStart => exact ⟨0, Nat.zero_le _, rfl, by rw [offs_zero]; rfl, by simp [flat, cnt]⟩
  case round =>
    obtain ⟨m, hm, rfl, rfl, rfl⟩ := hrel
    have hlt : m < G.length := by omega
    have hc := HC.out m hlt
    have ho1 := offs_le G m
    have hcs : cnt hid (flat (G.take m)) ≤ (flat G).length := by
      have h1 := cnt_le hid (flat (G.take m))
      rw [flat_take_length] at h1
      omega
    by_cases hmj : m = j
    · subst hmj
      have hN : offs G m + G[m].ks.length ≤ (flat G).length := by
        have h1 := offs_succ G m hlt
        have h2 := offs_le G (m + 1)
        omega
      have HM := Lib.hid (show ∀ x ∈ G[m].ks, x ∈ flat G from fun x hx => List.mem_flatMap.2 ⟨G[m], List.getElem_mem hlt, hx⟩)
      have hpe := ptr_eq HR2.out hlt hlt
      rw [decide_eq_true rfl] at hpe
      go_wp2
      clear hpe hc e0 ej
      have hgs := run_stGuard
      go_loopw [8, 9, 55] (fun n s i wr => ∃ q : Nat, q ≤ G[m].ks.idxOf k ∧ i = .int .i64 q ∧ n = .int .i64 ((offs G m + q : Nat) : Int) ∧ s = .int .i64 ((cnt hid (flat (G.take m)) + cnt hid (G[m].ks.take q) : Nat) : Int) ∧ Below x0.heap.size x0 wr) (fun _ _ i _ => G[m].ks.length - (intOf i).toNat)
      case atStart => exact ⟨0, Nat.zero_le _, rfl, rfl, by simp [cnt], Below.refl _ _⟩
      case round =>
        obtain ⟨q, hq, rfl, rfl, rfl, hbq⟩ := hrel
        have hqlt : q < G[m].ks.length := by omega
        obtain ⟨y, hy⟩ : ∃ y, G[m].ks[q]? = some y := ⟨_, List.getElem?_eq_getElem hqlt⟩
        obtain ⟨i0, i1⟩ := HI.out q y hy
        have c0 : wr.cell? ⟨A, q * 2, none⟩ = some (.int .i64 y.1) := (hbq.cell (World.block_lt_of_cell? _ _ i0)).trans i0
        have c1 : wr.cell? ⟨A, q * 2 + 1, none⟩ = some (.int .i64 y.2) := (hbq.cell (World.block_lt_of_cell? _ _ i1)).trans i1
        have hcq : cnt hid (G[m].ks.take q) ≤ q := by
          have := cnt_le hid (G[m].ks.take q)
          simp at this; omega
        have HBQ := Lib.hid hbq
        have hyg : G[m].ks[q] = y := by rw [List.getElem?_eq_getElem hqlt] at hy; exact Option.some.inj hy
        have hymem := HM.out y (List.mem_of_getElem? hy)
        have hcs2 := Lib.hid (show cnt hid (G[m].ks.take (q + 1)) = cnt hid (G[m].ks.take q) + (if hid y then 0 else 1) by
          rw [List.take_succ_eq_append_getElem hqlt, cnt_append, cnt_one, hyg])
        have b0 : (0 : Int) ≤ (q : Int) := by omega
        have b1 : (q : Int) < (G[m].ks.length : Int) := by omega
        have HY := Lib.hid hyg
        have HYM := Lib.hid hymem
        clear i0 i1 hbq hy hyg hymem
        go_upto_region 17 with fail
        refine wp_let (fun z => Below x0.heap.size x0 z ∧ z.heap[wr.heap.size]? = some (.cells #[.int .i64 y.1, .int .i64 y.2] 30 (0, 0))) ⟨HBQ.out.alloc HBQ.out.size _, blk_new _ _⟩ (fun z hz => ?_)
        have HZ := Lib.hid hz
        have n0 := blk_cell hz.2 0
        have n1 := blk_cell hz.2 1
        have k0 := (HX.out.later hz.1).c0
        have k1 := (HX.out.later hz.1).c1
        clear hz c0 c1
        by_cases hqk : q = G[m].ks.idxOf k
        · have hyk : y = k := by
            have := List.getElem_idxOf (x := k) (xs := G[m].ks) hix
            rw [← HY.out]
            simp only [hqk]; exact this
          have heq := fun w => st_eq (a := y) (b := k) (decide_eq_true hyk) w
          have hqk' := Lib.hid hqk
          clear hyk hqk
          go_wp2
          go_ret3
          exact ⟨by rw [hqk'.out, cnt_append]; rfl, (HX.out.later HZ.out.1).b⟩
        · have hne : ¬ y = k := by rw [← HY.out]; exact idx_not hqlt (by omega)
          have heq := fun w => st_eq (a := y) (b := k) (decide_eq_false hne) w
          have HRZ := Lib.hid (HR2.out.later HZ.out.1.drew)
          have hsh := hides_in HRZ.out y HYM.out
          have r2 := blk_cell HRZ.out.top 2
          have m0 : z.drew.cell? ⟨wr.heap.size, 0, none⟩ = some (.int .i64 y.1) := n0
          have m1 : z.drew.cell? ⟨wr.heap.size, 1, none⟩ = some (.int .i64 y.2) := n1
          clear hne
          cases hyh : hid y with
          | true =>
            rw [hyh] at hsh
            have HYH := Lib.hid hyh
            clear hyh
            go_wp2
            go_region
            go_wp2
            go_roundw
            case rel => exact ⟨q + 1, by omega, by go_num, congrArg (Value.int .i64) (by omega), congrArg (Value.int .i64) (by rw [hcs2.out, HYH.out]; simp), by first | exact HZ.out.1.drew | exact below_drewN HZ.out.1 _⟩
            case measure => simp [intOf]; omega
          | false =>
            rw [hyh] at hsh
            have HYH := Lib.hid hyh
            clear hyh
            go_wp2
            go_region
            go_wp2
            go_roundw
            case rel => exact ⟨q + 1, by omega, by go_num, congrArg (Value.int .i64) (by omega), congrArg (Value.int .i64) (by rw [hcs2.out, HYH.out]; simp; omega), by first | exact HZ.out.1.drew | exact below_drewN HZ.out.1 _⟩
            case measure => simp [intOf]; omega
    · have hpe := ptr_eq HR2.out hlt hj
      rw [decide_eq_false hmj] at hpe
      obtain ⟨A', cp', hsl', -, -, -⟩ := items_form HR2.out G[m] (List.getElem_mem hlt)
      have hrm := (HR2.out.run G[m] (List.getElem_mem hlt)).1
      rw [hsl'] at hrm
      have em0 := blk_cell hrm 0
      have em1 := blk_cell hrm 1
      have hos := Lib.hid (offs_succ G m hlt)
      have hcc := Lib.hid (show cnt hid (flat (G.take (m + 1))) = cnt hid (flat (G.take m)) + cnt hid G[m].ks by
        rw [List.take_succ_eq_append_getElem hlt, flat_append, cnt_append]
        simp [flat])
      have hlm : G[m].ks.length ≤ (flat G).length := by
        have h1 := offs_succ G m hlt
        have h2 := offs_le G (m + 1)
        omega
      have hcm := cnt_le hid G[m].ks
      clear hsl' hrm
      go_wp2
      go_round
      case rel => exact ⟨m + 1, by omega, by go_num, congrArg (Value.int .i64) (by rw [hos.out]; omega), congrArg (Value.int .i64) (by rw [hcc.out]; omega)⟩
      case measure => simp [intOf]; omega
/-- what ahead, Place and Rank answer -/
def placeV (L : List St) (k : St) : Int := if k ∈ L then (L.idxOf k : Nat) else 0
def rankV (L : List St) (hid : St → Bool) (k : St) : Int := if k ∈ L then (cnt hid (L.take (L.idxOf k)) : Nat) else 0
def itemE (L : List St) (k : St) : Int := if k ∈ L then 0 else 111
theorem ahead_any (w : World) (r : Nat) (L : List St) (hid : St → Bool) (F : Nat → Prop) (h : Rope w r L hid F) (k : St) :
    Calls Try.prog 60 #[ptr r, encS k] w fun e w' => e = .returned (.tuple #[.int .i64 (placeV L k), .int .i64 (rankV L hid k), .int .i64 (itemE L k)]) ∧ Below w.heap.size w w' := by
  obtain ⟨hL, wb, hb, rs, G, hR, rfl, hF⟩ := h
  unfold placeV rankV itemE
  by_cases hk : k ∈ flat G
  · rw [if_pos hk, if_pos hk, if_pos hk]
    obtain ⟨j, hj, hkj⟩ := mem_run hk
    exact ahead_yes w r wb hb rs G hid hR hL k j hj hkj
  · rw [if_neg hk, if_neg hk, if_neg hk]
    exact ahead_no w r wb hb rs G hid hR k hk
theorem place_any (w : World) (r : Nat) (L : List St) (hid : St → Bool) (F : Nat → Prop) (h : Rope w r L hid F) (k : St) :
    Calls Try.prog 47 #[ptr r, encS k] w fun e w' => e = .returned (.tuple #[.int .i64 (placeV L k), .int .i64 (itemE L k)]) ∧ Below w.heap.size w w' := by
  have HB := Lib.hid (KB.new w k)
  have H := Lib.hid (ahead_any _ r L hid F (h.later HB.out.b) k)
  clear h
  go_enter Try.func47, Try.ntmps47
  go_wp2_with (go_at_call 60; with_reducible refine H.out.mono ?_; rintro e w' ⟨rfl, hb⟩)
  go_ret2
  exact ⟨rfl, (HB.out.later hb).b⟩
theorem rank_any (w : World) (r : Nat) (L : List St) (hid : St → Bool) (F : Nat → Prop) (h : Rope w r L hid F) (k : St) :
    Calls Try.prog 46 #[ptr r, encS k] w fun e w' => e = .returned (.tuple #[.int .i64 (rankV L hid k), .int .i64 (itemE L k)]) ∧ Below w.heap.size w w' := by
  have HB := Lib.hid (KB.new w k)
  have H := Lib.hid (ahead_any _ r L hid F (h.later HB.out.b) k)
  clear h
  go_enter Try.func46, Try.ntmps46
  go_wp2_with (go_at_call 60; with_reducible refine H.out.mono ?_; rintro e w' ⟨rfl, hb⟩)
  go_ret2
  exact ⟨rfl, (HB.out.later hb).b⟩
end Go.Proofs.Ytohpablkgfkelaa
