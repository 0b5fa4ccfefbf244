/- AND AGAIN: keys asked for one after the other, each between two neighbours, rise: proved for every list of numbers; no condition. -/
import Derived.Test.YtdhhjojfakkjoaaKAgain
import Derived.Test.YtdhhjojfakkjoaaKOpen
import Derived.Deep.DeepCutAuto
import Derived.ProofKit
import Derived.OpenShut
import Derived.ShutString
import Derived.ChangeOld
import Derived.Below
namespace Go.Proofs.Ytdhhjojfakkjoaa
open Go.ChangeShapes Go.WideShapes Go.ChangeAt Go.RowKit
open Go.ChangeMaps (open_string shut_string)
set_option linter.unusedVariables false
set_option linter.unusedSimpArgs false

open Go.Joins
theorem Slot.infoStr : (Try.prog.info? 9).map (fun i => (i.zero, i.size, i.bytes)) = some (some (.string ⟨#[]⟩), 1, 16) := by kernel_rfl

set_option maxRecDepth 20000 in
set_option maxHeartbeats 4000000 in
theorem keysAgain_walk (ao : Option Addr) (len cap : Nat) (zs : List Int) (ww : World) 
    (hcell : ∀ i, i < len → ∃ b off, ao = some ⟨b, off, none⟩ ∧ ww.cell? ⟨b, off + i, none⟩ = some (.int .i64 (zs.getD i 0)))
    (hz : ∀ i, i < len → -9223372036854775808 ≤ zs.getD i 0 ∧ zs.getD i 0 ≤ 9223372036854775807) :
    Calls Try.prog 5 #[.slice ao len cap] ww fun e w' => e = .returned (.bool true) ∧ Below ww.heap.size ww w' := by
  obtain ⟨i0, hi, hz0, hz1, hz2⟩ := info_parts Slot.infoStr
  have HZ := Lib.hid hz
  have HC := Lib.hid hcell
  clear hz hcell
  go_enter Try.func5, Try.ntmps5
  go_wp2
  go_loopw [3, 4] (fun v i w => ∃ (k : Nat) (L : List ByteArray), k ≤ len ∧ k ≤ 60 ∧ L.length ≤ k ∧ i = .int .i64 k ∧ Asc L ∧ (L = [] → v = .slice none 0 0) ∧ w.ownsRow ww.heap.size 9 1 v L.length (strs L) ∧ Below ww.heap.size ww w) (fun _ i _ => 61 - (intOf i).toNat)
  case atStart => exact ⟨0, [], by omega, by omega, by simp, rfl, Asc.nil, fun _ => rfl, World.ownsRow_nil _ _ _ _, Below.refl _ _⟩
  case round =>
    obtain ⟨k, L, hk1, hk2, hLk, rfl, hasc, hnil, hown, hbel⟩ := hrel
    have t0 := Tr.nil wr
    by_cases hk : k < len
    · by_cases h60 : k < 60
      · obtain ⟨b, off, rfl, hc⟩ := HC.out k hk
        have hc' : wr.cell? ⟨b, off + k, none⟩ = some (.int .i64 (zs.getD k 0)) := (hbel.cell (World.block_lt_of_cell? _ _ hc)).trans hc
        obtain ⟨z1, z2⟩ := HZ.out k hk
        generalize zs.getD k 0 = z at *
        clear hc
        have Hasc := Lib.hid hasc
        clear hasc
        by_cases hL : L = []
        · obtain rfl := hnil hL
          subst hL
          simp only [List.length_nil] at hown hLk
          obtain ⟨key, hB, kk, ka, -⟩ := between_okay ⟨#[]⟩ ⟨#[]⟩ (Or.inl rfl) (Or.inl rfl) (fun h => absurd rfl h) (by decide) (by decide)
          obtain ⟨ka2, ka3, ka4⟩ := less_not ka
          have HB := Lib.hid hB
          have sk := keyB_size kk
          have HR := Lib.hid (fun w => bool_of kk (right_any key (by unfold maxLen; omega) w))
          have e1 := ka2
          have e2 := ka4
          rw [nil_toList] at e1 e2
          have e3 : key.toList.isEmpty = false := by simpa using e2
          have KK := Lib.hid kk
          clear hB kk hown
          by_cases hneg : z < 0
          all_goals
            go_wp2_with (first | (go_at_call 9; with_reducible refine (HB.out _).mono ?_; rintro e w1 ⟨rfl, hb⟩; have t1 := Tr.later (W0 := wr) (by repeat (first | with_reducible assumption | with_reducible apply Tr.alloc | with_reducible apply Tr.drew | with_reducible apply Tr.drewN | with_reducible apply Tr.ext | with_reducible apply Tr.other)) hb; have r1 := t1.rules; simp only [Rules, World.size_alloc, World.size_drew, World.size_setCell] at r1; clear hb) | (go_at_call 7; with_reducible refine (HR.out _).mono ?_; rintro e w1 ⟨rfl, hb⟩; have t1 := Tr.later (W0 := wr) (by repeat (first | with_reducible assumption | with_reducible apply Tr.alloc | with_reducible apply Tr.drew | with_reducible apply Tr.drewN | with_reducible apply Tr.ext | with_reducible apply Tr.other)) hb; have r1 := t1.rules; simp only [Rules, World.size_alloc, World.size_drew, World.size_setCell] at r1; clear hb) | (at_builtin; refine append_any rfl (.tmp 89) (.tmp 92) 31 rfl wr.heap.size 9 i0 (.string ⟨#[]⟩) 1 16 Try.underlying31 hi hz0 hz1 hz2 rfl (by decide) (.slice none 0 0) 0 [] rfl (World.ownsRow_nil _ _ _ _) _ _ _ (strs []) rfl rfl (fun _ => ⟨rfl, rfl⟩) (by intro ad h; cases h) (strs_one _) (by unfold maxLen; omega) (by omega) (Below.size (Tr.below (W0 := wr) (by repeat (first | with_reducible assumption | with_reducible apply Tr.alloc | with_reducible apply Tr.drew | with_reducible apply Tr.drewN | with_reducible apply Tr.ext | with_reducible apply Tr.other)))) ?_; intro v1 wa own1 grow1; have ta := Tr.grown (W0 := wr) ((by repeat (first | with_reducible assumption | with_reducible apply Tr.alloc | with_reducible apply Tr.drew | with_reducible apply Tr.drewN | with_reducible apply Tr.ext | with_reducible apply Tr.other))) grow1 (fun k hk => by cases hk)) | (at_builtin; refine append_any rfl (.tmp 94) (.tmp 96) 31 rfl wr.heap.size 9 i0 (.string ⟨#[]⟩) 1 16 Try.underlying31 hi hz0 hz1 hz2 rfl (by decide) v1 _ _ rfl (own1.alloc _) (some ⟨wa.heap.size, 0, none⟩) 1 1 (strs [key]) rfl rfl (by intro h; cases h) (cells_news _ _ _) (strs_one _) (by unfold maxLen; omega) (by omega) (Below.size (Tr.below (W0 := wr) (by repeat (first | with_reducible assumption | with_reducible apply Tr.alloc | with_reducible apply Tr.drew | with_reducible apply Tr.drewN | with_reducible apply Tr.ext | with_reducible apply Tr.other)))) ?_; intro v2 wb own2 grow2; have tb := Tr.grown (W0 := wr) ((by repeat (first | with_reducible assumption | with_reducible apply Tr.alloc | with_reducible apply Tr.drew | with_reducible apply Tr.drewN | with_reducible apply Tr.ext | with_reducible apply Tr.other))) grow2 (fun k hk => (own1.lt k hk).1)) | (at_builtin; refine append_any rfl (.tmp 98) (.tmp 101) 31 rfl wr.heap.size 9 i0 (.string ⟨#[]⟩) 1 16 Try.underlying31 hi hz0 hz1 hz2 rfl (by decide) v2 _ _ rfl own2 _ _ _ (strs []) rfl rfl (fun _ => ⟨rfl, rfl⟩) (by intro ad h; cases h) (strs_one _) (by unfold maxLen; omega) (by omega) (Below.size (Tr.below (W0 := wr) (by repeat (first | with_reducible assumption | with_reducible apply Tr.alloc | with_reducible apply Tr.drew | with_reducible apply Tr.drewN | with_reducible apply Tr.ext | with_reducible apply Tr.other)))) ?_; intro v3 wc own3 grow3; have tc := Tr.grown (W0 := wr) tb grow3 (fun k hk => (own2.lt k hk).1)))
            go_roundw
            case rel => exact ⟨k + 1, ins [] 0 key, by omega, by omega, by show 1 ≤ k + 1; omega, by go_num, Hasc.out.ins (Nat.le_refl _) KK.out (fun h => absurd h (Nat.lt_irrefl 0)) (fun h => absurd h (Nat.lt_irrefl 0)), fun h => absurd (show [key] = [] from h) (by simp), own_ins (L := []) (n := 0) own3 hbel.size, hbel.trans (tc.below.mono hbel.size)⟩
            case measure => simp [intOf]; omega
        · have hpos : 0 < L.length := List.length_pos_iff.2 hL
          obtain ⟨g, cp, rfl⟩ := ownsRow_form hown hpos
          obtain ⟨hcp, hcm⟩ := own_cap hown
          have cut : ∀ n : Nat, n ≤ L.length → (0 < n → wr.cell? ⟨g, n - 1, none⟩ = some (.string (at' L (n - 1)))) ∧ (n < L.length → wr.cell? ⟨g, n, none⟩ = some (.string (at' L n))) := fun n hn =>
            ⟨fun h => cell_own hown _ (by omega), fun h => cell_own hown _ h⟩
          by_cases hneg : z < 0
          case' pos => obtain ⟨n, hn, hmod⟩ := mod_neg hneg L.length
          case' neg => obtain ⟨n, hn, hmod⟩ := mod_pos (z := z) L.length
          all_goals
            obtain ⟨c1, c2⟩ := cut n hn
            clear cut hnil
            by_cases n0 : n = 0
            · have p2 : n < L.length := by omega
              have c2 := c2 p2
              clear c1
              have ga : True := trivial
              have gb := Hasc.out.at p2
              have lab : True := trivial
              generalize eb : at' L n = b at *
              subst n0
              have EB := Lib.hid eb
              rw [show ((0 : Nat) : Int) = 0 from rfl] at hmod
              try rw [Int.neg_zero] at hmod
              clear eb
              have sb := keyB_size gb
              by_cases zz : b.size = 64
              · have s2 : ((b.size : Int) == 64) = true := by rw [zz]; rfl
                have HB := Lib.hid (fun w => between_full ⟨#[]⟩ b (Or.inl rfl) (Or.inr gb) (fun h => absurd rfl h) (Or.inr zz) w)
                have HOWN := Lib.hid hown
                clear ga gb lab hown
                go_wp2_with ((go_at_call 9; with_reducible refine (HB.out _).mono ?_; rintro e w1 ⟨rfl, hb⟩; have t1 := Tr.later (W0 := wr) (by repeat (first | with_reducible assumption | with_reducible apply Tr.alloc | with_reducible apply Tr.drew | with_reducible apply Tr.drewN | with_reducible apply Tr.ext | with_reducible apply Tr.other)) hb; have r1 := t1.rules; simp only [Rules, World.size_alloc, World.size_drew, World.size_setCell] at r1; clear hb))
                go_roundw
                case rel => exact ⟨k + 1, L, by omega, by omega, by omega, by go_num, Hasc.out, fun h => absurd h hL, own_later HOWN.out t1.below, hbel.trans (t1.below.mono hbel.size)⟩
                case measure => simp [intOf]; omega
              · have s2 : ((b.size : Int) == 64) = false := by simp; omega
                obtain ⟨key, hB, kk, ka, kb⟩ := between_okay ⟨#[]⟩ b (Or.inl rfl) (Or.inr gb) (fun h => absurd rfl h) (by decide) zz
                obtain ⟨ka2, ka3, ka4⟩ := less_not ka
                have HB := Lib.hid hB
                have sk := keyB_size kk
                have HR := Lib.hid (fun w => bool_of kk (right_any key (by unfold maxLen; omega) w))
                have e1 := ka2
                have e2 := ka4
                rw [nil_toList] at e1 e2
                have e3 : key.toList.isEmpty = false := by simpa using e2
                have kb := kb.resolve_left (by omega)
                have bn : ¬ b.toList = [] := fun h => by have := (toList_nil b).1 h; omega
                have b1 : b.toList.isEmpty = false := by simpa using bn
                have KK := Lib.hid kk
                have HOWN := Lib.hid hown
                clear hB kk hown
                clear ga gb lab
                go_wp2_with (first | (go_at_call 9; with_reducible refine (HB.out _).mono ?_; rintro e w1 ⟨rfl, hb⟩; have t1 := Tr.later (W0 := wr) (by repeat (first | with_reducible assumption | with_reducible apply Tr.alloc | with_reducible apply Tr.drew | with_reducible apply Tr.drewN | with_reducible apply Tr.ext | with_reducible apply Tr.other)) hb; have r1 := t1.rules; simp only [Rules, World.size_alloc, World.size_drew, World.size_setCell] at r1; clear hb) | (go_at_call 7; with_reducible refine (HR.out _).mono ?_; rintro e w1 ⟨rfl, hb⟩; have t1 := Tr.later (W0 := wr) (by repeat (first | with_reducible assumption | with_reducible apply Tr.alloc | with_reducible apply Tr.drew | with_reducible apply Tr.drewN | with_reducible apply Tr.ext | with_reducible apply Tr.other)) hb; have r1 := t1.rules; simp only [Rules, World.size_alloc, World.size_drew, World.size_setCell] at r1; clear hb) | (at_builtin; refine append_any rfl (.tmp 89) (.tmp 92) 31 rfl wr.heap.size 9 i0 (.string ⟨#[]⟩) 1 16 Try.underlying31 hi hz0 hz1 hz2 rfl (by decide) (.slice none 0 0) 0 [] rfl (World.ownsRow_nil _ _ _ _) _ _ _ (strs (L.take 0)) rfl (by simp [strs]; try omega) (by intro h; cases h) (cells_part (own_later HOWN.out (Tr.below (W0 := wr) (by repeat (first | with_reducible assumption | with_reducible apply Tr.alloc | with_reducible apply Tr.drew | with_reducible apply Tr.drewN | with_reducible apply Tr.ext | with_reducible apply Tr.other)))) 0 take_get (fun _ => rfl)) (strs_one _) (by unfold maxLen; omega) (by omega) (Below.size (Tr.below (W0 := wr) (by repeat (first | with_reducible assumption | with_reducible apply Tr.alloc | with_reducible apply Tr.drew | with_reducible apply Tr.drewN | with_reducible apply Tr.ext | with_reducible apply Tr.other)))) ?_; intro v1 wa own1 grow1; have ta := Tr.grown (W0 := wr) ((by repeat (first | with_reducible assumption | with_reducible apply Tr.alloc | with_reducible apply Tr.drew | with_reducible apply Tr.drewN | with_reducible apply Tr.ext | with_reducible apply Tr.other))) grow1 (fun k hk => by cases hk); have la := World.ownsRow.kept (own_later HOWN.out (Tr.below (W0 := wr) (by repeat (first | with_reducible assumption | with_reducible apply Tr.alloc | with_reducible apply Tr.drew | with_reducible apply Tr.drewN | with_reducible apply Tr.ext | with_reducible apply Tr.other)))) grow1 (Or.inr (fun e => by cases e))) | (at_builtin; refine append_any rfl (.tmp 94) (.tmp 96) 31 rfl wr.heap.size 9 i0 (.string ⟨#[]⟩) 1 16 Try.underlying31 hi hz0 hz1 hz2 rfl (by decide) v1 _ _ rfl (own1.alloc _) (some ⟨wa.heap.size, 0, none⟩) 1 1 (strs [key]) rfl rfl (by intro h; cases h) (cells_news _ _ _) (strs_one _) (by unfold maxLen; omega) (by omega) (Below.size (Tr.below (W0 := wr) (by repeat (first | with_reducible assumption | with_reducible apply Tr.alloc | with_reducible apply Tr.drew | with_reducible apply Tr.drewN | with_reducible apply Tr.ext | with_reducible apply Tr.other)))) ?_; intro v2 wb own2 grow2; have tb := Tr.grown (W0 := wr) ((by repeat (first | with_reducible assumption | with_reducible apply Tr.alloc | with_reducible apply Tr.drew | with_reducible apply Tr.drewN | with_reducible apply Tr.ext | with_reducible apply Tr.other))) grow2 (fun k hk => (own1.lt k hk).1); have lb := World.ownsRow.kept (la.alloc _) grow2 (own_ne HOWN.out own1)) | (at_builtin; refine append_any rfl (.tmp 98) (.tmp 101) 31 rfl wr.heap.size 9 i0 (.string ⟨#[]⟩) 1 16 Try.underlying31 hi hz0 hz1 hz2 rfl (by decide) v2 _ _ rfl own2 _ _ _ (strs (L.drop 0)) rfl (by simp [strs]; try omega) (by intro h; cases h) (cells_part lb 0 drop_get (fun _ => rfl)) (strs_one _) (by unfold maxLen; omega) (by omega) (Below.size (Tr.below (W0 := wr) (by repeat (first | with_reducible assumption | with_reducible apply Tr.alloc | with_reducible apply Tr.drew | with_reducible apply Tr.drewN | with_reducible apply Tr.ext | with_reducible apply Tr.other)))) ?_; intro v3 wc own3 grow3; have tc := Tr.grown (W0 := wr) tb grow3 (fun k hk => (own2.lt k hk).1)))
                go_roundw
                case rel => exact ⟨k + 1, ins L 0 key, by omega, by omega, by rw [ins_length key hn]; omega, by go_num, Hasc.out.ins hn KK.out (fun h => absurd h (by omega)) (fun _ => by rw [EB.out]; exact kb), fun h => absurd (congrArg List.length h) (by rw [ins_length key hn]; simp), own_ins own3 hbel.size, hbel.trans (tc.below.mono hbel.size)⟩
                case measure => simp [intOf]; omega
            · by_cases nl : n = L.length
              · have p1 : 0 < n := by omega
                have c1 := c1 p1
                clear c2
                have ga := Hasc.out.at (j := n - 1) (by omega)
                have gb : True := trivial
                have lab : True := trivial
                generalize ea : at' L (n - 1) = a at *
                subst nl
                have EA := Lib.hid ea
                clear ea
                have sa := keyB_size ga
                by_cases y : a.size = 64
                · have s1 : ((a.size : Int) == 64) = true := by rw [y]; rfl
                  have HB := Lib.hid (fun w => between_full a ⟨#[]⟩ (Or.inr ga) (Or.inl rfl) (fun _ h => absurd rfl h) (Or.inl y) w)
                  have HOWN := Lib.hid hown
                  clear ga gb lab hown
                  go_wp2_with ((go_at_call 9; with_reducible refine (HB.out _).mono ?_; rintro e w1 ⟨rfl, hb⟩; have t1 := Tr.later (W0 := wr) (by repeat (first | with_reducible assumption | with_reducible apply Tr.alloc | with_reducible apply Tr.drew | with_reducible apply Tr.drewN | with_reducible apply Tr.ext | with_reducible apply Tr.other)) hb; have r1 := t1.rules; simp only [Rules, World.size_alloc, World.size_drew, World.size_setCell] at r1; clear hb))
                  go_roundw
                  case rel => exact ⟨k + 1, L, by omega, by omega, by omega, by go_num, Hasc.out, fun h => absurd h hL, own_later HOWN.out t1.below, hbel.trans (t1.below.mono hbel.size)⟩
                  case measure => simp [intOf]; omega
                · have s1 : ((a.size : Int) == 64) = false := by simp; omega
                  obtain ⟨key, hB, kk, ka, kb⟩ := between_okay a ⟨#[]⟩ (Or.inr ga) (Or.inl rfl) (fun _ h => absurd rfl h) y (by decide)
                  obtain ⟨ka2, ka3, ka4⟩ := less_not ka
                  have HB := Lib.hid hB
                  have sk := keyB_size kk
                  have HR := Lib.hid (fun w => bool_of kk (right_any key (by unfold maxLen; omega) w))
                  have KK := Lib.hid kk
                  have HOWN := Lib.hid hown
                  clear hB kk hown
                  clear ga gb lab
                  go_wp2_with (first | (go_at_call 9; with_reducible refine (HB.out _).mono ?_; rintro e w1 ⟨rfl, hb⟩; have t1 := Tr.later (W0 := wr) (by repeat (first | with_reducible assumption | with_reducible apply Tr.alloc | with_reducible apply Tr.drew | with_reducible apply Tr.drewN | with_reducible apply Tr.ext | with_reducible apply Tr.other)) hb; have r1 := t1.rules; simp only [Rules, World.size_alloc, World.size_drew, World.size_setCell] at r1; clear hb) | (go_at_call 7; with_reducible refine (HR.out _).mono ?_; rintro e w1 ⟨rfl, hb⟩; have t1 := Tr.later (W0 := wr) (by repeat (first | with_reducible assumption | with_reducible apply Tr.alloc | with_reducible apply Tr.drew | with_reducible apply Tr.drewN | with_reducible apply Tr.ext | with_reducible apply Tr.other)) hb; have r1 := t1.rules; simp only [Rules, World.size_alloc, World.size_drew, World.size_setCell] at r1; clear hb) | (at_builtin; refine append_any rfl (.tmp 89) (.tmp 92) 31 rfl wr.heap.size 9 i0 (.string ⟨#[]⟩) 1 16 Try.underlying31 hi hz0 hz1 hz2 rfl (by decide) (.slice none 0 0) 0 [] rfl (World.ownsRow_nil _ _ _ _) _ _ _ (strs (L.take (L.length))) rfl (by simp [strs]; try omega) (by intro h; cases h) (cells_part (own_later HOWN.out (Tr.below (W0 := wr) (by repeat (first | with_reducible assumption | with_reducible apply Tr.alloc | with_reducible apply Tr.drew | with_reducible apply Tr.drewN | with_reducible apply Tr.ext | with_reducible apply Tr.other)))) 0 take_get (fun _ => rfl)) (strs_one _) (by unfold maxLen; omega) (by omega) (Below.size (Tr.below (W0 := wr) (by repeat (first | with_reducible assumption | with_reducible apply Tr.alloc | with_reducible apply Tr.drew | with_reducible apply Tr.drewN | with_reducible apply Tr.ext | with_reducible apply Tr.other)))) ?_; intro v1 wa own1 grow1; have ta := Tr.grown (W0 := wr) ((by repeat (first | with_reducible assumption | with_reducible apply Tr.alloc | with_reducible apply Tr.drew | with_reducible apply Tr.drewN | with_reducible apply Tr.ext | with_reducible apply Tr.other))) grow1 (fun k hk => by cases hk); have la := World.ownsRow.kept (own_later HOWN.out (Tr.below (W0 := wr) (by repeat (first | with_reducible assumption | with_reducible apply Tr.alloc | with_reducible apply Tr.drew | with_reducible apply Tr.drewN | with_reducible apply Tr.ext | with_reducible apply Tr.other)))) grow1 (Or.inr (fun e => by cases e))) | (at_builtin; refine append_any rfl (.tmp 94) (.tmp 96) 31 rfl wr.heap.size 9 i0 (.string ⟨#[]⟩) 1 16 Try.underlying31 hi hz0 hz1 hz2 rfl (by decide) v1 _ _ rfl (own1.alloc _) (some ⟨wa.heap.size, 0, none⟩) 1 1 (strs [key]) rfl rfl (by intro h; cases h) (cells_news _ _ _) (strs_one _) (by unfold maxLen; omega) (by omega) (Below.size (Tr.below (W0 := wr) (by repeat (first | with_reducible assumption | with_reducible apply Tr.alloc | with_reducible apply Tr.drew | with_reducible apply Tr.drewN | with_reducible apply Tr.ext | with_reducible apply Tr.other)))) ?_; intro v2 wb own2 grow2; have tb := Tr.grown (W0 := wr) ((by repeat (first | with_reducible assumption | with_reducible apply Tr.alloc | with_reducible apply Tr.drew | with_reducible apply Tr.drewN | with_reducible apply Tr.ext | with_reducible apply Tr.other))) grow2 (fun k hk => (own1.lt k hk).1); have lb := World.ownsRow.kept (la.alloc _) grow2 (own_ne HOWN.out own1)) | (at_builtin; refine append_any rfl (.tmp 98) (.tmp 101) 31 rfl wr.heap.size 9 i0 (.string ⟨#[]⟩) 1 16 Try.underlying31 hi hz0 hz1 hz2 rfl (by decide) v2 _ _ rfl own2 _ _ _ (strs (L.drop (L.length))) rfl (by simp [strs]; try omega) (by intro h; first | (cases h; done) | exact ⟨rfl, rfl⟩ | (constructor <;> omega; done) | (split at h <;> first | (cases h; done) | (constructor <;> omega)) | (simp at h; constructor <;> omega)) (cells_part lb (L.length) drop_get (fun h => absurd List.drop_length h)) (strs_one _) (by unfold maxLen; omega) (by omega) (Below.size (Tr.below (W0 := wr) (by repeat (first | with_reducible assumption | with_reducible apply Tr.alloc | with_reducible apply Tr.drew | with_reducible apply Tr.drewN | with_reducible apply Tr.ext | with_reducible apply Tr.other)))) ?_; intro v3 wc own3 grow3; have tc := Tr.grown (W0 := wr) tb grow3 (fun k hk => (own2.lt k hk).1)))
                  go_roundw
                  case rel => exact ⟨k + 1, ins L L.length key, by omega, by omega, by rw [ins_length key hn]; omega, by go_num, Hasc.out.ins hn KK.out (fun _ => by rw [EA.out]; exact ka) (fun h => absurd h (by omega)), fun h => absurd (congrArg List.length h) (by rw [ins_length key hn]; simp), own_ins own3 hbel.size, hbel.trans (tc.below.mono hbel.size)⟩
                  case measure => simp [intOf]; omega
              · have p1 : 0 < n := by omega
                have p2 : n < L.length := by omega
                have c1 := c1 p1
                have c2 := c2 p2
                have ga := Hasc.out.at (j := n - 1) (by omega)
                have gb := Hasc.out.at p2
                have lab := Hasc.out.1 (n - 1) (by omega)
                rw [show n - 1 + 1 = n by omega] at lab
                generalize ea : at' L (n - 1) = a at *
                generalize eb : at' L n = b at *
                have EA := Lib.hid ea
                have EB := Lib.hid eb
                clear ea eb
                have sa := keyB_size ga
                have sb := keyB_size gb
                by_cases y : a.size = 64
                · have s1 : ((a.size : Int) == 64) = true := by rw [y]; rfl
                  have HB := Lib.hid (fun w => between_full a b (Or.inr ga) (Or.inr gb) (fun _ _ => lab) (Or.inl y) w)
                  have HOWN := Lib.hid hown
                  clear ga gb lab hown
                  go_wp2_with ((go_at_call 9; with_reducible refine (HB.out _).mono ?_; rintro e w1 ⟨rfl, hb⟩; have t1 := Tr.later (W0 := wr) (by repeat (first | with_reducible assumption | with_reducible apply Tr.alloc | with_reducible apply Tr.drew | with_reducible apply Tr.drewN | with_reducible apply Tr.ext | with_reducible apply Tr.other)) hb; have r1 := t1.rules; simp only [Rules, World.size_alloc, World.size_drew, World.size_setCell] at r1; clear hb))
                  go_roundw
                  case rel => exact ⟨k + 1, L, by omega, by omega, by omega, by go_num, Hasc.out, fun h => absurd h hL, own_later HOWN.out t1.below, hbel.trans (t1.below.mono hbel.size)⟩
                  case measure => simp [intOf]; omega
                · have s1 : ((a.size : Int) == 64) = false := by simp; omega
                  by_cases zz : b.size = 64
                  · have s2 : ((b.size : Int) == 64) = true := by rw [zz]; rfl
                    have HB := Lib.hid (fun w => between_full a b (Or.inr ga) (Or.inr gb) (fun _ _ => lab) (Or.inr zz) w)
                    have HOWN := Lib.hid hown
                    clear ga gb lab hown
                    go_wp2_with ((go_at_call 9; with_reducible refine (HB.out _).mono ?_; rintro e w1 ⟨rfl, hb⟩; have t1 := Tr.later (W0 := wr) (by repeat (first | with_reducible assumption | with_reducible apply Tr.alloc | with_reducible apply Tr.drew | with_reducible apply Tr.drewN | with_reducible apply Tr.ext | with_reducible apply Tr.other)) hb; have r1 := t1.rules; simp only [Rules, World.size_alloc, World.size_drew, World.size_setCell] at r1; clear hb))
                    go_roundw
                    case rel => exact ⟨k + 1, L, by omega, by omega, by omega, by go_num, Hasc.out, fun h => absurd h hL, own_later HOWN.out t1.below, hbel.trans (t1.below.mono hbel.size)⟩
                    case measure => simp [intOf]; omega
                  · have s2 : ((b.size : Int) == 64) = false := by simp; omega
                    obtain ⟨key, hB, kk, ka, kb⟩ := between_okay a b (Or.inr ga) (Or.inr gb) (fun _ _ => lab) y zz
                    obtain ⟨ka2, ka3, ka4⟩ := less_not ka
                    have HB := Lib.hid hB
                    have sk := keyB_size kk
                    have HR := Lib.hid (fun w => bool_of kk (right_any key (by unfold maxLen; omega) w))
                    have kb := kb.resolve_left (by omega)
                    have bn : ¬ b.toList = [] := fun h => by have := (toList_nil b).1 h; omega
                    have b1 : b.toList.isEmpty = false := by simpa using bn
                    have KK := Lib.hid kk
                    have HOWN := Lib.hid hown
                    clear hB kk hown
                    clear ga gb lab
                    go_wp2_with (first | (go_at_call 9; with_reducible refine (HB.out _).mono ?_; rintro e w1 ⟨rfl, hb⟩; have t1 := Tr.later (W0 := wr) (by repeat (first | with_reducible assumption | with_reducible apply Tr.alloc | with_reducible apply Tr.drew | with_reducible apply Tr.drewN | with_reducible apply Tr.ext | with_reducible apply Tr.other)) hb; have r1 := t1.rules; simp only [Rules, World.size_alloc, World.size_drew, World.size_setCell] at r1; clear hb) | (go_at_call 7; with_reducible refine (HR.out _).mono ?_; rintro e w1 ⟨rfl, hb⟩; have t1 := Tr.later (W0 := wr) (by repeat (first | with_reducible assumption | with_reducible apply Tr.alloc | with_reducible apply Tr.drew | with_reducible apply Tr.drewN | with_reducible apply Tr.ext | with_reducible apply Tr.other)) hb; have r1 := t1.rules; simp only [Rules, World.size_alloc, World.size_drew, World.size_setCell] at r1; clear hb) | (at_builtin; refine append_any rfl (.tmp 89) (.tmp 92) 31 rfl wr.heap.size 9 i0 (.string ⟨#[]⟩) 1 16 Try.underlying31 hi hz0 hz1 hz2 rfl (by decide) (.slice none 0 0) 0 [] rfl (World.ownsRow_nil _ _ _ _) _ _ _ (strs (L.take n)) rfl (by simp [strs]; try omega) (by intro h; cases h) (cells_part (own_later HOWN.out (Tr.below (W0 := wr) (by repeat (first | with_reducible assumption | with_reducible apply Tr.alloc | with_reducible apply Tr.drew | with_reducible apply Tr.drewN | with_reducible apply Tr.ext | with_reducible apply Tr.other)))) 0 take_get (fun _ => rfl)) (strs_one _) (by unfold maxLen; omega) (by omega) (Below.size (Tr.below (W0 := wr) (by repeat (first | with_reducible assumption | with_reducible apply Tr.alloc | with_reducible apply Tr.drew | with_reducible apply Tr.drewN | with_reducible apply Tr.ext | with_reducible apply Tr.other)))) ?_; intro v1 wa own1 grow1; have ta := Tr.grown (W0 := wr) ((by repeat (first | with_reducible assumption | with_reducible apply Tr.alloc | with_reducible apply Tr.drew | with_reducible apply Tr.drewN | with_reducible apply Tr.ext | with_reducible apply Tr.other))) grow1 (fun k hk => by cases hk); have la := World.ownsRow.kept (own_later HOWN.out (Tr.below (W0 := wr) (by repeat (first | with_reducible assumption | with_reducible apply Tr.alloc | with_reducible apply Tr.drew | with_reducible apply Tr.drewN | with_reducible apply Tr.ext | with_reducible apply Tr.other)))) grow1 (Or.inr (fun e => by cases e))) | (at_builtin; refine append_any rfl (.tmp 94) (.tmp 96) 31 rfl wr.heap.size 9 i0 (.string ⟨#[]⟩) 1 16 Try.underlying31 hi hz0 hz1 hz2 rfl (by decide) v1 _ _ rfl (own1.alloc _) (some ⟨wa.heap.size, 0, none⟩) 1 1 (strs [key]) rfl rfl (by intro h; cases h) (cells_news _ _ _) (strs_one _) (by unfold maxLen; omega) (by omega) (Below.size (Tr.below (W0 := wr) (by repeat (first | with_reducible assumption | with_reducible apply Tr.alloc | with_reducible apply Tr.drew | with_reducible apply Tr.drewN | with_reducible apply Tr.ext | with_reducible apply Tr.other)))) ?_; intro v2 wb own2 grow2; have tb := Tr.grown (W0 := wr) ((by repeat (first | with_reducible assumption | with_reducible apply Tr.alloc | with_reducible apply Tr.drew | with_reducible apply Tr.drewN | with_reducible apply Tr.ext | with_reducible apply Tr.other))) grow2 (fun k hk => (own1.lt k hk).1); have lb := World.ownsRow.kept (la.alloc _) grow2 (own_ne HOWN.out own1)) | (at_builtin; refine append_any rfl (.tmp 98) (.tmp 101) 31 rfl wr.heap.size 9 i0 (.string ⟨#[]⟩) 1 16 Try.underlying31 hi hz0 hz1 hz2 rfl (by decide) v2 _ _ rfl own2 _ _ _ (strs (L.drop n)) rfl (by simp [strs]; try omega) (by intro h; cases h) (cells_part lb n drop_get (fun _ => rfl)) (strs_one _) (by unfold maxLen; omega) (by omega) (Below.size (Tr.below (W0 := wr) (by repeat (first | with_reducible assumption | with_reducible apply Tr.alloc | with_reducible apply Tr.drew | with_reducible apply Tr.drewN | with_reducible apply Tr.ext | with_reducible apply Tr.other)))) ?_; intro v3 wc own3 grow3; have tc := Tr.grown (W0 := wr) tb grow3 (fun k hk => (own2.lt k hk).1)))
                    go_roundw
                    case rel => exact ⟨k + 1, ins L n key, by omega, by omega, by rw [ins_length key hn]; omega, by go_num, Hasc.out.ins hn KK.out (fun _ => by rw [EA.out]; exact ka) (fun _ => by rw [EB.out]; exact kb), fun h => absurd (congrArg List.length h) (by rw [ins_length key hn]; simp), own_ins own3 hbel.size, hbel.trans (tc.below.mono hbel.size)⟩
                    case measure => simp [intOf]; omega
      · obtain rfl : k = 60 := by omega
        go_wp2_with ((go_at_call 6; with_reducible refine (alive_any _).mono ?_; rintro e w1 ⟨rfl, hb⟩; have t1 := Tr.later (W0 := wr) (by repeat (first | with_reducible assumption | with_reducible apply Tr.alloc | with_reducible apply Tr.drew | with_reducible apply Tr.drewN | with_reducible apply Tr.ext | with_reducible apply Tr.other)) hb; have r1 := t1.rules; simp only [Rules, World.size_alloc, World.size_drew, World.size_setCell] at r1; clear hb))
        go_ret
        exact ⟨rfl, hbel.trans ((Tr.below (W0 := wr) (by repeat (first | with_reducible assumption | with_reducible apply Tr.alloc | with_reducible apply Tr.drew | with_reducible apply Tr.drewN | with_reducible apply Tr.ext | with_reducible apply Tr.other))).mono hbel.size)⟩
    · have hkx : ¬ ((k : Int) < len) := by omega
      go_wp2_with ((go_at_call 6; with_reducible refine (alive_any _).mono ?_; rintro e w1 ⟨rfl, hb⟩; have t1 := Tr.later (W0 := wr) (by repeat (first | with_reducible assumption | with_reducible apply Tr.alloc | with_reducible apply Tr.drew | with_reducible apply Tr.drewN | with_reducible apply Tr.ext | with_reducible apply Tr.other)) hb; have r1 := t1.rules; simp only [Rules, World.size_alloc, World.size_drew, World.size_setCell] at r1; clear hb))
      go_ret
      exact ⟨rfl, hbel.trans ((Tr.below (W0 := wr) (by repeat (first | with_reducible assumption | with_reducible apply Tr.alloc | with_reducible apply Tr.drew | with_reducible apply Tr.drewN | with_reducible apply Tr.ext | with_reducible apply Tr.other))).mono hbel.size)⟩

set_option maxRecDepth 100000 in
theorem keysAgain_lifted (os : Os) (started : os.Started) (H : Type) (enc : TypeId × Value → H) :
    ReturnsInHanded {} Try.checked os 5 .any (Rows.keysAgainSpec.pre6 enc Try.prog Try.f5 Rows.keysAgainRow.domain false) (Rows.keysAgainSpec.post enc Try.prog Try.f5 false true false false) := by
  refine returnsInHanded_of_change (C := Try.checked) own started (by kernel_rfl) Try.func5
    (ChangeSpec.witness6 (enc := enc) (C := Try.checked) false ⟨#[], #[.slice none 0 0], []⟩ 8 (by kernel_rfl) (by kernel_rfl) (by kernel_rfl) (by kernel_rfl)) ?_
  intro W base args ds gs before hval0 hW hcnd _
  have hval : ∀ (j : Nat) t v, Try.f5.params[j]? = some t → args[j]? = some v → Value.okWide Try.prog W .any base t v := hval0
  have hW' := hW
  obtain ⟨p, q, hA0, hV, rfl, hfz, hnd⟩ := hW
  have hA : DataW.TrodAll enc Try.prog W 0 (fun _ => true) true Try.f5.params.toList args.toList ds p := hA0
  rw [Try.params5] at hA hval
  obtain ⟨v0, vs0, d0, ds0, p0, q0, hargs, rfl, rfl, h0, r0⟩ := trodAll_cons hA
  obtain ⟨rfl, rfl, rfl⟩ := trodAll_nil r0
  obtain rfl : args = #[v0] := by cases args; simp_all
  obtain ⟨rfl, rfl⟩ := trodVars_none hV
  have lt0 : ∀ x ∈ p0, x.block < W.heap.size := by obtain ⟨m, hm⟩ := h0; exact DataW.trod_lt m _ _ _ hm
  obtain ⟨ao, len, cap, zs, rfl, hcell, hzs⟩ := open_ints_arg Try.underlying30 Try.underlying3 (by kernel_rfl) (hval 0 30 v0 rfl rfl) h0
  clear hA0 hval0
  refine (keysAgain_walk ao len cap zs W hcell hzs).mono fun e W' ⟨he, bel⟩ => ?_
  subst he
  exact ⟨_, rfl, _, _, _, [], _, [], hW', trodAll_mk1 (shut_bool Try.underlying4 _), (trodAll_cons_mk (Below.trod laidOut (by kernel_rfl) (of_decide_eq_true (by kernel_rfl)) h0 bel lt0) trodAll_mk0), rfl, bel.frame _, fun h => by cases h⟩

theorem keysAgain_holds : Rows.KeysAgainSaid :=
  OpenClaim.holds_of_wide 5 Try.f5 rfl rfl rfl rfl rfl rfl rfl ⟨rfl, rfl, rfl, rfl, rfl⟩ rfl rfl rfl rfl rfl (by kernel_rfl) Try.func5 (by kernel_rfl)
    (of_decide_eq_true (by kernel_rfl)) (by unfold Func.isWrapper; first | (rw [if_pos (by decide +kernel)]; kernel_rfl) | (rw [if_neg (by decide +kernel)]; exact ⟨rfl, rfl⟩))
    (fun os started H enc _ => keysAgain_lifted os started H enc)

end Go.Proofs.Ytdhhjojfakkjoaa
