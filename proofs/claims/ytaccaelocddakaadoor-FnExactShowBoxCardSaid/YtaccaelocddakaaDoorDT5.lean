/- The walks of the functions that show boxes in words. -/
import Derived.Test.YtaccaelocddakaaDoorDI0
import Derived.Test.YtaccaelocddakaaDoorDT4
import Derived.Test.YtaccaelocddakaaDoorDT3
namespace Go.Proofs.YtaccaelocddakaaDoor
open Go Go.RowKit
set_option linter.unusedVariables false
set_option maxRecDepth 20000

theorem l01Figure (r : Nat) (H : AH) (hr : r < 10) : FWp Tryd.prog 37 [.int .i64 (r : Int)] H (fun v' H' => v' = .int .u8 ((UInt8.ofNat (48 + r)).toNat : Int) ∧ H' = H) := by
  refine FWp.pure rfl fun H ph => ?_
  refine FWp.enterK Tryd.func37 rfl (by decide +kernel) rfl rfl fun Q q => ?_
  refine CWp.seqK fun Kk1 k1 => ?_
  refine CWp.regionW [0] ?_
  refine VC.s rfl (RVs.assign rfl rfl (fun _ => rfl) ?_)
  refine VC.nil (k1 ⟨12, [(0, _)]⟩ _ ?_)
  refine CWp.seqK fun Kk2 k2 => ?_
  refine CWp.seqK fun Kk3 k3 => ?_
  refine CWp.regionW [0, 4] ?_
  refine VC.s rfl (RVs.move rfl rfl (fun _ => rfl) ?_)
  refine VC.s rfl (RVs.bin rfl rfl rfl rfl (fun _ => ⟨⟨rfl, rfl⟩, rfl⟩) ?_)
  refine VC.nil (k3 ⟨12, [(0, _), (4, _)]⟩ _ ?_)
  refine CWp.condV rfl (fun hc1 => ?_) (fun hc1 => ?_)
  · skip
    refine CWp.seqK fun Kk4 k4 => ?_
    refine CWp.regionW [2] ?_
    refine VC.s rfl (RVs.move rfl rfl (fun _ => rfl) ?_)
    refine VC.s rfl (RVs.bin rfl rfl rfl rfl (fun _ => ⟨⟨rfl, rfl⟩, rfl⟩) ?_)
    refine VC.s rfl (RVs.conv_int rfl UnInt.h UnInt.h rfl (fun _ => rfl) ?_)
    refine VC.s rfl (RVs.assign rfl rfl (fun _ => rfl) ?_)
    refine VC.nil (k4 ⟨12, [(2, _)]⟩ _ ?_)
    refine CWp.ret (q _ _ _ (.cons (.tmp rfl) .nil) ?_).1
    exact ⟨by simp only [one]; rw [u8_fig hr], (List.prefix_refl H)⟩
  · exact absurd (of_decide_eq_false hc1) (by omega)

theorem sDecimal (k : Int) (H : AH) (h0 : 0 ≤ k) (hk : k ≤ lim) : FWp Tryd.prog 18 [.int .i64 k] H (fun v' H' => v' = .string (bs (decL k)) ∧ H' = H) := by
  refine FWp.pure rfl fun H ph => ?_
  unfold lim at hk
  refine FWp.enterK Tryd.func18 rfl (by decide +kernel) rfl rfl fun Q q => ?_
  refine CWp.seqK fun Kk1 k1 => ?_
  refine CWp.regionW [0] ?_
  refine VC.s rfl (RVs.assign rfl rfl (fun _ => rfl) ?_)
  refine VC.nil (k1 ⟨30, [(0, _)]⟩ _ ?_)
  refine CWp.seqK fun Kk2 k2 => ?_
  refine CWp.seqK fun Kk3 k3 => ?_
  refine CWp.regionW [0, 7] ?_
  refine VC.s rfl (RVs.move rfl rfl (fun _ => rfl) ?_)
  refine VC.s rfl (RVs.bin rfl rfl rfl rfl (fun _ => ⟨⟨rfl, rfl⟩, rfl⟩) ?_)
  refine VC.nil (k3 ⟨30, [(0, _), (7, _)]⟩ _ ?_)
  refine CWp.condV rfl (fun hc1 => ?_) (fun hc1 => ?_)
  · try simp at hc1
    refine CWp.seqK fun Kk4 k4 => ?_
    refine CWp.regionW [2] ?_
    refine VC.s rfl (RVs.assign rfl rfl (fun _ => rfl) ?_)
    refine VC.nil (k4 ⟨30, [(2, _)]⟩ _ ?_)
    refine CWp.ret (q _ _ _ (.cons (.tmp rfl) .nil) ?_).1
    exact ⟨by simp only [one, decL]; rw [if_pos hc1]; rfl, (List.prefix_refl H)⟩
  · try simp at hc1
    refine CWp.skip ?_
    refine k2 _ _ ?_
    refine CWp.seqK fun Kk5 k5 => ?_
    refine CWp.regionW [0, 3] ?_
    refine VC.s rfl (RVs.move rfl rfl (fun _ => rfl) ?_)
    refine VC.s rfl (RVs.bin rfl rfl rfl rfl (fun _ => ⟨⟨rfl, rfl⟩, rfl⟩) ?_)
    refine VC.s rfl (RVs.assign rfl rfl (fun _ => rfl) ?_)
    refine VC.nil (k5 ⟨30, [(0, _), (3, _)]⟩ _ ?_)
    refine CWp.seqK fun Kk6 k6 => ?_
    refine CWp.regionW [0, 3, 4] ?_
    refine VC.s rfl (RVs.assign rfl rfl (fun _ => rfl) ?_)
    refine VC.nil (k6 ⟨30, [(0, _), (3, _), (4, _)]⟩ _ ?_)
    refine CWp.seqK fun Kk7 k7 => ?_
    refine CWp.block ?_
    refine CWp.loopK (fun n T H' => ∃ (m : Nat) (out : List UInt8), T = ⟨30, [(0, .int .i64 (m : Int)), (3, .bool false), (4, .string (bs out))]⟩ ∧ n = m ∧ (digs k.toNat = digs m ++ out) ∧ (m ≤ k.toNat) ∧ H <+: H') (n := k.toNat) ⟨k.toNat, [], by rw [Int.toNat_of_nonneg h0, decide_eq_false (by omega)]; rfl, by first | rfl | simp, by simp, by omega, List.prefix_refl _⟩ ?_
    rintro n T Hl1 Kk8 k8 ⟨m, out, rfl, hn1, hd, hm, pl1⟩
    have p1 := (List.prefix_refl H).trans pl1
    refine CWp.seqK fun Kk9 k9 => ?_
    refine CWp.seqK fun Kk10 k10 => ?_
    refine CWp.regionW [0, 3, 4, 11] ?_
    refine VC.s rfl (RVs.move rfl rfl (fun _ => rfl) ?_)
    refine VC.s rfl (RVs.bin rfl rfl rfl rfl (fun _ => ⟨⟨rfl, rfl⟩, rfl⟩) ?_)
    refine VC.nil (k10 ⟨30, [(0, _), (3, _), (4, _), (11, _)]⟩ _ ?_)
    refine CWp.condV rfl (fun hc2 => ?_) (fun hc2 => ?_)
    · try simp at hc2
      refine CWp.skip ?_
      refine k9 _ _ ?_
      refine CWp.block ?_
      refine CWp.seqK fun Kk11 k11 => ?_
      refine CWp.regionW [0, 3, 4, 5] ?_
      refine VC.s rfl (RVs.move rfl rfl (fun _ => rfl) ?_)
      refine VC.s rfl (RVs.bin rfl rfl rfl rfl (fun _ => ⟨⟨rfl, rfl⟩, ⟨rfl, by omega⟩⟩) ?_)
      rw [show (m : Int).tmod 10 = ((m % 10 : Nat) : Int) from rfl]
      refine VC.s rfl (RVs.assign rfl rfl (fun _ => rfl) ?_)
      refine VC.nil (k11 ⟨30, [(0, _), (3, _), (4, _), (5, _)]⟩ _ ?_)
      refine CWp.seqK fun Kk12 k12 => ?_
      refine CWp.seqK fun Kk13 k13 => ?_
      refine CWp.regionW [0, 3, 4, 5, 15] ?_
      refine VC.s rfl (RVs.move rfl rfl (fun _ => rfl) ?_)
      refine VC.s rfl (RVs.bin rfl rfl rfl rfl (fun _ => ⟨⟨rfl, rfl⟩, rfl⟩) ?_)
      refine VC.nil (k13 ⟨30, [(0, _), (3, _), (4, _), (5, _), (15, _)]⟩ _ ?_)
      refine CWp.condV rfl (fun hc3 => ?_) (fun hc3 => ?_)
      · exact absurd (of_decide_eq_true hc3) (by omega)
      · try simp at hc3
        refine CWp.skip ?_
        refine k12 _ _ ?_
        refine CWp.seqK fun Kk14 k14 => ?_
        refine CWp.regionW [0, 3, 4] ?_
        refine VC.s rfl (RVs.move rfl rfl (fun _ => rfl) ?_)
        refine VC.s rfl (RVs.callp rfl rfl rfl (fun _ => ⟨⟨rfl, rfl⟩, l01Figure _ _ (Nat.mod_lt _ (by decide))⟩) ?_)
        refine VC.s rfl (RVs.buildS ElemOf.h ZeroOf.h rfl rfl rfl (by decide) rfl rfl rfl ?_)
        intro b1 H1 g1 l1 a1
        have lo1 := Nat.le_trans (List.IsPrefix.length_le p1) l1
        have ls1 := Nat.le_trans (List.IsPrefix.length_le (List.prefix_refl Hl1)) l1
        have sn1 := List.IsPrefix.trans (List.prefix_refl Hl1) g1
        have p2 := p1.trans g1
        refine VC.s rfl (RVs.text_of (l := [UInt8.ofNat (48 + m % 10)]) rfl UnSl.h UnStr.h UnInt.h rfl rfl (fun _ => ⟨rfl, .sl a1 rw_live (Nat.le_of_ble_eq_true rfl), rfl⟩) ?_)
        refine VC.s rfl (RVs.move rfl rfl (fun _ => rfl) ?_)
        refine VC.s rfl (RVs.bin rfl rfl rfl rfl (fun _ => ⟨⟨rfl, rfl⟩, by have := digs_len k.toNat; rw [hd] at this; simp at *; omega⟩) ?_)
        refine VC.s rfl (RVs.assign rfl rfl (fun _ => rfl) ?_)
        refine VC.nil (k14 ⟨30, [(0, _), (3, _), (4, _)]⟩ _ ?_)
        refine CWp.regionW [0, 3, 4] ?_
        refine VC.s rfl (RVs.move rfl rfl (fun _ => rfl) ?_)
        refine VC.s rfl (RVs.bin rfl rfl rfl rfl (fun _ => ⟨⟨rfl, rfl⟩, ⟨rfl, by omega⟩⟩) ?_)
        refine VC.s rfl (RVs.assign rfl rfl (fun _ => rfl) ?_)
        refine VC.nil (k8 _ ⟨30, [(0, _), (3, _), (4, _)]⟩ _ ?_ ⟨m / 10, UInt8.ofNat (48 + m % 10) :: out, by have hw : IntKind.i64.wrap ((m : Int).tdiv 10) = ((m / 10 : Nat) : Int) := wrap_in (n := ((m / 10 : Nat) : Int)) (by omega); rw [hw]; simp, rfl, by rw [hd, digs_pos (by omega), List.append_assoc]; rfl, by omega, pl1.trans sn1⟩)
        omega
    · try simp at hc2
      refine CWp.exit ?_
      refine k7 _ _ ?_
      refine CWp.seqK fun Kk15 k15 => ?_
      refine CWp.seqK fun Kk16 k16 => ?_
      refine CWp.regionW [4, 26] ?_
      refine VC.s rfl (RVs.move rfl rfl (fun _ => rfl) ?_)
      refine VC.nil (k16 ⟨30, [(4, _), (26, _)]⟩ _ ?_)
      refine CWp.condV rfl (fun hc4 => ?_) (fun hc4 => ?_)
      · exact absurd hc4 (by decide)
      · try simp at hc4
        refine CWp.skip ?_
        refine k15 _ _ ?_
        refine CWp.seqK fun Kk17 k17 => ?_
        refine CWp.regionW [2] ?_
        refine VC.s rfl (RVs.move rfl rfl (fun _ => rfl) ?_)
        refine VC.s rfl (RVs.assign rfl rfl (fun _ => rfl) ?_)
        refine VC.nil (k17 ⟨30, [(2, _)]⟩ _ ?_)
        refine CWp.ret (q _ _ _ (.cons (.tmp rfl) .nil) ?_).1
        exact ⟨by simp only [one, decL]; rw [if_neg hc1, if_neg (by omega), show k.natAbs = k.toNat by omega, hd, show m = 0 by omega, digs_zero]; rfl, p1⟩

theorem iDecimal (k : Int) (H : AH) (h0 : 0 ≤ k) (hk : k ≤ lim) : FWp Tryd.prog 23 [.int .i64 k] H (fun v' H' => v' = .string (bs (decL k)) ∧ H' = H) := by
  refine FWp.pure rfl fun H ph => ?_
  refine FWp.enterK Tryd.func23 rfl (by decide +kernel) rfl rfl fun Q q => ?_
  refine CWp.seqK fun Kk1 k1 => ?_
  refine CWp.regionW [0] ?_
  refine VC.s rfl (RVs.assign rfl rfl (fun _ => rfl) ?_)
  refine VC.nil (k1 ⟨5, [(0, _)]⟩ _ ?_)
  refine CWp.seqK fun Kk2 k2 => ?_
  refine CWp.regionW [2] ?_
  refine VC.s rfl (RVs.move rfl rfl (fun _ => rfl) ?_)
  refine VC.s rfl (RVs.callp rfl rfl rfl (fun _ => ⟨⟨rfl, rfl⟩, itoa _ _ h0 hk⟩) ?_)
  refine VC.s rfl (RVs.assign rfl rfl (fun _ => rfl) ?_)
  refine VC.nil (k2 ⟨5, [(2, _)]⟩ _ ?_)
  refine CWp.ret (q _ _ _ (.cons (.tmp rfl) .nil) ?_).1
  exact ⟨rfl, (List.prefix_refl H)⟩

theorem names_s  (H : AH) : FWp Tryd.prog 38 [] H (fun v' H' => ∃ a c, v' = .slice a flagNames.length c ∧ FreshP (pVal Kd.str.slice [.slice a flagNames.length c] flagNames) H H') := by
  refine FWp.enterK Tryd.func38 rfl (by decide +kernel) rfl rfl fun Q q => ?_
  have hs0 := Sep.nil (H := H)
  refine CWp.seqK fun Kk1 k1 => ?_
  refine CWp.regionW [] ?_
  refine VC.s rfl (RVs.assign rfl rfl (fun _ => rfl) ?_)
  refine VC.nil (k1 ⟨2, []⟩ _ ?_)
  refine CWp.seqK fun Kk2 k2 => ?_
  refine CWp.regionW [0] ?_
  refine VC.s rfl (RVs.buildS ElemOf.h ZeroOf.h rfl rfl rfl (by decide) rfl rfl rfl ?_)
  intro b1 H1 g1 l1 a1
  have hs1 := Sep.addO (k := Kd.str) (xs := flagNames) str_Flat hs0 g1 l1 a1 (strs_Rs flagNames (by decide)) rfl (by decide)
  refine VC.s rfl (RVs.assign rfl rfl (fun _ => rfl) ?_)
  refine VC.nil (k2 ⟨2, [(0, _)]⟩ _ ?_)
  refine CWp.ret (q _ _ _ (.cons (.tmp rfl) .nil) ?_).1
  exact ⟨_, _, rfl, (FreshP.slice (Sep.fresh (i := 0) hs1 rfl))⟩

theorem names_i  (H : AH) : FWp Tryd.prog 47 [] H (fun v' H' => ∃ a c, v' = .slice a flagNames.length c ∧ FreshP (pVal Kd.str.slice [.slice a flagNames.length c] flagNames) H H') := by
  refine FWp.enterK Tryd.func47 rfl (by decide +kernel) rfl rfl fun Q q => ?_
  have hs0 := Sep.nil (H := H)
  refine CWp.seqK fun Kk1 k1 => ?_
  refine CWp.regionW [] ?_
  refine VC.s rfl (RVs.assign rfl rfl (fun _ => rfl) ?_)
  refine VC.nil (k1 ⟨2, []⟩ _ ?_)
  refine CWp.seqK fun Kk2 k2 => ?_
  refine CWp.regionW [0] ?_
  refine VC.s rfl (RVs.buildS ElemOf.h ZeroOf.h rfl rfl rfl (by decide) rfl rfl rfl ?_)
  intro b1 H1 g1 l1 a1
  have hs1 := Sep.addO (k := Kd.str) (xs := flagNames) str_Flat hs0 g1 l1 a1 (strs_Rs flagNames (by decide)) rfl (by decide)
  refine VC.s rfl (RVs.assign rfl rfl (fun _ => rfl) ?_)
  refine VC.nil (k2 ⟨2, [(0, _)]⟩ _ ?_)
  refine CWp.ret (q _ _ _ (.cons (.tmp rfl) .nil) ?_).1
  exact ⟨_, _, rfl, (FreshP.slice (Sep.fresh (i := 0) hs1 rfl))⟩

theorem sFlagsText (bits : Int) (H : AH) : FWp Tryd.prog 19 [.int .i64 bits] H (fun v' H' => v' = .string (bs (flagsText bits)) ∧ H' = H) := by
  refine FWp.pure rfl fun H ph => ?_
  have hfl : flagNames.length = 5 := rfl
  refine FWp.enterK Tryd.func19 rfl (by decide +kernel) rfl rfl fun Q q => ?_
  have hs0 := Sep.nil (H := H)
  refine CWp.seqK fun Kk1 k1 => ?_
  refine CWp.regionW [0] ?_
  refine VC.s rfl (RVs.assign rfl rfl (fun _ => rfl) ?_)
  refine VC.nil (k1 ⟨37, [(0, _)]⟩ _ ?_)
  refine CWp.seqK fun Kk2 k2 => ?_
  refine CWp.seqK fun Kk3 k3 => ?_
  refine CWp.regionW [0, 9] ?_
  refine VC.s rfl (RVs.move rfl rfl (fun _ => rfl) ?_)
  refine VC.s rfl (RVs.callp rfl rfl rfl (fun _ => ⟨⟨rfl, rfl⟩, sFlagsOk _ _⟩) ?_)
  refine VC.s rfl (RVs.not rfl rfl (fun _ => rfl) ?_)
  refine VC.nil (k3 ⟨37, [(0, _), (9, _)]⟩ _ ?_)
  refine CWp.condV rfl (fun hc1 => ?_) (fun hc1 => ?_)
  · simp at hc1
    refine CWp.seqK fun Kk4 k4 => ?_
    refine CWp.regionW [2] ?_
    refine VC.s rfl (RVs.assign rfl rfl (fun _ => rfl) ?_)
    refine VC.nil (k4 ⟨37, [(2, _)]⟩ _ ?_)
    refine CWp.ret (q _ _ _ (.cons (.tmp rfl) .nil) ?_).1
    exact ⟨by simp only [one, flagsText]; rw [if_neg (by omega)]; rfl, (hs0.pre)⟩
  · have hfb : 0 ≤ bits ∧ bits ≤ 31 := by simpa using hc1
    have hb32 : bits.toNat < 32 := by omega
    refine CWp.skip ?_
    refine k2 _ _ ?_
    refine CWp.seqK fun Kk5 k5 => ?_
    refine CWp.regionW [0, 3] ?_
    refine VC.s rfl (RVs.assign rfl rfl (fun _ => rfl) ?_)
    refine VC.nil (k5 ⟨37, [(0, _), (3, _)]⟩ _ ?_)
    refine CWp.seqK fun Kk6 k6 => ?_
    refine CWp.regionW [0, 3, 4] ?_
    refine VC.s rfl (RVs.call rfl rfl rfl rfl ⟨rfl, rfl⟩ (names_s _) (.inr fun _ _ h => h.elim fun _ h => h.elim fun _ h => h.2.1) ?_)
    rintro v1 H1 ⟨an, cn, rfl, f1⟩
    have g1 := (f1).1
    have hs1 := Sep.addP hs0 (f1)
    refine VC.s rfl (RVs.assign rfl rfl (fun _ => rfl) ?_)
    refine VC.nil (k6 ⟨37, [(0, _), (3, _), (4, _)]⟩ _ ?_)
    refine CWp.seqK fun Kk7 k7 => ?_
    refine CWp.regionW [0, 3, 4, 5] ?_
    refine VC.s rfl (RVs.assign rfl rfl (fun _ => rfl) ?_)
    refine VC.nil (k7 ⟨37, [(0, _), (3, _), (4, _), (5, _)]⟩ _ ?_)
    refine CWp.seqK fun Kk8 k8 => ?_
    refine CWp.seqK fun Kk9 k9 => ?_
    refine CWp.regionW [0, 3, 4, 5, 6] ?_
    refine VC.s rfl (RVs.assign rfl rfl (fun _ => rfl) ?_)
    refine VC.nil (k9 ⟨37, [(0, _), (3, _), (4, _), (5, _), (6, _)]⟩ _ ?_)
    refine CWp.block ?_
    refine CWp.loopK (fun n T H' => ∃ i : Nat, T = ⟨37, [(0, .int .i64 bits), (3, .string (bs (flagJ bits.toNat i))), (4, .slice an flagNames.length cn), (5, .int .i64 ((2 ^ i : Nat) : Int)), (6, .int .i64 (i : Int))]⟩ ∧ n = 5 - i ∧ (i ≤ 5) ∧ H1 <+: H') (n := 5) ⟨0, rfl, by first | rfl | simp, by omega, List.prefix_refl _⟩ ?_
    rintro n T Hl1 Kk10 k10 ⟨i, rfl, hn1, hi, hs2⟩
    have hs3 := Sep.grow hs1 hs2
    have hs4 := Sep.nil (H := Hl1)
    refine CWp.seqK fun Kk11 k11 => ?_
    refine CWp.seqK fun Kk12 k12 => ?_
    refine CWp.regionW [0, 3, 4, 5, 6, 14] ?_
    refine VC.s rfl (RVs.move rfl rfl (fun _ => rfl) ?_)
    refine VC.s rfl (RVs.move rfl rfl (fun _ => rfl) ?_)
    refine VC.s rfl (RVs.len_slice rfl UnSl.h rfl (fun _ => rfl) ?_)
    refine VC.s rfl (RVs.bin rfl rfl rfl rfl (fun _ => ⟨⟨rfl, rfl⟩, rfl⟩) ?_)
    refine VC.nil (k12 ⟨37, [(0, _), (3, _), (4, _), (5, _), (6, _), (14, _)]⟩ _ ?_)
    refine CWp.condV rfl (fun hc2 => ?_) (fun hc2 => ?_)
    · have hi5 : i < 5 := by have := of_decide_eq_true hc2; omega
      refine CWp.skip ?_
      refine k11 _ _ ?_
      refine CWp.seqK fun Kk13 k13 => ?_
      refine CWp.block ?_
      refine CWp.seqK fun Kk14 k14 => ?_
      refine CWp.seqK fun Kk15 k15 => ?_
      refine CWp.regionW [0, 3, 4, 5, 6, 21] ?_
      refine VC.s rfl (RVs.move rfl rfl (fun _ => rfl) ?_)
      refine VC.s rfl (RVs.move rfl rfl (fun _ => rfl) ?_)
      refine VC.s rfl (RVs.arith (r := ((bits.toNat / 2 ^ i : Nat) : Int)) rfl rfl rfl (flag_quo hfb hi5) rfl (fun _ => ⟨⟨rfl, rfl⟩, ⟨rfl, by have := Nat.two_pow_pos i; omega⟩⟩) ?_)
      refine VC.s rfl (RVs.bin rfl rfl rfl rfl (fun _ => ⟨⟨rfl, rfl⟩, ⟨rfl, by decide⟩⟩) ?_)
      refine VC.s rfl (RVs.bin rfl rfl rfl rfl (fun _ => ⟨⟨rfl, rfl⟩, rfl⟩) ?_)
      refine VC.nil (k15 ⟨37, [(0, _), (3, _), (4, _), (5, _), (6, _), (21, _)]⟩ _ ?_)
      refine CWp.condV rfl (fun hc3 => ?_) (fun hc3 => ?_)
      · have hbit : (bits.toNat / 2 ^ i) % 2 = 1 := by have h9 := of_decide_eq_true hc3; rw [show Int.tmod ((bits.toNat / 2 ^ i : Nat) : Int) 2 = (((bits.toNat / 2 ^ i) % 2 : Nat) : Int) from rfl] at h9; omega
        refine CWp.seqK fun Kk16 k16 => ?_
        refine CWp.seqK fun Kk17 k17 => ?_
        refine CWp.regionW [0, 3, 4, 5, 6, 23] ?_
        refine VC.s rfl (RVs.move rfl rfl (fun _ => rfl) ?_)
        refine VC.s rfl (RVs.bin rfl rfl rfl rfl (fun _ => ⟨⟨rfl, rfl⟩, trivial⟩) ?_)
        refine VC.nil (k17 ⟨37, [(0, _), (3, _), (4, _), (5, _), (6, _), (23, _)]⟩ _ ?_)
        refine CWp.condV rfl (fun hc4 => ?_) (fun hc4 => ?_)
        · have hne : ¬ flagJ bits.toNat i = [] := by simpa using hc4
          have hst := flagJ_yes hb32 hi5 hbit
          rw [if_neg hne] at hst
          refine CWp.regionW [0, 3, 4, 5, 6] ?_
          refine VC.s rfl (RVs.move rfl rfl (fun _ => rfl) ?_)
          refine VC.s rfl (RVs.bin rfl rfl rfl rfl (fun _ => ⟨⟨rfl, rfl⟩, by have := flagJ_len hb32 (Nat.le_of_lt hi5); simp; omega⟩) ?_)
          refine VC.s rfl (RVs.assign rfl rfl (fun _ => rfl) ?_)
          refine VC.nil (k16 ⟨37, [(0, _), (3, _), (4, _), (5, _), (6, _)]⟩ _ ?_)
          refine CWp.regionW [0, 3, 4, 5, 6] ?_
          refine VC.s rfl (RVs.move rfl rfl (fun _ => rfl) ?_)
          refine VC.s rfl (RVs.move rfl rfl (fun _ => rfl) ?_)
          refine VC.s rfl (RVs.move rfl rfl (fun _ => rfl) ?_)
          refine VC.s rfl (RVs.indexS rfl (Kd.S.mono (hle (hs4.pre)) (Sep.VS (i := 0) hs3 rfl)) rfl ElemOf.h rfl (fun _ => ⟨⟨rfl, rfl⟩, by omega, by omega⟩) ?_)
          intro id1 j1 u1 B1 e1
          obtain ⟨y1, hy1, e1⟩ := e1 rfl
          try simp only [Int.toNat_natCast] at hy1
          obtain ⟨rfl, hwy1⟩ := e1.r
          refine VC.s rfl (RVs.loadF (k := Kd.str) (f := 0) rfl TyOf.h rfl (fun _ => ⟨rfl, e1, by decide, rfl⟩) ?_)
          refine VC.s rfl (RVs.bin rfl rfl rfl rfl (fun _ => ⟨⟨rfl, rfl⟩, by have := flagJ_len hb32 (Nat.le_of_lt hi5); have := (flagName_get ‹flagNames[i]? = some _›).2.1; simp; omega⟩) ?_)
          refine VC.s rfl (RVs.assign rfl rfl (fun _ => rfl) ?_)
          refine VC.nil (k14 ⟨37, [(0, _), (3, _), (4, _), (5, _), (6, _)]⟩ _ ?_)
          refine CWp.regionW [0, 3, 4, 5, 6] ?_
          refine VC.s rfl (RVs.move rfl rfl (fun _ => rfl) ?_)
          refine VC.s rfl (RVs.arith (r := ((2 ^ (i + 1) : Nat) : Int)) rfl rfl rfl (pow_succ2 hi5) rfl (fun _ => ⟨⟨rfl, rfl⟩, rfl⟩) ?_)
          refine VC.s rfl (RVs.assign rfl rfl (fun _ => rfl) ?_)
          refine VC.nil (k13 ⟨37, [(0, _), (3, _), (4, _), (5, _), (6, _)]⟩ _ ?_)
          refine CWp.regionW [0, 3, 4, 5, 6] ?_
          refine VC.s rfl (RVs.move rfl rfl (fun _ => rfl) ?_)
          refine VC.s rfl (RVs.arith (r := ((i + 1 : Nat) : Int)) rfl rfl rfl (by (try simp only [bl_bs]); first | exact wrap_in (by omega) | (rw [wrap_in (by omega)]; omega)) rfl (fun _ => ⟨⟨rfl, rfl⟩, rfl⟩) ?_)
          refine VC.s rfl (RVs.assign rfl rfl (fun _ => rfl) ?_)
          refine VC.nil (k10 _ ⟨37, [(0, _), (3, _), (4, _), (5, _), (6, _)]⟩ _ ?_ ⟨i + 1, by first | (rw [hst]; done) | (rw [hst]; rfl) | (rw [hst, (flagName_get ‹flagNames[i]? = some _›).1]; simp only [bl_bs]; rfl) | (rw [hst, (flagName_get ‹flagNames[i]? = some _›).1]; simp only [bl_bs, hne]; done) | (rw [hst, (flagName_get ‹flagNames[i]? = some _›).1]; simp only [bl_bs, hne]; rfl), rfl, by omega, List.IsPrefix.trans hs2 hs4.pre⟩)
          omega
        · have hne : flagJ bits.toNat i = [] := by simpa using hc4
          have hst := flagJ_yes hb32 hi5 hbit
          rw [if_pos hne] at hst
          refine CWp.skip ?_
          refine k16 _ _ ?_
          refine CWp.regionW [0, 3, 4, 5, 6] ?_
          refine VC.s rfl (RVs.move rfl rfl (fun _ => rfl) ?_)
          refine VC.s rfl (RVs.move rfl rfl (fun _ => rfl) ?_)
          refine VC.s rfl (RVs.move rfl rfl (fun _ => rfl) ?_)
          refine VC.s rfl (RVs.indexS rfl (Kd.S.mono (hle (hs4.pre)) (Sep.VS (i := 0) hs3 rfl)) rfl ElemOf.h rfl (fun _ => ⟨⟨rfl, rfl⟩, by omega, by omega⟩) ?_)
          intro id2 j2 u2 B2 e2
          obtain ⟨y2, hy2, e2⟩ := e2 rfl
          try simp only [Int.toNat_natCast] at hy2
          obtain ⟨rfl, hwy2⟩ := e2.r
          refine VC.s rfl (RVs.loadF (k := Kd.str) (f := 0) rfl TyOf.h rfl (fun _ => ⟨rfl, e2, by decide, rfl⟩) ?_)
          refine VC.s rfl (RVs.bin rfl rfl rfl rfl (fun _ => ⟨⟨rfl, rfl⟩, by have := flagJ_len hb32 (Nat.le_of_lt hi5); have := (flagName_get ‹flagNames[i]? = some _›).2.1; simp; omega⟩) ?_)
          refine VC.s rfl (RVs.assign rfl rfl (fun _ => rfl) ?_)
          refine VC.nil (k14 ⟨37, [(0, _), (3, _), (4, _), (5, _), (6, _)]⟩ _ ?_)
          refine CWp.regionW [0, 3, 4, 5, 6] ?_
          refine VC.s rfl (RVs.move rfl rfl (fun _ => rfl) ?_)
          refine VC.s rfl (RVs.arith (r := ((2 ^ (i + 1) : Nat) : Int)) rfl rfl rfl (pow_succ2 hi5) rfl (fun _ => ⟨⟨rfl, rfl⟩, rfl⟩) ?_)
          refine VC.s rfl (RVs.assign rfl rfl (fun _ => rfl) ?_)
          refine VC.nil (k13 ⟨37, [(0, _), (3, _), (4, _), (5, _), (6, _)]⟩ _ ?_)
          refine CWp.regionW [0, 3, 4, 5, 6] ?_
          refine VC.s rfl (RVs.move rfl rfl (fun _ => rfl) ?_)
          refine VC.s rfl (RVs.arith (r := ((i + 1 : Nat) : Int)) rfl rfl rfl (by (try simp only [bl_bs]); first | exact wrap_in (by omega) | (rw [wrap_in (by omega)]; omega)) rfl (fun _ => ⟨⟨rfl, rfl⟩, rfl⟩) ?_)
          refine VC.s rfl (RVs.assign rfl rfl (fun _ => rfl) ?_)
          refine VC.nil (k10 _ ⟨37, [(0, _), (3, _), (4, _), (5, _), (6, _)]⟩ _ ?_ ⟨i + 1, by first | (rw [hst]; done) | (rw [hst]; rfl) | (rw [hst, (flagName_get ‹flagNames[i]? = some _›).1]; simp only [bl_bs]; rfl) | (rw [hst, (flagName_get ‹flagNames[i]? = some _›).1]; simp only [bl_bs, hne]; done) | (rw [hst, (flagName_get ‹flagNames[i]? = some _›).1]; simp only [bl_bs, hne]; rfl), rfl, by omega, List.IsPrefix.trans hs2 hs4.pre⟩)
          omega
      · have hst := flagJ_no (b := bits.toNat) (i := i) (fun h => of_decide_eq_false hc3 (by rw [show Int.tmod ((bits.toNat / 2 ^ i : Nat) : Int) 2 = (((bits.toNat / 2 ^ i) % 2 : Nat) : Int) from rfl]; omega))
        refine CWp.skip ?_
        refine k14 _ _ ?_
        refine CWp.regionW [0, 3, 4, 5, 6] ?_
        refine VC.s rfl (RVs.move rfl rfl (fun _ => rfl) ?_)
        refine VC.s rfl (RVs.arith (r := ((2 ^ (i + 1) : Nat) : Int)) rfl rfl rfl (pow_succ2 hi5) rfl (fun _ => ⟨⟨rfl, rfl⟩, rfl⟩) ?_)
        refine VC.s rfl (RVs.assign rfl rfl (fun _ => rfl) ?_)
        refine VC.nil (k13 ⟨37, [(0, _), (3, _), (4, _), (5, _), (6, _)]⟩ _ ?_)
        refine CWp.regionW [0, 3, 4, 5, 6] ?_
        refine VC.s rfl (RVs.move rfl rfl (fun _ => rfl) ?_)
        refine VC.s rfl (RVs.arith (r := ((i + 1 : Nat) : Int)) rfl rfl rfl (by (try simp only [bl_bs]); first | exact wrap_in (by omega) | (rw [wrap_in (by omega)]; omega)) rfl (fun _ => ⟨⟨rfl, rfl⟩, rfl⟩) ?_)
        refine VC.s rfl (RVs.assign rfl rfl (fun _ => rfl) ?_)
        refine VC.nil (k10 _ ⟨37, [(0, _), (3, _), (4, _), (5, _), (6, _)]⟩ _ ?_ ⟨i + 1, by first | (rw [hst]; done) | (rw [hst]; rfl) | (rw [hst, (flagName_get ‹flagNames[i]? = some _›).1]; simp only [bl_bs]; rfl) | (rw [hst, (flagName_get ‹flagNames[i]? = some _›).1]; simp only [bl_bs, hne]; done) | (rw [hst, (flagName_get ‹flagNames[i]? = some _›).1]; simp only [bl_bs, hne]; rfl), rfl, by omega, List.IsPrefix.trans hs2 hs4.pre⟩)
        omega
    · skip
      refine CWp.exit ?_
      refine k8 _ _ ?_
      refine CWp.seqK fun Kk18 k18 => ?_
      refine CWp.regionW [2] ?_
      refine VC.s rfl (RVs.move rfl rfl (fun _ => rfl) ?_)
      refine VC.s rfl (RVs.bin rfl rfl rfl rfl (fun _ => ⟨⟨rfl, rfl⟩, by have := flagJ_len hb32 hi; simp; omega⟩) ?_)
      refine VC.s rfl (RVs.bin rfl rfl rfl rfl (fun _ => ⟨⟨rfl, rfl⟩, by have := flagJ_len hb32 hi; simp; omega⟩) ?_)
      refine VC.s rfl (RVs.assign rfl rfl (fun _ => rfl) ?_)
      refine VC.nil (k18 ⟨37, [(2, _)]⟩ _ ?_)
      refine CWp.ret (q _ _ _ (.cons (.tmp rfl) .nil) ?_).1
      have hi5 : i = 5 := by have := of_decide_eq_false hc2; omega
      subst hi5
      exact ⟨by simp only [one, flagsText, bl_bs]; rw [if_pos hfb]; first | done | rfl, (List.IsPrefix.trans hs3.pre (hs4.pre))⟩

theorem iFlagsText (bits : Int) (H : AH) : FWp Tryd.prog 24 [.int .i64 bits] H (fun v' H' => v' = .string (bs (flagsText bits)) ∧ H' = H) := by
  refine FWp.pure rfl fun H ph => ?_
  have hfl : flagNames.length = 5 := rfl
  refine FWp.enterK Tryd.func24 rfl (by decide +kernel) rfl rfl fun Q q => ?_
  have hs0 := Sep.nil (H := H)
  refine CWp.seqK fun Kk1 k1 => ?_
  refine CWp.regionW [0] ?_
  refine VC.s rfl (RVs.assign rfl rfl (fun _ => rfl) ?_)
  refine VC.nil (k1 ⟨31, [(0, _)]⟩ _ ?_)
  refine CWp.seqK fun Kk2 k2 => ?_
  refine CWp.seqK fun Kk3 k3 => ?_
  refine CWp.regionW [0, 8] ?_
  refine VC.s rfl (RVs.move rfl rfl (fun _ => rfl) ?_)
  refine VC.s rfl (RVs.callp rfl rfl rfl (fun _ => ⟨⟨rfl, rfl⟩, iFlagsOk _ _⟩) ?_)
  refine VC.s rfl (RVs.not rfl rfl (fun _ => rfl) ?_)
  refine VC.nil (k3 ⟨31, [(0, _), (8, _)]⟩ _ ?_)
  refine CWp.condV rfl (fun hc1 => ?_) (fun hc1 => ?_)
  · simp at hc1
    refine CWp.seqK fun Kk4 k4 => ?_
    refine CWp.regionW [2] ?_
    refine VC.s rfl (RVs.assign rfl rfl (fun _ => rfl) ?_)
    refine VC.nil (k4 ⟨31, [(2, _)]⟩ _ ?_)
    refine CWp.ret (q _ _ _ (.cons (.tmp rfl) .nil) ?_).1
    exact ⟨by simp only [one, flagsText]; rw [if_neg (by omega)]; rfl, (hs0.pre)⟩
  · have hfb : 0 ≤ bits ∧ bits ≤ 31 := by simpa using hc1
    have hb32 : bits.toNat < 32 := by omega
    refine CWp.skip ?_
    refine k2 _ _ ?_
    refine CWp.seqK fun Kk5 k5 => ?_
    refine CWp.regionW [0, 3] ?_
    refine VC.s rfl (RVs.buildS ElemOf.h ZeroOf.h rfl rfl rfl (by decide) rfl rfl rfl ?_)
    intro b1 H1 g1 l1 a1
    have hs1 := Sep.addE (k := Kd.str) hs0 g1 l1 a1 rfl
    refine VC.s rfl (RVs.assign rfl rfl (fun _ => rfl) ?_)
    refine VC.nil (k5 ⟨31, [(0, _), (3, _)]⟩ _ ?_)
    refine CWp.seqK fun Kk6 k6 => ?_
    refine CWp.seqK fun Kk7 k7 => ?_
    refine CWp.regionW [0, 3, 10, 11, 12] ?_
    refine VC.s rfl (RVs.call rfl rfl rfl rfl ⟨rfl, rfl⟩ (names_i _) (.inr fun _ _ h => h.elim fun _ h => h.elim fun _ h => h.2.1) ?_)
    rintro v1 H2 ⟨an, cn, rfl, f1⟩
    have g2 := (f1).1
    have hs2 := Sep.addP hs1 (f1)
    refine VC.s rfl (RVs.len_slice rfl UnSl.h rfl (fun _ => rfl) ?_)
    refine VC.s rfl (RVs.move rfl rfl (fun _ => rfl) ?_)
    refine VC.nil (k7 ⟨31, [(0, _), (3, _), (10, _), (11, _), (12, _)]⟩ _ ?_)
    refine CWp.block ?_
    refine CWp.loopK (fun n T H' => ∃ (i : Nat) (ao : Option Addr) (co : Nat), T = ⟨31, [(0, .int .i64 bits), (3, .slice ao (flagSel bits.toNat i).length co), (10, .slice an flagNames.length cn), (11, .int .i64 5), (12, .int .i64 (i : Int))]⟩ ∧ n = 5 - i ∧ (i ≤ 5) ∧ Sep [] H H' [pVal Kd.str.slice [.slice an flagNames.length cn] flagNames, pOwn Kd.str 9 (.slice ao (flagSel bits.toNat i).length co) (flagSel bits.toNat i)]) (n := 5) ⟨0, _, _, rfl, by first | rfl | simp, by omega, hs2⟩ ?_
    rintro n T Hl1 Kk8 k8 ⟨i, ao, co, rfl, hn1, hi, hs3⟩
    refine CWp.seqK fun Kk9 k9 => ?_
    refine CWp.regionW [0, 3, 10, 11, 12, 13] ?_
    refine VC.s rfl (RVs.bin rfl rfl rfl rfl (fun _ => ⟨⟨rfl, rfl⟩, rfl⟩) ?_)
    refine VC.nil (k9 ⟨31, [(0, _), (3, _), (10, _), (11, _), (12, _), (13, _)]⟩ _ ?_)
    refine CWp.seqK fun Kk10 k10 => ?_
    refine CWp.condV rfl (fun hc2 => ?_) (fun hc2 => ?_)
    · have hi5 : i < 5 := by have := of_decide_eq_true hc2; omega
      refine CWp.skip ?_
      refine k10 _ _ ?_
      refine CWp.seqK fun Kk11 k11 => ?_
      refine CWp.block ?_
      refine CWp.seqK fun Kk12 k12 => ?_
      refine CWp.regionW [0, 3, 4, 5, 10, 11, 12] ?_
      refine VC.s rfl (RVs.move rfl rfl (fun _ => rfl) ?_)
      refine VC.s rfl (RVs.indexS rfl (Sep.VS (i := 0) hs3 rfl) rfl ElemOf.h rfl (fun _ => ⟨⟨rfl, rfl⟩, by omega, by omega⟩) ?_)
      intro id1 j1 u1 B1 e1
      obtain ⟨y1, hy1, e1⟩ := e1 rfl
      try simp only [Int.toNat_natCast] at hy1
      obtain ⟨rfl, hwy1⟩ := e1.r
      refine VC.s rfl (RVs.loadF (k := Kd.str) (f := 0) rfl TyOf.h rfl (fun _ => ⟨rfl, e1, by decide, rfl⟩) ?_)
      refine VC.s rfl (RVs.assign rfl rfl (fun _ => rfl) ?_)
      refine VC.s rfl (RVs.assign rfl rfl (fun _ => rfl) ?_)
      refine VC.nil (k12 ⟨31, [(0, _), (3, _), (4, _), (5, _), (10, _), (11, _), (12, _)]⟩ _ ?_)
      refine CWp.seqK fun Kk13 k13 => ?_
      refine CWp.regionW [0, 3, 5, 10, 11, 12, 21] ?_
      refine VC.s rfl (RVs.move rfl rfl (fun _ => rfl) ?_)
      refine VC.s rfl (RVs.move rfl rfl (fun _ => rfl) ?_)
      refine VC.s rfl (RVs.bin rfl rfl rfl rfl (fun _ => ⟨⟨rfl, rfl⟩, by omega⟩) ?_)
      refine VC.s rfl (RVs.bin rfl rfl rfl rfl (fun _ => ⟨⟨rfl, rfl⟩, rfl⟩) ?_)
      refine VC.s rfl (RVs.bin rfl rfl rfl rfl (fun _ => ⟨⟨rfl, rfl⟩, rfl⟩) ?_)
      refine VC.nil (k13 ⟨31, [(0, _), (3, _), (5, _), (10, _), (11, _), (12, _), (21, _)]⟩ _ ?_)
      refine CWp.condV rfl (fun hc3 => ?_) (fun hc3 => ?_)
      · have h9 := (flag_bit hfb hi5).symm.trans hc3
        have hst := flagSel_step bits.toNat i
        rw [if_pos (of_decide_eq_true h9), (flagName_get hy1).1] at hst
        refine CWp.regionW [0, 3, 10, 11, 12] ?_
        refine VC.s rfl (RVs.move rfl rfl (fun _ => rfl) ?_)
        refine VC.s rfl (RVs.move rfl rfl (fun _ => rfl) ?_)
        refine VC.s rfl (RVs.buildS ElemOf.h ZeroOf.h rfl rfl rfl (by decide) rfl rfl rfl ?_)
        intro b2 H3 g3 l2 a2
        have hs4 := Sep.grow hs3 g3
        refine VC.s rfl (RVs.appendZ (k := Kd.str) (zs := flagSel bits.toNat (i + 1)) str_Flat (i := 1) hs4 rfl rfl rfl ElemOf.h ElOk.h UnSl.h rfl rfl rfl ⟨rfl, rfl⟩ (lit_S (k := Kd.str) (xs := [y1]) a2 (Kd.Rs.one ⟨rfl, hwy1⟩) rfl (by decide)) (hst.symm) (small_of (by have := flagSel_len bits.toNat i; simp; omega) (by decide)) ?_)
        intro ad1 cp1 H4 hcp1 hs5
        have hoo : True := trivial
        refine VC.s rfl (RVs.assign rfl rfl (fun _ => rfl) ?_)
        refine VC.nil (k11 ⟨31, [(0, _), (3, _), (10, _), (11, _), (12, _)]⟩ _ ?_)
        refine CWp.regionW [0, 3, 10, 11, 12] ?_
        refine VC.s rfl (RVs.arith (r := ((i + 1 : Nat) : Int)) rfl rfl rfl (by (try simp only [bl_bs]); first | exact wrap_in (by omega) | (rw [wrap_in (by omega)]; omega)) rfl (fun _ => ⟨⟨rfl, rfl⟩, rfl⟩) ?_)
        refine VC.s rfl (RVs.move rfl rfl (fun _ => rfl) ?_)
        refine VC.nil (k8 _ ⟨31, [(0, _), (3, _), (10, _), (11, _), (12, _)]⟩ _ ?_ ⟨i + 1, _, _, by first | rfl | (rw [hst]; done) | (rw [hst]; rfl), rfl, by omega, by first | exact hs5 | (rw [hst]; exact hs5)⟩)
        omega
      · have h9 := (flag_bit hfb hi5).symm.trans hc3
        have hst := flagSel_step bits.toNat i
        rw [if_neg (of_decide_eq_false h9)] at hst
        refine CWp.skip ?_
        refine k11 _ _ ?_
        refine CWp.regionW [0, 3, 10, 11, 12] ?_
        refine VC.s rfl (RVs.arith (r := ((i + 1 : Nat) : Int)) rfl rfl rfl (by (try simp only [bl_bs]); first | exact wrap_in (by omega) | (rw [wrap_in (by omega)]; omega)) rfl (fun _ => ⟨⟨rfl, rfl⟩, rfl⟩) ?_)
        refine VC.s rfl (RVs.move rfl rfl (fun _ => rfl) ?_)
        refine VC.nil (k8 _ ⟨31, [(0, _), (3, _), (10, _), (11, _), (12, _)]⟩ _ ?_ ⟨i + 1, _, _, by first | rfl | (rw [hst]; done) | (rw [hst]; rfl), rfl, by omega, by first | exact hs3 | (rw [hst]; exact hs3)⟩)
        omega
    · skip
      refine CWp.exit ?_
      refine k6 _ _ ?_
      refine CWp.seqK fun Kk14 k14 => ?_
      refine CWp.regionW [2] ?_
      refine VC.s rfl (RVs.move rfl rfl (fun _ => rfl) ?_)
      refine VC.s rfl (RVs.callp rfl rfl rfl (fun _ => ⟨⟨rfl, rfl⟩, joinS _ _ [32] _ (Sep.S (i := 1) hs3 rfl) (by have := flagSel_len bits.toNat i; omega) (by have := flagJ_len hb32 hi; unfold flagJ at this; omega)⟩) ?_)
      refine VC.s rfl (RVs.bin rfl rfl rfl rfl (fun _ => ⟨⟨rfl, rfl⟩, by have := flagJ_len hb32 hi; unfold flagJ at this; simp; omega⟩) ?_)
      refine VC.s rfl (RVs.bin rfl rfl rfl rfl (fun _ => ⟨⟨rfl, rfl⟩, by have := flagJ_len hb32 hi; unfold flagJ at this; simp; omega⟩) ?_)
      refine VC.s rfl (RVs.assign rfl rfl (fun _ => rfl) ?_)
      refine VC.nil (k14 ⟨31, [(2, _)]⟩ _ ?_)
      refine CWp.ret (q _ _ _ (.cons (.tmp rfl) .nil) ?_).1
      have hi5 : i = 5 := by have := of_decide_eq_false hc2; omega
      subst hi5
      exact ⟨by simp only [one, flagsText, bl_bs]; rw [if_pos hfb]; first | done | rfl, (hs3.pre)⟩

theorem sShowBox (x : Box) (x_mails x_tombs : Value) (H : AH) (hS_x_mails : kMail.S H x_mails x.mails) (hS_x_tombs : kTomb.S H x_tombs x.tombs) (hb_x_name : x.name.length ≤ lim) : FWp Tryd.prog 6 [.agg #[.string (bs x.name), .int .i64 x.valid, .int .i64 x.next, .int .i64 x.mod, x_mails, x_tombs, .int .i64 x.horizon]] H (fun v' H' => v' = .string (bs (showBox x)) ∧ H' = H) := by
  refine FWp.pure rfl fun H ph => ?_
  replace hS_x_mails := hS_x_mails.mono (hle ph)
  replace hS_x_tombs := hS_x_tombs.mono (hle ph)
  have hS_x_mailsl := hS_x_mails.lim
  unfold lim at hS_x_mailsl
  obtain ⟨aa, ca, rfl, hS_x_mailsc⟩ := hS_x_mails.form
  refine FWp.enterK Tryd.func6 rfl (by decide +kernel) rfl rfl fun Q q => ?_
  have hs0 := Sep.nil (H := H)
  refine CWp.seqK fun Kk1 k1 => ?_
  refine CWp.regionW [1] ?_
  refine VC.s rfl (RVs.box rfl TyOf.h rfl rfl rfl ?_)
  intro b1 H1 g1 l1 a1
  have hs1 := Sep.addB hs0 g1 l1 a1
  refine VC.s rfl (RVs.assign rfl rfl (fun _ => rfl) ?_)
  refine VC.nil (k1 ⟨56, [(1, _)]⟩ _ ?_)
  refine CWp.seqK fun Kk2 k2 => ?_
  refine CWp.seqK fun Kk3 k3 => ?_
  refine CWp.regionW [1, 8] ?_
  refine VC.s rfl (RVs.load_agg rfl TyOf.h rfl (fun _ => ⟨rfl, (Sep.at_ (i := 0) hs1 rfl), rw_live, Nat.le_of_ble_eq_true rfl, rfl⟩) ?_)
  refine VC.s rfl (RVs.callp rfl rfl rfl (fun _ => ⟨⟨rfl, rfl⟩, sBoxOk _ _ _ _ (hS_x_mails.mono (hle (hs1.pre))) (hS_x_tombs.mono (hle (hs1.pre))) hb_x_name⟩) ?_)
  refine VC.s rfl (RVs.not rfl rfl (fun _ => rfl) ?_)
  refine VC.nil (k3 ⟨56, [(1, _), (8, _)]⟩ _ ?_)
  refine CWp.condV rfl (fun hc1 => ?_) (fun hc1 => ?_)
  · have hko : boxOk x = false := by simpa using hc1
    refine CWp.seqK fun Kk4 k4 => ?_
    refine CWp.regionW [2] ?_
    refine VC.s rfl (RVs.assign rfl rfl (fun _ => rfl) ?_)
    refine VC.nil (k4 ⟨56, [(2, _)]⟩ _ ?_)
    refine CWp.ret (q _ _ _ (.cons (.tmp rfl) .nil) ?_).1
    exact ⟨by simp only [one, showBox]; rw [if_neg (by simp [hko])]; rfl, (hs1.pre)⟩
  · have hko : boxOk x = true := by simpa using hc1
    obtain ⟨⟨q1, q2, q3, q4, q5⟩, q6, q7, q8⟩ := boxOk_facts hko
    have l1 := decL_lenB (n := x.valid) (by omega) (by omega)
    have l2 := decL_lenB (n := x.next) (by omega) (by omega)
    have l3 := decL_lenB (n := x.mod) (by omega) (by omega)
    refine CWp.skip ?_
    refine k2 _ _ ?_
    refine CWp.seqK fun Kk5 k5 => ?_
    refine CWp.regionDW [1, 3] [false, false, false, false, false, false, false, false, false, false, false, false, false, false, false, false, false, false, false] (by decide +kernel) ?_
    refine VC.s rfl (RVs.fieldAddr rfl FieldOf.h (by decide) rfl (fun _ => rfl) ?_)
    refine VC.s rfl (RVs.load rfl TyOf.h rfl (fun _ => ⟨rfl, (Sep.at_ (i := 0) hs1 rfl), rw_live, rfl⟩) ?_)
    refine VC.s rfl (RVs.bin rfl rfl rfl rfl (fun _ => ⟨⟨rfl, rfl⟩, by (try simp only [bl_bs, List.length_append]); (try simp); omega⟩) ?_)
    refine VC.s rfl (RVs.fieldAddr rfl FieldOf.h (by decide) rfl (fun _ => rfl) ?_)
    refine VC.s rfl (RVs.load rfl TyOf.h rfl (fun _ => ⟨rfl, (Sep.at_ (i := 0) hs1 rfl), rw_live, rfl⟩) ?_)
    refine VC.s rfl (RVs.callp rfl rfl rfl (fun _ => ⟨⟨rfl, rfl⟩, sDecimal _ _ (by omega) (by unfold lim; omega)⟩) ?_)
    refine VC.s rfl (RVs.bin rfl rfl rfl rfl (fun _ => ⟨⟨rfl, rfl⟩, by (try simp only [bl_bs, List.length_append]); (try simp); omega⟩) ?_)
    refine VC.s rfl (RVs.bin rfl rfl rfl rfl (fun _ => ⟨⟨rfl, rfl⟩, by (try simp only [bl_bs, List.length_append]); (try simp); omega⟩) ?_)
    refine VC.s rfl (RVs.fieldAddr rfl FieldOf.h (by decide) rfl (fun _ => rfl) ?_)
    refine VC.s rfl (RVs.load rfl TyOf.h rfl (fun _ => ⟨rfl, (Sep.at_ (i := 0) hs1 rfl), rw_live, rfl⟩) ?_)
    refine VC.s rfl (RVs.callp rfl rfl rfl (fun _ => ⟨⟨rfl, rfl⟩, sDecimal _ _ (by omega) (by unfold lim; omega)⟩) ?_)
    refine VC.s rfl (RVs.bin rfl rfl rfl rfl (fun _ => ⟨⟨rfl, rfl⟩, by (try simp only [bl_bs, List.length_append]); (try simp); omega⟩) ?_)
    refine VC.s rfl (RVs.bin rfl rfl rfl rfl (fun _ => ⟨⟨rfl, rfl⟩, by (try simp only [bl_bs, List.length_append]); (try simp); omega⟩) ?_)
    refine VC.s rfl (RVs.fieldAddr rfl FieldOf.h (by decide) rfl (fun _ => rfl) ?_)
    refine VC.s rfl (RVs.load rfl TyOf.h rfl (fun _ => ⟨rfl, (Sep.at_ (i := 0) hs1 rfl), rw_live, rfl⟩) ?_)
    refine VC.s rfl (RVs.callp rfl rfl rfl (fun _ => ⟨⟨rfl, rfl⟩, sDecimal _ _ (by omega) (by unfold lim; omega)⟩) ?_)
    refine VC.s rfl (RVs.bin rfl rfl rfl rfl (fun _ => ⟨⟨rfl, rfl⟩, by (try simp only [bl_bs, List.length_append]); (try simp); omega⟩) ?_)
    refine VC.s rfl (RVs.bin rfl rfl rfl rfl (fun _ => ⟨⟨rfl, rfl⟩, by (try simp only [bl_bs, List.length_append]); (try simp); omega⟩) ?_)
    refine VC.s rfl (RVs.assign rfl rfl (fun _ => rfl) ?_)
    refine VC.nil (k5 ⟨56, [(1, _), (3, _)]⟩ _ ?_)
    refine CWp.seqK fun Kk6 k6 => ?_
    refine CWp.seqK fun Kk7 k7 => ?_
    refine CWp.regionW [1, 3, 4] ?_
    refine VC.s rfl (RVs.assign rfl rfl (fun _ => rfl) ?_)
    refine VC.nil (k7 ⟨56, [(1, _), (3, _), (4, _)]⟩ _ ?_)
    refine CWp.block ?_
    refine CWp.loopK (fun n T H' => ∃ i : Nat, T = ⟨56, [(1, .pointer (some ⟨b1, 0, none⟩)), (3, .string (bs (showUp x i))), (4, .int .i64 (i : Int))]⟩ ∧ n = x.mails.length - i ∧ (i ≤ x.mails.length) ∧ ((showUp x i).length ≤ 40000 * (i + 1)) ∧ H1 <+: H') (n := x.mails.length) ⟨0, by rw [show showUp x 0 = showHead x from by simp [showUp]]; simp only [showHead, bl_bs]; first | done | rfl, by first | rfl | simp, by omega, by simp [showUp, showHead]; omega, List.prefix_refl _⟩ ?_
    rintro n T Hl1 Kk8 k8 ⟨i, rfl, hn1, hi, hlo, hs2⟩
    have hs3 := Sep.grow hs1 hs2
    have hs4 := Sep.nil (H := Hl1)
    refine CWp.seqK fun Kk9 k9 => ?_
    refine CWp.seqK fun Kk10 k10 => ?_
    refine CWp.regionW [1, 3, 4, 31] ?_
    refine VC.s rfl (RVs.move rfl rfl (fun _ => rfl) ?_)
    refine VC.s rfl (RVs.fieldAddr rfl FieldOf.h (by decide) rfl (fun _ => rfl) ?_)
    refine VC.s rfl (RVs.load rfl TyOf.h rfl (fun _ => ⟨rfl, (get_prefix (hs4.pre) (Sep.at_ (i := 0) hs3 rfl)), rw_live, rfl⟩) ?_)
    refine VC.s rfl (RVs.len_slice rfl UnSl.h rfl (fun _ => rfl) ?_)
    refine VC.s rfl (RVs.bin rfl rfl rfl rfl (fun _ => ⟨⟨rfl, rfl⟩, rfl⟩) ?_)
    refine VC.nil (k10 ⟨56, [(1, _), (3, _), (4, _), (31, _)]⟩ _ ?_)
    refine CWp.condV rfl (fun hc2 => ?_) (fun hc2 => ?_)
    · simp at hc2
      refine CWp.skip ?_
      refine k9 _ _ ?_
      refine CWp.seqK fun Kk11 k11 => ?_
      refine CWp.block ?_
      refine CWp.seqK fun Kk12 k12 => ?_
      refine CWp.regionW [1, 3, 4, 5] ?_
      refine VC.s rfl (RVs.fieldAddr rfl FieldOf.h (by decide) rfl (fun _ => rfl) ?_)
      refine VC.s rfl (RVs.load rfl TyOf.h rfl (fun _ => ⟨rfl, (get_prefix (hs4.pre) (Sep.at_ (i := 0) hs3 rfl)), rw_live, rfl⟩) ?_)
      refine VC.s rfl (RVs.move rfl rfl (fun _ => rfl) ?_)
      refine VC.s rfl (RVs.indexS rfl (hS_x_mails.mono (hle (List.IsPrefix.trans hs3.pre (hs4.pre)))) rfl ElemOf.h rfl (fun _ => ⟨⟨rfl, rfl⟩, by omega, by omega⟩) ?_)
      intro id1 j1 u1 B1 e1
      obtain ⟨y1, hy1, e1⟩ := e1 rfl
      try simp only [Int.toNat_natCast] at hy1
      obtain ⟨rfl, hwy1⟩ := e1.r
      refine VC.s rfl (RVs.loadE (k := kMail) rfl TyOf.h rfl (fun _ => ⟨rfl, e1⟩) ?_)
      obtain ⟨m1, m2, m3, _⟩ := q8 i y1 hy1
      have l4 := decL_lenB (n := y1.uid) (by omega) (by omega)
      have l5 := decL_lenB (n := y1.mod) (by omega) (by omega)
      have l6 := flagsText_len (b := y1.flags)
      refine VC.s rfl (RVs.alloc ZeroOf.h TyOf.h rfl rfl ?_)
      intro b2 H2 g2 l2 a2
      have e2 := EP.mono (hle g2) e1
      have hs5 := Sep.addB hs4 g2 l2 a2
      refine VC.s rfl (RVs.storeBN (i := 0) hs5 rfl rfl rfl TyOf.h rfl rfl rfl ⟨rfl, rfl⟩ rfl (Nat.le_of_ble_eq_true rfl) rfl ?_)
      intro H3 hs6
      refine VC.nil (k12 ⟨56, [(1, _), (3, _), (4, _), (5, _)]⟩ _ ?_)
      refine CWp.regionDW [1, 3, 4] [false, false, false, false, false, false, false, false, false, false, false, false, false, false, false, false, false] (by decide +kernel) ?_
      refine VC.s rfl (RVs.move rfl rfl (fun _ => rfl) ?_)
      refine VC.s rfl (RVs.fieldAddr rfl FieldOf.h (by decide) rfl (fun _ => rfl) ?_)
      refine VC.s rfl (RVs.load rfl TyOf.h rfl (fun _ => ⟨rfl, (Sep.at_ (i := 0) hs6 rfl), rw_live, rfl⟩) ?_)
      refine VC.s rfl (RVs.callp rfl rfl rfl (fun _ => ⟨⟨rfl, rfl⟩, sDecimal _ _ (by omega) (by unfold lim; omega)⟩) ?_)
      refine VC.s rfl (RVs.bin rfl rfl rfl rfl (fun _ => ⟨⟨rfl, rfl⟩, by (try simp only [bl_bs, List.length_append]); (try simp); omega⟩) ?_)
      refine VC.s rfl (RVs.bin rfl rfl rfl rfl (fun _ => ⟨⟨rfl, rfl⟩, by (try simp only [bl_bs, List.length_append]); (try simp); omega⟩) ?_)
      refine VC.s rfl (RVs.fieldAddr rfl FieldOf.h (by decide) rfl (fun _ => rfl) ?_)
      refine VC.s rfl (RVs.load rfl TyOf.h rfl (fun _ => ⟨rfl, (Sep.at_ (i := 0) hs6 rfl), rw_live, rfl⟩) ?_)
      refine VC.s rfl (RVs.callp rfl rfl rfl (fun _ => ⟨⟨rfl, rfl⟩, sFlagsText _ _⟩) ?_)
      refine VC.s rfl (RVs.bin rfl rfl rfl rfl (fun _ => ⟨⟨rfl, rfl⟩, by (try simp only [bl_bs, List.length_append]); (try simp); omega⟩) ?_)
      refine VC.s rfl (RVs.bin rfl rfl rfl rfl (fun _ => ⟨⟨rfl, rfl⟩, by (try simp only [bl_bs, List.length_append]); (try simp); omega⟩) ?_)
      refine VC.s rfl (RVs.fieldAddr rfl FieldOf.h (by decide) rfl (fun _ => rfl) ?_)
      refine VC.s rfl (RVs.load rfl TyOf.h rfl (fun _ => ⟨rfl, (Sep.at_ (i := 0) hs6 rfl), rw_live, rfl⟩) ?_)
      refine VC.s rfl (RVs.callp rfl rfl rfl (fun _ => ⟨⟨rfl, rfl⟩, sDecimal _ _ (by omega) (by unfold lim; omega)⟩) ?_)
      refine VC.s rfl (RVs.bin rfl rfl rfl rfl (fun _ => ⟨⟨rfl, rfl⟩, by (try simp only [bl_bs, List.length_append]); (try simp); omega⟩) ?_)
      refine VC.s rfl (RVs.bin rfl rfl rfl rfl (fun _ => ⟨⟨rfl, rfl⟩, by (try simp only [bl_bs, List.length_append]); (try simp); omega⟩) ?_)
      refine VC.s rfl (RVs.assign rfl rfl (fun _ => rfl) ?_)
      refine VC.nil (k11 ⟨56, [(1, _), (3, _), (4, _)]⟩ _ ?_)
      refine CWp.regionW [1, 3, 4] ?_
      refine VC.s rfl (RVs.move rfl rfl (fun _ => rfl) ?_)
      refine VC.s rfl (RVs.arith (r := ((i + 1 : Nat) : Int)) rfl rfl rfl (by (try simp only [bl_bs]); first | exact wrap_in (by omega) | (rw [wrap_in (by omega)]; omega)) rfl (fun _ => ⟨⟨rfl, rfl⟩, rfl⟩) ?_)
      refine VC.s rfl (RVs.assign rfl rfl (fun _ => rfl) ?_)
      refine VC.nil (k8 _ ⟨56, [(1, _), (3, _), (4, _)]⟩ _ ?_ ⟨i + 1, by rw [showUp_step hy1]; simp only [showMail, bl_bs]; first | done | (simp only [List.append_assoc]; rfl), rfl, by omega, by rw [showUp_step hy1]; simp only [List.length_append, showMail, List.length_cons, List.length_nil]; omega, List.IsPrefix.trans hs2 hs6.pre⟩)
      omega
    · try simp at hc2
      refine CWp.exit ?_
      refine k6 _ _ ?_
      refine CWp.seqK fun Kk13 k13 => ?_
      refine CWp.regionW [2] ?_
      refine VC.s rfl (RVs.move rfl rfl (fun _ => rfl) ?_)
      refine VC.s rfl (RVs.assign rfl rfl (fun _ => rfl) ?_)
      refine VC.nil (k13 ⟨56, [(2, _)]⟩ _ ?_)
      refine CWp.ret (q _ _ _ (.cons (.tmp rfl) .nil) ?_).1
      have hin : i = x.mails.length := by omega
      exact ⟨by simp only [one, showBox]; rw [if_pos hko, hin], (List.IsPrefix.trans hs3.pre (hs4.pre))⟩

theorem iShowBox (x : Box) (x_mails x_tombs : Value) (H : AH) (hS_x_mails : kMail.S H x_mails x.mails) (hS_x_tombs : kTomb.S H x_tombs x.tombs) (hb_x_name : x.name.length ≤ lim) : FWp Tryd.prog 8 [.agg #[.string (bs x.name), .int .i64 x.valid, .int .i64 x.next, .int .i64 x.mod, x_mails, x_tombs, .int .i64 x.horizon]] H (fun v' H' => v' = .string (bs (showBox x)) ∧ H' = H) := by
  refine FWp.pure rfl fun H ph => ?_
  replace hS_x_mails := hS_x_mails.mono (hle ph)
  replace hS_x_tombs := hS_x_tombs.mono (hle ph)
  have hS_x_mailsl := hS_x_mails.lim
  unfold lim at hS_x_mailsl
  obtain ⟨aa, ca, rfl, hS_x_mailsc⟩ := hS_x_mails.form
  refine FWp.enterK Tryd.func8 rfl (by decide +kernel) rfl rfl fun Q q => ?_
  have hs0 := Sep.nil (H := H)
  refine CWp.seqK fun Kk1 k1 => ?_
  refine CWp.regionW [1] ?_
  refine VC.s rfl (RVs.box rfl TyOf.h rfl rfl rfl ?_)
  intro b1 H1 g1 l1 a1
  have hs1 := Sep.addB hs0 g1 l1 a1
  refine VC.s rfl (RVs.assign rfl rfl (fun _ => rfl) ?_)
  refine VC.nil (k1 ⟨52, [(1, _)]⟩ _ ?_)
  refine CWp.seqK fun Kk2 k2 => ?_
  refine CWp.seqK fun Kk3 k3 => ?_
  refine CWp.regionW [1, 8] ?_
  refine VC.s rfl (RVs.load_agg rfl TyOf.h rfl (fun _ => ⟨rfl, (Sep.at_ (i := 0) hs1 rfl), rw_live, Nat.le_of_ble_eq_true rfl, rfl⟩) ?_)
  refine VC.s rfl (RVs.callp rfl rfl rfl (fun _ => ⟨⟨rfl, rfl⟩, iBoxOk _ _ _ _ (hS_x_mails.mono (hle (hs1.pre))) (hS_x_tombs.mono (hle (hs1.pre))) hb_x_name⟩) ?_)
  refine VC.s rfl (RVs.not rfl rfl (fun _ => rfl) ?_)
  refine VC.nil (k3 ⟨52, [(1, _), (8, _)]⟩ _ ?_)
  refine CWp.condV rfl (fun hc1 => ?_) (fun hc1 => ?_)
  · have hko : boxOk x = false := by simpa using hc1
    refine CWp.seqK fun Kk4 k4 => ?_
    refine CWp.regionW [2] ?_
    refine VC.s rfl (RVs.assign rfl rfl (fun _ => rfl) ?_)
    refine VC.nil (k4 ⟨52, [(2, _)]⟩ _ ?_)
    refine CWp.ret (q _ _ _ (.cons (.tmp rfl) .nil) ?_).1
    exact ⟨by simp only [one, showBox]; rw [if_neg (by simp [hko])]; rfl, (hs1.pre)⟩
  · have hko : boxOk x = true := by simpa using hc1
    obtain ⟨⟨q1, q2, q3, q4, q5⟩, q6, q7, q8⟩ := boxOk_facts hko
    have l1 := decL_lenB (n := x.valid) (by omega) (by omega)
    have l2 := decL_lenB (n := x.next) (by omega) (by omega)
    have l3 := decL_lenB (n := x.mod) (by omega) (by omega)
    refine CWp.skip ?_
    refine k2 _ _ ?_
    refine CWp.seqK fun Kk5 k5 => ?_
    refine CWp.regionDW [1, 3] [false, false, false, false, false, false, false, false, false, false, false, false, false, false, false, false, false, false, false] (by decide +kernel) ?_
    refine VC.s rfl (RVs.fieldAddr rfl FieldOf.h (by decide) rfl (fun _ => rfl) ?_)
    refine VC.s rfl (RVs.load rfl TyOf.h rfl (fun _ => ⟨rfl, (Sep.at_ (i := 0) hs1 rfl), rw_live, rfl⟩) ?_)
    refine VC.s rfl (RVs.bin rfl rfl rfl rfl (fun _ => ⟨⟨rfl, rfl⟩, by (try simp only [bl_bs, List.length_append]); (try simp); omega⟩) ?_)
    refine VC.s rfl (RVs.fieldAddr rfl FieldOf.h (by decide) rfl (fun _ => rfl) ?_)
    refine VC.s rfl (RVs.load rfl TyOf.h rfl (fun _ => ⟨rfl, (Sep.at_ (i := 0) hs1 rfl), rw_live, rfl⟩) ?_)
    refine VC.s rfl (RVs.callp rfl rfl rfl (fun _ => ⟨⟨rfl, rfl⟩, iDecimal _ _ (by omega) (by unfold lim; omega)⟩) ?_)
    refine VC.s rfl (RVs.bin rfl rfl rfl rfl (fun _ => ⟨⟨rfl, rfl⟩, by (try simp only [bl_bs, List.length_append]); (try simp); omega⟩) ?_)
    refine VC.s rfl (RVs.bin rfl rfl rfl rfl (fun _ => ⟨⟨rfl, rfl⟩, by (try simp only [bl_bs, List.length_append]); (try simp); omega⟩) ?_)
    refine VC.s rfl (RVs.fieldAddr rfl FieldOf.h (by decide) rfl (fun _ => rfl) ?_)
    refine VC.s rfl (RVs.load rfl TyOf.h rfl (fun _ => ⟨rfl, (Sep.at_ (i := 0) hs1 rfl), rw_live, rfl⟩) ?_)
    refine VC.s rfl (RVs.callp rfl rfl rfl (fun _ => ⟨⟨rfl, rfl⟩, iDecimal _ _ (by omega) (by unfold lim; omega)⟩) ?_)
    refine VC.s rfl (RVs.bin rfl rfl rfl rfl (fun _ => ⟨⟨rfl, rfl⟩, by (try simp only [bl_bs, List.length_append]); (try simp); omega⟩) ?_)
    refine VC.s rfl (RVs.bin rfl rfl rfl rfl (fun _ => ⟨⟨rfl, rfl⟩, by (try simp only [bl_bs, List.length_append]); (try simp); omega⟩) ?_)
    refine VC.s rfl (RVs.fieldAddr rfl FieldOf.h (by decide) rfl (fun _ => rfl) ?_)
    refine VC.s rfl (RVs.load rfl TyOf.h rfl (fun _ => ⟨rfl, (Sep.at_ (i := 0) hs1 rfl), rw_live, rfl⟩) ?_)
    refine VC.s rfl (RVs.callp rfl rfl rfl (fun _ => ⟨⟨rfl, rfl⟩, iDecimal _ _ (by omega) (by unfold lim; omega)⟩) ?_)
    refine VC.s rfl (RVs.bin rfl rfl rfl rfl (fun _ => ⟨⟨rfl, rfl⟩, by (try simp only [bl_bs, List.length_append]); (try simp); omega⟩) ?_)
    refine VC.s rfl (RVs.bin rfl rfl rfl rfl (fun _ => ⟨⟨rfl, rfl⟩, by (try simp only [bl_bs, List.length_append]); (try simp); omega⟩) ?_)
    refine VC.s rfl (RVs.assign rfl rfl (fun _ => rfl) ?_)
    refine VC.nil (k5 ⟨52, [(1, _), (3, _)]⟩ _ ?_)
    refine CWp.seqK fun Kk6 k6 => ?_
    refine CWp.seqK fun Kk7 k7 => ?_
    refine CWp.regionW [3, 28, 29, 30] ?_
    refine VC.s rfl (RVs.fieldAddr rfl FieldOf.h (by decide) rfl (fun _ => rfl) ?_)
    refine VC.s rfl (RVs.load rfl TyOf.h rfl (fun _ => ⟨rfl, (Sep.at_ (i := 0) hs1 rfl), rw_live, rfl⟩) ?_)
    refine VC.s rfl (RVs.len_slice rfl UnSl.h rfl (fun _ => rfl) ?_)
    refine VC.s rfl (RVs.move rfl rfl (fun _ => rfl) ?_)
    refine VC.nil (k7 ⟨52, [(3, _), (28, _), (29, _), (30, _)]⟩ _ ?_)
    refine CWp.block ?_
    refine CWp.loopK (fun n T H' => ∃ i : Nat, T = ⟨52, [(3, .string (bs (showUp x i))), (28, .slice aa x.mails.length ca), (29, .int .i64 (x.mails.length : Int)), (30, .int .i64 (i : Int))]⟩ ∧ n = x.mails.length - i ∧ (i ≤ x.mails.length) ∧ ((showUp x i).length ≤ 40000 * (i + 1)) ∧ H1 <+: H') (n := x.mails.length) ⟨0, by rw [show showUp x 0 = showHead x from by simp [showUp]]; simp only [showHead, bl_bs]; first | done | rfl, by first | rfl | simp, by omega, by simp [showUp, showHead]; omega, List.prefix_refl _⟩ ?_
    rintro n T Hl1 Kk8 k8 ⟨i, rfl, hn1, hi, hlo, hs2⟩
    have hs3 := Sep.grow hs1 hs2
    have hs4 := Sep.nil (H := Hl1)
    refine CWp.seqK fun Kk9 k9 => ?_
    refine CWp.regionW [3, 28, 29, 30, 31] ?_
    refine VC.s rfl (RVs.bin rfl rfl rfl rfl (fun _ => ⟨⟨rfl, rfl⟩, rfl⟩) ?_)
    refine VC.nil (k9 ⟨52, [(3, _), (28, _), (29, _), (30, _), (31, _)]⟩ _ ?_)
    refine CWp.seqK fun Kk10 k10 => ?_
    refine CWp.condV rfl (fun hc2 => ?_) (fun hc2 => ?_)
    · simp at hc2
      refine CWp.skip ?_
      refine k10 _ _ ?_
      refine CWp.seqK fun Kk11 k11 => ?_
      refine CWp.block ?_
      refine CWp.seqK fun Kk12 k12 => ?_
      refine CWp.regionW [3, 5, 28, 29, 30] ?_
      refine VC.s rfl (RVs.indexS rfl (hS_x_mails.mono (hle (List.IsPrefix.trans hs3.pre (hs4.pre)))) rfl ElemOf.h rfl (fun _ => ⟨⟨rfl, rfl⟩, by omega, by omega⟩) ?_)
      intro id1 j1 u1 B1 e1
      obtain ⟨y1, hy1, e1⟩ := e1 rfl
      try simp only [Int.toNat_natCast] at hy1
      obtain ⟨rfl, hwy1⟩ := e1.r
      refine VC.s rfl (RVs.loadE (k := kMail) rfl TyOf.h rfl (fun _ => ⟨rfl, e1⟩) ?_)
      refine VC.s rfl (RVs.alloc ZeroOf.h TyOf.h rfl rfl ?_)
      intro b2 H2 g2 l2 a2
      have e2 := EP.mono (hle g2) e1
      have hs5 := Sep.addB hs4 g2 l2 a2
      refine VC.s rfl (RVs.storeBN (i := 0) hs5 rfl rfl rfl TyOf.h rfl rfl rfl ⟨rfl, rfl⟩ rfl (Nat.le_of_ble_eq_true rfl) rfl ?_)
      intro H3 hs6
      obtain ⟨m1, m2, m3, _⟩ := q8 i y1 hy1
      have l4 := decL_lenB (n := y1.uid) (by omega) (by omega)
      have l5 := decL_lenB (n := y1.mod) (by omega) (by omega)
      have l6 := flagsText_len (b := y1.flags)
      refine VC.nil (k12 ⟨52, [(3, _), (5, _), (28, _), (29, _), (30, _)]⟩ _ ?_)
      refine CWp.regionDW [3, 28, 29, 30] [false, false, false, false, false, false, false, false, false, false, false, false, false, false, false, false, false] (by decide +kernel) ?_
      refine VC.s rfl (RVs.move rfl rfl (fun _ => rfl) ?_)
      refine VC.s rfl (RVs.fieldAddr rfl FieldOf.h (by decide) rfl (fun _ => rfl) ?_)
      refine VC.s rfl (RVs.load rfl TyOf.h rfl (fun _ => ⟨rfl, (Sep.at_ (i := 0) hs6 rfl), rw_live, rfl⟩) ?_)
      refine VC.s rfl (RVs.callp rfl rfl rfl (fun _ => ⟨⟨rfl, rfl⟩, iDecimal _ _ (by omega) (by unfold lim; omega)⟩) ?_)
      refine VC.s rfl (RVs.bin rfl rfl rfl rfl (fun _ => ⟨⟨rfl, rfl⟩, by (try simp only [bl_bs, List.length_append]); (try simp); omega⟩) ?_)
      refine VC.s rfl (RVs.fieldAddr rfl FieldOf.h (by decide) rfl (fun _ => rfl) ?_)
      refine VC.s rfl (RVs.load rfl TyOf.h rfl (fun _ => ⟨rfl, (Sep.at_ (i := 0) hs6 rfl), rw_live, rfl⟩) ?_)
      refine VC.s rfl (RVs.callp rfl rfl rfl (fun _ => ⟨⟨rfl, rfl⟩, iFlagsText _ _⟩) ?_)
      refine VC.s rfl (RVs.bin rfl rfl rfl rfl (fun _ => ⟨⟨rfl, rfl⟩, by (try simp only [bl_bs, List.length_append]); (try simp); omega⟩) ?_)
      refine VC.s rfl (RVs.bin rfl rfl rfl rfl (fun _ => ⟨⟨rfl, rfl⟩, by (try simp only [bl_bs, List.length_append]); (try simp); omega⟩) ?_)
      refine VC.s rfl (RVs.fieldAddr rfl FieldOf.h (by decide) rfl (fun _ => rfl) ?_)
      refine VC.s rfl (RVs.load rfl TyOf.h rfl (fun _ => ⟨rfl, (Sep.at_ (i := 0) hs6 rfl), rw_live, rfl⟩) ?_)
      refine VC.s rfl (RVs.callp rfl rfl rfl (fun _ => ⟨⟨rfl, rfl⟩, iDecimal _ _ (by omega) (by unfold lim; omega)⟩) ?_)
      refine VC.s rfl (RVs.bin rfl rfl rfl rfl (fun _ => ⟨⟨rfl, rfl⟩, by (try simp only [bl_bs, List.length_append]); (try simp); omega⟩) ?_)
      refine VC.s rfl (RVs.bin rfl rfl rfl rfl (fun _ => ⟨⟨rfl, rfl⟩, by (try simp only [bl_bs, List.length_append]); (try simp); omega⟩) ?_)
      refine VC.s rfl (RVs.bin rfl rfl rfl rfl (fun _ => ⟨⟨rfl, rfl⟩, by (try simp only [bl_bs, List.length_append]); (try simp); omega⟩) ?_)
      refine VC.s rfl (RVs.assign rfl rfl (fun _ => rfl) ?_)
      refine VC.nil (k11 ⟨52, [(3, _), (28, _), (29, _), (30, _)]⟩ _ ?_)
      refine CWp.regionW [3, 28, 29, 30] ?_
      refine VC.s rfl (RVs.arith (r := ((i + 1 : Nat) : Int)) rfl rfl rfl (by (try simp only [bl_bs]); first | exact wrap_in (by omega) | (rw [wrap_in (by omega)]; omega)) rfl (fun _ => ⟨⟨rfl, rfl⟩, rfl⟩) ?_)
      refine VC.s rfl (RVs.move rfl rfl (fun _ => rfl) ?_)
      refine VC.nil (k8 _ ⟨52, [(3, _), (28, _), (29, _), (30, _)]⟩ _ ?_ ⟨i + 1, by rw [showUp_step hy1]; simp only [showMail, bl_bs]; first | done | (simp only [List.append_assoc]; rfl), rfl, by omega, by rw [showUp_step hy1]; simp only [List.length_append, showMail, List.length_cons, List.length_nil]; omega, List.IsPrefix.trans hs2 hs6.pre⟩)
      omega
    · try simp at hc2
      refine CWp.exit ?_
      refine k6 _ _ ?_
      refine CWp.seqK fun Kk13 k13 => ?_
      refine CWp.regionW [2] ?_
      refine VC.s rfl (RVs.move rfl rfl (fun _ => rfl) ?_)
      refine VC.s rfl (RVs.assign rfl rfl (fun _ => rfl) ?_)
      refine VC.nil (k13 ⟨52, [(2, _)]⟩ _ ?_)
      refine CWp.ret (q _ _ _ (.cons (.tmp rfl) .nil) ?_).1
      have hin : i = x.mails.length := by omega
      exact ⟨by simp only [one, showBox]; rw [if_pos hko, hin], (List.IsPrefix.trans hs3.pre (hs4.pre))⟩

end Go.Proofs.YtaccaelocddakaaDoor
