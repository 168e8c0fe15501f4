/- The walks of the functions that tell a word of a command. -/
import Derived.Test.YtaccaelocddakaaDoorDC1
namespace Go.Proofs.YtaccaelocddakaaDoor
open Go Go.RowKit
set_option linter.unusedVariables false
set_option maxRecDepth 20000

variable [MLen]
theorem l01Figure (r : Nat) (H : AH) (hr : r < 10) : FWp Tryd.prog 37 [.int .i64 (r : Int)] H (fun v' H' => v' = .int .u8 ((UInt8.ofNat (48 + r)).toNat : Int) ∧ H' = H) := by
  refine FWp.pure rfl fun H ph => ?_
  refine FWp.enterK Tryd.func37 rfl (by decide +kernel) rfl rfl fun Q q => ?_
  refine CWp.seqK fun Kk1 k1 => ?_
  refine CWp.regionW [0] ?_
  refine VC.s rfl (RVs.assign rfl rfl (fun _ => rfl) ?_)
  refine VC.nil (k1 ⟨12, [(0, _)]⟩ _ ?_)
  refine CWp.seqK fun Kk2 k2 => ?_
  refine CWp.seqK fun Kk3 k3 => ?_
  refine CWp.regionW [0, 4] ?_
  refine VC.s rfl (RVs.move rfl rfl (fun _ => rfl) ?_)
  refine VC.s rfl (RVs.bin rfl rfl rfl rfl (fun _ => ⟨⟨rfl, rfl⟩, rfl⟩) ?_)
  refine VC.nil (k3 ⟨12, [(0, _), (4, _)]⟩ _ ?_)
  refine CWp.condV rfl (fun hc1 => ?_) (fun hc1 => ?_)
  · skip
    refine CWp.seqK fun Kk4 k4 => ?_
    refine CWp.regionW [2] ?_
    refine VC.s rfl (RVs.move rfl rfl (fun _ => rfl) ?_)
    refine VC.s rfl (RVs.bin rfl rfl rfl rfl (fun _ => ⟨⟨rfl, rfl⟩, rfl⟩) ?_)
    refine VC.s rfl (RVs.conv_int rfl UnInt.h UnInt.h rfl (fun _ => rfl) ?_)
    refine VC.s rfl (RVs.assign rfl rfl (fun _ => rfl) ?_)
    refine VC.nil (k4 ⟨12, [(2, _)]⟩ _ ?_)
    refine CWp.ret (q _ _ _ (.cons (.tmp rfl) .nil) ?_).1
    exact ⟨by simp only [one]; rw [u8_fig hr], (List.prefix_refl H)⟩
  · exact absurd (of_decide_eq_false hc1) (by omega)

theorem sDecimal (k : Int) (H : AH) (h0 : 0 ≤ k) (hk : k ≤ lim) : FWp Tryd.prog 18 [.int .i64 k] H (fun v' H' => v' = .string (bs (decL k)) ∧ H' = H) := by
  refine FWp.pure rfl fun H ph => ?_
  unfold lim at hk
  refine FWp.enterK Tryd.func18 rfl (by decide +kernel) rfl rfl fun Q q => ?_
  refine CWp.seqK fun Kk1 k1 => ?_
  refine CWp.regionW [0] ?_
  refine VC.s rfl (RVs.assign rfl rfl (fun _ => rfl) ?_)
  refine VC.nil (k1 ⟨30, [(0, _)]⟩ _ ?_)
  refine CWp.seqK fun Kk2 k2 => ?_
  refine CWp.seqK fun Kk3 k3 => ?_
  refine CWp.regionW [0, 7] ?_
  refine VC.s rfl (RVs.move rfl rfl (fun _ => rfl) ?_)
  refine VC.s rfl (RVs.bin rfl rfl rfl rfl (fun _ => ⟨⟨rfl, rfl⟩, rfl⟩) ?_)
  refine VC.nil (k3 ⟨30, [(0, _), (7, _)]⟩ _ ?_)
  refine CWp.condV rfl (fun hc1 => ?_) (fun hc1 => ?_)
  · try simp at hc1
    refine CWp.seqK fun Kk4 k4 => ?_
    refine CWp.regionW [2] ?_
    refine VC.s rfl (RVs.assign rfl rfl (fun _ => rfl) ?_)
    refine VC.nil (k4 ⟨30, [(2, _)]⟩ _ ?_)
    refine CWp.ret (q _ _ _ (.cons (.tmp rfl) .nil) ?_).1
    exact ⟨by simp only [one, decL]; rw [if_pos hc1]; rfl, (List.prefix_refl H)⟩
  · try simp at hc1
    refine CWp.skip ?_
    refine k2 _ _ ?_
    refine CWp.seqK fun Kk5 k5 => ?_
    refine CWp.regionW [0, 3] ?_
    refine VC.s rfl (RVs.move rfl rfl (fun _ => rfl) ?_)
    refine VC.s rfl (RVs.bin rfl rfl rfl rfl (fun _ => ⟨⟨rfl, rfl⟩, rfl⟩) ?_)
    refine VC.s rfl (RVs.assign rfl rfl (fun _ => rfl) ?_)
    refine VC.nil (k5 ⟨30, [(0, _), (3, _)]⟩ _ ?_)
    refine CWp.seqK fun Kk6 k6 => ?_
    refine CWp.regionW [0, 3, 4] ?_
    refine VC.s rfl (RVs.assign rfl rfl (fun _ => rfl) ?_)
    refine VC.nil (k6 ⟨30, [(0, _), (3, _), (4, _)]⟩ _ ?_)
    refine CWp.seqK fun Kk7 k7 => ?_
    refine CWp.block ?_
    refine CWp.loopK (fun n T H' => ∃ (m : Nat) (out : List UInt8), T = ⟨30, [(0, .int .i64 (m : Int)), (3, .bool false), (4, .string (bs out))]⟩ ∧ n = m ∧ (digs k.toNat = digs m ++ out) ∧ (m ≤ k.toNat) ∧ H <+: H') (n := k.toNat) ⟨k.toNat, [], by rw [Int.toNat_of_nonneg h0, decide_eq_false (by omega)]; rfl, by first | rfl | simp, by simp, by omega, List.prefix_refl _⟩ ?_
    rintro n T Hl1 Kk8 k8 ⟨m, out, rfl, hn1, hd, hm, pl1⟩
    have p1 := (List.prefix_refl H).trans pl1
    refine CWp.seqK fun Kk9 k9 => ?_
    refine CWp.seqK fun Kk10 k10 => ?_
    refine CWp.regionW [0, 3, 4, 11] ?_
    refine VC.s rfl (RVs.move rfl rfl (fun _ => rfl) ?_)
    refine VC.s rfl (RVs.bin rfl rfl rfl rfl (fun _ => ⟨⟨rfl, rfl⟩, rfl⟩) ?_)
    refine VC.nil (k10 ⟨30, [(0, _), (3, _), (4, _), (11, _)]⟩ _ ?_)
    refine CWp.condV rfl (fun hc2 => ?_) (fun hc2 => ?_)
    · try simp at hc2
      refine CWp.skip ?_
      refine k9 _ _ ?_
      refine CWp.block ?_
      refine CWp.seqK fun Kk11 k11 => ?_
      refine CWp.regionW [0, 3, 4, 5] ?_
      refine VC.s rfl (RVs.move rfl rfl (fun _ => rfl) ?_)
      refine VC.s rfl (RVs.bin rfl rfl rfl rfl (fun _ => ⟨⟨rfl, rfl⟩, ⟨rfl, by omega⟩⟩) ?_)
      rw [show (m : Int).tmod 10 = ((m % 10 : Nat) : Int) from rfl]
      refine VC.s rfl (RVs.assign rfl rfl (fun _ => rfl) ?_)
      refine VC.nil (k11 ⟨30, [(0, _), (3, _), (4, _), (5, _)]⟩ _ ?_)
      refine CWp.seqK fun Kk12 k12 => ?_
      refine CWp.seqK fun Kk13 k13 => ?_
      refine CWp.regionW [0, 3, 4, 5, 15] ?_
      refine VC.s rfl (RVs.move rfl rfl (fun _ => rfl) ?_)
      refine VC.s rfl (RVs.bin rfl rfl rfl rfl (fun _ => ⟨⟨rfl, rfl⟩, rfl⟩) ?_)
      refine VC.nil (k13 ⟨30, [(0, _), (3, _), (4, _), (5, _), (15, _)]⟩ _ ?_)
      refine CWp.condV rfl (fun hc3 => ?_) (fun hc3 => ?_)
      · exact absurd (of_decide_eq_true hc3) (by omega)
      · try simp at hc3
        refine CWp.skip ?_
        refine k12 _ _ ?_
        refine CWp.seqK fun Kk14 k14 => ?_
        refine CWp.regionW [0, 3, 4] ?_
        refine VC.s rfl (RVs.move rfl rfl (fun _ => rfl) ?_)
        refine VC.s rfl (RVs.callp rfl rfl rfl (fun _ => ⟨⟨rfl, rfl⟩, l01Figure _ _ (Nat.mod_lt _ (by decide))⟩) ?_)
        refine VC.s rfl (RVs.buildS ElemOf.h ZeroOf.h rfl rfl rfl (by decide) rfl rfl rfl ?_)
        intro b1 H1 g1 l1 a1
        have lo1 := Nat.le_trans (List.IsPrefix.length_le p1) l1
        have ls1 := Nat.le_trans (List.IsPrefix.length_le (List.prefix_refl Hl1)) l1
        have sn1 := List.IsPrefix.trans (List.prefix_refl Hl1) g1
        have p2 := p1.trans g1
        refine VC.s rfl (RVs.text_of (l := [UInt8.ofNat (48 + m % 10)]) rfl UnSl.h UnStr.h UnInt.h rfl rfl (fun _ => ⟨rfl, .sl a1 rw_live (Nat.le_of_ble_eq_true rfl), rfl⟩) ?_)
        refine VC.s rfl (RVs.move rfl rfl (fun _ => rfl) ?_)
        refine VC.s rfl (RVs.bin rfl rfl rfl rfl (fun _ => ⟨⟨rfl, rfl⟩, by have := digs_len k.toNat; rw [hd] at this; simp at *; omega⟩) ?_)
        refine VC.s rfl (RVs.assign rfl rfl (fun _ => rfl) ?_)
        refine VC.nil (k14 ⟨30, [(0, _), (3, _), (4, _)]⟩ _ ?_)
        refine CWp.regionW [0, 3, 4] ?_
        refine VC.s rfl (RVs.move rfl rfl (fun _ => rfl) ?_)
        refine VC.s rfl (RVs.bin rfl rfl rfl rfl (fun _ => ⟨⟨rfl, rfl⟩, ⟨rfl, by omega⟩⟩) ?_)
        refine VC.s rfl (RVs.assign rfl rfl (fun _ => rfl) ?_)
        refine VC.nil (k8 _ ⟨30, [(0, _), (3, _), (4, _)]⟩ _ ?_ ⟨m / 10, UInt8.ofNat (48 + m % 10) :: out, by have hw : IntKind.i64.wrap ((m : Int).tdiv 10) = ((m / 10 : Nat) : Int) := wrap_in (n := ((m / 10 : Nat) : Int)) (by omega); rw [hw]; simp, rfl, by rw [hd, digs_pos (by omega), List.append_assoc]; rfl, by omega, pl1.trans sn1⟩)
        omega
    · try simp at hc2
      refine CWp.exit ?_
      refine k7 _ _ ?_
      refine CWp.seqK fun Kk15 k15 => ?_
      refine CWp.seqK fun Kk16 k16 => ?_
      refine CWp.regionW [4, 26] ?_
      refine VC.s rfl (RVs.move rfl rfl (fun _ => rfl) ?_)
      refine VC.nil (k16 ⟨30, [(4, _), (26, _)]⟩ _ ?_)
      refine CWp.condV rfl (fun hc4 => ?_) (fun hc4 => ?_)
      · exact absurd hc4 (by decide)
      · try simp at hc4
        refine CWp.skip ?_
        refine k15 _ _ ?_
        refine CWp.seqK fun Kk17 k17 => ?_
        refine CWp.regionW [2] ?_
        refine VC.s rfl (RVs.move rfl rfl (fun _ => rfl) ?_)
        refine VC.s rfl (RVs.assign rfl rfl (fun _ => rfl) ?_)
        refine VC.nil (k17 ⟨30, [(2, _)]⟩ _ ?_)
        refine CWp.ret (q _ _ _ (.cons (.tmp rfl) .nil) ?_).1
        exact ⟨by simp only [one, decL]; rw [if_neg hc1, if_neg (by omega), show k.natAbs = k.toNat by omega, hd, show m = 0 by omega, digs_zero]; rfl, p1⟩

theorem iDecimal (k : Int) (H : AH) (h0 : 0 ≤ k) (hk : k ≤ lim) : FWp Tryd.prog 23 [.int .i64 k] H (fun v' H' => v' = .string (bs (decL k)) ∧ H' = H) := by
  refine FWp.pure rfl fun H ph => ?_
  refine FWp.enterK Tryd.func23 rfl (by decide +kernel) rfl rfl fun Q q => ?_
  refine CWp.seqK fun Kk1 k1 => ?_
  refine CWp.regionW [0] ?_
  refine VC.s rfl (RVs.assign rfl rfl (fun _ => rfl) ?_)
  refine VC.nil (k1 ⟨5, [(0, _)]⟩ _ ?_)
  refine CWp.seqK fun Kk2 k2 => ?_
  refine CWp.regionW [2] ?_
  refine VC.s rfl (RVs.move rfl rfl (fun _ => rfl) ?_)
  refine VC.s rfl (RVs.callp rfl rfl rfl (fun _ => ⟨⟨rfl, rfl⟩, itoa _ _ h0 hk⟩) ?_)
  refine VC.s rfl (RVs.assign rfl rfl (fun _ => rfl) ?_)
  refine VC.nil (k2 ⟨5, [(2, _)]⟩ _ ?_)
  refine CWp.ret (q _ _ _ (.cons (.tmp rfl) .nil) ?_).1
  exact ⟨rfl, (List.prefix_refl H)⟩

theorem isList (s : List UInt8) (H : AH) (hs : s.length ≤ 300) : FWp Tryd.prog 54 [.string (bs s)] H (fun v' H' => v' = .bool (listW s) ∧ H' = H) := by
  refine FWp.pure rfl fun H ph => ?_
  have hpl := trimP_len s [40]
  have hsl := trimS_len (Lib.trimPrefix s [40]) [41]
  refine FWp.enterK Tryd.func54 rfl (by decide +kernel) rfl rfl fun Q q => ?_
  have hs0 := Sep.nil (H := H)
  refine CWp.seqK fun Kk1 k1 => ?_
  refine CWp.regionW [0] ?_
  refine VC.s rfl (RVs.assign rfl rfl (fun _ => rfl) ?_)
  refine VC.nil (k1 ⟨38, [(0, _)]⟩ _ ?_)
  refine CWp.seqK fun Kk2 k2 => ?_
  refine CWp.regionW [3, 4] ?_
  refine VC.s rfl (RVs.move rfl rfl (fun _ => rfl) ?_)
  refine VC.s rfl (RVs.callp rfl rfl rfl (fun _ => ⟨⟨rfl, rfl⟩, cutPrefix s [40] _⟩) ?_)
  refine VC.s rfl (RVs.move rfl rfl (fun _ => rfl) ?_)
  refine VC.s rfl (RVs.extract rfl rfl rfl (fun _ => rfl) ?_)
  refine VC.s rfl (RVs.extract rfl rfl rfl (fun _ => rfl) ?_)
  refine VC.s rfl (RVs.assign rfl rfl (fun _ => rfl) ?_)
  refine VC.s rfl (RVs.assign rfl rfl (fun _ => rfl) ?_)
  refine VC.nil (k2 ⟨38, [(3, _), (4, _)]⟩ _ ?_)
  refine CWp.seqK fun Kk3 k3 => ?_
  refine CWp.regionW [4, 5, 6] ?_
  refine VC.s rfl (RVs.move rfl rfl (fun _ => rfl) ?_)
  refine VC.s rfl (RVs.callp rfl rfl rfl (fun _ => ⟨⟨rfl, rfl⟩, cutSuffix _ [41] _ (by unfold lim; omega)⟩) ?_)
  refine VC.s rfl (RVs.move rfl rfl (fun _ => rfl) ?_)
  refine VC.s rfl (RVs.extract rfl rfl rfl (fun _ => rfl) ?_)
  refine VC.s rfl (RVs.extract rfl rfl rfl (fun _ => rfl) ?_)
  refine VC.s rfl (RVs.assign rfl rfl (fun _ => rfl) ?_)
  refine VC.s rfl (RVs.assign rfl rfl (fun _ => rfl) ?_)
  refine VC.nil (k3 ⟨38, [(4, _), (5, _), (6, _)]⟩ _ ?_)
  refine CWp.seqK fun Kk4 k4 => ?_
  refine CWp.seqK fun Kk5 k5 => ?_
  refine CWp.regionW [5, 24] ?_
  refine VC.s rfl (RVs.move rfl rfl (fun _ => rfl) ?_)
  refine VC.s rfl (RVs.not rfl rfl (fun _ => rfl) ?_)
  refine VC.s rfl (RVs.move rfl rfl (fun _ => rfl) ?_)
  refine VC.s rfl (RVs.move rfl rfl (fun hg => rfl) ?_)
  refine VC.s rfl (RVs.not rfl rfl (fun hg => hg) ?_)
  refine VC.s rfl (RVs.pick rfl rfl rfl rfl (fun hg => ⟨rfl, fun _ => rfl, fun hh => pk_f hh rfl⟩) ?_)
  refine VC.nil (k5 ⟨38, [(5, _), (24, _)]⟩ _ ?_)
  refine CWp.condV rfl (fun hc1 => ?_) (fun hc1 => ?_)
  · rw [condT] at hc1
    have hl := cutA hc1
    refine CWp.seqK fun Kk6 k6 => ?_
    refine CWp.regionW [2] ?_
    refine VC.s rfl (RVs.assign rfl rfl (fun _ => rfl) ?_)
    refine VC.nil (k6 ⟨38, [(2, _)]⟩ _ ?_)
    refine CWp.ret (q _ _ _ (.cons (.tmp rfl) .nil) ?_).1
    exact ⟨by simp only [one]; rw [hl], (hs0.pre)⟩
  · rw [condT] at hc1
    have hl := cutB hc1
    refine CWp.skip ?_
    refine k4 _ _ ?_
    refine CWp.seqK fun Kk7 k7 => ?_
    refine CWp.seqK fun Kk8 k8 => ?_
    refine CWp.regionW [5, 26] ?_
    refine VC.s rfl (RVs.move rfl rfl (fun _ => rfl) ?_)
    refine VC.s rfl (RVs.bin rfl rfl rfl rfl (fun _ => ⟨⟨rfl, rfl⟩, trivial⟩) ?_)
    refine VC.nil (k8 ⟨38, [(5, _), (26, _)]⟩ _ ?_)
    refine CWp.condV rfl (fun hc2 => ?_) (fun hc2 => ?_)
    · have hu : (Lib.trimSuffix (Lib.trimPrefix s [40]) [41]) = [] := by have h9 := hc2; simpa using h9
      refine CWp.seqK fun Kk9 k9 => ?_
      refine CWp.regionW [2] ?_
      refine VC.s rfl (RVs.assign rfl rfl (fun _ => rfl) ?_)
      refine VC.nil (k9 ⟨38, [(2, _)]⟩ _ ?_)
      refine CWp.ret (q _ _ _ (.cons (.tmp rfl) .nil) ?_).1
      exact ⟨by simp only [one]; rw [hl, decide_eq_true hu]; rfl, (hs0.pre)⟩
    · have hu : ¬ (Lib.trimSuffix (Lib.trimPrefix s [40]) [41]) = [] := by have h9 := hc2; simpa using h9
      refine CWp.skip ?_
      refine k7 _ _ ?_
      refine CWp.seqK fun Kk10 k10 => ?_
      refine CWp.seqK fun Kk11 k11 => ?_
      refine CWp.regionW [28, 29, 30] ?_
      refine VC.s rfl (RVs.move rfl rfl (fun _ => rfl) ?_)
      refine VC.s rfl (RVs.call rfl rfl rfl rfl ⟨rfl, rfl⟩ (splitS _ _ (by omega)) (.inr fun _ _ h => h.elim fun _ h => h.elim fun _ h => h.2.1) ?_)
      rintro v1 H1 ⟨an, cn, rfl, f1⟩
      have g1 := (f1).1
      have hs1 := Sep.addP hs0 (f1)
      refine VC.s rfl (RVs.len_slice rfl UnSl.h rfl (fun _ => rfl) ?_)
      refine VC.s rfl (RVs.move rfl rfl (fun _ => rfl) ?_)
      refine VC.nil (k11 ⟨38, [(28, _), (29, _), (30, _)]⟩ _ ?_)
      refine CWp.block ?_
      refine CWp.loopK (fun n T H' => ∃ i : Nat, T = ⟨38, [(28, .slice an (splitB (Lib.trimSuffix (Lib.trimPrefix s [40]) [41])).length cn), (29, .int .i64 ((splitB (Lib.trimSuffix (Lib.trimPrefix s [40]) [41])).length : Int)), (30, .int .i64 (i : Int))]⟩ ∧ n = (splitB (Lib.trimSuffix (Lib.trimPrefix s [40]) [41])).length - i ∧ (i ≤ (splitB (Lib.trimSuffix (Lib.trimPrefix s [40]) [41])).length) ∧ (((splitB (Lib.trimSuffix (Lib.trimPrefix s [40]) [41])).take i).all plainW = true) ∧ H1 <+: H') (n := (splitB (Lib.trimSuffix (Lib.trimPrefix s [40]) [41])).length) ⟨0, rfl, by first | rfl | simp, by omega, by simp, List.prefix_refl _⟩ ?_
      rintro n T Hl1 Kk12 k12 ⟨i, rfl, hn1, hi, ha, hs2⟩
      have hs3 := Sep.grow hs1 hs2
      have hs4 := Sep.nil (H := Hl1)
      refine CWp.seqK fun Kk13 k13 => ?_
      refine CWp.regionW [28, 29, 30, 31] ?_
      refine VC.s rfl (RVs.bin rfl rfl rfl rfl (fun _ => ⟨⟨rfl, rfl⟩, rfl⟩) ?_)
      refine VC.nil (k13 ⟨38, [(28, _), (29, _), (30, _), (31, _)]⟩ _ ?_)
      refine CWp.seqK fun Kk14 k14 => ?_
      refine CWp.condV rfl (fun hc3 => ?_) (fun hc3 => ?_)
      · try simp at hc3
        refine CWp.skip ?_
        refine k14 _ _ ?_
        refine CWp.seqK fun Kk15 k15 => ?_
        refine CWp.block ?_
        refine CWp.seqK fun Kk16 k16 => ?_
        refine CWp.regionW [8, 28, 29, 30] ?_
        refine VC.s rfl (RVs.indexS rfl (Kd.S.mono (hle (hs4.pre)) (Sep.VS (i := 0) hs3 rfl)) rfl ElemOf.h rfl (fun _ => ⟨⟨rfl, rfl⟩, by omega, by omega⟩) ?_)
        intro id1 j1 u1 B1 e1
        obtain ⟨y1, hy1, e1⟩ := e1 rfl
        try simp only [Int.toNat_natCast] at hy1
        obtain ⟨rfl, hwy1⟩ := e1.r
        refine VC.s rfl (RVs.loadF (k := Kd.str) (f := 0) rfl TyOf.h rfl (fun _ => ⟨rfl, e1, by decide, rfl⟩) ?_)
        refine VC.s rfl (RVs.assign rfl rfl (fun _ => rfl) ?_)
        refine VC.nil (k16 ⟨38, [(8, _), (28, _), (29, _), (30, _)]⟩ _ ?_)
        refine CWp.seqK fun Kk17 k17 => ?_
        refine CWp.regionW [28, 29, 30, 36] ?_
        refine VC.s rfl (RVs.move rfl rfl (fun _ => rfl) ?_)
        refine VC.s rfl (RVs.callp rfl rfl rfl (fun _ => ⟨⟨rfl, rfl⟩, isPlain y1 _ hwy1⟩) ?_)
        refine VC.s rfl (RVs.not rfl rfl (fun _ => rfl) ?_)
        refine VC.nil (k17 ⟨38, [(28, _), (29, _), (30, _), (36, _)]⟩ _ ?_)
        refine CWp.condV rfl (fun hc4 => ?_) (fun hc4 => ?_)
        · have hb : plainW y1 = false := by simpa using hc4
          refine CWp.seqK fun Kk18 k18 => ?_
          refine CWp.regionW [2] ?_
          refine VC.s rfl (RVs.assign rfl rfl (fun _ => rfl) ?_)
          refine VC.nil (k18 ⟨38, [(2, _)]⟩ _ ?_)
          refine CWp.ret (q _ _ _ (.cons (.tmp rfl) .nil) ?_).1
          exact ⟨by simp only [one]; rw [hl, decide_eq_false hu, allL_bad hy1 hb]; rfl, (List.IsPrefix.trans hs3.pre (hs4.pre))⟩
        · have hb : plainW y1 = true := by simpa using hc4
          refine CWp.skip ?_
          refine k15 _ _ ?_
          refine CWp.regionW [28, 29, 30] ?_
          have hspl := splitB_len (Lib.trimSuffix (Lib.trimPrefix s [40]) [41])
          refine VC.s rfl (RVs.arith (r := ((i + 1 : Nat) : Int)) rfl rfl rfl (by (try simp only [bl_bs]); first | exact wrap_in (by omega) | (rw [wrap_in (by omega)]; omega)) rfl (fun _ => ⟨⟨rfl, rfl⟩, rfl⟩) ?_)
          refine VC.s rfl (RVs.move rfl rfl (fun _ => rfl) ?_)
          have hspl := splitB_len (Lib.trimSuffix (Lib.trimPrefix s [40]) [41])
          refine VC.nil (k12 _ ⟨38, [(28, _), (29, _), (30, _)]⟩ _ ?_ ⟨i + 1, rfl, rfl, by omega, allL_step ha hy1 hb, List.IsPrefix.trans hs2 hs4.pre⟩)
          omega
      · try simp at hc3
        refine CWp.exit ?_
        refine k10 _ _ ?_
        refine CWp.seqK fun Kk19 k19 => ?_
        refine CWp.regionW [2] ?_
        refine VC.s rfl (RVs.assign rfl rfl (fun _ => rfl) ?_)
        refine VC.nil (k19 ⟨38, [(2, _)]⟩ _ ?_)
        refine CWp.ret (q _ _ _ (.cons (.tmp rfl) .nil) ?_).1
        exact ⟨by simp only [one]; rw [hl, decide_eq_false hu, allL_end ha (by omega)]; rfl, (List.IsPrefix.trans hs3.pre (hs4.pre))⟩

theorem l15Quoted (s : List UInt8) (H : AH) (hs : s.length ≤ 300) : FWp Tryd.prog 52 [.string (bs s)] H (fun v' H' => v' = .tuple #[.string (bs (if s.all shownB = true then quoteW s else [])), .bool (s.all shownB)] ∧ H' = H) := by
  refine FWp.pure rfl fun H ph => ?_
  refine FWp.enterK Tryd.func52 rfl (by decide +kernel) rfl rfl fun Q q => ?_
  have hs0 := Sep.nil (H := H)
  refine CWp.seqK fun Kk1 k1 => ?_
  refine CWp.regionW [0] ?_
  refine VC.s rfl (RVs.assign rfl rfl (fun _ => rfl) ?_)
  refine VC.s rfl (RVs.assign rfl rfl (fun _ => rfl) ?_)
  refine VC.nil (k1 ⟨43, [(0, _)]⟩ _ ?_)
  refine CWp.seqK fun Kk2 k2 => ?_
  refine CWp.regionW [0, 4] ?_
  refine VC.s rfl (RVs.assign rfl rfl (fun _ => rfl) ?_)
  refine VC.nil (k2 ⟨43, [(0, _), (4, _)]⟩ _ ?_)
  refine CWp.seqK fun Kk3 k3 => ?_
  refine CWp.seqK fun Kk4 k4 => ?_
  refine CWp.regionW [0, 4, 5] ?_
  refine VC.s rfl (RVs.assign rfl rfl (fun _ => rfl) ?_)
  refine VC.nil (k4 ⟨43, [(0, _), (4, _), (5, _)]⟩ _ ?_)
  refine CWp.block ?_
  refine CWp.loopK (fun n T H' => ∃ i : Nat, T = ⟨43, [(0, .string (bs s)), (4, .string (bs (qup s i))), (5, .int .i64 (i : Int))]⟩ ∧ n = s.length - i ∧ (i ≤ s.length) ∧ ((s.take i).all shownB = true) ∧ H <+: H') (n := s.length) ⟨0, rfl, by first | rfl | simp, by omega, by simp, List.prefix_refl _⟩ ?_
  rintro n T Hl1 Kk5 k5 ⟨i, rfl, hn1, hi, ha, hs1⟩
  have hs2 := Sep.grow hs0 hs1
  have hs3 := Sep.nil (H := Hl1)
  refine CWp.seqK fun Kk6 k6 => ?_
  refine CWp.seqK fun Kk7 k7 => ?_
  refine CWp.regionW [0, 4, 5, 9] ?_
  refine VC.s rfl (RVs.move rfl rfl (fun _ => rfl) ?_)
  refine VC.s rfl (RVs.move rfl rfl (fun _ => rfl) ?_)
  refine VC.s rfl (RVs.len_string rfl UnStr.h rfl (fun _ => rfl) ?_)
  refine VC.s rfl (RVs.bin rfl rfl rfl rfl (fun _ => ⟨⟨rfl, rfl⟩, rfl⟩) ?_)
  refine VC.nil (k7 ⟨43, [(0, _), (4, _), (5, _), (9, _)]⟩ _ ?_)
  refine CWp.condV rfl (fun hc1 => ?_) (fun hc1 => ?_)
  · have hlt : i < s.length := by first | exact_mod_cast hc1 | (have h9 := hc1; simp at h9; omega)
    refine CWp.skip ?_
    refine k6 _ _ ?_
    refine CWp.seqK fun Kk8 k8 => ?_
    refine CWp.block ?_
    refine CWp.seqK fun Kk9 k9 => ?_
    refine CWp.seqK fun Kk10 k10 => ?_
    refine CWp.regionW [0, 4, 5, 21] ?_
    refine VC.s rfl (RVs.move rfl rfl (fun _ => rfl) ?_)
    refine VC.s rfl (RVs.move rfl rfl (fun _ => rfl) ?_)
    refine VC.s rfl (RVs.index rfl rfl UnStr.h rfl (fun _ => ⟨⟨rfl, rfl⟩, by omega, by simp; omega⟩) ?_)
    refine VC.s rfl (RVs.bin rfl rfl rfl rfl (fun _ => ⟨⟨rfl, rfl⟩, rfl⟩) ?_)
    refine VC.s rfl (RVs.move rfl rfl (fun _ => rfl) ?_)
    refine VC.s rfl (RVs.move rfl rfl (fun hg => rfl) ?_)
    refine VC.s rfl (RVs.move rfl rfl (fun hg => rfl) ?_)
    refine VC.s rfl (RVs.index rfl rfl UnStr.h rfl (fun hg => ⟨⟨hg, hg⟩, by omega, by simp; omega⟩) ?_)
    refine VC.s rfl (RVs.bin rfl rfl rfl rfl (fun hg => ⟨⟨hg, rfl⟩, rfl⟩) ?_)
    refine VC.s rfl (RVs.pick rfl rfl rfl rfl (fun hg => ⟨rfl, fun _ => rfl, fun hh => pk_f hh rfl⟩) ?_)
    refine VC.nil (k10 ⟨43, [(0, _), (4, _), (5, _), (21, _)]⟩ _ ?_)
    refine CWp.condV rfl (fun hc2 => ?_) (fun hc2 => ?_)
    · rw [condT, bAti hlt] at hc2
      have hb := shB1 hc2
      refine CWp.seqK fun Kk11 k11 => ?_
      refine CWp.regionW [2, 3] ?_
      refine VC.s rfl (RVs.assign rfl rfl (fun _ => rfl) ?_)
      refine VC.s rfl (RVs.assign rfl rfl (fun _ => rfl) ?_)
      refine VC.nil (k11 ⟨43, [(2, _), (3, _)]⟩ _ ?_)
      refine CWp.ret (q _ _ _ (.cons (.tmp rfl) (.cons (.tmp rfl) .nil)) ?_).1
      exact ⟨by simp only [one]; rw [byt_bad hlt hb]; rfl, (List.IsPrefix.trans hs2.pre (hs3.pre))⟩
    · rw [condT, bAti hlt] at hc2
      have hb := shB0 hc2
      have hql := qup_len (s := s) (i := i) (Nat.le_of_lt hlt)
      refine CWp.skip ?_
      refine k9 _ _ ?_
      refine CWp.seqK fun Kk12 k12 => ?_
      refine CWp.seqK fun Kk13 k13 => ?_
      refine CWp.regionW [0, 4, 5, 31] ?_
      refine VC.s rfl (RVs.move rfl rfl (fun _ => rfl) ?_)
      refine VC.s rfl (RVs.move rfl rfl (fun _ => rfl) ?_)
      refine VC.s rfl (RVs.index rfl rfl UnStr.h rfl (fun _ => ⟨⟨rfl, rfl⟩, by omega, by simp; omega⟩) ?_)
      refine VC.s rfl (RVs.bin rfl rfl rfl rfl (fun _ => ⟨⟨rfl, rfl⟩, rfl⟩) ?_)
      refine VC.s rfl (RVs.move rfl rfl (fun _ => rfl) ?_)
      refine VC.s rfl (RVs.move rfl rfl (fun hg => rfl) ?_)
      refine VC.s rfl (RVs.move rfl rfl (fun hg => rfl) ?_)
      refine VC.s rfl (RVs.index rfl rfl UnStr.h rfl (fun hg => ⟨⟨hg, hg⟩, by omega, by simp; omega⟩) ?_)
      refine VC.s rfl (RVs.bin rfl rfl rfl rfl (fun hg => ⟨⟨hg, rfl⟩, rfl⟩) ?_)
      refine VC.s rfl (RVs.pick rfl rfl rfl rfl (fun hg => ⟨rfl, fun _ => rfl, fun hh => pk_f hh rfl⟩) ?_)
      refine VC.nil (k13 ⟨43, [(0, _), (4, _), (5, _), (31, _)]⟩ _ ?_)
      refine CWp.condV rfl (fun hc3 => ?_) (fun hc3 => ?_)
      · rw [condT, bAti hlt] at hc3
        have hst := qup_yes hlt (qm1 hc3)
        refine CWp.regionW [0, 4, 5] ?_
        refine VC.s rfl (RVs.move rfl rfl (fun _ => rfl) ?_)
        refine VC.s rfl (RVs.bin rfl rfl rfl rfl (fun _ => ⟨⟨rfl, rfl⟩, by (try simp only [bl_bs]); simp; omega⟩) ?_)
        refine VC.s rfl (RVs.assign rfl rfl (fun _ => rfl) ?_)
        refine VC.nil (k12 ⟨43, [(0, _), (4, _), (5, _)]⟩ _ ?_)
        refine CWp.regionW [0, 4, 5] ?_
        refine VC.s rfl (RVs.move rfl rfl (fun _ => rfl) ?_)
        refine VC.s rfl (RVs.move rfl rfl (fun _ => rfl) ?_)
        refine VC.s rfl (RVs.move rfl rfl (fun _ => rfl) ?_)
        refine VC.s rfl (RVs.move rfl rfl (fun _ => rfl) ?_)
        refine VC.s rfl (RVs.arith (r := ((i + 1 : Nat) : Int)) rfl rfl rfl (by (try simp only [bl_bs]); first | exact wrap_in (by omega) | (rw [wrap_in (by omega)]; omega)) rfl (fun _ => ⟨⟨rfl, rfl⟩, rfl⟩) ?_)
        refine VC.s rfl (RVs.slice_string rfl UnStr.h ⟨_, rfl⟩ ⟨_, rfl⟩ rfl (fun _ => ⟨⟨rfl, (fun y hy => by cases hy; rfl), (fun y hy => by cases hy; rfl)⟩, by omega, by omega, by simp; omega⟩) ?_)
        rw [sl1 hlt]
        refine VC.s rfl (RVs.bin rfl rfl rfl rfl (fun _ => ⟨⟨rfl, rfl⟩, by (try simp only [bl_bs]); simp; omega⟩) ?_)
        refine VC.s rfl (RVs.assign rfl rfl (fun _ => rfl) ?_)
        refine VC.nil (k8 ⟨43, [(0, _), (4, _), (5, _)]⟩ _ ?_)
        refine CWp.regionW [0, 4, 5] ?_
        refine VC.s rfl (RVs.move rfl rfl (fun _ => rfl) ?_)
        refine VC.s rfl (RVs.arith (r := ((i + 1 : Nat) : Int)) rfl rfl rfl (by (try simp only [bl_bs]); first | exact wrap_in (by omega) | (rw [wrap_in (by omega)]; omega)) rfl (fun _ => ⟨⟨rfl, rfl⟩, rfl⟩) ?_)
        refine VC.s rfl (RVs.assign rfl rfl (fun _ => rfl) ?_)
        refine VC.nil (k5 _ ⟨43, [(0, _), (4, _), (5, _)]⟩ _ ?_ ⟨i + 1, by rw [hst]; simp only [bl_bs]; first | done | rfl, rfl, by omega, byt_step ha hlt hb, List.IsPrefix.trans hs1 hs3.pre⟩)
        omega
      · rw [condT, bAti hlt] at hc3
        have hst := qup_no hlt (qm0 hc3)
        refine CWp.skip ?_
        refine k12 _ _ ?_
        refine CWp.regionW [0, 4, 5] ?_
        refine VC.s rfl (RVs.move rfl rfl (fun _ => rfl) ?_)
        refine VC.s rfl (RVs.move rfl rfl (fun _ => rfl) ?_)
        refine VC.s rfl (RVs.move rfl rfl (fun _ => rfl) ?_)
        refine VC.s rfl (RVs.move rfl rfl (fun _ => rfl) ?_)
        refine VC.s rfl (RVs.arith (r := ((i + 1 : Nat) : Int)) rfl rfl rfl (by (try simp only [bl_bs]); first | exact wrap_in (by omega) | (rw [wrap_in (by omega)]; omega)) rfl (fun _ => ⟨⟨rfl, rfl⟩, rfl⟩) ?_)
        refine VC.s rfl (RVs.slice_string rfl UnStr.h ⟨_, rfl⟩ ⟨_, rfl⟩ rfl (fun _ => ⟨⟨rfl, (fun y hy => by cases hy; rfl), (fun y hy => by cases hy; rfl)⟩, by omega, by omega, by simp; omega⟩) ?_)
        rw [sl1 hlt]
        refine VC.s rfl (RVs.bin rfl rfl rfl rfl (fun _ => ⟨⟨rfl, rfl⟩, by (try simp only [bl_bs]); simp; omega⟩) ?_)
        refine VC.s rfl (RVs.assign rfl rfl (fun _ => rfl) ?_)
        refine VC.nil (k8 ⟨43, [(0, _), (4, _), (5, _)]⟩ _ ?_)
        refine CWp.regionW [0, 4, 5] ?_
        refine VC.s rfl (RVs.move rfl rfl (fun _ => rfl) ?_)
        refine VC.s rfl (RVs.arith (r := ((i + 1 : Nat) : Int)) rfl rfl rfl (by (try simp only [bl_bs]); first | exact wrap_in (by omega) | (rw [wrap_in (by omega)]; omega)) rfl (fun _ => ⟨⟨rfl, rfl⟩, rfl⟩) ?_)
        refine VC.s rfl (RVs.assign rfl rfl (fun _ => rfl) ?_)
        refine VC.nil (k5 _ ⟨43, [(0, _), (4, _), (5, _)]⟩ _ ?_ ⟨i + 1, by rw [hst]; simp only [bl_bs]; first | done | rfl, rfl, by omega, byt_step ha hlt hb, List.IsPrefix.trans hs1 hs3.pre⟩)
        omega
  · have hge : s.length ≤ i := by have h9 := hc1; simp at h9; omega
    refine CWp.exit ?_
    refine k3 _ _ ?_
    refine CWp.seqK fun Kk14 k14 => ?_
    refine CWp.regionW [2, 3] ?_
    refine VC.s rfl (RVs.move rfl rfl (fun _ => rfl) ?_)
    refine VC.s rfl (RVs.bin rfl rfl rfl rfl (fun _ => ⟨⟨rfl, rfl⟩, by have := qup_len (s := s) (i := i) hi; (try simp only [bl_bs]); simp; omega⟩) ?_)
    refine VC.s rfl (RVs.assign rfl rfl (fun _ => rfl) ?_)
    refine VC.s rfl (RVs.assign rfl rfl (fun _ => rfl) ?_)
    refine VC.nil (k14 ⟨43, [(2, _), (3, _)]⟩ _ ?_)
    refine CWp.ret (q _ _ _ (.cons (.tmp rfl) (.cons (.tmp rfl) .nil)) ?_).1
    exact ⟨by simp only [one, bl_bs]; rw [byt_end ha hge, if_pos rfl, ← qup_end (s := s) (i := i) (by omega)]; rfl, (List.IsPrefix.trans hs2.pre (hs3.pre))⟩

theorem quoted (s : List UInt8) (H : AH) (hs : s.length ≤ 300) : FWp Tryd.prog 56 [.string (bs s)] H (fun v' H' => v' = .string (bs (quoteW s)) ∧ H' = H) := by
  refine FWp.pure rfl fun H ph => ?_
  refine FWp.enterK Tryd.func56 rfl (by decide +kernel) rfl rfl fun Q q => ?_
  have hs0 := Sep.nil (H := H)
  refine CWp.seqK fun Kk1 k1 => ?_
  refine CWp.regionW [0] ?_
  refine VC.s rfl (RVs.assign rfl rfl (fun _ => rfl) ?_)
  refine VC.nil (k1 ⟨35, [(0, _)]⟩ _ ?_)
  refine CWp.seqK fun Kk2 k2 => ?_
  refine CWp.regionW [0, 3] ?_
  refine VC.s rfl (RVs.buildS ElemOf.h ZeroOf.h rfl rfl rfl (by decide) rfl rfl rfl ?_)
  intro b1 H1 g1 l1 a1
  have hs1 := Sep.addO (k := kByte) (xs := b2i [34]) int_Flat hs0 g1 l1 a1 (Kd.Rs.one rfl) rfl (by decide)
  refine VC.s rfl (RVs.assign rfl rfl (fun _ => rfl) ?_)
  refine VC.nil (k2 ⟨35, [(0, _), (3, _)]⟩ _ ?_)
  refine CWp.seqK fun Kk3 k3 => ?_
  refine CWp.seqK fun Kk4 k4 => ?_
  refine CWp.regionW [0, 3, 7, 8] ?_
  refine VC.s rfl (RVs.move rfl rfl (fun _ => rfl) ?_)
  refine VC.s rfl (RVs.len_string rfl UnStr.h rfl (fun _ => rfl) ?_)
  refine VC.s rfl (RVs.move rfl rfl (fun _ => rfl) ?_)
  refine VC.nil (k4 ⟨35, [(0, _), (3, _), (7, _), (8, _)]⟩ _ ?_)
  refine CWp.block ?_
  refine CWp.loopK (fun n T H' => ∃ (i : Nat) (ao : Option Addr) (co : Nat), T = ⟨35, [(0, .string (bs s)), (3, .slice ao (b2i (qup s i)).length co), (7, .int .i64 (s.length : Int)), (8, .int .i64 (i : Int))]⟩ ∧ n = s.length - i ∧ (i ≤ s.length) ∧ Sep [] H H' [pOwn kByte 5 (.slice ao (b2i (qup s i)).length co) (b2i (qup s i))]) (n := s.length) ⟨0, _, _, by first | rfl | (simp; done), by first | rfl | simp, by omega, hs1⟩ ?_
  rintro n T Hl1 Kk5 k5 ⟨i, ao, co, rfl, hn1, hi, hs2⟩
  refine CWp.seqK fun Kk6 k6 => ?_
  refine CWp.regionW [0, 3, 7, 8, 9] ?_
  refine VC.s rfl (RVs.bin rfl rfl rfl rfl (fun _ => ⟨⟨rfl, rfl⟩, rfl⟩) ?_)
  refine VC.nil (k6 ⟨35, [(0, _), (3, _), (7, _), (8, _), (9, _)]⟩ _ ?_)
  refine CWp.seqK fun Kk7 k7 => ?_
  refine CWp.condV rfl (fun hc1 => ?_) (fun hc1 => ?_)
  · have hlt : i < s.length := by first | exact_mod_cast hc1 | (have h9 := hc1; simp at h9; omega)
    refine CWp.skip ?_
    refine k7 _ _ ?_
    refine CWp.seqK fun Kk8 k8 => ?_
    refine CWp.block ?_
    refine CWp.seqK fun Kk9 k9 => ?_
    refine CWp.regionW [0, 3, 4, 7, 8] ?_
    refine VC.s rfl (RVs.move rfl rfl (fun _ => rfl) ?_)
    refine VC.s rfl (RVs.assign rfl rfl (fun _ => rfl) ?_)
    refine VC.nil (k9 ⟨35, [(0, _), (3, _), (4, _), (7, _), (8, _)]⟩ _ ?_)
    refine CWp.seqK fun Kk10 k10 => ?_
    refine CWp.seqK fun Kk11 k11 => ?_
    refine CWp.regionW [0, 3, 4, 7, 8, 20] ?_
    refine VC.s rfl (RVs.move rfl rfl (fun _ => rfl) ?_)
    refine VC.s rfl (RVs.move rfl rfl (fun _ => rfl) ?_)
    refine VC.s rfl (RVs.index rfl rfl UnStr.h rfl (fun _ => ⟨⟨rfl, rfl⟩, by omega, by simp; omega⟩) ?_)
    refine VC.s rfl (RVs.bin rfl rfl rfl rfl (fun _ => ⟨⟨rfl, rfl⟩, rfl⟩) ?_)
    refine VC.s rfl (RVs.move rfl rfl (fun _ => rfl) ?_)
    refine VC.s rfl (RVs.move rfl rfl (fun hg => rfl) ?_)
    refine VC.s rfl (RVs.move rfl rfl (fun hg => rfl) ?_)
    refine VC.s rfl (RVs.index rfl rfl UnStr.h rfl (fun hg => ⟨⟨hg, hg⟩, by omega, by simp; omega⟩) ?_)
    refine VC.s rfl (RVs.bin rfl rfl rfl rfl (fun hg => ⟨⟨hg, rfl⟩, rfl⟩) ?_)
    refine VC.s rfl (RVs.pick rfl rfl rfl rfl (fun hg => ⟨rfl, fun _ => rfl, fun hh => pk_f hh rfl⟩) ?_)
    refine VC.nil (k11 ⟨35, [(0, _), (3, _), (4, _), (7, _), (8, _), (20, _)]⟩ _ ?_)
    refine CWp.condV rfl (fun hc2 => ?_) (fun hc2 => ?_)
    · rw [condT, bAti hlt] at hc2
      have hst := qup_yes hlt (qm1 hc2)
      have hql := qup_len (s := s) (i := i) (Nat.le_of_lt hlt)
      refine CWp.regionW [0, 3, 4, 7, 8] ?_
      refine VC.s rfl (RVs.move rfl rfl (fun _ => rfl) ?_)
      refine VC.s rfl (RVs.buildS ElemOf.h ZeroOf.h rfl rfl rfl (by decide) rfl rfl rfl ?_)
      intro b2 H2 g2 l2 a2
      have hs3 := Sep.grow hs2 g2
      refine VC.s rfl (RVs.appendZ (k := kByte) (zs := b2i (qup s i ++ [92])) int_Flat (i := 0) hs3 rfl rfl rfl ElemOf.h ElOk.h UnSl.h rfl rfl rfl ⟨rfl, rfl⟩ (lit_S (k := kByte) (xs := b2i [92]) a2 (Kd.Rs.one rfl) rfl (by decide)) ((b2i_app _ _).symm) (small_of (by have := qup_len (s := s) (i := i) hi; (try simp only [b2i_len, List.length_append, List.length_cons, List.length_nil]); omega) (by decide)) ?_)
      intro ad1 cp1 H3 hcp1 hs4
      refine VC.s rfl (RVs.assign rfl rfl (fun _ => rfl) ?_)
      refine VC.nil (k10 ⟨35, [(0, _), (3, _), (4, _), (7, _), (8, _)]⟩ _ ?_)
      refine CWp.regionW [0, 3, 7, 8] ?_
      refine VC.s rfl (RVs.move rfl rfl (fun _ => rfl) ?_)
      refine VC.s rfl (RVs.move rfl rfl (fun _ => rfl) ?_)
      refine VC.s rfl (RVs.move rfl rfl (fun _ => rfl) ?_)
      refine VC.s rfl (RVs.index rfl rfl UnStr.h rfl (fun _ => ⟨⟨rfl, rfl⟩, by omega, by simp; omega⟩) ?_)
      refine VC.s rfl (RVs.buildS ElemOf.h ZeroOf.h rfl rfl rfl (by decide) rfl rfl rfl ?_)
      intro b3 H4 g3 l3 a3
      have hs5 := Sep.grow hs4 g3
      refine VC.s rfl (RVs.appendZ (k := kByte) (zs := b2i (qup s (i + 1))) int_Flat (i := 0) hs5 rfl rfl rfl ElemOf.h ElOk.h UnSl.h rfl rfl rfl ⟨rfl, rfl⟩ (lit_S (k := kByte) (xs := b2i [s[i]]) a3 (Kd.Rs.one (by rw [bAti hlt]; rfl)) rfl (by decide)) (by rw [hst]; simp only [b2i_app]) (small_of (by have := qup_len (s := s) (i := i) hi; (try simp only [b2i_len, List.length_append, List.length_cons, List.length_nil]); omega) (by decide)) ?_)
      intro ad2 cp2 H5 hcp2 hs6
      refine VC.s rfl (RVs.assign rfl rfl (fun _ => rfl) ?_)
      refine VC.nil (k8 ⟨35, [(0, _), (3, _), (7, _), (8, _)]⟩ _ ?_)
      refine CWp.regionW [0, 3, 7, 8] ?_
      refine VC.s rfl (RVs.arith (r := ((i + 1 : Nat) : Int)) rfl rfl rfl (by (try simp only [bl_bs]); first | exact wrap_in (by omega) | (rw [wrap_in (by omega)]; omega)) rfl (fun _ => ⟨⟨rfl, rfl⟩, rfl⟩) ?_)
      refine VC.s rfl (RVs.move rfl rfl (fun _ => rfl) ?_)
      refine VC.nil (k5 _ ⟨35, [(0, _), (3, _), (7, _), (8, _)]⟩ _ ?_ ⟨i + 1, _, _, rfl, rfl, by omega, hs6⟩)
      omega
    · rw [condT, bAti hlt] at hc2
      have hst := qup_no hlt (qm0 hc2)
      have hql := qup_len (s := s) (i := i) (Nat.le_of_lt hlt)
      refine CWp.skip ?_
      refine k10 _ _ ?_
      refine CWp.regionW [0, 3, 7, 8] ?_
      refine VC.s rfl (RVs.move rfl rfl (fun _ => rfl) ?_)
      refine VC.s rfl (RVs.move rfl rfl (fun _ => rfl) ?_)
      refine VC.s rfl (RVs.move rfl rfl (fun _ => rfl) ?_)
      refine VC.s rfl (RVs.index rfl rfl UnStr.h rfl (fun _ => ⟨⟨rfl, rfl⟩, by omega, by simp; omega⟩) ?_)
      refine VC.s rfl (RVs.buildS ElemOf.h ZeroOf.h rfl rfl rfl (by decide) rfl rfl rfl ?_)
      intro b4 H6 g4 l4 a4
      have hs7 := Sep.grow hs2 g4
      refine VC.s rfl (RVs.appendZ (k := kByte) (zs := b2i (qup s (i + 1))) int_Flat (i := 0) hs7 rfl rfl rfl ElemOf.h ElOk.h UnSl.h rfl rfl rfl ⟨rfl, rfl⟩ (lit_S (k := kByte) (xs := b2i [s[i]]) a4 (Kd.Rs.one (by rw [bAti hlt]; rfl)) rfl (by decide)) (by rw [hst]; simp only [b2i_app]) (small_of (by have := qup_len (s := s) (i := i) hi; (try simp only [b2i_len, List.length_append, List.length_cons, List.length_nil]); omega) (by decide)) ?_)
      intro ad3 cp3 H7 hcp3 hs8
      refine VC.s rfl (RVs.assign rfl rfl (fun _ => rfl) ?_)
      refine VC.nil (k8 ⟨35, [(0, _), (3, _), (7, _), (8, _)]⟩ _ ?_)
      refine CWp.regionW [0, 3, 7, 8] ?_
      refine VC.s rfl (RVs.arith (r := ((i + 1 : Nat) : Int)) rfl rfl rfl (by (try simp only [bl_bs]); first | exact wrap_in (by omega) | (rw [wrap_in (by omega)]; omega)) rfl (fun _ => ⟨⟨rfl, rfl⟩, rfl⟩) ?_)
      refine VC.s rfl (RVs.move rfl rfl (fun _ => rfl) ?_)
      refine VC.nil (k5 _ ⟨35, [(0, _), (3, _), (7, _), (8, _)]⟩ _ ?_ ⟨i + 1, _, _, rfl, rfl, by omega, hs8⟩)
      omega
  · have hge : s.length ≤ i := by have h9 := hc1; simp at h9; omega
    refine CWp.exit ?_
    refine k3 _ _ ?_
    refine CWp.seqK fun Kk12 k12 => ?_
    refine CWp.regionW [2] ?_
    refine VC.s rfl (RVs.move rfl rfl (fun _ => rfl) ?_)
    refine VC.s rfl (RVs.buildS ElemOf.h ZeroOf.h rfl rfl rfl (by decide) rfl rfl rfl ?_)
    intro b5 H8 g5 l5 a5
    have hs9 := Sep.grow hs2 g5
    refine VC.s rfl (RVs.appendZ (k := kByte) (zs := b2i (qup s i ++ [34])) int_Flat (i := 0) hs9 rfl rfl rfl ElemOf.h ElOk.h UnSl.h rfl rfl rfl ⟨rfl, rfl⟩ (lit_S (k := kByte) (xs := b2i [34]) a5 (Kd.Rs.one rfl) rfl (by decide)) ((b2i_app _ _).symm) (small_of (by have := qup_len (s := s) (i := i) hi; (try simp only [b2i_len, List.length_append, List.length_cons, List.length_nil]); omega) (by decide)) ?_)
    intro ad4 cp4 H9 hcp4 hs10
    refine VC.s rfl (RVs.text_S (l := qup s i ++ [34]) rfl UnSl.h UnStr.h UnInt.h rfl rfl (Sep.S (i := 0) hs10 rfl) (fun _ => rfl) ?_)
    refine VC.s rfl (RVs.assign rfl rfl (fun _ => rfl) ?_)
    refine VC.nil (k12 ⟨35, [(2, _)]⟩ _ ?_)
    refine CWp.ret (q _ _ _ (.cons (.tmp rfl) .nil) ?_).1
    exact ⟨by simp only [one]; rw [qup_end (by omega)], (hs10.pre)⟩

theorem l15Word (s : List UInt8) (H : AH) (hs : s.length ≤ 300) : FWp Tryd.prog 28 [.string (bs s)] H (fun v' H' => v' = .string (bs (wordW s)) ∧ H' = H) := by
  refine FWp.pure rfl fun H ph => ?_
  have hdl := decL_lenB (n := s.length) (by omega) (by omega)
  refine FWp.enterK Tryd.func28 rfl (by decide +kernel) rfl rfl fun Q q => ?_
  have hs0 := Sep.nil (H := H)
  refine CWp.seqK fun Kk1 k1 => ?_
  refine CWp.regionW [0] ?_
  refine VC.s rfl (RVs.assign rfl rfl (fun _ => rfl) ?_)
  refine VC.nil (k1 ⟨39, [(0, _)]⟩ _ ?_)
  refine CWp.seqK fun Kk2 k2 => ?_
  refine CWp.seqK fun Kk3 k3 => ?_
  refine CWp.regionW [0, 23] ?_
  refine VC.s rfl (RVs.move rfl rfl (fun _ => rfl) ?_)
  refine VC.s rfl (RVs.callp rfl rfl rfl (fun _ => ⟨⟨rfl, rfl⟩, l15Plain s _ (by unfold lim; omega)⟩) ?_)
  refine VC.s rfl (RVs.move rfl rfl (fun _ => rfl) ?_)
  refine VC.s rfl (RVs.move rfl rfl (fun hg => rfl) ?_)
  refine VC.s rfl (RVs.len_string rfl UnStr.h rfl (fun hg => hg) ?_)
  refine VC.s rfl (RVs.bin rfl rfl rfl rfl (fun hg => ⟨⟨hg, rfl⟩, rfl⟩) ?_)
  refine VC.s rfl (RVs.move rfl rfl (fun hg => hg) ?_)
  refine VC.s rfl (RVs.move rfl rfl (fun hg => rfl) ?_)
  refine VC.s rfl (RVs.index rfl rfl UnStr.h rfl (fun hg => ⟨⟨hg, rfl⟩, by omega, by have hg2 := hg; simp at hg2; simp; omega⟩) ?_)
  refine VC.s rfl (RVs.bin rfl rfl rfl rfl (fun hg => ⟨⟨hg, rfl⟩, rfl⟩) ?_)
  refine VC.s rfl (RVs.pick rfl rfl rfl rfl (fun hg => ⟨hg, fun hh => pk_t hh hg, fun _ => rfl⟩) ?_)
  refine VC.s rfl (RVs.move rfl rfl (fun hg => hg) ?_)
  refine VC.s rfl (RVs.move rfl rfl (fun hg => rfl) ?_)
  refine VC.s rfl (RVs.callp rfl rfl rfl (fun hg => ⟨⟨rfl, (GF.conds_cons hg (GF.conds_cons rfl rfl))⟩, l15List s _ hs⟩) ?_)
  refine VC.s rfl (RVs.move rfl rfl (fun hg => rfl) ?_)
  refine VC.s rfl (RVs.len_string rfl UnStr.h rfl (fun hg => hg) ?_)
  refine VC.s rfl (RVs.bin rfl rfl rfl rfl (fun hg => ⟨⟨hg, hg⟩, rfl⟩) ?_)
  refine VC.s rfl (RVs.pick rfl rfl rfl rfl (fun hg => ⟨hg, fun hh => pk_t hh hg, fun _ => rfl⟩) ?_)
  refine VC.s rfl (RVs.pick rfl rfl rfl rfl (fun hg => ⟨rfl, fun _ => rfl, fun hh => pk_f hh rfl⟩) ?_)
  refine VC.nil (k3 ⟨39, [(0, _), (23, _)]⟩ _ ?_)
  refine CWp.condV rfl (fun hc1 => ?_) (fun hc1 => ?_)
  · simp only [bl_bs] at hc1
    rw [condT, list_cond] at hc1
    have hw := wordA hc1
    refine CWp.seqK fun Kk4 k4 => ?_
    refine CWp.regionW [2] ?_
    refine VC.s rfl (RVs.move rfl rfl (fun _ => rfl) ?_)
    refine VC.s rfl (RVs.assign rfl rfl (fun _ => rfl) ?_)
    refine VC.nil (k4 ⟨39, [(2, _)]⟩ _ ?_)
    refine CWp.ret (q _ _ _ (.cons (.tmp rfl) .nil) ?_).1
    exact ⟨by simp only [one]; rw [hw], (hs0.pre)⟩
  · simp only [bl_bs] at hc1
    rw [condT, list_cond] at hc1
    have hw := wordB hc1
    refine CWp.skip ?_
    refine k2 _ _ ?_
    refine CWp.seqK fun Kk5 k5 => ?_
    refine CWp.regionW [0, 3, 4] ?_
    refine VC.s rfl (RVs.move rfl rfl (fun _ => rfl) ?_)
    refine VC.s rfl (RVs.callp rfl rfl rfl (fun _ => ⟨⟨rfl, rfl⟩, l15Quoted s _ hs⟩) ?_)
    refine VC.s rfl (RVs.move rfl rfl (fun _ => rfl) ?_)
    refine VC.s rfl (RVs.extract rfl rfl rfl (fun _ => rfl) ?_)
    refine VC.s rfl (RVs.extract rfl rfl rfl (fun _ => rfl) ?_)
    refine VC.s rfl (RVs.assign rfl rfl (fun _ => rfl) ?_)
    refine VC.s rfl (RVs.assign rfl rfl (fun _ => rfl) ?_)
    refine VC.nil (k5 ⟨39, [(0, _), (3, _), (4, _)]⟩ _ ?_)
    refine CWp.seqK fun Kk6 k6 => ?_
    refine CWp.seqK fun Kk7 k7 => ?_
    refine CWp.regionW [0, 3, 30] ?_
    refine VC.s rfl (RVs.move rfl rfl (fun _ => rfl) ?_)
    refine VC.nil (k7 ⟨39, [(0, _), (3, _), (30, _)]⟩ _ ?_)
    refine CWp.condV rfl (fun hc2 => ?_) (fun hc2 => ?_)
    · skip
      refine CWp.seqK fun Kk8 k8 => ?_
      refine CWp.regionW [2] ?_
      refine VC.s rfl (RVs.move rfl rfl (fun _ => rfl) ?_)
      refine VC.s rfl (RVs.assign rfl rfl (fun _ => rfl) ?_)
      refine VC.nil (k8 ⟨39, [(2, _)]⟩ _ ?_)
      refine CWp.ret (q _ _ _ (.cons (.tmp rfl) .nil) ?_).1
      exact ⟨by simp only [one]; rw [hw]; simp only [hc2, ↓reduceIte], (hs0.pre)⟩
    · skip
      refine CWp.skip ?_
      refine k6 _ _ ?_
      refine CWp.seqK fun Kk9 k9 => ?_
      refine CWp.regionW [2] ?_
      refine VC.s rfl (RVs.move rfl rfl (fun _ => rfl) ?_)
      refine VC.s rfl (RVs.len_string rfl UnStr.h rfl (fun _ => rfl) ?_)
      refine VC.s rfl (RVs.callp rfl rfl rfl (fun _ => ⟨⟨rfl, rfl⟩, sDecimal (s.length : Int) _ (by omega) (by unfold lim; omega)⟩) ?_)
      refine VC.s rfl (RVs.bin rfl rfl rfl rfl (fun _ => ⟨⟨rfl, rfl⟩, by (try simp only [bl_bs]); simp; omega⟩) ?_)
      refine VC.s rfl (RVs.bin rfl rfl rfl rfl (fun _ => ⟨⟨rfl, rfl⟩, by (try simp only [bl_bs]); simp; omega⟩) ?_)
      refine VC.s rfl (RVs.move rfl rfl (fun _ => rfl) ?_)
      refine VC.s rfl (RVs.bin rfl rfl rfl rfl (fun _ => ⟨⟨rfl, rfl⟩, by (try simp only [bl_bs]); simp; omega⟩) ?_)
      refine VC.s rfl (RVs.assign rfl rfl (fun _ => rfl) ?_)
      refine VC.nil (k9 ⟨39, [(2, _)]⟩ _ ?_)
      refine CWp.ret (q _ _ _ (.cons (.tmp rfl) .nil) ?_).1
      exact ⟨by simp only [one, bl_bs]; rw [hw]; simp only [hc2, Bool.false_eq_true, ↓reduceIte]; rfl, (hs0.pre)⟩

theorem wordText (s : List UInt8) (H : AH) (hs : s.length ≤ 300) : FWp Tryd.prog 30 [.string (bs s)] H (fun v' H' => v' = .string (bs (wordW s)) ∧ H' = H) := by
  refine FWp.pure rfl fun H ph => ?_
  have hdl := decL_lenB (n := s.length) (by omega) (by omega)
  refine FWp.enterK Tryd.func30 rfl (by decide +kernel) rfl rfl fun Q q => ?_
  have hs0 := Sep.nil (H := H)
  refine CWp.seqK fun Kk1 k1 => ?_
  refine CWp.regionW [0] ?_
  refine VC.s rfl (RVs.assign rfl rfl (fun _ => rfl) ?_)
  refine VC.nil (k1 ⟨24, [(0, _)]⟩ _ ?_)
  refine CWp.seqK fun Kk2 k2 => ?_
  refine CWp.block ?_
  refine CWp.seqK fun Kk3 k3 => ?_
  refine CWp.regionW [0, 3] ?_
  refine VC.s rfl (RVs.move rfl rfl (fun _ => rfl) ?_)
  refine VC.s rfl (RVs.callp rfl rfl rfl (fun _ => ⟨⟨rfl, rfl⟩, isPlain s _ (by unfold lim; omega)⟩) ?_)
  refine VC.s rfl (RVs.move rfl rfl (fun _ => rfl) ?_)
  refine VC.s rfl (RVs.move rfl rfl (fun hg => rfl) ?_)
  refine VC.s rfl (RVs.callp rfl rfl rfl (fun hg => ⟨⟨rfl, (GF.conds_cons hg rfl)⟩, isList s _ hs⟩) ?_)
  refine VC.s rfl (RVs.pick rfl rfl rfl rfl (fun hg => ⟨rfl, fun _ => rfl, fun hh => pk_f hh rfl⟩) ?_)
  refine VC.s rfl (RVs.assign rfl rfl (fun _ => rfl) ?_)
  refine VC.nil (k3 ⟨24, [(0, _), (3, _)]⟩ _ ?_)
  refine CWp.condV rfl (fun hc1 => ?_) (fun hc1 => ?_)
  · rw [condT] at hc1
    have hw := wordA hc1
    refine CWp.seqK fun Kk4 k4 => ?_
    refine CWp.regionW [2] ?_
    refine VC.s rfl (RVs.move rfl rfl (fun _ => rfl) ?_)
    refine VC.s rfl (RVs.assign rfl rfl (fun _ => rfl) ?_)
    refine VC.nil (k4 ⟨24, [(2, _)]⟩ _ ?_)
    refine CWp.ret (q _ _ _ (.cons (.tmp rfl) .nil) ?_).1
    exact ⟨by simp only [one]; rw [hw], (hs0.pre)⟩
  · rw [condT] at hc1
    have hw := wordB hc1
    refine CWp.seqK fun Kk5 k5 => ?_
    refine CWp.regionW [0, 11] ?_
    refine VC.s rfl (RVs.move rfl rfl (fun _ => rfl) ?_)
    refine VC.s rfl (RVs.callp rfl rfl rfl (fun _ => ⟨⟨rfl, rfl⟩, isShown s _ (by unfold lim; omega)⟩) ?_)
    refine VC.s rfl (RVs.assign rfl rfl (fun _ => rfl) ?_)
    refine VC.nil (k5 ⟨24, [(0, _), (11, _)]⟩ _ ?_)
    refine CWp.condV rfl (fun hc2 => ?_) (fun hc2 => ?_)
    · skip
      refine CWp.seqK fun Kk6 k6 => ?_
      refine CWp.regionW [2] ?_
      refine VC.s rfl (RVs.move rfl rfl (fun _ => rfl) ?_)
      refine VC.s rfl (RVs.callp rfl rfl rfl (fun _ => ⟨⟨rfl, rfl⟩, quoted s _ hs⟩) ?_)
      refine VC.s rfl (RVs.assign rfl rfl (fun _ => rfl) ?_)
      refine VC.nil (k6 ⟨24, [(2, _)]⟩ _ ?_)
      refine CWp.ret (q _ _ _ (.cons (.tmp rfl) .nil) ?_).1
      exact ⟨by simp only [one]; rw [hw]; simp only [hc2, ↓reduceIte], (hs0.pre)⟩
    · skip
      refine CWp.skip ?_
      refine k2 _ _ ?_
      refine CWp.seqK fun Kk7 k7 => ?_
      refine CWp.regionW [2] ?_
      refine VC.s rfl (RVs.move rfl rfl (fun _ => rfl) ?_)
      refine VC.s rfl (RVs.len_string rfl UnStr.h rfl (fun _ => rfl) ?_)
      refine VC.s rfl (RVs.callp rfl rfl rfl (fun _ => ⟨⟨rfl, rfl⟩, iDecimal (s.length : Int) _ (by omega) (by unfold lim; omega)⟩) ?_)
      refine VC.s rfl (RVs.bin rfl rfl rfl rfl (fun _ => ⟨⟨rfl, rfl⟩, by (try simp only [bl_bs]); simp; omega⟩) ?_)
      refine VC.s rfl (RVs.bin rfl rfl rfl rfl (fun _ => ⟨⟨rfl, rfl⟩, by (try simp only [bl_bs]); simp; omega⟩) ?_)
      refine VC.s rfl (RVs.bin rfl rfl rfl rfl (fun _ => ⟨⟨rfl, rfl⟩, by (try simp only [bl_bs]); simp; omega⟩) ?_)
      refine VC.s rfl (RVs.move rfl rfl (fun _ => rfl) ?_)
      refine VC.s rfl (RVs.bin rfl rfl rfl rfl (fun _ => ⟨⟨rfl, rfl⟩, by (try simp only [bl_bs]); simp; omega⟩) ?_)
      refine VC.s rfl (RVs.assign rfl rfl (fun _ => rfl) ?_)
      refine VC.nil (k7 ⟨24, [(2, _)]⟩ _ ?_)
      refine CWp.ret (q _ _ _ (.cons (.tmp rfl) .nil) ?_).1
      exact ⟨by simp only [one, bl_bs]; rw [hw]; simp only [hc2, Bool.false_eq_true, ↓reduceIte, List.append_assoc]; rfl, (hs0.pre)⟩

end Go.Proofs.YtaccaelocddakaaDoor
