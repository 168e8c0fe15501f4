/- The walks of the functions that tell numbers and caches in words. -/
import Derived.Test.YtohfajiimbchhaaDoorT6
import Derived.Test.YtohfajiimbchhaaDoorI0
namespace Go.Proofs.YtohfajiimbchhaaDoor
open Go Go.RowKit
set_option linter.unusedVariables false
set_option maxRecDepth 20000

theorem l01Figure (r : Nat) (H : AH) (hr : r < 10) : FWp Tryd.prog 25 [.int .i64 (r : Int)] H (fun v' H' => v' = .int .u8 ((UInt8.ofNat (48 + r)).toNat : Int) ∧ H' = H) := by
  refine FWp.pure rfl fun H ph => ?_
  refine FWp.enterK Tryd.func25 rfl (by decide +kernel) rfl rfl fun Q q => ?_
  refine CWp.seqK fun Kk1 k1 => ?_
  refine CWp.regionW [0] ?_
  refine VC.s rfl (RVs.assign rfl rfl (fun _ => rfl) ?_)
  refine VC.nil (k1 ⟨12, [(0, _)]⟩ _ ?_)
  refine CWp.seqK fun Kk2 k2 => ?_
  refine CWp.seqK fun Kk3 k3 => ?_
  refine CWp.regionW [0, 4] ?_
  refine VC.s rfl (RVs.move rfl rfl (fun _ => rfl) ?_)
  refine VC.s rfl (RVs.bin rfl rfl rfl rfl (fun _ => ⟨⟨rfl, rfl⟩, rfl⟩) ?_)
  refine VC.nil (k3 ⟨12, [(0, _), (4, _)]⟩ _ ?_)
  refine CWp.condV rfl (fun hc1 => ?_) (fun hc1 => ?_)
  · skip
    refine CWp.seqK fun Kk4 k4 => ?_
    refine CWp.regionW [2] ?_
    refine VC.s rfl (RVs.move rfl rfl (fun _ => rfl) ?_)
    refine VC.s rfl (RVs.bin rfl rfl rfl rfl (fun _ => ⟨⟨rfl, rfl⟩, rfl⟩) ?_)
    refine VC.s rfl (RVs.conv_int rfl UnInt.h UnInt.h rfl (fun _ => rfl) ?_)
    refine VC.s rfl (RVs.assign rfl rfl (fun _ => rfl) ?_)
    refine VC.nil (k4 ⟨12, [(2, _)]⟩ _ ?_)
    refine CWp.ret (q _ _ _ (.cons (.tmp rfl) .nil) ?_).1
    exact ⟨by simp only [one]; rw [u8_fig hr], (List.prefix_refl H)⟩
  · exact absurd (of_decide_eq_false hc1) (by omega)

theorem sDecimal (k : Int) (H : AH) (h0 : 0 ≤ k) (hk : k ≤ lim) : FWp Tryd.prog 15 [.int .i64 k] H (fun v' H' => v' = .string (bs (decL k)) ∧ H' = H) := by
  refine FWp.pure rfl fun H ph => ?_
  unfold lim at hk
  refine FWp.enterK Tryd.func15 rfl (by decide +kernel) rfl rfl fun Q q => ?_
  refine CWp.seqK fun Kk1 k1 => ?_
  refine CWp.regionW [0] ?_
  refine VC.s rfl (RVs.assign rfl rfl (fun _ => rfl) ?_)
  refine VC.nil (k1 ⟨30, [(0, _)]⟩ _ ?_)
  refine CWp.seqK fun Kk2 k2 => ?_
  refine CWp.seqK fun Kk3 k3 => ?_
  refine CWp.regionW [0, 7] ?_
  refine VC.s rfl (RVs.move rfl rfl (fun _ => rfl) ?_)
  refine VC.s rfl (RVs.bin rfl rfl rfl rfl (fun _ => ⟨⟨rfl, rfl⟩, rfl⟩) ?_)
  refine VC.nil (k3 ⟨30, [(0, _), (7, _)]⟩ _ ?_)
  refine CWp.condV rfl (fun hc1 => ?_) (fun hc1 => ?_)
  · try simp at hc1
    refine CWp.seqK fun Kk4 k4 => ?_
    refine CWp.regionW [2] ?_
    refine VC.s rfl (RVs.assign rfl rfl (fun _ => rfl) ?_)
    refine VC.nil (k4 ⟨30, [(2, _)]⟩ _ ?_)
    refine CWp.ret (q _ _ _ (.cons (.tmp rfl) .nil) ?_).1
    exact ⟨by simp only [one, decL]; rw [if_pos hc1]; rfl, (List.prefix_refl H)⟩
  · try simp at hc1
    refine CWp.skip ?_
    refine k2 _ _ ?_
    refine CWp.seqK fun Kk5 k5 => ?_
    refine CWp.regionW [0, 3] ?_
    refine VC.s rfl (RVs.move rfl rfl (fun _ => rfl) ?_)
    refine VC.s rfl (RVs.bin rfl rfl rfl rfl (fun _ => ⟨⟨rfl, rfl⟩, rfl⟩) ?_)
    refine VC.s rfl (RVs.assign rfl rfl (fun _ => rfl) ?_)
    refine VC.nil (k5 ⟨30, [(0, _), (3, _)]⟩ _ ?_)
    refine CWp.seqK fun Kk6 k6 => ?_
    refine CWp.regionW [0, 3, 4] ?_
    refine VC.s rfl (RVs.assign rfl rfl (fun _ => rfl) ?_)
    refine VC.nil (k6 ⟨30, [(0, _), (3, _), (4, _)]⟩ _ ?_)
    refine CWp.seqK fun Kk7 k7 => ?_
    refine CWp.block ?_
    refine CWp.loopK (fun n T H' => ∃ (m : Nat) (out : List UInt8), T = ⟨30, [(0, .int .i64 (m : Int)), (3, .bool false), (4, .string (bs out))]⟩ ∧ n = m ∧ (digs k.toNat = digs m ++ out) ∧ (m ≤ k.toNat) ∧ H <+: H') (n := k.toNat) ⟨k.toNat, [], by rw [Int.toNat_of_nonneg h0, decide_eq_false (by omega)]; rfl, by first | rfl | simp, by simp, by omega, List.prefix_refl _⟩ ?_
    rintro n T Hl1 Kk8 k8 ⟨m, out, rfl, hn1, hd, hm, pl1⟩
    have p1 := (List.prefix_refl H).trans pl1
    refine CWp.seqK fun Kk9 k9 => ?_
    refine CWp.seqK fun Kk10 k10 => ?_
    refine CWp.regionW [0, 3, 4, 11] ?_
    refine VC.s rfl (RVs.move rfl rfl (fun _ => rfl) ?_)
    refine VC.s rfl (RVs.bin rfl rfl rfl rfl (fun _ => ⟨⟨rfl, rfl⟩, rfl⟩) ?_)
    refine VC.nil (k10 ⟨30, [(0, _), (3, _), (4, _), (11, _)]⟩ _ ?_)
    refine CWp.condV rfl (fun hc2 => ?_) (fun hc2 => ?_)
    · try simp at hc2
      refine CWp.skip ?_
      refine k9 _ _ ?_
      refine CWp.block ?_
      refine CWp.seqK fun Kk11 k11 => ?_
      refine CWp.regionW [0, 3, 4, 5] ?_
      refine VC.s rfl (RVs.move rfl rfl (fun _ => rfl) ?_)
      refine VC.s rfl (RVs.bin rfl rfl rfl rfl (fun _ => ⟨⟨rfl, rfl⟩, ⟨rfl, by omega⟩⟩) ?_)
      rw [show (m : Int).tmod 10 = ((m % 10 : Nat) : Int) from rfl]
      refine VC.s rfl (RVs.assign rfl rfl (fun _ => rfl) ?_)
      refine VC.nil (k11 ⟨30, [(0, _), (3, _), (4, _), (5, _)]⟩ _ ?_)
      refine CWp.seqK fun Kk12 k12 => ?_
      refine CWp.seqK fun Kk13 k13 => ?_
      refine CWp.regionW [0, 3, 4, 5, 15] ?_
      refine VC.s rfl (RVs.move rfl rfl (fun _ => rfl) ?_)
      refine VC.s rfl (RVs.bin rfl rfl rfl rfl (fun _ => ⟨⟨rfl, rfl⟩, rfl⟩) ?_)
      refine VC.nil (k13 ⟨30, [(0, _), (3, _), (4, _), (5, _), (15, _)]⟩ _ ?_)
      refine CWp.condV rfl (fun hc3 => ?_) (fun hc3 => ?_)
      · exact absurd (of_decide_eq_true hc3) (by omega)
      · try simp at hc3
        refine CWp.skip ?_
        refine k12 _ _ ?_
        refine CWp.seqK fun Kk14 k14 => ?_
        refine CWp.regionW [0, 3, 4] ?_
        refine VC.s rfl (RVs.move rfl rfl (fun _ => rfl) ?_)
        refine VC.s rfl (RVs.callp rfl rfl rfl (fun _ => ⟨⟨rfl, rfl⟩, l01Figure _ _ (Nat.mod_lt _ (by decide))⟩) ?_)
        refine VC.s rfl (RVs.buildS ElemOf.h ZeroOf.h rfl rfl rfl (by decide) rfl rfl rfl ?_)
        intro b1 H1 g1 l1 a1
        have lo1 := Nat.le_trans (List.IsPrefix.length_le p1) l1
        have ls1 := Nat.le_trans (List.IsPrefix.length_le (List.prefix_refl Hl1)) l1
        have sn1 := List.IsPrefix.trans (List.prefix_refl Hl1) g1
        have p2 := p1.trans g1
        refine VC.s rfl (RVs.text_of (l := [UInt8.ofNat (48 + m % 10)]) rfl UnSl.h UnStr.h UnInt.h rfl rfl (fun _ => ⟨rfl, .sl a1 rw_live (Nat.le_of_ble_eq_true rfl), rfl⟩) ?_)
        refine VC.s rfl (RVs.move rfl rfl (fun _ => rfl) ?_)
        refine VC.s rfl (RVs.bin rfl rfl rfl rfl (fun _ => ⟨⟨rfl, rfl⟩, by have := digs_len k.toNat; rw [hd] at this; simp at *; omega⟩) ?_)
        refine VC.s rfl (RVs.assign rfl rfl (fun _ => rfl) ?_)
        refine VC.nil (k14 ⟨30, [(0, _), (3, _), (4, _)]⟩ _ ?_)
        refine CWp.regionW [0, 3, 4] ?_
        refine VC.s rfl (RVs.move rfl rfl (fun _ => rfl) ?_)
        refine VC.s rfl (RVs.bin rfl rfl rfl rfl (fun _ => ⟨⟨rfl, rfl⟩, ⟨rfl, by omega⟩⟩) ?_)
        refine VC.s rfl (RVs.assign rfl rfl (fun _ => rfl) ?_)
        refine VC.nil (k8 _ ⟨30, [(0, _), (3, _), (4, _)]⟩ _ ?_ ⟨m / 10, UInt8.ofNat (48 + m % 10) :: out, by have hw : IntKind.i64.wrap ((m : Int).tdiv 10) = ((m / 10 : Nat) : Int) := wrap_in (n := ((m / 10 : Nat) : Int)) (by omega); rw [hw]; simp, rfl, by rw [hd, digs_pos (by omega), List.append_assoc]; rfl, by omega, pl1.trans sn1⟩)
        omega
    · try simp at hc2
      refine CWp.exit ?_
      refine k7 _ _ ?_
      refine CWp.seqK fun Kk15 k15 => ?_
      refine CWp.seqK fun Kk16 k16 => ?_
      refine CWp.regionW [4, 26] ?_
      refine VC.s rfl (RVs.move rfl rfl (fun _ => rfl) ?_)
      refine VC.nil (k16 ⟨30, [(4, _), (26, _)]⟩ _ ?_)
      refine CWp.condV rfl (fun hc4 => ?_) (fun hc4 => ?_)
      · exact absurd hc4 (by decide)
      · try simp at hc4
        refine CWp.skip ?_
        refine k15 _ _ ?_
        refine CWp.seqK fun Kk17 k17 => ?_
        refine CWp.regionW [2] ?_
        refine VC.s rfl (RVs.move rfl rfl (fun _ => rfl) ?_)
        refine VC.s rfl (RVs.assign rfl rfl (fun _ => rfl) ?_)
        refine VC.nil (k17 ⟨30, [(2, _)]⟩ _ ?_)
        refine CWp.ret (q _ _ _ (.cons (.tmp rfl) .nil) ?_).1
        exact ⟨by simp only [one, decL]; rw [if_neg hc1, if_neg (by omega), show k.natAbs = k.toNat by omega, hd, show m = 0 by omega, digs_zero]; rfl, p1⟩

theorem iDecimal (k : Int) (H : AH) (h0 : 0 ≤ k) (hk : k ≤ lim) : FWp Tryd.prog 18 [.int .i64 k] H (fun v' H' => v' = .string (bs (decL k)) ∧ H' = H) := by
  refine FWp.pure rfl fun H ph => ?_
  refine FWp.enterK Tryd.func18 rfl (by decide +kernel) rfl rfl fun Q q => ?_
  refine CWp.seqK fun Kk1 k1 => ?_
  refine CWp.regionW [0] ?_
  refine VC.s rfl (RVs.assign rfl rfl (fun _ => rfl) ?_)
  refine VC.nil (k1 ⟨5, [(0, _)]⟩ _ ?_)
  refine CWp.seqK fun Kk2 k2 => ?_
  refine CWp.regionW [2] ?_
  refine VC.s rfl (RVs.move rfl rfl (fun _ => rfl) ?_)
  refine VC.s rfl (RVs.callp rfl rfl rfl (fun _ => ⟨⟨rfl, rfl⟩, itoa _ _ h0 hk⟩) ?_)
  refine VC.s rfl (RVs.assign rfl rfl (fun _ => rfl) ?_)
  refine VC.nil (k2 ⟨5, [(2, _)]⟩ _ ?_)
  refine CWp.ret (q _ _ _ (.cons (.tmp rfl) .nil) ?_).1
  exact ⟨rfl, (List.prefix_refl H)⟩

end Go.Proofs.YtohfajiimbchhaaDoor
