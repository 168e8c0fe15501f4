/- The walks of the functions that mark, and look for marks. -/
import Derived.Test.YtohfajiimbchhaaDoorFacts
namespace Go.Proofs.YtohfajiimbchhaaDoor
open Go Go.RowKit
set_option linter.unusedVariables false
set_option maxRecDepth 20000
variable [Tabs]

theorem markText (k : Int) (H : AH) (hk : k ≤ lim) : FWp Tryd.prog 21 [.int .i64 k] H (fun v' H' => v' = .string (bs (markT k)) ∧ H' = H) := by
  refine FWp.pure rfl fun H ph => ?_
  unfold lim at hk
  refine FWp.enterK Tryd.func21 rfl (by decide +kernel) rfl rfl fun Q q => ?_
  refine CWp.seqK fun Kk1 k1 => ?_
  refine CWp.regionW [0] ?_
  refine VC.s rfl (RVs.assign rfl rfl (fun _ => rfl) ?_)
  refine VC.nil (k1 ⟨20, [(0, _)]⟩ _ ?_)
  refine CWp.seqK fun Kk2 k2 => ?_
  refine CWp.seqK fun Kk3 k3 => ?_
  refine CWp.regionW [0, 5] ?_
  refine VC.s rfl (RVs.move rfl rfl (fun _ => rfl) ?_)
  refine VC.s rfl (RVs.bin rfl rfl rfl rfl (fun _ => ⟨⟨rfl, rfl⟩, rfl⟩) ?_)
  refine VC.nil (k3 ⟨20, [(0, _), (5, _)]⟩ _ ?_)
  refine CWp.condV rfl (fun hc1 => ?_) (fun hc1 => ?_)
  · try simp at hc1
    refine CWp.seqK fun Kk4 k4 => ?_
    refine CWp.regionW [2] ?_
    refine VC.s rfl (RVs.assign rfl rfl (fun _ => rfl) ?_)
    refine VC.nil (k4 ⟨20, [(2, _)]⟩ _ ?_)
    refine CWp.ret (q _ _ _ (.cons (.tmp rfl) .nil) ?_).1
    exact ⟨by simp [one, markT, hc1]; rfl, (List.prefix_refl H)⟩
  · try simp at hc1
    refine CWp.skip ?_
    refine k2 _ _ ?_
    refine CWp.seqK fun Kk5 k5 => ?_
    refine CWp.regionW [0, 3] ?_
    refine VC.s rfl (RVs.assign rfl rfl (fun _ => rfl) ?_)
    refine VC.nil (k5 ⟨20, [(0, _), (3, _)]⟩ _ ?_)
    refine CWp.seqK fun Kk6 k6 => ?_
    refine CWp.block ?_
    refine CWp.loopK (fun n T H' => ∃ (m : Nat) (out : List UInt8), T = ⟨20, [(0, .int .i64 (m : Int)), (3, .string (bs out))]⟩ ∧ n = m ∧ (digs k.toNat = digs m ++ out) ∧ (m ≤ k.toNat) ∧ H <+: H') (n := k.toNat) ⟨k.toNat, [], by rw [Int.toNat_of_nonneg (by omega)]; rfl, by first | rfl | simp, by simp, by omega, List.prefix_refl _⟩ ?_
    rintro n T Hl1 Kk7 k7 ⟨m, out, rfl, hn1, hd, hm, pl1⟩
    have p1 := (List.prefix_refl H).trans pl1
    refine CWp.seqK fun Kk8 k8 => ?_
    refine CWp.seqK fun Kk9 k9 => ?_
    refine CWp.regionW [0, 3, 7] ?_
    refine VC.s rfl (RVs.move rfl rfl (fun _ => rfl) ?_)
    refine VC.s rfl (RVs.bin rfl rfl rfl rfl (fun _ => ⟨⟨rfl, rfl⟩, rfl⟩) ?_)
    refine VC.nil (k9 ⟨20, [(0, _), (3, _), (7, _)]⟩ _ ?_)
    refine CWp.condV rfl (fun hc2 => ?_) (fun hc2 => ?_)
    · try simp at hc2
      refine CWp.skip ?_
      refine k8 _ _ ?_
      refine CWp.block ?_
      refine CWp.seqK fun Kk10 k10 => ?_
      refine CWp.regionW [0, 3] ?_
      refine VC.s rfl (RVs.move rfl rfl (fun _ => rfl) ?_)
      refine VC.s rfl (RVs.bin rfl rfl rfl rfl (fun _ => ⟨⟨rfl, rfl⟩, ⟨rfl, by omega⟩⟩) ?_)
      refine VC.s rfl (RVs.bin rfl rfl rfl rfl (fun _ => ⟨⟨rfl, rfl⟩, rfl⟩) ?_)
      refine VC.s rfl (RVs.conv_int rfl UnInt.h UnInt.h rfl (fun _ => rfl) ?_)
      refine VC.s rfl (RVs.buildS ElemOf.h ZeroOf.h rfl rfl rfl (by decide) rfl rfl rfl ?_)
      intro b1 H1 g1 l1 a1
      have lo1 := Nat.le_trans (List.IsPrefix.length_le p1) l1
      have p2 := p1.trans g1
      refine VC.s rfl (RVs.text_of (l := [UInt8.ofNat (48 + m % 10)]) rfl UnSl.h UnStr.h UnInt.h rfl rfl (fun _ => ⟨rfl, .sl a1 rw_live (Nat.le_of_ble_eq_true rfl), by simp only [List.map_cons, List.map_nil]; rw [u8_digit]; rfl⟩) ?_)
      refine VC.s rfl (RVs.move rfl rfl (fun _ => rfl) ?_)
      refine VC.s rfl (RVs.bin rfl rfl rfl rfl (fun _ => ⟨⟨rfl, rfl⟩, by have := digs_len k.toNat; rw [hd] at this; simp at *; omega⟩) ?_)
      refine VC.s rfl (RVs.assign rfl rfl (fun _ => rfl) ?_)
      refine VC.nil (k10 ⟨20, [(0, _), (3, _)]⟩ _ ?_)
      refine CWp.regionW [0, 3] ?_
      refine VC.s rfl (RVs.move rfl rfl (fun _ => rfl) ?_)
      refine VC.s rfl (RVs.bin rfl rfl rfl rfl (fun _ => ⟨⟨rfl, rfl⟩, ⟨rfl, by omega⟩⟩) ?_)
      refine VC.s rfl (RVs.assign rfl rfl (fun _ => rfl) ?_)
      refine VC.nil (k7 _ ⟨20, [(0, _), (3, _)]⟩ _ ?_ ⟨m / 10, UInt8.ofNat (48 + m % 10) :: out, by have hw : IntKind.i64.wrap ((m : Int).tdiv 10) = ((m / 10 : Nat) : Int) := wrap_in (n := ((m / 10 : Nat) : Int)) (by omega); rw [hw]; simp, rfl, by rw [hd, digs_pos (by omega), List.append_assoc]; rfl, by omega, pl1.trans g1⟩)
      omega
    · try simp at hc2
      refine CWp.exit ?_
      refine k6 _ _ ?_
      refine CWp.seqK fun Kk11 k11 => ?_
      refine CWp.regionW [2] ?_
      refine VC.s rfl (RVs.move rfl rfl (fun _ => rfl) ?_)
      refine VC.s rfl (RVs.bin rfl rfl rfl rfl (fun _ => ⟨⟨rfl, rfl⟩, by have := digs_len k.toNat; rw [hd] at this; simp at *; omega⟩) ?_)
      refine VC.s rfl (RVs.assign rfl rfl (fun _ => rfl) ?_)
      refine VC.nil (k11 ⟨20, [(2, _)]⟩ _ ?_)
      refine CWp.ret (q _ _ _ (.cons (.tmp rfl) .nil) ?_).1
      exact ⟨by simp [one, markT, Int.not_le.2 hc1, hd, show m = 0 by omega, digs_zero], p1⟩

theorem markStringS (va : Value) (xs : List (List UInt8)) (k : Int) (F : List Nat) (H : AH) (hW : Kd.str.WS H va xs F) (h0 : 0 ≤ k) (h1 : k + xs.length ≤ 4611686018427387904) : FWp Tryd.prog 11 [va, .int .i64 k] H (fun v' H' => v' = .int .i64 (k + xs.length) ∧ Chg H H' F ∧ Kd.str.WS H' va (marksT k xs.length) F) := by
  have hl := hW.S.lim
  unfold lim at hl
  obtain ⟨aa, ca, rfl, hca⟩ := hW.S.form
  refine FWp.enterK Tryd.func11 rfl (by decide +kernel) rfl rfl fun Q q => ?_
  refine CWp.seqK fun Kk1 k1 => ?_
  refine CWp.regionW [0, 1] ?_
  refine VC.s rfl (RVs.assign rfl rfl (fun _ => rfl) ?_)
  refine VC.nil (k1 ⟨20, [(0, _), (1, _)]⟩ _ ?_)
  refine CWp.seqK fun Kk2 k2 => ?_
  refine CWp.seqK fun Kk3 k3 => ?_
  refine CWp.regionW [0, 1, 5] ?_
  refine VC.s rfl (RVs.assign rfl rfl (fun _ => rfl) ?_)
  refine VC.nil (k3 ⟨20, [(0, _), (1, _), (5, _)]⟩ _ ?_)
  refine CWp.block ?_
  refine CWp.loopK (fun n T H' => ∃ i : Nat, T = ⟨20, [(0, .slice aa xs.length ca), (1, .int .i64 (k + i)), (5, .int .i64 (i : Int))]⟩ ∧ n = xs.length - i ∧ (i ≤ xs.length) ∧ Chg H H' F ∧ Kd.str.WS H' (.slice aa xs.length ca) (marksT k i ++ xs.drop i) F) (n := xs.length) ⟨0, by simp, by first | rfl | simp, by omega, (Chg.refl (H := H) (F := F)), by simpa [marksT, seenM] using hW⟩ ?_
  rintro n T Hl1 Kk4 k4 ⟨i, rfl, hn1, hi, hcl, hWl⟩
  have ws1 := hWl
  have ch1 := hcl
  refine CWp.seqK fun Kk5 k5 => ?_
  refine CWp.seqK fun Kk6 k6 => ?_
  refine CWp.regionW [0, 1, 5, 9] ?_
  refine VC.s rfl (RVs.move rfl rfl (fun _ => rfl) ?_)
  refine VC.s rfl (RVs.move rfl rfl (fun _ => rfl) ?_)
  refine VC.s rfl (RVs.len_slice rfl UnSl.h rfl (fun _ => rfl) ?_)
  refine VC.s rfl (RVs.bin rfl rfl rfl rfl (fun _ => ⟨⟨rfl, rfl⟩, rfl⟩) ?_)
  refine VC.nil (k6 ⟨20, [(0, _), (1, _), (5, _), (9, _)]⟩ _ ?_)
  refine CWp.condV rfl (fun hc1 => ?_) (fun hc1 => ?_)
  · try simp at hc1
    refine CWp.skip ?_
    refine k5 _ _ ?_
    refine CWp.seqK fun Kk7 k7 => ?_
    refine CWp.block ?_
    refine CWp.seqK fun Kk8 k8 => ?_
    refine CWp.regionW [0, 1, 5] ?_
    refine VC.s rfl (RVs.move rfl rfl (fun _ => rfl) ?_)
    refine VC.s rfl (RVs.move rfl rfl (fun _ => rfl) ?_)
    refine VC.s rfl (RVs.move rfl rfl (fun _ => rfl) ?_)
    refine VC.s rfl (RVs.callp rfl rfl rfl (fun _ => ⟨⟨rfl, rfl⟩, markText _ _ (by unfold lim; omega)⟩) ?_)
    refine VC.s rfl (RVs.indexW str_Flat rfl ws1 rfl ElemOf.h rfl rfl ⟨rfl, rfl⟩ (by rw [marks_len hi]; omega) ?_)
    intro id1 j1 u1 B1 wp1 hr1
    obtain ⟨rfl, _⟩ := hr1
    refine VC.s rfl (RVs.storeW (f := 0) (y := markT (k + i)) str_Flat rfl rfl TyOf.h rfl rfl rfl ⟨rfl, rfl⟩ wp1 (by decide) (⟨rfl, Nat.le_trans (markT_len _ (by unfold lim; omega)) (by decide)⟩) rfl ?_)
    intro H1 B2 up1 ws2
    have ch2 := ch1.upd up1 (by rw [wp1.f]; exact List.mem_singleton.2 rfl)
    rw [marks_set (by omega)] at ws2
    refine VC.nil (k8 ⟨20, [(0, _), (1, _), (5, _)]⟩ _ ?_)
    refine CWp.regionW [0, 1, 5] ?_
    refine VC.s rfl (RVs.move rfl rfl (fun _ => rfl) ?_)
    refine VC.s rfl (RVs.bin rfl rfl rfl rfl (fun _ => ⟨⟨rfl, rfl⟩, rfl⟩) ?_)
    refine VC.s rfl (RVs.assign rfl rfl (fun _ => rfl) ?_)
    refine VC.nil (k7 ⟨20, [(0, _), (1, _), (5, _)]⟩ _ ?_)
    refine CWp.regionW [0, 1, 5] ?_
    refine VC.s rfl (RVs.move rfl rfl (fun _ => rfl) ?_)
    refine VC.s rfl (RVs.bin rfl rfl rfl rfl (fun _ => ⟨⟨rfl, rfl⟩, rfl⟩) ?_)
    refine VC.s rfl (RVs.assign rfl rfl (fun _ => rfl) ?_)
    rw [wrap_succ (n := xs.length) (by omega) (by unfold lim; omega)]
    refine VC.nil (k4 _ ⟨20, [(0, _), (1, _), (5, _)]⟩ _ ?_ ⟨i + 1, by rw [wrap_in (by omega)]; simp [Int.add_assoc], rfl, by omega, ch2, ws2⟩)
    omega
  · try simp at hc1
    refine CWp.exit ?_
    refine k2 _ _ ?_
    refine CWp.seqK fun Kk9 k9 => ?_
    refine CWp.regionW [4] ?_
    refine VC.s rfl (RVs.move rfl rfl (fun _ => rfl) ?_)
    refine VC.s rfl (RVs.assign rfl rfl (fun _ => rfl) ?_)
    refine VC.nil (k9 ⟨20, [(4, _)]⟩ _ ?_)
    refine CWp.ret (q _ _ _ (.cons (.tmp rfl) .nil) ?_).1
    exact ⟨by simp [one]; omega, ch1, by have := ws1; rwa [show i = xs.length by omega, List.drop_length, List.append_nil] at this⟩

end Go.Proofs.YtohfajiimbchhaaDoor
