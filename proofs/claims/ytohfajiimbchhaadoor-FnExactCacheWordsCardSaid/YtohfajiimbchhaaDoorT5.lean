/- The walks of the functions that mark records, look for marks, and copy lists. -/
import Derived.Test.YtohfajiimbchhaaDoorT3
import Derived.Test.YtohfajiimbchhaaDoorT4
namespace Go.Proofs.YtohfajiimbchhaaDoor
open Go Go.RowKit
set_option linter.unusedVariables false
set_option maxRecDepth 20000
variable [Tabs]

theorem markSeenS (va : Value) (xs : List Seen) (k : Int) (F : List Nat) (H : AH) (hW : kSeen.WS H va xs F) (h0 : 0 ≤ k) (h1 : k + 3 * xs.length ≤ 4611686018427387904) : FWp Tryd.prog 20 [va, .int .i64 k] H (fun v' H' => v' = .int .i64 (k + 3 * xs.length) ∧ Chg H H' F ∧ kSeen.WS H' va (seenM k xs.length) F) := by
  have hl := hW.S.lim
  unfold lim at hl
  obtain ⟨aa, ca, rfl, hca⟩ := hW.S.form
  refine FWp.enterK Tryd.func20 rfl (by decide +kernel) rfl rfl fun Q q => ?_
  refine CWp.seqK fun Kk1 k1 => ?_
  refine CWp.regionW [0, 1] ?_
  refine VC.s rfl (RVs.assign rfl rfl (fun _ => rfl) ?_)
  refine VC.nil (k1 ⟨34, [(0, _), (1, _)]⟩ _ ?_)
  refine CWp.seqK fun Kk2 k2 => ?_
  refine CWp.seqK fun Kk3 k3 => ?_
  refine CWp.regionW [0, 1, 5] ?_
  refine VC.s rfl (RVs.assign rfl rfl (fun _ => rfl) ?_)
  refine VC.nil (k3 ⟨34, [(0, _), (1, _), (5, _)]⟩ _ ?_)
  refine CWp.block ?_
  refine CWp.loopK (fun n T H' => ∃ i : Nat, T = ⟨34, [(0, .slice aa xs.length ca), (1, .int .i64 (k + 3 * i)), (5, .int .i64 (i : Int))]⟩ ∧ n = xs.length - i ∧ (i ≤ xs.length) ∧ Chg H H' F ∧ kSeen.WS H' (.slice aa xs.length ca) (seenM k i ++ xs.drop i) F) (n := xs.length) ⟨0, by simp, by first | rfl | simp, by omega, (Chg.refl (H := H) (F := F)), by simpa [marksT, seenM] using hW⟩ ?_
  rintro n T Hl1 Kk4 k4 ⟨i, rfl, hn1, hi, hcl, hWl⟩
  have ws1 := hWl
  have ch1 := hcl
  refine CWp.seqK fun Kk5 k5 => ?_
  refine CWp.seqK fun Kk6 k6 => ?_
  refine CWp.regionW [0, 1, 5, 9] ?_
  refine VC.s rfl (RVs.move rfl rfl (fun _ => rfl) ?_)
  refine VC.s rfl (RVs.move rfl rfl (fun _ => rfl) ?_)
  refine VC.s rfl (RVs.len_slice rfl UnSl.h rfl (fun _ => rfl) ?_)
  refine VC.s rfl (RVs.bin rfl rfl rfl rfl (fun _ => ⟨⟨rfl, rfl⟩, rfl⟩) ?_)
  refine VC.nil (k6 ⟨34, [(0, _), (1, _), (5, _), (9, _)]⟩ _ ?_)
  refine CWp.condV rfl (fun hc1 => ?_) (fun hc1 => ?_)
  · try simp at hc1
    refine CWp.skip ?_
    refine k5 _ _ ?_
    refine CWp.seqK fun Kk7 k7 => ?_
    refine CWp.block ?_
    refine CWp.seqK fun Kk8 k8 => ?_
    refine CWp.regionW [0, 1, 5] ?_
    refine VC.s rfl (RVs.move rfl rfl (fun _ => rfl) ?_)
    refine VC.s rfl (RVs.move rfl rfl (fun _ => rfl) ?_)
    refine VC.s rfl (RVs.move rfl rfl (fun _ => rfl) ?_)
    refine VC.s rfl (RVs.indexW Kd.flat_Flat rfl ws1 rfl ElemOf.h rfl rfl ⟨rfl, rfl⟩ (by first | (rw [seenM_len hi]; omega) | (simp only [List.length_set]; rw [seenM_len hi]; omega)) ?_)
    intro id1 j1 u1 B1 wp1 hr1
    try rw [List.getElem_set_self] at hr1
    obtain ⟨rfl, _⟩ := hr1
    refine VC.s rfl (RVs.fieldAddr rfl FieldOf.h (by decide) rfl (fun _ => rfl) ?_)
    refine VC.s rfl (RVs.storeW (f := 0) (y := (⟨_, _, _⟩ : Seen)) Kd.flat_Flat rfl rfl TyOf.h rfl rfl rfl ⟨rfl, rfl⟩ wp1 (by decide) (⟨rfl, trivial⟩) rfl ?_)
    intro H1 B2 up1 ws2
    have ch2 := ch1.upd up1 (by rw [wp1.f]; exact List.mem_singleton.2 rfl)
    refine VC.nil (k8 ⟨34, [(0, _), (1, _), (5, _)]⟩ _ ?_)
    refine CWp.seqK fun Kk9 k9 => ?_
    refine CWp.regionW [0, 1, 5] ?_
    refine VC.s rfl (RVs.move rfl rfl (fun _ => rfl) ?_)
    refine VC.s rfl (RVs.bin rfl rfl rfl rfl (fun _ => ⟨⟨rfl, rfl⟩, rfl⟩) ?_)
    rw [wrap_in (by omega)]
    refine VC.s rfl (RVs.assign rfl rfl (fun _ => rfl) ?_)
    refine VC.nil (k9 ⟨34, [(0, _), (1, _), (5, _)]⟩ _ ?_)
    refine CWp.seqK fun Kk10 k10 => ?_
    refine CWp.regionW [0, 1, 5] ?_
    refine VC.s rfl (RVs.move rfl rfl (fun _ => rfl) ?_)
    refine VC.s rfl (RVs.move rfl rfl (fun _ => rfl) ?_)
    refine VC.s rfl (RVs.move rfl rfl (fun _ => rfl) ?_)
    refine VC.s rfl (RVs.indexW Kd.flat_Flat rfl ws2 rfl ElemOf.h rfl rfl ⟨rfl, rfl⟩ (by first | (rw [seenM_len hi]; omega) | (simp only [List.length_set]; rw [seenM_len hi]; omega)) ?_)
    intro id2 j2 u2 B3 wp2 hr2
    try rw [List.getElem_set_self] at hr2
    obtain ⟨rfl, _⟩ := hr2
    refine VC.s rfl (RVs.fieldAddr rfl FieldOf.h (by decide) rfl (fun _ => rfl) ?_)
    refine VC.s rfl (RVs.storeW (f := 1) (y := (⟨_, _, _⟩ : Seen)) Kd.flat_Flat rfl rfl TyOf.h rfl rfl rfl ⟨rfl, rfl⟩ wp2 (by decide) (⟨by simp only [List.set_cons_succ, List.set_cons_zero]; rfl, trivial⟩) rfl ?_)
    intro H2 B4 up2 ws3
    have ch3 := ch2.upd up2 (by rw [wp2.f]; exact List.mem_singleton.2 rfl)
    refine VC.nil (k10 ⟨34, [(0, _), (1, _), (5, _)]⟩ _ ?_)
    refine CWp.seqK fun Kk11 k11 => ?_
    refine CWp.regionW [0, 1, 5] ?_
    refine VC.s rfl (RVs.move rfl rfl (fun _ => rfl) ?_)
    refine VC.s rfl (RVs.bin rfl rfl rfl rfl (fun _ => ⟨⟨rfl, rfl⟩, rfl⟩) ?_)
    rw [wrap_in (by omega)]
    refine VC.s rfl (RVs.assign rfl rfl (fun _ => rfl) ?_)
    refine VC.nil (k11 ⟨34, [(0, _), (1, _), (5, _)]⟩ _ ?_)
    refine CWp.seqK fun Kk12 k12 => ?_
    refine CWp.regionW [0, 1, 5] ?_
    refine VC.s rfl (RVs.move rfl rfl (fun _ => rfl) ?_)
    refine VC.s rfl (RVs.move rfl rfl (fun _ => rfl) ?_)
    refine VC.s rfl (RVs.move rfl rfl (fun _ => rfl) ?_)
    refine VC.s rfl (RVs.indexW Kd.flat_Flat rfl ws3 rfl ElemOf.h rfl rfl ⟨rfl, rfl⟩ (by first | (rw [seenM_len hi]; omega) | (simp only [List.length_set]; rw [seenM_len hi]; omega)) ?_)
    intro id3 j3 u3 B5 wp3 hr3
    try rw [List.getElem_set_self] at hr3
    obtain ⟨rfl, _⟩ := hr3
    refine VC.s rfl (RVs.fieldAddr rfl FieldOf.h (by decide) rfl (fun _ => rfl) ?_)
    refine VC.s rfl (RVs.storeW (f := 2) (y := (⟨_, _, _⟩ : Seen)) Kd.flat_Flat rfl rfl TyOf.h rfl rfl rfl ⟨rfl, rfl⟩ wp3 (by decide) (⟨by simp only [List.set_cons_succ, List.set_cons_zero]; rfl, trivial⟩) rfl ?_)
    intro H3 B6 up3 ws4
    have ch4 := ch3.upd up3 (by rw [wp3.f]; exact List.mem_singleton.2 rfl)
    refine VC.nil (k12 ⟨34, [(0, _), (1, _), (5, _)]⟩ _ ?_)
    refine CWp.regionW [0, 1, 5] ?_
    refine VC.s rfl (RVs.move rfl rfl (fun _ => rfl) ?_)
    refine VC.s rfl (RVs.bin rfl rfl rfl rfl (fun _ => ⟨⟨rfl, rfl⟩, rfl⟩) ?_)
    rw [wrap_in (by omega)]
    refine VC.s rfl (RVs.assign rfl rfl (fun _ => rfl) ?_)
    refine VC.nil (k7 ⟨34, [(0, _), (1, _), (5, _)]⟩ _ ?_)
    refine CWp.regionW [0, 1, 5] ?_
    refine VC.s rfl (RVs.move rfl rfl (fun _ => rfl) ?_)
    refine VC.s rfl (RVs.bin rfl rfl rfl rfl (fun _ => ⟨⟨rfl, rfl⟩, rfl⟩) ?_)
    refine VC.s rfl (RVs.assign rfl rfl (fun _ => rfl) ?_)
    simp only [List.set_set, List.getElem_set_self] at ws4
    have hset := seenM_set (k := k) (xs := xs) (i := i) (by omega)
    rw [show k + 3 * (i : Int) + 1 + 1 = k + 3 * (i : Int) + 2 by omega, hset] at ws4
    rw [wrap_succ (n := xs.length) (by omega) (by unfold lim; omega)]
    refine VC.nil (k4 _ ⟨34, [(0, _), (1, _), (5, _)]⟩ _ ?_ ⟨i + 1, by simp; omega, rfl, by omega, ch4, ws4⟩)
    omega
  · try simp at hc1
    refine CWp.exit ?_
    refine k2 _ _ ?_
    refine CWp.seqK fun Kk13 k13 => ?_
    refine CWp.regionW [4] ?_
    refine VC.s rfl (RVs.move rfl rfl (fun _ => rfl) ?_)
    refine VC.s rfl (RVs.assign rfl rfl (fun _ => rfl) ?_)
    refine VC.nil (k13 ⟨34, [(4, _)]⟩ _ ?_)
    refine CWp.ret (q _ _ _ (.cons (.tmp rfl) .nil) ?_).1
    exact ⟨by simp [one]; omega, ch1, by have := ws1; rwa [show i = xs.length by omega, List.drop_length, List.append_nil] at this⟩

theorem markCache (x : Cache) (v : Value) (k : Int) (F : List Nat) (H : AH) (hW : kSeen.WS H v x.seens F) (h0 : 0 ≤ k) (h1 : k + 3 * x.seens.length ≤ 4611686018427387904) : FWp Tryd.prog 10 [.agg #[.string (bs x.box), .int .i64 x.valid, .int .i64 x.mod, v], .int .i64 k] H (fun v' H' => v' = .int .i64 (k + 3 * x.seens.length) ∧ Chg H H' F ∧ kSeen.WS H' v (seenM k x.seens.length) F) := by
  refine FWp.enterK Tryd.func10 rfl (by decide +kernel) rfl rfl fun Q q => ?_
  refine CWp.seqK fun Kk1 k1 => ?_
  refine CWp.regionW [1, 2] ?_
  refine VC.s rfl (RVs.box rfl TyOf.h rfl rfl rfl ?_)
  intro b1 H1 g1 l1 a1
  have lo1 := l1
  have ws1 := Kd.WS.loc (fun i hi => eq_prefix g1 (hW.lt i hi)) hW
  have ch1 := (Chg.refl (H := H) (F := F)).grow g1
  refine VC.s rfl (RVs.assign rfl rfl (fun _ => rfl) ?_)
  refine VC.nil (k1 ⟨10, [(1, _), (2, _)]⟩ _ ?_)
  refine CWp.seqK fun Kk2 k2 => ?_
  refine CWp.regionW [1] ?_
  refine VC.s rfl (RVs.fieldAddr rfl FieldOf.h (by decide) rfl (fun _ => rfl) ?_)
  refine VC.s rfl (RVs.load rfl TyOf.h rfl (fun _ => ⟨rfl, a1, rw_live, rfl⟩) ?_)
  refine VC.s rfl (RVs.move rfl rfl (fun _ => rfl) ?_)
  refine VC.s rfl (RVs.call rfl rfl rfl rfl ⟨rfl, rfl⟩ (markSeenS _ _ _ _ _ ws1 (by omega) (by omega)) (.inl rfl) ?_)
  rintro v1 H2 ⟨rfl, ch2, ws2⟩
  have a2 := (ch2.2 _ (lt_of_at a1) (fun hm => by have := hW.lt _ hm; have := lo1; omega)).trans a1
  have ch3 := ch1.trans ch2 (fun i hi _ => hi)
  refine VC.s rfl (RVs.assign rfl rfl (fun _ => rfl) ?_)
  refine VC.nil (k2 ⟨10, [(1, _)]⟩ _ ?_)
  refine CWp.seqK fun Kk3 k3 => ?_
  refine CWp.regionW [4] ?_
  refine VC.s rfl (RVs.move rfl rfl (fun _ => rfl) ?_)
  refine VC.s rfl (RVs.assign rfl rfl (fun _ => rfl) ?_)
  refine VC.nil (k3 ⟨10, [(4, _)]⟩ _ ?_)
  refine CWp.ret (q _ _ _ (.cons (.tmp rfl) .nil) ?_).1
  exact ⟨rfl, ch3, ws2⟩

theorem heldStringS (va : Value) (xs : List (List UInt8)) (k : Int) (H : AH) (hS : Kd.str.S H va xs) (hx : xs = marksT k xs.length) (h0 : 0 ≤ k) (h1 : k + xs.length ≤ 4611686018427387904) : FWp Tryd.prog 12 [va, .int .i64 k] H (fun v' H' => v' = .int .i64 (k + xs.length) ∧ H' = H) := by
  refine FWp.pure rfl fun H ph => ?_
  replace hS := hS.mono (hle ph)
  have hl := hS.lim
  obtain ⟨aa, ca, rfl, hca⟩ := hS.form
  refine FWp.enterK Tryd.func12 rfl (by decide +kernel) rfl rfl fun Q q => ?_
  refine CWp.seqK fun Kk1 k1 => ?_
  refine CWp.regionW [0, 1] ?_
  refine VC.s rfl (RVs.assign rfl rfl (fun _ => rfl) ?_)
  refine VC.nil (k1 ⟨22, [(0, _), (1, _)]⟩ _ ?_)
  refine CWp.seqK fun Kk2 k2 => ?_
  refine CWp.seqK fun Kk3 k3 => ?_
  refine CWp.regionW [0, 1, 5] ?_
  refine VC.s rfl (RVs.assign rfl rfl (fun _ => rfl) ?_)
  refine VC.nil (k3 ⟨22, [(0, _), (1, _), (5, _)]⟩ _ ?_)
  refine CWp.block ?_
  refine CWp.loopK (fun n T H' => ∃ i : Nat, T = ⟨22, [(0, .slice aa xs.length ca), (1, .int .i64 (k + i)), (5, .int .i64 (i : Int))]⟩ ∧ n = xs.length - i ∧ (i ≤ xs.length) ∧ H <+: H') (n := xs.length) ⟨0, by simp, by first | rfl | simp, by omega, List.prefix_refl _⟩ ?_
  rintro n T Hl1 Kk4 k4 ⟨i, rfl, hn1, hi, pl1⟩
  have p1 := (List.prefix_refl H).trans pl1
  refine CWp.seqK fun Kk5 k5 => ?_
  refine CWp.seqK fun Kk6 k6 => ?_
  refine CWp.regionW [0, 1, 5, 9] ?_
  refine VC.s rfl (RVs.move rfl rfl (fun _ => rfl) ?_)
  refine VC.s rfl (RVs.move rfl rfl (fun _ => rfl) ?_)
  refine VC.s rfl (RVs.len_slice rfl UnSl.h rfl (fun _ => rfl) ?_)
  refine VC.s rfl (RVs.bin rfl rfl rfl rfl (fun _ => ⟨⟨rfl, rfl⟩, rfl⟩) ?_)
  refine VC.nil (k6 ⟨22, [(0, _), (1, _), (5, _), (9, _)]⟩ _ ?_)
  refine CWp.condV rfl (fun hc1 => ?_) (fun hc1 => ?_)
  · try simp at hc1
    refine CWp.skip ?_
    refine k5 _ _ ?_
    refine CWp.seqK fun Kk7 k7 => ?_
    refine CWp.block ?_
    refine CWp.seqK fun Kk8 k8 => ?_
    refine CWp.seqK fun Kk9 k9 => ?_
    refine CWp.regionDW [0, 1, 5, 18] [false, false, false, false, false, false, false] (by decide +kernel) ?_
    refine VC.s rfl (RVs.move rfl rfl (fun _ => rfl) ?_)
    refine VC.s rfl (RVs.move rfl rfl (fun _ => rfl) ?_)
    refine VC.s rfl (RVs.indexS rfl (hS.mono (hle p1)) rfl ElemOf.h rfl (fun _ => ⟨⟨rfl, rfl⟩, by omega, by omega⟩) ?_)
    intro id1 j1 u1 B1 e1
    obtain ⟨y1, hy1, e1⟩ := e1 rfl
    obtain ⟨rfl, _⟩ := e1.r
    refine VC.s rfl (RVs.loadF (k := Kd.str) (f := 0) rfl TyOf.h rfl (fun _ => ⟨rfl, e1, by decide, rfl⟩) ?_)
    refine VC.s rfl (RVs.move rfl rfl (fun _ => rfl) ?_)
    refine VC.s rfl (RVs.callp rfl rfl rfl (fun _ => ⟨⟨rfl, rfl⟩, markText _ _ (by unfold lim; omega)⟩) ?_)
    refine VC.s rfl (RVs.bin rfl rfl rfl rfl (fun _ => ⟨⟨rfl, rfl⟩, trivial⟩) ?_)
    refine VC.nil (k9 ⟨22, [(0, _), (1, _), (5, _), (18, _)]⟩ _ ?_)
    refine CWp.condV rfl (fun hc2 => ?_) (fun hc2 => ?_)
    · have hcc := marksT_get (show (marksT k xs.length)[i]? = some y1 by rw [← hx]; exact hy1)
      try simp [hcc] at hc2
    · have hcc := marksT_get (show (marksT k xs.length)[i]? = some y1 by rw [← hx]; exact hy1)
      try simp [hcc] at hc2
      refine CWp.skip ?_
      refine k8 _ _ ?_
      refine CWp.regionW [0, 1, 5] ?_
      refine VC.s rfl (RVs.move rfl rfl (fun _ => rfl) ?_)
      refine VC.s rfl (RVs.bin rfl rfl rfl rfl (fun _ => ⟨⟨rfl, rfl⟩, rfl⟩) ?_)
      refine VC.s rfl (RVs.assign rfl rfl (fun _ => rfl) ?_)
      refine VC.nil (k7 ⟨22, [(0, _), (1, _), (5, _)]⟩ _ ?_)
      refine CWp.regionW [0, 1, 5] ?_
      refine VC.s rfl (RVs.move rfl rfl (fun _ => rfl) ?_)
      refine VC.s rfl (RVs.bin rfl rfl rfl rfl (fun _ => ⟨⟨rfl, rfl⟩, rfl⟩) ?_)
      refine VC.s rfl (RVs.assign rfl rfl (fun _ => rfl) ?_)
      rw [wrap_succ (n := xs.length) (by omega) (by omega)]
      refine VC.nil (k4 _ ⟨22, [(0, _), (1, _), (5, _)]⟩ _ ?_ ⟨i + 1, by rw [wrap_in (by omega)]; simp [Int.add_assoc], rfl, by omega, pl1.trans (List.prefix_refl _)⟩)
      omega
  · try simp at hc1
    refine CWp.exit ?_
    refine k2 _ _ ?_
    refine CWp.seqK fun Kk10 k10 => ?_
    refine CWp.regionW [4] ?_
    refine VC.s rfl (RVs.move rfl rfl (fun _ => rfl) ?_)
    refine VC.s rfl (RVs.assign rfl rfl (fun _ => rfl) ?_)
    refine VC.nil (k10 ⟨22, [(4, _)]⟩ _ ?_)
    refine CWp.ret (q _ _ _ (.cons (.tmp rfl) .nil) ?_).1
    exact ⟨by simp [one]; omega, p1⟩

theorem toSeenS (va : Value) (xs : List Seen) (H : AH) (hS : kSeen.S H va xs) (hn : xs.length ≤ 1048576) : FWp Tryd.prog 16 [va] H (fun v' H' => Fresh kSeen.slice H H' [v'] xs) := by
  obtain ⟨aa, ca, rfl, hca⟩ := hS.form
  refine FWp.enterK Tryd.func16 rfl (by decide +kernel) rfl rfl fun Q q => ?_
  refine CWp.seqK fun Kk1 k1 => ?_
  refine CWp.regionW [0] ?_
  refine VC.s rfl (RVs.assign rfl rfl (fun _ => rfl) ?_)
  refine VC.nil (k1 ⟨23, [(0, _)]⟩ _ ?_)
  refine CWp.seqK fun Kk2 k2 => ?_
  refine CWp.regionW [0, 3] ?_
  refine VC.s rfl (RVs.move rfl rfl (fun _ => rfl) ?_)
  refine VC.s rfl (RVs.len_slice rfl UnSl.h rfl (fun _ => rfl) ?_)
  refine VC.s rfl (RVs.makeS rfl rfl ElemOf.h ElOk.h ZeroOf.h rfl rfl ⟨rfl, rfl⟩ (by omega) ?_)
  intro id1 H1 g1 l1 a1
  have p1 := (List.prefix_refl H).trans g1
  have fi1 := Kd.Fill.start (k := kSeen) a1 rfl l1
  refine VC.s rfl (RVs.assign rfl rfl (fun _ => rfl) ?_)
  refine VC.nil (k2 ⟨23, [(0, _), (3, _)]⟩ _ ?_)
  refine CWp.seqK fun Kk3 k3 => ?_
  refine CWp.seqK fun Kk4 k4 => ?_
  refine CWp.regionW [0, 3, 4] ?_
  refine VC.s rfl (RVs.assign rfl rfl (fun _ => rfl) ?_)
  refine VC.nil (k4 ⟨23, [(0, _), (3, _), (4, _)]⟩ _ ?_)
  refine CWp.block ?_
  refine CWp.loopK (fun n T H' => ∃ i : Nat, T = ⟨23, [(0, .slice aa xs.length ca), (3, .slice (some ⟨id1, 0, none⟩) xs.length xs.length), (4, .int .i64 (i : Int))]⟩ ∧ n = xs.length - i ∧ (i ≤ xs.length) ∧ H <+: H' ∧ ∃ F, kSeen.Fill 44 H.length H' id1 xs.length (xs.take i) F) (n := xs.length) ⟨0, rfl, by first | rfl | simp, by omega, p1, _, by simpa using fi1⟩ ?_
  rintro n T Hl1 Kk5 k5 ⟨i, rfl, hn1, hi, plo, Fo, hfo⟩
  refine CWp.seqK fun Kk6 k6 => ?_
  refine CWp.seqK fun Kk7 k7 => ?_
  refine CWp.regionW [0, 3, 4, 11] ?_
  refine VC.s rfl (RVs.move rfl rfl (fun _ => rfl) ?_)
  refine VC.s rfl (RVs.move rfl rfl (fun _ => rfl) ?_)
  refine VC.s rfl (RVs.len_slice rfl UnSl.h rfl (fun _ => rfl) ?_)
  refine VC.s rfl (RVs.bin rfl rfl rfl rfl (fun _ => ⟨⟨rfl, rfl⟩, rfl⟩) ?_)
  refine VC.nil (k7 ⟨23, [(0, _), (3, _), (4, _), (11, _)]⟩ _ ?_)
  refine CWp.condV rfl (fun hc1 => ?_) (fun hc1 => ?_)
  · try simp at hc1
    refine CWp.skip ?_
    refine k6 _ _ ?_
    refine CWp.seqK fun Kk8 k8 => ?_
    refine CWp.block ?_
    refine CWp.regionW [0, 3, 4] ?_
    refine VC.s rfl (RVs.move rfl rfl (fun _ => rfl) ?_)
    refine VC.s rfl (RVs.move rfl rfl (fun _ => rfl) ?_)
    refine VC.s rfl (RVs.move rfl rfl (fun _ => rfl) ?_)
    refine VC.s rfl (RVs.move rfl rfl (fun _ => rfl) ?_)
    refine VC.s rfl (RVs.indexS rfl (hS.mono (hle plo)) rfl ElemOf.h rfl (fun _ => ⟨⟨rfl, rfl⟩, by omega, by omega⟩) ?_)
    intro id2 j1 u1 B1 e1
    obtain ⟨y1, hy1, e1⟩ := e1 rfl
    obtain ⟨rfl, _⟩ := e1.r
    refine VC.s rfl (RVs.loadE (k := kSeen) rfl TyOf.h rfl (fun _ => ⟨rfl, e1⟩) ?_)
    refine VC.s rfl (RVs.callp rfl rfl rfl (fun _ => ⟨⟨rfl, rfl⟩, toSeen _ _⟩) ?_)
    refine VC.s rfl (RVs.indexAddr rfl rfl ElemOf.h rfl (fun _ => ⟨⟨rfl, rfl⟩, by omega, by omega⟩) ?_)
    refine VC.s rfl (RVs.storeFill (k := kSeen) rfl rfl TyOf.h rfl rfl rfl ⟨rfl, rfl⟩ hfo (by simp; omega) (by simp; omega) (⟨⟨rfl, trivial⟩, rfl⟩) (by simpa using hfo.nd) (by simp) ?_)
    intro B2 H2 u2 fi2
    have p2 := u2.prefix plo (by have := List.IsPrefix.length_le plo; have := fi2.lo id1 (by simp); omega)
    refine VC.nil (k8 ⟨23, [(0, _), (3, _), (4, _)]⟩ _ ?_)
    refine CWp.regionW [0, 3, 4] ?_
    refine VC.s rfl (RVs.move rfl rfl (fun _ => rfl) ?_)
    refine VC.s rfl (RVs.bin rfl rfl rfl rfl (fun _ => ⟨⟨rfl, rfl⟩, rfl⟩) ?_)
    refine VC.s rfl (RVs.assign rfl rfl (fun _ => rfl) ?_)
    rw [wrap_succ (n := xs.length) (by omega) (by unfold lim; omega)]
    refine VC.nil (k5 _ ⟨23, [(0, _), (3, _), (4, _)]⟩ _ ?_ ⟨i + 1, rfl, rfl, by omega, p2, _, (take_snoc hy1) ▸ fi2⟩)
    omega
  · try simp at hc1
    refine CWp.exit ?_
    refine k3 _ _ ?_
    refine CWp.seqK fun Kk9 k9 => ?_
    refine CWp.regionW [2] ?_
    refine VC.s rfl (RVs.move rfl rfl (fun _ => rfl) ?_)
    refine VC.s rfl (RVs.assign rfl rfl (fun _ => rfl) ?_)
    refine VC.nil (k9 ⟨23, [(2, _)]⟩ _ ?_)
    refine CWp.ret (q _ _ _ (.cons (.tmp rfl) .nil) ?_).1
    have hf := hfo
    rw [List.take_of_length_le (by omega)] at hf
    exact hf.fresh plo rfl (by unfold lim; omega)

theorem toCache (x : Cache) (v : Value) (H : AH) (hS : kSeen.S H v x.seens) (hn : x.seens.length ≤ 1048576) : FWp Tryd.prog 6 [.agg #[.string (bs x.box), .int .i64 x.valid, .int .i64 x.mod, v]] H (fun v' H' => ∃ w, v' = .agg #[.string (bs x.box), .int .i64 x.valid, .int .i64 x.mod, w] ∧ Fresh kSeen.slice H H' [w] x.seens) := by
  refine FWp.enterK Tryd.func6 rfl (by decide +kernel) rfl rfl fun Q q => ?_
  refine CWp.seqK fun Kk1 k1 => ?_
  refine CWp.regionW [1, 2] ?_
  refine VC.s rfl (RVs.box rfl TyOf.h rfl rfl rfl ?_)
  intro b1 H1 g1 l1 a1
  have lo1 := Nat.le_trans (List.IsPrefix.length_le (List.prefix_refl H)) l1
  have p1 := (List.prefix_refl H).trans g1
  refine VC.s rfl (RVs.alloc ZeroOf.h TyOf.h rfl rfl ?_)
  intro b2 H2 g2 l2 a2
  have lt1 := Nat.lt_of_lt_of_le (lt_of_at a1) l2
  have lo2 := Nat.le_trans (List.IsPrefix.length_le p1) l2
  have p2 := p1.trans g2
  have a3 := get_prefix g2 a1
  refine VC.nil (k1 ⟨18, [(1, _), (2, _)]⟩ _ ?_)
  refine CWp.seqK fun Kk2 k2 => ?_
  refine CWp.regionW [1, 2, 3] ?_
  refine VC.s rfl (RVs.alloc ZeroOf.h TyOf.h rfl rfl ?_)
  intro b3 H3 g3 l3 a4
  have lt2 := Nat.lt_of_lt_of_le (lt_of_at a3) l3
  have lt3 := Nat.lt_of_lt_of_le (lt_of_at a2) l3
  have lo3 := Nat.le_trans (List.IsPrefix.length_le p2) l3
  have p3 := p2.trans g3
  have a5 := get_prefix g3 a3
  have a6 := get_prefix g3 a2
  refine VC.nil (k2 ⟨18, [(1, _), (2, _), (3, _)]⟩ _ ?_)
  refine CWp.seqK fun Kk3 k3 => ?_
  refine CWp.regionW [1, 2, 3] ?_
  refine VC.s rfl (RVs.fieldAddr rfl FieldOf.h (by decide) rfl (fun _ => rfl) ?_)
  refine VC.s rfl (RVs.load rfl TyOf.h rfl (fun _ => ⟨rfl, a5, rw_live, rfl⟩) ?_)
  refine VC.s rfl (RVs.fieldAddr rfl FieldOf.h (by decide) rfl (fun _ => rfl) ?_)
  refine VC.s rfl (RVs.store1 rfl rfl TyOf.h rfl rfl rfl ⟨rfl, rfl⟩ a4 rfl (Nat.le_of_ble_eq_true rfl) rfl ?_)
  intro H4 u1
  have p4 := u1.prefix p3 lo3
  have a7 := u1.other (Nat.ne_of_lt lt2) a5
  have a8 := u1.other (Nat.ne_of_lt lt3) a6
  have a9 := u1.at_
  refine VC.nil (k3 ⟨18, [(1, _), (2, _), (3, _)]⟩ _ ?_)
  refine CWp.seqK fun Kk4 k4 => ?_
  refine CWp.regionW [1, 2, 3] ?_
  refine VC.s rfl (RVs.fieldAddr rfl FieldOf.h (by decide) rfl (fun _ => rfl) ?_)
  refine VC.s rfl (RVs.load rfl TyOf.h rfl (fun _ => ⟨rfl, a7, rw_live, rfl⟩) ?_)
  refine VC.s rfl (RVs.fieldAddr rfl FieldOf.h (by decide) rfl (fun _ => rfl) ?_)
  refine VC.s rfl (RVs.store1 rfl rfl TyOf.h rfl rfl rfl ⟨rfl, rfl⟩ a9 rfl (Nat.le_of_ble_eq_true rfl) rfl ?_)
  intro H5 u2
  have p5 := u2.prefix p4 lo3
  have a10 := u2.other (Nat.ne_of_lt lt2) a7
  have a11 := u2.other (Nat.ne_of_lt lt3) a8
  have a12 := u2.at_
  refine VC.nil (k4 ⟨18, [(1, _), (2, _), (3, _)]⟩ _ ?_)
  refine CWp.seqK fun Kk5 k5 => ?_
  refine CWp.regionW [1, 2, 3] ?_
  refine VC.s rfl (RVs.fieldAddr rfl FieldOf.h (by decide) rfl (fun _ => rfl) ?_)
  refine VC.s rfl (RVs.load rfl TyOf.h rfl (fun _ => ⟨rfl, a10, rw_live, rfl⟩) ?_)
  refine VC.s rfl (RVs.fieldAddr rfl FieldOf.h (by decide) rfl (fun _ => rfl) ?_)
  refine VC.s rfl (RVs.store1 rfl rfl TyOf.h rfl rfl rfl ⟨rfl, rfl⟩ a12 rfl (Nat.le_of_ble_eq_true rfl) rfl ?_)
  intro H6 u3
  have p6 := u3.prefix p5 lo3
  have a13 := u3.other (Nat.ne_of_lt lt2) a10
  have a14 := u3.other (Nat.ne_of_lt lt3) a11
  have a15 := u3.at_
  refine VC.nil (k5 ⟨18, [(1, _), (2, _), (3, _)]⟩ _ ?_)
  refine CWp.seqK fun Kk6 k6 => ?_
  refine CWp.regionW [2, 3] ?_
  refine VC.s rfl (RVs.fieldAddr rfl FieldOf.h (by decide) rfl (fun _ => rfl) ?_)
  refine VC.s rfl (RVs.load rfl TyOf.h rfl (fun _ => ⟨rfl, a13, rw_live, rfl⟩) ?_)
  have bl1 := lt_of_at a13
  have bl2 := lt_of_at a14
  have bl3 := lt_of_at a15
  refine VC.s rfl (RVs.call rfl rfl rfl rfl ⟨rfl, rfl⟩ (toSeenS _ _ _ (hS.mono (hle p6)) hn) (.inr fun _ _ h => h.1) ?_)
  intro v1 H7 fr1
  obtain ⟨g4, F1, w1, nd1, fl1⟩ := fr1
  have lo4 := fun i hi => Nat.le_trans (List.IsPrefix.length_le p6) (fl1 i hi)
  have p7 := p6.trans g4
  have a16 := get_prefix g4 a13
  have a17 := get_prefix g4 a14
  have a18 := get_prefix g4 a15
  refine VC.s rfl (RVs.fieldAddr rfl FieldOf.h (by decide) rfl (fun _ => rfl) ?_)
  refine VC.s rfl (RVs.store1 rfl rfl TyOf.h rfl rfl rfl ⟨rfl, rfl⟩ a18 rfl (Nat.le_of_ble_eq_true rfl) (by simpa using Kd.oc kSeen.slice (Kd.wr kSeen.slice w1)) ?_)
  intro H8 u4
  have p8 := u4.prefix p7 lo3
  have a19 := u4.other (Nat.ne_of_lt lt2) a16
  have a20 := u4.other (Nat.ne_of_lt lt3) a17
  have a21 := u4.at_
  have w2 := Kd.wupd kSeen.slice u4 (fun i hi => Nat.ne_of_gt (Nat.lt_of_lt_of_le bl3 (fl1 i hi))) w1
  refine VC.nil (k6 ⟨18, [(2, _), (3, _)]⟩ _ ?_)
  refine CWp.seqK fun Kk7 k7 => ?_
  refine CWp.regionW [2] ?_
  refine VC.s rfl (RVs.load_agg rfl TyOf.h rfl (fun _ => ⟨rfl, a21, rw_live, Nat.le_of_ble_eq_true rfl, rfl⟩) ?_)
  refine VC.s rfl (RVs.storeN rfl rfl TyOf.h rfl rfl rfl ⟨rfl, rfl⟩ a20 rfl rfl (Nat.le_of_ble_eq_true rfl) (show List.all [_, _, _, _] oneCell = true from by have := Kd.oc kSeen.slice (Kd.wr kSeen.slice w2); simpa using this) ?_)
  intro H9 u5
  have p9 := u5.prefix p8 lo2
  have a22 := u5.other (Nat.ne_of_lt lt1) a19
  have a23 := u5.at_
  have a24 := u5.other (Nat.ne_of_gt lt3) a21
  have w3 := Kd.wupd kSeen.slice u5 (fun i hi => Nat.ne_of_gt (Nat.lt_of_lt_of_le bl2 (fl1 i hi))) w2
  refine VC.nil (k7 ⟨18, [(2, _)]⟩ _ ?_)
  refine CWp.ret (q _ _ _ (.cons (.cells rfl (Ty.of TyOf.h) a23 rw_live (Nat.le_of_ble_eq_true rfl)) .nil) ?_).1
  exact ⟨_, rfl, p9, _, w3, nd1, lo4⟩

end Go.Proofs.YtohfajiimbchhaaDoor
