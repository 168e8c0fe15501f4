/- The walks of the functions that tell what changed. -/
import Derived.Test.YtaccaelocddakaaBT7
namespace Go.Proofs.Ytaccaelocddakaa
open Go Go.RowKit
set_option linter.unusedVariables false
set_option maxRecDepth 20000
variable [Tabs]

theorem uidsOf (x : Box) (x_mails x_tombs : Value) (H : AH) (hS : kMail.S H x_mails x.mails) (hn : x.mails.length ≤ 1048576) : FWp Try.prog 103 [.agg #[.string (bs x.name), .int .i64 x.valid, .int .i64 x.next, .int .i64 x.mod, x_mails, x_tombs, .int .i64 x.horizon]] H (fun v' H' => ∃ a c, v' = .slice a (x.mails.map (·.uid)).length c ∧ FreshP (pOwn kInt 3 (.slice a (x.mails.map (·.uid)).length c) (x.mails.map (·.uid))) H H') := by
  have hSl := hS.lim
  unfold lim at hSl
  obtain ⟨aa, ca, rfl, hSc⟩ := hS.form
  refine FWp.enterK Try.func103 rfl (by decide +kernel) rfl rfl fun Q q => ?_
  have hs0 := Sep.nil (H := H)
  refine CWp.seqK fun Kk1 k1 => ?_
  refine CWp.regionW [1] ?_
  refine VC.s rfl (RVs.box rfl TyOf.h rfl rfl rfl ?_)
  intro b1 H1 g1 l1 a1
  have hs1 := Sep.addB hs0 g1 l1 a1
  refine VC.s rfl (RVs.assign rfl rfl (fun _ => rfl) ?_)
  refine VC.nil (k1 ⟨21, [(1, _)]⟩ _ ?_)
  refine CWp.seqK fun Kk2 k2 => ?_
  refine CWp.regionW [1, 3] ?_
  refine VC.s rfl (RVs.buildS ElemOf.h ZeroOf.h rfl rfl rfl (by decide) rfl rfl rfl ?_)
  intro b2 H2 g2 l2 a2
  have hs2 := Sep.addE (k := kInt) hs1 g2 l2 a2 rfl
  refine VC.s rfl (RVs.assign rfl rfl (fun _ => rfl) ?_)
  refine VC.nil (k2 ⟨21, [(1, _), (3, _)]⟩ _ ?_)
  refine CWp.seqK fun Kk3 k3 => ?_
  refine CWp.seqK fun Kk4 k4 => ?_
  refine CWp.regionW [3, 8, 9, 10] ?_
  refine VC.s rfl (RVs.fieldAddr rfl FieldOf.h (by decide) rfl (fun _ => rfl) ?_)
  refine VC.s rfl (RVs.load rfl TyOf.h rfl (fun _ => ⟨rfl, (Sep.at_ (i := 1) hs2 rfl), rw_live, rfl⟩) ?_)
  refine VC.s rfl (RVs.len_slice rfl UnSl.h rfl (fun _ => rfl) ?_)
  refine VC.s rfl (RVs.move rfl rfl (fun _ => rfl) ?_)
  refine VC.nil (k4 ⟨21, [(3, _), (8, _), (9, _), (10, _)]⟩ _ ?_)
  refine CWp.block ?_
  refine CWp.loopK (fun n T H' => ∃ (i : Nat) (ao : Option Addr) (co : Nat), T = ⟨21, [(3, .slice ao ((x.mails.map (·.uid)).take i).length co), (8, .slice aa x.mails.length ca), (9, .int .i64 (x.mails.length : Int)), (10, .int .i64 (i : Int))]⟩ ∧ n = x.mails.length - i ∧ (i ≤ x.mails.length) ∧ Sep [] H H' [pOwn kInt 3 (.slice ao ((x.mails.map (·.uid)).take i).length co) ((x.mails.map (·.uid)).take i)]) (n := x.mails.length) ⟨0, _, _, rfl, by first | rfl | simp, by omega, (Sep.del hs2 1)⟩ ?_
  rintro n T Hl1 Kk5 k5 ⟨i, ao, co, rfl, hn1, hi, hs3⟩
  refine CWp.seqK fun Kk6 k6 => ?_
  refine CWp.regionW [3, 8, 9, 10, 11] ?_
  refine VC.s rfl (RVs.bin rfl rfl rfl rfl (fun _ => ⟨⟨rfl, rfl⟩, rfl⟩) ?_)
  refine VC.nil (k6 ⟨21, [(3, _), (8, _), (9, _), (10, _), (11, _)]⟩ _ ?_)
  refine CWp.seqK fun Kk7 k7 => ?_
  refine CWp.condV rfl (fun hc1 => ?_) (fun hc1 => ?_)
  · try simp at hc1
    refine CWp.skip ?_
    refine k7 _ _ ?_
    refine CWp.seqK fun Kk8 k8 => ?_
    refine CWp.block ?_
    refine CWp.seqK fun Kk9 k9 => ?_
    refine CWp.regionW [3, 5, 8, 9, 10] ?_
    refine VC.s rfl (RVs.indexS rfl (hS.mono (hle (hs3.pre))) rfl ElemOf.h rfl (fun _ => ⟨⟨rfl, rfl⟩, by omega, by omega⟩) ?_)
    intro id1 j1 u1 B1 e1
    obtain ⟨y1, hy1, e1⟩ := e1 rfl
    try simp only [Int.toNat_natCast] at hy1
    obtain ⟨rfl, hwy1⟩ := e1.r
    refine VC.s rfl (RVs.loadE (k := kMail) rfl TyOf.h rfl (fun _ => ⟨rfl, e1⟩) ?_)
    refine VC.s rfl (RVs.alloc ZeroOf.h TyOf.h rfl rfl ?_)
    intro b3 H3 g3 l3 a3
    have e2 := EP.mono (hle g3) e1
    have hs4 := Sep.addB hs3 g3 l3 a3
    refine VC.s rfl (RVs.storeBN (i := 0) hs4 rfl rfl rfl TyOf.h rfl rfl rfl ⟨rfl, rfl⟩ rfl (Nat.le_of_ble_eq_true rfl) rfl ?_)
    intro H4 hs5
    refine VC.nil (k9 ⟨21, [(3, _), (5, _), (8, _), (9, _), (10, _)]⟩ _ ?_)
    refine CWp.regionW [3, 8, 9, 10] ?_
    refine VC.s rfl (RVs.move rfl rfl (fun _ => rfl) ?_)
    refine VC.s rfl (RVs.fieldAddr rfl FieldOf.h (by decide) rfl (fun _ => rfl) ?_)
    refine VC.s rfl (RVs.load rfl TyOf.h rfl (fun _ => ⟨rfl, (Sep.at_ (i := 0) hs5 rfl), rw_live, rfl⟩) ?_)
    refine VC.s rfl (RVs.buildS ElemOf.h ZeroOf.h rfl rfl rfl (by decide) rfl rfl rfl ?_)
    intro b4 H5 g4 l4 a4
    have hs6 := Sep.grow hs5 g4
    refine VC.s rfl (RVs.appendZ (k := kInt) (zs := (x.mails.map (·.uid)).take (i + 1)) int_Flat (i := 1) hs6 rfl rfl rfl ElemOf.h ElOk.h UnSl.h rfl rfl rfl ⟨rfl, rfl⟩ (lit_S (k := kInt) (xs := [y1.uid]) a4 (Kd.Rs.one rfl) rfl (by decide)) ((take_snoc (by rw [List.getElem?_map, hy1]; rfl)).symm) (small_of (by simp; omega) (by decide)) ?_)
    intro ad1 cp1 H6 hcp1 hs7
    refine VC.s rfl (RVs.assign rfl rfl (fun _ => rfl) ?_)
    refine VC.nil (k8 ⟨21, [(3, _), (8, _), (9, _), (10, _)]⟩ _ ?_)
    refine CWp.regionW [3, 8, 9, 10] ?_
    refine VC.s rfl (RVs.arith (r := ((i + 1 : Nat) : Int)) rfl rfl rfl (by (try simp only [bl_bs]); first | exact wrap_in (by omega) | (rw [wrap_in (by omega)]; omega)) rfl (fun _ => ⟨⟨rfl, rfl⟩, rfl⟩) ?_)
    refine VC.s rfl (RVs.move rfl rfl (fun _ => rfl) ?_)
    refine VC.nil (k5 _ ⟨21, [(3, _), (8, _), (9, _), (10, _)]⟩ _ ?_ ⟨i + 1, _, _, rfl, rfl, by omega, (Sep.del hs7 0)⟩)
    omega
  · try simp at hc1
    refine CWp.exit ?_
    refine k3 _ _ ?_
    refine CWp.seqK fun Kk10 k10 => ?_
    refine CWp.regionW [2] ?_
    refine VC.s rfl (RVs.move rfl rfl (fun _ => rfl) ?_)
    refine VC.s rfl (RVs.assign rfl rfl (fun _ => rfl) ?_)
    refine VC.nil (k10 ⟨21, [(2, _)]⟩ _ ?_)
    refine CWp.ret (q _ _ _ (.cons (.tmp rfl) .nil) ?_).1
    have hz := (Sep.fresh (i := 0) hs3 rfl)
    rw [show (x.mails.map (·.uid)).take i = (x.mails.map (·.uid)) from List.take_of_length_le (by rw [List.length_map]; omega)] at hz
    exact ⟨_, _, by simp only [one]; rw [show (x.mails.map (·.uid)).take i = (x.mails.map (·.uid)) from List.take_of_length_le (by rw [List.length_map]; omega)], hz⟩

theorem iViewOf (x : Box) (x_mails x_tombs : Value) (H : AH) (hS : kMail.S H x_mails x.mails) (hn : x.mails.length ≤ 1048576) : FWp Try.prog 63 [.agg #[.string (bs x.name), .int .i64 x.valid, .int .i64 x.next, .int .i64 x.mod, x_mails, x_tombs, .int .i64 x.horizon]] H (fun v' H' => ∃ v, v' = .agg #[.string (bs (viewOf x).box), .int .i64 (viewOf x).valid, v, .int .i64 (viewOf x).mod] ∧ FreshP (pVal kInt.slice [v] (viewOf x).uids) H H') := by
  refine FWp.enterK Try.func63 rfl (by decide +kernel) rfl rfl fun Q q => ?_
  have hs0 := Sep.nil (H := H)
  refine CWp.seqK fun Kk1 k1 => ?_
  refine CWp.regionW [1, 2] ?_
  refine VC.s rfl (RVs.box rfl TyOf.h rfl rfl rfl ?_)
  intro b1 H1 g1 l1 a1
  have hs1 := Sep.addB hs0 g1 l1 a1
  refine VC.s rfl (RVs.alloc ZeroOf.h TyOf.h rfl rfl ?_)
  intro b2 H2 g2 l2 a2
  have hs2 := Sep.addB hs1 g2 l2 a2
  refine VC.nil (k1 ⟨12, [(1, _), (2, _)]⟩ _ ?_)
  refine CWp.seqK fun Kk2 k2 => ?_
  refine CWp.regionDW [2] [false, false, false, false, false, false, false, false, false, true] (by decide +kernel) ?_
  refine VC.s rfl (RVs.fieldAddr rfl FieldOf.h (by decide) rfl (fun _ => rfl) ?_)
  refine VC.s rfl (RVs.load rfl TyOf.h rfl (fun _ => ⟨rfl, (Sep.at_ (i := 1) hs2 rfl), rw_live, rfl⟩) ?_)
  refine VC.s rfl (RVs.fieldAddr rfl FieldOf.h (by decide) rfl (fun _ => rfl) ?_)
  refine VC.s rfl (RVs.load rfl TyOf.h rfl (fun _ => ⟨rfl, (Sep.at_ (i := 1) hs2 rfl), rw_live, rfl⟩) ?_)
  refine VC.s rfl (RVs.load_agg rfl TyOf.h rfl (fun _ => ⟨rfl, (Sep.at_ (i := 1) hs2 rfl), rw_live, Nat.le_of_ble_eq_true rfl, rfl⟩) ?_)
  refine VC.s rfl (RVs.call rfl rfl rfl rfl ⟨rfl, rfl⟩ (uidsOf _ _ _ _ (hS.mono (hle (hs2.pre))) hn) (.inr fun _ _ h => h.elim fun _ h => h.elim fun _ h => h.2.1) ?_)
  rintro v1 H3 ⟨au, cu, rfl, f1⟩
  have g3 := (f1).1
  have hs3 := Sep.addP hs2 (f1)
  refine VC.s rfl (RVs.fieldAddr rfl FieldOf.h (by decide) rfl (fun _ => rfl) ?_)
  refine VC.s rfl (RVs.load rfl TyOf.h rfl (fun _ => ⟨rfl, (Sep.at_ (i := 2) hs3 rfl), rw_live, rfl⟩) ?_)
  refine VC.s rfl (RVs.build rfl ZeroOf.h rfl FieldsOk.h rfl (fun _ => rfl) ?_)
  refine VC.s rfl (RVs.storeBN (i := 1) hs3 rfl rfl rfl TyOf.h rfl rfl rfl ⟨rfl, rfl⟩ rfl (Nat.le_of_ble_eq_true rfl) rfl ?_)
  intro H4 hs4
  refine VC.nil (k2 ⟨12, [(2, _)]⟩ _ ?_)
  refine CWp.ret (q _ _ _ (.cons (.cells rfl (Ty.of TyOf.h) (Sep.at_ (i := 1) hs4 rfl) rw_live (Nat.le_of_ble_eq_true rfl)) .nil) ?_).1
  exact ⟨_, rfl, (FreshP.slice (Sep.fresh (i := 0) hs4 rfl))⟩

theorem equalInts (va vb : Value) (xs ys : List Int) (H : AH) (ha : kInt.S H va xs) (hb : kInt.S H vb ys) : FWp Try.prog 64 [va, vb] H (fun v' H' => v' = .bool (decide (xs = ys)) ∧ H' = H) := by
  refine FWp.pure rfl fun H ph => ?_
  replace ha := ha.mono (hle ph)
  replace hb := hb.mono (hle ph)
  have hal := ha.lim
  unfold lim at hal
  obtain ⟨aa, ca, rfl, hac⟩ := ha.form
  have hbl := hb.lim
  unfold lim at hbl
  obtain ⟨ab, cb, rfl, hbc⟩ := hb.form
  refine FWp.enterK Try.func64 rfl (by decide +kernel) rfl rfl fun Q q => ?_
  have hs0 := Sep.nil (H := H)
  refine CWp.seqK fun Kk1 k1 => ?_
  refine CWp.regionW [0, 1] ?_
  refine VC.s rfl (RVs.assign rfl rfl (fun _ => rfl) ?_)
  refine VC.nil (k1 ⟨26, [(0, _), (1, _)]⟩ _ ?_)
  refine CWp.seqK fun Kk2 k2 => ?_
  refine CWp.seqK fun Kk3 k3 => ?_
  refine CWp.regionW [0, 1, 10] ?_
  refine VC.s rfl (RVs.move rfl rfl (fun _ => rfl) ?_)
  refine VC.s rfl (RVs.len_slice rfl UnSl.h rfl (fun _ => rfl) ?_)
  refine VC.s rfl (RVs.move rfl rfl (fun _ => rfl) ?_)
  refine VC.s rfl (RVs.len_slice rfl UnSl.h rfl (fun _ => rfl) ?_)
  refine VC.s rfl (RVs.bin rfl rfl rfl rfl (fun _ => ⟨⟨rfl, rfl⟩, rfl⟩) ?_)
  refine VC.nil (k3 ⟨26, [(0, _), (1, _), (10, _)]⟩ _ ?_)
  refine CWp.condV rfl (fun hc1 => ?_) (fun hc1 => ?_)
  · try simp at hc1
    refine CWp.seqK fun Kk4 k4 => ?_
    refine CWp.regionW [4] ?_
    refine VC.s rfl (RVs.assign rfl rfl (fun _ => rfl) ?_)
    refine VC.nil (k4 ⟨26, [(4, _)]⟩ _ ?_)
    refine CWp.ret (q _ _ _ (.cons (.tmp rfl) .nil) ?_).1
    exact ⟨by simp [one, show ¬ xs = ys from fun h => hc1 (by rw [h])], (hs0.pre)⟩
  · try simp at hc1
    refine CWp.skip ?_
    refine k2 _ _ ?_
    refine CWp.seqK fun Kk5 k5 => ?_
    refine CWp.seqK fun Kk6 k6 => ?_
    refine CWp.regionW [0, 1, 12, 13] ?_
    refine VC.s rfl (RVs.move rfl rfl (fun _ => rfl) ?_)
    refine VC.s rfl (RVs.len_slice rfl UnSl.h rfl (fun _ => rfl) ?_)
    refine VC.s rfl (RVs.move rfl rfl (fun _ => rfl) ?_)
    refine VC.nil (k6 ⟨26, [(0, _), (1, _), (12, _), (13, _)]⟩ _ ?_)
    refine CWp.block ?_
    refine CWp.loopK (fun n T H' => ∃ i : Nat, T = ⟨26, [(0, .slice aa xs.length ca), (1, .slice ab ys.length cb), (12, .int .i64 (xs.length : Int)), (13, .int .i64 (i : Int))]⟩ ∧ n = xs.length - i ∧ (i ≤ xs.length) ∧ (xs.take i = ys.take i) ∧ H <+: H') (n := xs.length) ⟨0, rfl, by first | rfl | simp, by omega, by simp, List.prefix_refl _⟩ ?_
    rintro n T Hl1 Kk7 k7 ⟨i, rfl, hn1, hi, heq, hs1⟩
    have hs2 := Sep.grow hs0 hs1
    have hs3 := Sep.nil (H := Hl1)
    refine CWp.seqK fun Kk8 k8 => ?_
    refine CWp.regionW [0, 1, 12, 13, 14] ?_
    refine VC.s rfl (RVs.bin rfl rfl rfl rfl (fun _ => ⟨⟨rfl, rfl⟩, rfl⟩) ?_)
    refine VC.nil (k8 ⟨26, [(0, _), (1, _), (12, _), (13, _), (14, _)]⟩ _ ?_)
    refine CWp.seqK fun Kk9 k9 => ?_
    refine CWp.condV rfl (fun hc2 => ?_) (fun hc2 => ?_)
    · try simp at hc2
      refine CWp.skip ?_
      refine k9 _ _ ?_
      refine CWp.seqK fun Kk10 k10 => ?_
      refine CWp.block ?_
      refine CWp.seqK fun Kk11 k11 => ?_
      refine CWp.regionW [0, 1, 5, 12, 13] ?_
      refine VC.s rfl (RVs.move rfl rfl (fun _ => rfl) ?_)
      refine VC.s rfl (RVs.assign rfl rfl (fun _ => rfl) ?_)
      refine VC.nil (k11 ⟨26, [(0, _), (1, _), (5, _), (12, _), (13, _)]⟩ _ ?_)
      refine CWp.seqK fun Kk12 k12 => ?_
      refine CWp.regionDW [0, 1, 12, 13, 24] [false, false, false, false, false, false, false, false, false] (by decide +kernel) ?_
      refine VC.s rfl (RVs.move rfl rfl (fun _ => rfl) ?_)
      refine VC.s rfl (RVs.move rfl rfl (fun _ => rfl) ?_)
      refine VC.s rfl (RVs.indexS rfl (ha.mono (hle (List.IsPrefix.trans hs2.pre (hs3.pre)))) rfl ElemOf.h rfl (fun _ => ⟨⟨rfl, rfl⟩, by omega, by omega⟩) ?_)
      intro id1 j1 u1 B1 e1
      obtain ⟨y1, hy1, e1⟩ := e1 rfl
      try simp only [Int.toNat_natCast] at hy1
      have hry1 := e1.r; obtain rfl := hry1
      refine VC.s rfl (RVs.loadF (k := kInt) (f := 0) rfl TyOf.h rfl (fun _ => ⟨rfl, e1, by decide, rfl⟩) ?_)
      refine VC.s rfl (RVs.move rfl rfl (fun _ => rfl) ?_)
      refine VC.s rfl (RVs.move rfl rfl (fun _ => rfl) ?_)
      refine VC.s rfl (RVs.indexS rfl (hb.mono (hle (List.IsPrefix.trans hs2.pre (hs3.pre)))) rfl ElemOf.h rfl (fun _ => ⟨⟨rfl, rfl⟩, by omega, by omega⟩) ?_)
      intro id2 j2 u2 B2 e2
      obtain ⟨y2, hy2, e2⟩ := e2 rfl
      try simp only [Int.toNat_natCast] at hy2
      have hry2 := e2.r; obtain rfl := hry2
      refine VC.s rfl (RVs.loadF (k := kInt) (f := 0) rfl TyOf.h rfl (fun _ => ⟨rfl, e2, by decide, rfl⟩) ?_)
      refine VC.s rfl (RVs.bin rfl rfl rfl rfl (fun _ => ⟨⟨rfl, rfl⟩, rfl⟩) ?_)
      refine VC.nil (k12 ⟨26, [(0, _), (1, _), (12, _), (13, _), (24, _)]⟩ _ ?_)
      refine CWp.condV rfl (fun hc3 => ?_) (fun hc3 => ?_)
      · try simp at hc3
        refine CWp.seqK fun Kk13 k13 => ?_
        refine CWp.regionW [4] ?_
        refine VC.s rfl (RVs.assign rfl rfl (fun _ => rfl) ?_)
        refine VC.nil (k13 ⟨26, [(4, _)]⟩ _ ?_)
        refine CWp.ret (q _ _ _ (.cons (.tmp rfl) .nil) ?_).1
        exact ⟨by simp [one, ne_at hy1 hy2 hc3], (List.IsPrefix.trans hs2.pre (hs3.pre))⟩
      · try simp at hc3
        refine CWp.skip ?_
        refine k10 _ _ ?_
        refine CWp.regionW [0, 1, 12, 13] ?_
        refine VC.s rfl (RVs.arith (r := ((i + 1 : Nat) : Int)) rfl rfl rfl (by (try simp only [bl_bs]); first | exact wrap_in (by omega) | (rw [wrap_in (by omega)]; omega)) rfl (fun _ => ⟨⟨rfl, rfl⟩, rfl⟩) ?_)
        refine VC.s rfl (RVs.move rfl rfl (fun _ => rfl) ?_)
        refine VC.nil (k7 _ ⟨26, [(0, _), (1, _), (12, _), (13, _)]⟩ _ ?_ ⟨i + 1, rfl, rfl, by omega, take_succ heq hy1 hy2 hc3, List.IsPrefix.trans hs1 hs3.pre⟩)
        omega
    · try simp at hc2
      refine CWp.exit ?_
      refine k5 _ _ ?_
      refine CWp.seqK fun Kk14 k14 => ?_
      refine CWp.regionW [4] ?_
      refine VC.s rfl (RVs.assign rfl rfl (fun _ => rfl) ?_)
      refine VC.nil (k14 ⟨26, [(4, _)]⟩ _ ?_)
      refine CWp.ret (q _ _ _ (.cons (.tmp rfl) .nil) ?_).1
      exact ⟨by simp [one, take_all heq (by omega) (by omega)], (List.IsPrefix.trans hs2.pre (hs3.pre))⟩

theorem fetchOf (x : Mail) (n : Int) (H : AH) : FWp Try.prog 65 [.agg #[.int .i64 x.uid, .int .i64 x.flags, .int .i64 x.mod, .string (bs x.text)], .int .i64 n] H (fun v' H' => v' = .agg #[.int .i64 (lnFetch x n).kind, .int .i64 (lnFetch x n).num, .int .i64 (lnFetch x n).uid, .int .i64 (lnFetch x n).flags, .int .i64 (lnFetch x n).mod, .slice none 0 0, .bool (lnFetch x n).all] ∧ H' = H) := by
  refine FWp.pure rfl fun H ph => ?_
  refine FWp.enterK Try.func65 rfl (by decide +kernel) rfl rfl fun Q q => ?_
  have hs0 := Sep.nil (H := H)
  refine CWp.seqK fun Kk1 k1 => ?_
  refine CWp.regionW [1, 2, 4] ?_
  refine VC.s rfl (RVs.box rfl TyOf.h rfl rfl rfl ?_)
  intro b1 H1 g1 l1 a1
  have hs1 := Sep.addB hs0 g1 l1 a1
  refine VC.s rfl (RVs.alloc ZeroOf.h TyOf.h rfl rfl ?_)
  intro b2 H2 g2 l2 a2
  have hs2 := Sep.addB hs1 g2 l2 a2
  refine VC.nil (k1 ⟨13, [(1, _), (2, _), (4, _)]⟩ _ ?_)
  refine CWp.seqK fun Kk2 k2 => ?_
  refine CWp.regionW [4] ?_
  refine VC.s rfl (RVs.move rfl rfl (fun _ => rfl) ?_)
  refine VC.s rfl (RVs.fieldAddr rfl FieldOf.h (by decide) rfl (fun _ => rfl) ?_)
  refine VC.s rfl (RVs.load rfl TyOf.h rfl (fun _ => ⟨rfl, (Sep.at_ (i := 1) hs2 rfl), rw_live, rfl⟩) ?_)
  refine VC.s rfl (RVs.fieldAddr rfl FieldOf.h (by decide) rfl (fun _ => rfl) ?_)
  refine VC.s rfl (RVs.load rfl TyOf.h rfl (fun _ => ⟨rfl, (Sep.at_ (i := 1) hs2 rfl), rw_live, rfl⟩) ?_)
  refine VC.s rfl (RVs.fieldAddr rfl FieldOf.h (by decide) rfl (fun _ => rfl) ?_)
  refine VC.s rfl (RVs.load rfl TyOf.h rfl (fun _ => ⟨rfl, (Sep.at_ (i := 1) hs2 rfl), rw_live, rfl⟩) ?_)
  refine VC.s rfl (RVs.build rfl ZeroOf.h rfl FieldsOk.h rfl (fun _ => rfl) ?_)
  refine VC.s rfl (RVs.storeBN (i := 0) hs2 rfl rfl rfl TyOf.h rfl rfl rfl ⟨rfl, rfl⟩ rfl (Nat.le_of_ble_eq_true rfl) rfl ?_)
  intro H3 hs3
  refine VC.nil (k2 ⟨13, [(4, _)]⟩ _ ?_)
  refine CWp.ret (q _ _ _ (.cons (.cells rfl (Ty.of TyOf.h) (Sep.at_ (i := 0) hs3 rfl) rw_live (Nat.le_of_ble_eq_true rfl)) .nil) ?_).1
  exact ⟨rfl, (hs3.pre)⟩

end Go.Proofs.Ytaccaelocddakaa
