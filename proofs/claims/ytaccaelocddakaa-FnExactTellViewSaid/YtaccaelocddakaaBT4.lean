/- The walks of the functions of the program that look whether a box is right. -/
import Derived.Test.YtaccaelocddakaaBT1
import Derived.Test.YtaccaelocddakaaAD
import Derived.Test.YtaccaelocddakaaShelf
namespace Go.Proofs.Ytaccaelocddakaa
open Go Go.RowKit
set_option linter.unusedVariables false
set_option maxRecDepth 20000
variable [Tabs]

theorem indexByte (s : List UInt8) (H : AH) : FWp Try.prog 124 [.string (bs s), .int .u8 0] H (fun v' H' => v' = .int .i64 (Lib.indexByte s 0) ∧ H' = H) := by
  refine ⟨⟨Try.f124, _, Try.func124, rfl, by decide +kernel⟩, _, _, ⟨rfl, rfl⟩, AEval.of_below (by simp [PlainV]) trivial fun w hw => ?_⟩
  refine (Try.strings_IndexByte (bs s) 0 w).mono ?_
  rintro e w' ⟨rfl, rfl⟩
  exact ⟨by simp [bs], rfl, rfl, rfl, Nat.le_refl _, fun b hb => rfl⟩

theorem iMailOk (t : List UInt8) (H : AH) : FWp Try.prog 115 [.string (bs t)] H (fun v' H' => v' = .bool (mailOk t) ∧ H' = H) := by
  refine FWp.pure rfl fun H ph => ?_
  refine FWp.enterK Try.func115 rfl (by decide +kernel) rfl rfl fun Q q => ?_
  have hs0 := Sep.nil (H := H)
  refine CWp.seqK fun Kk1 k1 => ?_
  refine CWp.regionW [0] ?_
  refine VC.s rfl (RVs.assign rfl rfl (fun _ => rfl) ?_)
  refine VC.nil (k1 ⟨11, [(0, _)]⟩ _ ?_)
  refine CWp.seqK fun Kk2 k2 => ?_
  refine CWp.regionW [2] ?_
  refine VC.s rfl (RVs.move rfl rfl (fun _ => rfl) ?_)
  refine VC.s rfl (RVs.len_string rfl UnStr.h rfl (fun _ => rfl) ?_)
  refine VC.s rfl (RVs.callp rfl rfl rfl (fun _ => ⟨⟨rfl, rfl⟩, within _ _ _ _⟩) ?_)
  refine VC.s rfl (RVs.move rfl rfl (fun _ => rfl) ?_)
  refine VC.s rfl (RVs.move rfl rfl (fun hg => rfl) ?_)
  refine VC.s rfl (RVs.callp rfl rfl rfl (fun hg => ⟨⟨rfl, (GF.conds_cons hg (GF.conds_cons rfl rfl))⟩, indexByte _ _⟩) ?_)
  refine VC.s rfl (RVs.bin rfl rfl rfl rfl (fun hg => ⟨⟨hg, rfl⟩, rfl⟩) ?_)
  refine VC.s rfl (RVs.pick rfl rfl rfl rfl (fun hg => ⟨rfl, fun hh => pk_t hh rfl, fun _ => rfl⟩) ?_)
  refine VC.s rfl (RVs.assign rfl rfl (fun _ => rfl) ?_)
  refine VC.nil (k2 ⟨11, [(2, _)]⟩ _ ?_)
  refine CWp.ret (q _ _ _ (.cons (.tmp rfl) .nil) ?_).1
  exact ⟨by simp only [one, bl_bs]; rw [mailOk_ib], (hs0.pre)⟩

theorem tombsOk_c1 (x : Tomb) (id tt n : Nat) (u m : Int) (H : AH) (ha : H[id]? = some ⟨tt, n, [.int .i64 u, .int .i64 m], .rw⟩) : FWp Try.prog 117 [.agg #[.int .i64 x.uid, .int .i64 x.mod], .pointer (some ⟨id, 0, none⟩)] H (fun v' H' => v' = .bool (decide (x.uid = u)) ∧ H' = H) := by
  refine FWp.pure rfl fun H ph => ?_
  replace ha := get_prefix ph ha
  refine FWp.enterK Try.func117 rfl (by decide +kernel) rfl rfl fun Q q => ?_
  have hs0 := Sep.nil (H := H)
  refine CWp.seqK fun Kk1 k1 => ?_
  refine CWp.regionW [1, 2] ?_
  refine VC.s rfl (RVs.box rfl TyOf.h rfl rfl rfl ?_)
  intro b1 H1 g1 l1 a1
  have hs1 := Sep.addB hs0 g1 l1 a1
  refine VC.s rfl (RVs.assign rfl rfl (fun _ => rfl) ?_)
  refine VC.nil (k1 ⟨9, [(1, _), (2, _)]⟩ _ ?_)
  refine CWp.seqK fun Kk2 k2 => ?_
  refine CWp.regionW [3] ?_
  refine VC.s rfl (RVs.fieldAddr rfl FieldOf.h (by decide) rfl (fun _ => rfl) ?_)
  refine VC.s rfl (RVs.load rfl TyOf.h rfl (fun _ => ⟨rfl, (Sep.at_ (i := 0) hs1 rfl), rw_live, rfl⟩) ?_)
  refine VC.s rfl (RVs.fieldAddr rfl FieldOf.h (by decide) rfl (fun _ => rfl) ?_)
  refine VC.s rfl (RVs.load rfl TyOf.h rfl (fun _ => ⟨rfl, (get_prefix (hs1.pre) ha), rw_live, rfl⟩) ?_)
  refine VC.s rfl (RVs.bin rfl rfl rfl rfl (fun _ => ⟨⟨rfl, rfl⟩, rfl⟩) ?_)
  refine VC.s rfl (RVs.assign rfl rfl (fun _ => rfl) ?_)
  refine VC.nil (k2 ⟨9, [(3, _)]⟩ _ ?_)
  refine CWp.ret (q _ _ _ (.cons (.tmp rfl) .nil) ?_).1
  exact ⟨rfl, (hs1.pre)⟩

theorem mailAt_c1 (x : Mail) (id tt n : Nat) (u : Int) (H : AH) (ha : H[id]? = some ⟨tt, n, [.int .i64 u], .rw⟩) : FWp Try.prog 102 [.agg #[.int .i64 x.uid, .int .i64 x.flags, .int .i64 x.mod, .string (bs x.text)], .pointer (some ⟨id, 0, none⟩)] H (fun v' H' => v' = .bool (decide (x.uid = u)) ∧ H' = H) := by
  refine FWp.pure rfl fun H ph => ?_
  replace ha := get_prefix ph ha
  refine FWp.enterK Try.func102 rfl (by decide +kernel) rfl rfl fun Q q => ?_
  have hs0 := Sep.nil (H := H)
  refine CWp.seqK fun Kk1 k1 => ?_
  refine CWp.regionW [1, 2] ?_
  refine VC.s rfl (RVs.box rfl TyOf.h rfl rfl rfl ?_)
  intro b1 H1 g1 l1 a1
  have hs1 := Sep.addB hs0 g1 l1 a1
  refine VC.s rfl (RVs.assign rfl rfl (fun _ => rfl) ?_)
  refine VC.nil (k1 ⟨8, [(1, _), (2, _)]⟩ _ ?_)
  refine CWp.seqK fun Kk2 k2 => ?_
  refine CWp.regionW [3] ?_
  refine VC.s rfl (RVs.fieldAddr rfl FieldOf.h (by decide) rfl (fun _ => rfl) ?_)
  refine VC.s rfl (RVs.load rfl TyOf.h rfl (fun _ => ⟨rfl, (Sep.at_ (i := 0) hs1 rfl), rw_live, rfl⟩) ?_)
  refine VC.s rfl (RVs.load rfl TyOf.h rfl (fun _ => ⟨rfl, (get_prefix (hs1.pre) ha), rw_live, rfl⟩) ?_)
  refine VC.s rfl (RVs.bin rfl rfl rfl rfl (fun _ => ⟨⟨rfl, rfl⟩, rfl⟩) ?_)
  refine VC.s rfl (RVs.assign rfl rfl (fun _ => rfl) ?_)
  refine VC.nil (k2 ⟨8, [(3, _)]⟩ _ ?_)
  refine CWp.ret (q _ _ _ (.cons (.tmp rfl) .nil) ?_).1
  exact ⟨rfl, (hs1.pre)⟩

theorem indexTomb (va : Value) (xs : List Tomb) (fk : Nat) (cs : Array Value) (p : Tomb → Bool) (H : AH) (hS : kTomb.S H va xs) (hf : ∀ (H1 : AH) (x : Tomb), H <+: H1 → (∃ i : Nat, xs[i]? = some x) → FWp Try.prog fk ([.agg #[.int .i64 x.uid, .int .i64 x.mod]] ++ cs.toList) H1 (fun v' H' => v' = .bool (p x) ∧ H' = H1)) : FWp Try.prog 125 [va, .func (.func fk) #[] cs] H (fun v' H' => v' = .int .i64 (idxP p xs) ∧ H' = H) := by
  refine FWp.pure rfl fun H ph => ?_
  replace hf := fun (H1 : AH) (x : Tomb) (q : H <+: H1) => hf H1 x (ph.trans q)
  replace hS := hS.mono (hle ph)
  have hSl := hS.lim
  unfold lim at hSl
  obtain ⟨aa, ca, rfl, hSc⟩ := hS.form
  refine FWp.enterK Try.func125 rfl (by decide +kernel) rfl rfl fun Q q => ?_
  have hs0 := Sep.nil (H := H)
  refine CWp.seqK fun Kk1 k1 => ?_
  refine CWp.regionW [0, 1] ?_
  refine VC.s rfl (RVs.assign rfl rfl (fun _ => rfl) ?_)
  refine VC.nil (k1 ⟨19, [(0, _), (1, _)]⟩ _ ?_)
  refine CWp.seqK fun Kk2 k2 => ?_
  refine CWp.seqK fun Kk3 k3 => ?_
  refine CWp.regionW [0, 1, 7, 8] ?_
  refine VC.s rfl (RVs.move rfl rfl (fun _ => rfl) ?_)
  refine VC.s rfl (RVs.len_slice rfl UnSl.h rfl (fun _ => rfl) ?_)
  refine VC.s rfl (RVs.move rfl rfl (fun _ => rfl) ?_)
  refine VC.nil (k3 ⟨19, [(0, _), (1, _), (7, _), (8, _)]⟩ _ ?_)
  refine CWp.block ?_
  refine CWp.loopK (fun n T H' => ∃ i : Nat, T = ⟨19, [(0, .slice aa xs.length ca), (1, .func (.func fk) #[] cs), (7, .int .i64 (xs.length : Int)), (8, .int .i64 (i : Int))]⟩ ∧ n = xs.length - i ∧ (i ≤ xs.length) ∧ ((xs.take i).any p = false) ∧ H <+: H') (n := xs.length) ⟨0, rfl, by first | rfl | simp, by omega, by simp, List.prefix_refl _⟩ ?_
  rintro n T Hl1 Kk4 k4 ⟨i, rfl, hn1, hi, ha, hs1⟩
  have hs2 := Sep.grow hs0 hs1
  have hs3 := Sep.nil (H := Hl1)
  refine CWp.seqK fun Kk5 k5 => ?_
  refine CWp.regionW [0, 1, 7, 8, 9] ?_
  refine VC.s rfl (RVs.bin rfl rfl rfl rfl (fun _ => ⟨⟨rfl, rfl⟩, rfl⟩) ?_)
  refine VC.nil (k5 ⟨19, [(0, _), (1, _), (7, _), (8, _), (9, _)]⟩ _ ?_)
  refine CWp.seqK fun Kk6 k6 => ?_
  refine CWp.condV rfl (fun hc1 => ?_) (fun hc1 => ?_)
  · try simp at hc1
    refine CWp.skip ?_
    refine k6 _ _ ?_
    refine CWp.seqK fun Kk7 k7 => ?_
    refine CWp.block ?_
    refine CWp.seqK fun Kk8 k8 => ?_
    refine CWp.regionW [0, 1, 5, 7, 8] ?_
    refine VC.s rfl (RVs.move rfl rfl (fun _ => rfl) ?_)
    refine VC.s rfl (RVs.assign rfl rfl (fun _ => rfl) ?_)
    refine VC.nil (k8 ⟨19, [(0, _), (1, _), (5, _), (7, _), (8, _)]⟩ _ ?_)
    refine CWp.seqK fun Kk9 k9 => ?_
    refine CWp.regionW [0, 1, 5, 7, 8, 16] ?_
    refine VC.s rfl (RVs.move rfl rfl (fun _ => rfl) ?_)
    refine VC.s rfl (RVs.move rfl rfl (fun _ => rfl) ?_)
    refine VC.s rfl (RVs.move rfl rfl (fun _ => rfl) ?_)
    refine VC.s rfl (RVs.indexS rfl (hS.mono (hle (List.IsPrefix.trans hs2.pre (hs3.pre)))) rfl ElemOf.h rfl (fun _ => ⟨⟨rfl, rfl⟩, by omega, by omega⟩) ?_)
    intro id1 j1 u1 B1 e1
    obtain ⟨y1, hy1, e1⟩ := e1 rfl
    try simp only [Int.toNat_natCast] at hy1
    obtain ⟨rfl, hwy1⟩ := e1.r
    refine VC.s rfl (RVs.loadE (k := kTomb) rfl TyOf.h rfl (fun _ => ⟨rfl, e1⟩) ?_)
    refine VC.s rfl (RVs.callp rfl rfl rfl (fun _ => ⟨⟨rfl, rfl⟩, hf _ y1 (List.IsPrefix.trans hs2.pre (hs3.pre)) ⟨i, hy1⟩⟩) ?_)
    refine VC.nil (k9 ⟨19, [(0, _), (1, _), (5, _), (7, _), (8, _), (16, _)]⟩ _ ?_)
    refine CWp.condV rfl (fun hc2 => ?_) (fun hc2 => ?_)
    · skip
      refine CWp.seqK fun Kk10 k10 => ?_
      refine CWp.regionW [4] ?_
      refine VC.s rfl (RVs.move rfl rfl (fun _ => rfl) ?_)
      refine VC.s rfl (RVs.assign rfl rfl (fun _ => rfl) ?_)
      refine VC.nil (k10 ⟨19, [(4, _)]⟩ _ ?_)
      refine CWp.ret (q _ _ _ (.cons (.tmp rfl) .nil) ?_).1
      exact ⟨by simp only [one]; rw [idxP_at ha hy1 hc2], (List.IsPrefix.trans hs2.pre (hs3.pre))⟩
    · skip
      refine CWp.skip ?_
      refine k7 _ _ ?_
      refine CWp.regionW [0, 1, 7, 8] ?_
      refine VC.s rfl (RVs.arith (r := ((i + 1 : Nat) : Int)) rfl rfl rfl (by (try simp only [bl_bs]); first | exact wrap_in (by omega) | (rw [wrap_in (by omega)]; omega)) rfl (fun _ => ⟨⟨rfl, rfl⟩, rfl⟩) ?_)
      refine VC.s rfl (RVs.move rfl rfl (fun _ => rfl) ?_)
      refine VC.nil (k4 _ ⟨19, [(0, _), (1, _), (7, _), (8, _)]⟩ _ ?_ ⟨i + 1, rfl, rfl, by omega, any_take_step ha hy1 hc2, List.IsPrefix.trans hs1 hs3.pre⟩)
      omega
  · try simp at hc1
    refine CWp.exit ?_
    refine k2 _ _ ?_
    refine CWp.seqK fun Kk11 k11 => ?_
    refine CWp.regionW [4] ?_
    refine VC.s rfl (RVs.assign rfl rfl (fun _ => rfl) ?_)
    refine VC.nil (k11 ⟨19, [(4, _)]⟩ _ ?_)
    refine CWp.ret (q _ _ _ (.cons (.tmp rfl) .nil) ?_).1
    exact ⟨by simp only [one]; rw [idxP_none (any_end ha (by omega))], (List.IsPrefix.trans hs2.pre (hs3.pre))⟩

theorem indexMail (va : Value) (xs : List Mail) (fk : Nat) (cs : Array Value) (p : Mail → Bool) (H : AH) (hS : kMail.S H va xs) (hf : ∀ (H1 : AH) (x : Mail), H <+: H1 → (∃ i : Nat, xs[i]? = some x) → FWp Try.prog fk ([.agg #[.int .i64 x.uid, .int .i64 x.flags, .int .i64 x.mod, .string (bs x.text)]] ++ cs.toList) H1 (fun v' H' => v' = .bool (p x) ∧ H' = H1)) : FWp Try.prog 101 [va, .func (.func fk) #[] cs] H (fun v' H' => v' = .int .i64 (idxP p xs) ∧ H' = H) := by
  refine FWp.pure rfl fun H ph => ?_
  replace hf := fun (H1 : AH) (x : Mail) (q : H <+: H1) => hf H1 x (ph.trans q)
  replace hS := hS.mono (hle ph)
  have hSl := hS.lim
  unfold lim at hSl
  obtain ⟨aa, ca, rfl, hSc⟩ := hS.form
  refine FWp.enterK Try.func101 rfl (by decide +kernel) rfl rfl fun Q q => ?_
  have hs0 := Sep.nil (H := H)
  refine CWp.seqK fun Kk1 k1 => ?_
  refine CWp.regionW [0, 1] ?_
  refine VC.s rfl (RVs.assign rfl rfl (fun _ => rfl) ?_)
  refine VC.nil (k1 ⟨19, [(0, _), (1, _)]⟩ _ ?_)
  refine CWp.seqK fun Kk2 k2 => ?_
  refine CWp.seqK fun Kk3 k3 => ?_
  refine CWp.regionW [0, 1, 7, 8] ?_
  refine VC.s rfl (RVs.move rfl rfl (fun _ => rfl) ?_)
  refine VC.s rfl (RVs.len_slice rfl UnSl.h rfl (fun _ => rfl) ?_)
  refine VC.s rfl (RVs.move rfl rfl (fun _ => rfl) ?_)
  refine VC.nil (k3 ⟨19, [(0, _), (1, _), (7, _), (8, _)]⟩ _ ?_)
  refine CWp.block ?_
  refine CWp.loopK (fun n T H' => ∃ i : Nat, T = ⟨19, [(0, .slice aa xs.length ca), (1, .func (.func fk) #[] cs), (7, .int .i64 (xs.length : Int)), (8, .int .i64 (i : Int))]⟩ ∧ n = xs.length - i ∧ (i ≤ xs.length) ∧ ((xs.take i).any p = false) ∧ H <+: H') (n := xs.length) ⟨0, rfl, by first | rfl | simp, by omega, by simp, List.prefix_refl _⟩ ?_
  rintro n T Hl1 Kk4 k4 ⟨i, rfl, hn1, hi, ha, hs1⟩
  have hs2 := Sep.grow hs0 hs1
  have hs3 := Sep.nil (H := Hl1)
  refine CWp.seqK fun Kk5 k5 => ?_
  refine CWp.regionW [0, 1, 7, 8, 9] ?_
  refine VC.s rfl (RVs.bin rfl rfl rfl rfl (fun _ => ⟨⟨rfl, rfl⟩, rfl⟩) ?_)
  refine VC.nil (k5 ⟨19, [(0, _), (1, _), (7, _), (8, _), (9, _)]⟩ _ ?_)
  refine CWp.seqK fun Kk6 k6 => ?_
  refine CWp.condV rfl (fun hc1 => ?_) (fun hc1 => ?_)
  · try simp at hc1
    refine CWp.skip ?_
    refine k6 _ _ ?_
    refine CWp.seqK fun Kk7 k7 => ?_
    refine CWp.block ?_
    refine CWp.seqK fun Kk8 k8 => ?_
    refine CWp.regionW [0, 1, 5, 7, 8] ?_
    refine VC.s rfl (RVs.move rfl rfl (fun _ => rfl) ?_)
    refine VC.s rfl (RVs.assign rfl rfl (fun _ => rfl) ?_)
    refine VC.nil (k8 ⟨19, [(0, _), (1, _), (5, _), (7, _), (8, _)]⟩ _ ?_)
    refine CWp.seqK fun Kk9 k9 => ?_
    refine CWp.regionW [0, 1, 5, 7, 8, 16] ?_
    refine VC.s rfl (RVs.move rfl rfl (fun _ => rfl) ?_)
    refine VC.s rfl (RVs.move rfl rfl (fun _ => rfl) ?_)
    refine VC.s rfl (RVs.move rfl rfl (fun _ => rfl) ?_)
    refine VC.s rfl (RVs.indexS rfl (hS.mono (hle (List.IsPrefix.trans hs2.pre (hs3.pre)))) rfl ElemOf.h rfl (fun _ => ⟨⟨rfl, rfl⟩, by omega, by omega⟩) ?_)
    intro id1 j1 u1 B1 e1
    obtain ⟨y1, hy1, e1⟩ := e1 rfl
    try simp only [Int.toNat_natCast] at hy1
    obtain ⟨rfl, hwy1⟩ := e1.r
    refine VC.s rfl (RVs.loadE (k := kMail) rfl TyOf.h rfl (fun _ => ⟨rfl, e1⟩) ?_)
    refine VC.s rfl (RVs.callp rfl rfl rfl (fun _ => ⟨⟨rfl, rfl⟩, hf _ y1 (List.IsPrefix.trans hs2.pre (hs3.pre)) ⟨i, hy1⟩⟩) ?_)
    refine VC.nil (k9 ⟨19, [(0, _), (1, _), (5, _), (7, _), (8, _), (16, _)]⟩ _ ?_)
    refine CWp.condV rfl (fun hc2 => ?_) (fun hc2 => ?_)
    · skip
      refine CWp.seqK fun Kk10 k10 => ?_
      refine CWp.regionW [4] ?_
      refine VC.s rfl (RVs.move rfl rfl (fun _ => rfl) ?_)
      refine VC.s rfl (RVs.assign rfl rfl (fun _ => rfl) ?_)
      refine VC.nil (k10 ⟨19, [(4, _)]⟩ _ ?_)
      refine CWp.ret (q _ _ _ (.cons (.tmp rfl) .nil) ?_).1
      exact ⟨by simp only [one]; rw [idxP_at ha hy1 hc2], (List.IsPrefix.trans hs2.pre (hs3.pre))⟩
    · skip
      refine CWp.skip ?_
      refine k7 _ _ ?_
      refine CWp.regionW [0, 1, 7, 8] ?_
      refine VC.s rfl (RVs.arith (r := ((i + 1 : Nat) : Int)) rfl rfl rfl (by (try simp only [bl_bs]); first | exact wrap_in (by omega) | (rw [wrap_in (by omega)]; omega)) rfl (fun _ => ⟨⟨rfl, rfl⟩, rfl⟩) ?_)
      refine VC.s rfl (RVs.move rfl rfl (fun _ => rfl) ?_)
      refine VC.nil (k4 _ ⟨19, [(0, _), (1, _), (7, _), (8, _)]⟩ _ ?_ ⟨i + 1, rfl, rfl, by omega, any_take_step ha hy1 hc2, List.IsPrefix.trans hs1 hs3.pre⟩)
      omega
  · try simp at hc1
    refine CWp.exit ?_
    refine k2 _ _ ?_
    refine CWp.seqK fun Kk11 k11 => ?_
    refine CWp.regionW [4] ?_
    refine VC.s rfl (RVs.assign rfl rfl (fun _ => rfl) ?_)
    refine VC.nil (k11 ⟨19, [(4, _)]⟩ _ ?_)
    refine CWp.ret (q _ _ _ (.cons (.tmp rfl) .nil) ?_).1
    exact ⟨by simp only [one]; rw [idxP_none (any_end ha (by omega))], (List.IsPrefix.trans hs2.pre (hs3.pre))⟩

theorem containsTomb (va : Value) (xs : List Tomb) (fk : Nat) (cs : Array Value) (p : Tomb → Bool) (H : AH) (hS : kTomb.S H va xs) (hf : ∀ (H1 : AH) (x : Tomb), H <+: H1 → (∃ i : Nat, xs[i]? = some x) → FWp Try.prog fk ([.agg #[.int .i64 x.uid, .int .i64 x.mod]] ++ cs.toList) H1 (fun v' H' => v' = .bool (p x) ∧ H' = H1)) : FWp Try.prog 116 [va, .func (.func fk) #[] cs] H (fun v' H' => v' = .bool (xs.any p) ∧ H' = H) := by
  refine FWp.pure rfl fun H ph => ?_
  replace hf := fun (H1 : AH) (x : Tomb) (q : H <+: H1) => hf H1 x (ph.trans q)
  replace hS := hS.mono (hle ph)
  have hSl := hS.lim
  unfold lim at hSl
  obtain ⟨aa, ca, rfl, hSc⟩ := hS.form
  refine FWp.enterK Try.func116 rfl (by decide +kernel) rfl rfl fun Q q => ?_
  have hs0 := Sep.nil (H := H)
  refine CWp.seqK fun Kk1 k1 => ?_
  refine CWp.regionW [0, 1] ?_
  refine VC.s rfl (RVs.assign rfl rfl (fun _ => rfl) ?_)
  refine VC.nil (k1 ⟨9, [(0, _), (1, _)]⟩ _ ?_)
  refine CWp.seqK fun Kk2 k2 => ?_
  refine CWp.regionW [4] ?_
  refine VC.s rfl (RVs.move rfl rfl (fun _ => rfl) ?_)
  refine VC.s rfl (RVs.move rfl rfl (fun _ => rfl) ?_)
  refine VC.s rfl (RVs.callp rfl rfl rfl (fun _ => ⟨⟨rfl, rfl⟩, indexTomb _ _ _ _ p _ (hS.mono (hle (hs0.pre))) (fun H1 x q => hf H1 x (List.IsPrefix.trans (hs0.pre) q))⟩) ?_)
  refine VC.s rfl (RVs.bin rfl rfl rfl rfl (fun _ => ⟨⟨rfl, rfl⟩, rfl⟩) ?_)
  refine VC.s rfl (RVs.assign rfl rfl (fun _ => rfl) ?_)
  refine VC.nil (k2 ⟨9, [(4, _)]⟩ _ ?_)
  refine CWp.ret (q _ _ _ (.cons (.tmp rfl) .nil) ?_).1
  exact ⟨by simp only [one]; rw [idxP_any], (hs0.pre)⟩

theorem mailAt (x : Box) (x_mails x_tombs : Value) (uid : Int) (H : AH) (hS : kMail.S H x_mails x.mails) : FWp Try.prog 62 [.agg #[.string (bs x.name), .int .i64 x.valid, .int .i64 x.next, .int .i64 x.mod, x_mails, x_tombs, .int .i64 x.horizon], .int .i64 uid] H (fun v' H' => v' = .int .i64 (idxP (fun m : Mail => decide (m.uid = uid)) x.mails) ∧ H' = H) := by
  refine FWp.pure rfl fun H ph => ?_
  replace hS := hS.mono (hle ph)
  refine FWp.enterK Try.func62 rfl (by decide +kernel) rfl rfl fun Q q => ?_
  have hs0 := Sep.nil (H := H)
  refine CWp.seqK fun Kk1 k1 => ?_
  refine CWp.regionW [2, 3] ?_
  refine VC.s rfl (RVs.box rfl TyOf.h rfl rfl rfl ?_)
  intro b1 H1 g1 l1 a1
  have hs1 := Sep.addB hs0 g1 l1 a1
  refine VC.s rfl (RVs.box rfl TyOf.h rfl rfl rfl ?_)
  intro b2 H2 g2 l2 a2
  have hs2 := Sep.addB hs1 g2 l2 a2
  refine VC.s rfl (RVs.assign rfl rfl (fun _ => rfl) ?_)
  refine VC.nil (k1 ⟨9, [(2, _), (3, _)]⟩ _ ?_)
  refine CWp.seqK fun Kk2 k2 => ?_
  refine CWp.regionW [4] ?_
  refine VC.s rfl (RVs.fieldAddr rfl FieldOf.h (by decide) rfl (fun _ => rfl) ?_)
  refine VC.s rfl (RVs.load rfl TyOf.h rfl (fun _ => ⟨rfl, (Sep.at_ (i := 1) hs2 rfl), rw_live, rfl⟩) ?_)
  refine VC.s rfl (RVs.makeFunc rfl rfl rfl (fun _ => ⟨rfl, rfl⟩) ?_)
  refine VC.s rfl (RVs.callp rfl rfl rfl (fun _ => ⟨⟨rfl, rfl⟩, indexMail _ _ _ _ (fun m : Mail => decide (m.uid = uid)) _ (hS.mono (hle (hs2.pre))) (fun H1 x q _ => mailAt_c1 x _ _ _ uid _ (get_prefix q (Sep.at_ (i := 0) hs2 rfl)))⟩) ?_)
  refine VC.s rfl (RVs.assign rfl rfl (fun _ => rfl) ?_)
  refine VC.nil (k2 ⟨9, [(4, _)]⟩ _ ?_)
  refine CWp.ret (q _ _ _ (.cons (.tmp rfl) .nil) ?_).1
  exact ⟨rfl, (hs2.pre)⟩

theorem iMailsOk (x : Box) (x_mails x_tombs : Value) (H : AH) (hS : kMail.S H x_mails x.mails) (hn : 1 ≤ x.next ∧ x.next ≤ 9999) : FWp Try.prog 99 [.agg #[.string (bs x.name), .int .i64 x.valid, .int .i64 x.next, .int .i64 x.mod, x_mails, x_tombs, .int .i64 x.horizon]] H (fun v' H' => v' = .bool (mailsOk x) ∧ H' = H) := by
  refine FWp.pure rfl fun H ph => ?_
  replace hS := hS.mono (hle ph)
  have hSl := hS.lim
  unfold lim at hSl
  obtain ⟨aa, ca, rfl, hSc⟩ := hS.form
  refine FWp.enterK Try.func99 rfl (by decide +kernel) rfl rfl fun Q q => ?_
  have hs0 := Sep.nil (H := H)
  refine CWp.seqK fun Kk1 k1 => ?_
  refine CWp.regionW [1] ?_
  refine VC.s rfl (RVs.box rfl TyOf.h rfl rfl rfl ?_)
  intro b1 H1 g1 l1 a1
  have hs1 := Sep.addB hs0 g1 l1 a1
  refine VC.s rfl (RVs.assign rfl rfl (fun _ => rfl) ?_)
  refine VC.nil (k1 ⟨61, [(1, _)]⟩ _ ?_)
  refine CWp.seqK fun Kk2 k2 => ?_
  refine CWp.seqK fun Kk3 k3 => ?_
  refine CWp.regionW [1, 6, 7, 8] ?_
  refine VC.s rfl (RVs.fieldAddr rfl FieldOf.h (by decide) rfl (fun _ => rfl) ?_)
  refine VC.s rfl (RVs.load rfl TyOf.h rfl (fun _ => ⟨rfl, (Sep.at_ (i := 0) hs1 rfl), rw_live, rfl⟩) ?_)
  refine VC.s rfl (RVs.len_slice rfl UnSl.h rfl (fun _ => rfl) ?_)
  refine VC.s rfl (RVs.move rfl rfl (fun _ => rfl) ?_)
  refine VC.nil (k3 ⟨61, [(1, _), (6, _), (7, _), (8, _)]⟩ _ ?_)
  refine CWp.block ?_
  refine CWp.loopK (fun n T H' => ∃ i : Nat, T = ⟨61, [(1, .pointer (some ⟨b1, 0, none⟩)), (6, .slice aa x.mails.length ca), (7, .int .i64 (x.mails.length : Int)), (8, .int .i64 (i : Int))]⟩ ∧ n = x.mails.length - i ∧ (i ≤ x.mails.length) ∧ (∀ j, j < i → mailOkAt x j = true) ∧ H1 <+: H') (n := x.mails.length) ⟨0, rfl, by first | rfl | simp, by omega, by intro j hj; omega, List.prefix_refl _⟩ ?_
  rintro n T Hl1 Kk4 k4 ⟨i, rfl, hn1, hi, ho, hs2⟩
  have hs3 := Sep.grow hs1 hs2
  have hs4 := Sep.nil (H := Hl1)
  refine CWp.seqK fun Kk5 k5 => ?_
  refine CWp.regionW [1, 6, 7, 8, 9] ?_
  refine VC.s rfl (RVs.bin rfl rfl rfl rfl (fun _ => ⟨⟨rfl, rfl⟩, rfl⟩) ?_)
  refine VC.nil (k5 ⟨61, [(1, _), (6, _), (7, _), (8, _), (9, _)]⟩ _ ?_)
  refine CWp.seqK fun Kk6 k6 => ?_
  refine CWp.condV rfl (fun hc1 => ?_) (fun hc1 => ?_)
  · try simp at hc1
    refine CWp.skip ?_
    refine k6 _ _ ?_
    refine CWp.seqK fun Kk7 k7 => ?_
    refine CWp.block ?_
    refine CWp.seqK fun Kk8 k8 => ?_
    refine CWp.regionW [1, 3, 4, 6, 7, 8] ?_
    refine VC.s rfl (RVs.move rfl rfl (fun _ => rfl) ?_)
    refine VC.s rfl (RVs.indexS rfl (hS.mono (hle (List.IsPrefix.trans hs3.pre (hs4.pre)))) rfl ElemOf.h rfl (fun _ => ⟨⟨rfl, rfl⟩, by omega, by omega⟩) ?_)
    intro id1 j1 u1 B1 e1
    obtain ⟨y1, hy1, e1⟩ := e1 rfl
    try simp only [Int.toNat_natCast] at hy1
    obtain ⟨rfl, hwy1⟩ := e1.r
    refine VC.s rfl (RVs.loadE (k := kMail) rfl TyOf.h rfl (fun _ => ⟨rfl, e1⟩) ?_)
    refine VC.s rfl (RVs.alloc ZeroOf.h TyOf.h rfl rfl ?_)
    intro b2 H2 g2 l2 a2
    have e2 := EP.mono (hle g2) e1
    have hs5 := Sep.addB hs4 g2 l2 a2
    refine VC.s rfl (RVs.assign rfl rfl (fun _ => rfl) ?_)
    refine VC.s rfl (RVs.storeBN (i := 0) hs5 rfl rfl rfl TyOf.h rfl rfl rfl ⟨rfl, rfl⟩ rfl (Nat.le_of_ble_eq_true rfl) rfl ?_)
    intro H3 hs6
    refine VC.nil (k8 ⟨61, [(1, _), (3, _), (4, _), (6, _), (7, _), (8, _)]⟩ _ ?_)
    refine CWp.seqK fun Kk9 k9 => ?_
    refine CWp.regionDW [1, 6, 7, 8, 55] [false, false, false, false, false, false, false, false, false, false, false, false, false, false, false, false, false, false, false, false, false, false, false, false, false, false, false, false, false, false, false, false, false, false, false, false, false, false, false, false, false, false, false] (by decide +kernel) ?_
    refine VC.s rfl (RVs.fieldAddr rfl FieldOf.h (by decide) rfl (fun _ => rfl) ?_)
    refine VC.s rfl (RVs.load rfl TyOf.h rfl (fun _ => ⟨rfl, (Sep.at_ (i := 0) hs6 rfl), rw_live, rfl⟩) ?_)
    refine VC.s rfl (RVs.fieldAddr rfl FieldOf.h (by decide) rfl (fun _ => rfl) ?_)
    refine VC.s rfl (RVs.load rfl TyOf.h rfl (fun _ => ⟨rfl, (get_prefix (hs6.pre) (Sep.at_ (i := 0) hs3 rfl)), rw_live, rfl⟩) ?_)
    refine VC.s rfl (RVs.arith (r := (x.next - 1)) rfl rfl rfl (by (try simp only [bl_bs]); first | exact wrap_in (by omega) | (rw [wrap_in (by omega)]; omega)) rfl (fun _ => ⟨⟨rfl, rfl⟩, rfl⟩) ?_)
    refine VC.s rfl (RVs.callp rfl rfl rfl (fun _ => ⟨⟨rfl, rfl⟩, within _ _ _ _⟩) ?_)
    refine VC.s rfl (RVs.not rfl rfl (fun _ => rfl) ?_)
    refine VC.s rfl (RVs.move rfl rfl (fun _ => rfl) ?_)
    refine VC.s rfl (RVs.move rfl rfl (fun hg => rfl) ?_)
    refine VC.s rfl (RVs.bin rfl rfl rfl rfl (fun hg => ⟨⟨hg, rfl⟩, rfl⟩) ?_)
    refine VC.s rfl (RVs.move rfl rfl (fun hg => hg) ?_)
    refine VC.s rfl (RVs.fieldAddr rfl FieldOf.h (by decide) rfl (fun hg => rfl) ?_)
    refine VC.s rfl (RVs.load rfl TyOf.h rfl (fun hg => ⟨hg, (get_prefix (hs6.pre) (Sep.at_ (i := 0) hs3 rfl)), rw_live, rfl⟩) ?_)
    refine VC.s rfl (RVs.move rfl rfl (fun hg => rfl) ?_)
    refine VC.s rfl (RVs.arith (r := ((i : Int) - 1)) rfl rfl rfl (by (try simp only [bl_bs]); first | exact wrap_in (by omega) | (rw [wrap_in (by omega)]; omega)) rfl (fun hg => ⟨⟨hg, rfl⟩, rfl⟩) ?_)
    refine VC.s rfl (RVs.indexS rfl (hS.mono (hle (List.IsPrefix.trans hs3.pre (hs6.pre)))) rfl ElemOf.h rfl (fun hg => ⟨⟨hg, hg⟩, by (have hg2 := hg; simp at hg2; omega), by (have hg2 := hg; simp at hg2; omega)⟩) ?_)
    intro id2 j2 u2 B2 e3
    have e4 := fun hg => pv_epq Mail.z (q' := i - 1) (by omega) (e3 hg)
    refine VC.s rfl (RVs.fieldAddr rfl FieldOf.h (by decide) rfl (fun hg => hg) ?_)
    refine VC.s rfl (RVs.loadF (k := kMail) (f := 0) (v := .int .i64 (x.mails[i - 1]?.getD Mail.z).uid) rfl TyOf.h rfl (fun hg => ⟨hg, (e4 hg), by decide, by rw [(e4 hg).r.1]; rfl⟩) ?_)
    refine VC.s rfl (RVs.fieldAddr rfl FieldOf.h (by decide) rfl (fun hg => rfl) ?_)
    refine VC.s rfl (RVs.load rfl TyOf.h rfl (fun hg => ⟨hg, (Sep.at_ (i := 0) hs6 rfl), rw_live, rfl⟩) ?_)
    refine VC.s rfl (RVs.bin rfl rfl rfl rfl (fun hg => ⟨⟨hg, hg⟩, rfl⟩) ?_)
    refine VC.s rfl (RVs.pick rfl rfl rfl rfl (fun hg => ⟨hg, fun hh => pk_t hh hg, fun _ => rfl⟩) ?_)
    refine VC.s rfl (RVs.pick rfl rfl rfl rfl (fun hg => ⟨rfl, fun _ => rfl, fun hh => pk_f hh rfl⟩) ?_)
    refine VC.s rfl (RVs.move rfl rfl (fun _ => rfl) ?_)
    refine VC.s rfl (RVs.fieldAddr rfl FieldOf.h (by decide) rfl (fun hg => rfl) ?_)
    refine VC.s rfl (RVs.load rfl TyOf.h rfl (fun hg => ⟨hg, (Sep.at_ (i := 0) hs6 rfl), rw_live, rfl⟩) ?_)
    refine VC.s rfl (RVs.callp rfl rfl rfl (fun hg => ⟨⟨rfl, (GF.conds_cons hg rfl)⟩, iFlagsOk _ _⟩) ?_)
    refine VC.s rfl (RVs.not rfl rfl (fun hg => hg) ?_)
    refine VC.s rfl (RVs.pick rfl rfl rfl rfl (fun hg => ⟨rfl, fun _ => rfl, fun hh => pk_f hh rfl⟩) ?_)
    refine VC.s rfl (RVs.move rfl rfl (fun _ => rfl) ?_)
    refine VC.s rfl (RVs.fieldAddr rfl FieldOf.h (by decide) rfl (fun hg => rfl) ?_)
    refine VC.s rfl (RVs.load rfl TyOf.h rfl (fun hg => ⟨hg, (Sep.at_ (i := 0) hs6 rfl), rw_live, rfl⟩) ?_)
    refine VC.s rfl (RVs.fieldAddr rfl FieldOf.h (by decide) rfl (fun hg => rfl) ?_)
    refine VC.s rfl (RVs.load rfl TyOf.h rfl (fun hg => ⟨hg, (get_prefix (hs6.pre) (Sep.at_ (i := 0) hs3 rfl)), rw_live, rfl⟩) ?_)
    refine VC.s rfl (RVs.callp rfl rfl rfl (fun hg => ⟨⟨rfl, (GF.conds_cons hg (GF.conds_cons rfl (GF.conds_cons hg rfl)))⟩, within _ _ _ _⟩) ?_)
    refine VC.s rfl (RVs.not rfl rfl (fun hg => hg) ?_)
    refine VC.s rfl (RVs.pick rfl rfl rfl rfl (fun hg => ⟨rfl, fun _ => rfl, fun hh => pk_f hh rfl⟩) ?_)
    refine VC.s rfl (RVs.move rfl rfl (fun _ => rfl) ?_)
    refine VC.s rfl (RVs.fieldAddr rfl FieldOf.h (by decide) rfl (fun hg => rfl) ?_)
    refine VC.s rfl (RVs.load rfl TyOf.h rfl (fun hg => ⟨hg, (Sep.at_ (i := 0) hs6 rfl), rw_live, rfl⟩) ?_)
    refine VC.s rfl (RVs.callp rfl rfl rfl (fun hg => ⟨⟨rfl, (GF.conds_cons hg rfl)⟩, iMailOk _ _⟩) ?_)
    refine VC.s rfl (RVs.not rfl rfl (fun hg => hg) ?_)
    refine VC.s rfl (RVs.pick rfl rfl rfl rfl (fun hg => ⟨rfl, fun _ => rfl, fun hh => pk_f hh rfl⟩) ?_)
    refine VC.nil (k9 ⟨61, [(1, _), (6, _), (7, _), (8, _), (55, _)]⟩ _ ?_)
    refine CWp.condV rfl (fun hc2 => ?_) (fun hc2 => ?_)
    · have hk := mail_no (mail_cond hy1) hc2
      refine CWp.seqK fun Kk10 k10 => ?_
      refine CWp.regionW [2] ?_
      refine VC.s rfl (RVs.assign rfl rfl (fun _ => rfl) ?_)
      refine VC.nil (k10 ⟨61, [(2, _)]⟩ _ ?_)
      refine CWp.ret (q _ _ _ (.cons (.tmp rfl) .nil) ?_).1
      exact ⟨by simp only [one, mailsOk]; rw [all_bad (by omega) hk]; rfl, (List.IsPrefix.trans hs3.pre (hs6.pre))⟩
    · have hk := mail_yes (mail_cond hy1) hc2
      refine CWp.skip ?_
      refine k7 _ _ ?_
      refine CWp.regionW [1, 6, 7, 8] ?_
      refine VC.s rfl (RVs.arith (r := ((i + 1 : Nat) : Int)) rfl rfl rfl (by (try simp only [bl_bs]); first | exact wrap_in (by omega) | (rw [wrap_in (by omega)]; omega)) rfl (fun _ => ⟨⟨rfl, rfl⟩, rfl⟩) ?_)
      refine VC.s rfl (RVs.move rfl rfl (fun _ => rfl) ?_)
      refine VC.nil (k4 _ ⟨61, [(1, _), (6, _), (7, _), (8, _)]⟩ _ ?_ ⟨i + 1, rfl, rfl, by omega, all_step ho hk, List.IsPrefix.trans hs2 hs6.pre⟩)
      omega
  · try simp at hc1
    refine CWp.exit ?_
    refine k2 _ _ ?_
    refine CWp.seqK fun Kk11 k11 => ?_
    refine CWp.regionW [2] ?_
    refine VC.s rfl (RVs.fieldAddr rfl FieldOf.h (by decide) rfl (fun _ => rfl) ?_)
    refine VC.s rfl (RVs.load rfl TyOf.h rfl (fun _ => ⟨rfl, (get_prefix (hs4.pre) (Sep.at_ (i := 0) hs3 rfl)), rw_live, rfl⟩) ?_)
    refine VC.s rfl (RVs.len_slice rfl UnSl.h rfl (fun _ => rfl) ?_)
    refine VC.s rfl (RVs.bin rfl rfl rfl rfl (fun _ => ⟨⟨rfl, rfl⟩, rfl⟩) ?_)
    refine VC.s rfl (RVs.assign rfl rfl (fun _ => rfl) ?_)
    refine VC.nil (k11 ⟨61, [(2, _)]⟩ _ ?_)
    refine CWp.ret (q _ _ _ (.cons (.tmp rfl) .nil) ?_).1
    exact ⟨by simp only [one, mailsOk]; rw [all_end ho (by omega)]; rfl, (List.IsPrefix.trans hs3.pre (hs4.pre))⟩

theorem iTombsOk (x : Box) (x_mails x_tombs : Value) (H : AH) (hS_x_mails : kMail.S H x_mails x.mails) (hS_x_tombs : kTomb.S H x_tombs x.tombs) (hn : numbersOk x = true) : FWp Try.prog 100 [.agg #[.string (bs x.name), .int .i64 x.valid, .int .i64 x.next, .int .i64 x.mod, x_mails, x_tombs, .int .i64 x.horizon]] H (fun v' H' => v' = .bool (tombsOk x) ∧ H' = H) := by
  refine FWp.pure rfl fun H ph => ?_
  have hnn := numbers_of hn
  replace hS_x_mails := hS_x_mails.mono (hle ph)
  replace hS_x_tombs := hS_x_tombs.mono (hle ph)
  have hS_x_tombsl := hS_x_tombs.lim
  unfold lim at hS_x_tombsl
  obtain ⟨ab, cb, rfl, hS_x_tombsc⟩ := hS_x_tombs.form
  refine FWp.enterK Try.func100 rfl (by decide +kernel) rfl rfl fun Q q => ?_
  have hs0 := Sep.nil (H := H)
  refine CWp.seqK fun Kk1 k1 => ?_
  refine CWp.regionW [1] ?_
  refine VC.s rfl (RVs.box rfl TyOf.h rfl rfl rfl ?_)
  intro b1 H1 g1 l1 a1
  have hs1 := Sep.addB hs0 g1 l1 a1
  refine VC.s rfl (RVs.assign rfl rfl (fun _ => rfl) ?_)
  refine VC.nil (k1 ⟨91, [(1, _)]⟩ _ ?_)
  refine CWp.seqK fun Kk2 k2 => ?_
  refine CWp.seqK fun Kk3 k3 => ?_
  refine CWp.regionW [1, 7, 8, 9] ?_
  refine VC.s rfl (RVs.fieldAddr rfl FieldOf.h (by decide) rfl (fun _ => rfl) ?_)
  refine VC.s rfl (RVs.load rfl TyOf.h rfl (fun _ => ⟨rfl, (Sep.at_ (i := 0) hs1 rfl), rw_live, rfl⟩) ?_)
  refine VC.s rfl (RVs.len_slice rfl UnSl.h rfl (fun _ => rfl) ?_)
  refine VC.s rfl (RVs.move rfl rfl (fun _ => rfl) ?_)
  refine VC.nil (k3 ⟨91, [(1, _), (7, _), (8, _), (9, _)]⟩ _ ?_)
  refine CWp.block ?_
  refine CWp.loopK (fun n T H' => ∃ i : Nat, T = ⟨91, [(1, .pointer (some ⟨b1, 0, none⟩)), (7, .slice ab x.tombs.length cb), (8, .int .i64 (x.tombs.length : Int)), (9, .int .i64 (i : Int))]⟩ ∧ n = x.tombs.length - i ∧ (i ≤ x.tombs.length) ∧ (∀ j, j < i → tombOkAt x j = true) ∧ H1 <+: H') (n := x.tombs.length) ⟨0, rfl, by first | rfl | simp, by omega, by intro j hj; omega, List.prefix_refl _⟩ ?_
  rintro n T Hl1 Kk4 k4 ⟨i, rfl, hn1, hi, ho, hs2⟩
  have hs3 := Sep.grow hs1 hs2
  have hs4 := Sep.nil (H := Hl1)
  refine CWp.seqK fun Kk5 k5 => ?_
  refine CWp.regionW [1, 7, 8, 9, 10] ?_
  refine VC.s rfl (RVs.bin rfl rfl rfl rfl (fun _ => ⟨⟨rfl, rfl⟩, rfl⟩) ?_)
  refine VC.nil (k5 ⟨91, [(1, _), (7, _), (8, _), (9, _), (10, _)]⟩ _ ?_)
  refine CWp.seqK fun Kk6 k6 => ?_
  refine CWp.condV rfl (fun hc1 => ?_) (fun hc1 => ?_)
  · try simp at hc1
    refine CWp.skip ?_
    refine k6 _ _ ?_
    refine CWp.seqK fun Kk7 k7 => ?_
    refine CWp.block ?_
    refine CWp.seqK fun Kk8 k8 => ?_
    refine CWp.regionW [1, 3, 4, 7, 8, 9] ?_
    refine VC.s rfl (RVs.move rfl rfl (fun _ => rfl) ?_)
    refine VC.s rfl (RVs.indexS rfl (hS_x_tombs.mono (hle (List.IsPrefix.trans hs3.pre (hs4.pre)))) rfl ElemOf.h rfl (fun _ => ⟨⟨rfl, rfl⟩, by omega, by omega⟩) ?_)
    intro id1 j1 u1 B1 e1
    obtain ⟨y1, hy1, e1⟩ := e1 rfl
    try simp only [Int.toNat_natCast] at hy1
    obtain ⟨rfl, hwy1⟩ := e1.r
    refine VC.s rfl (RVs.loadE (k := kTomb) rfl TyOf.h rfl (fun _ => ⟨rfl, e1⟩) ?_)
    refine VC.s rfl (RVs.alloc ZeroOf.h TyOf.h rfl rfl ?_)
    intro b2 H2 g2 l2 a2
    have e2 := EP.mono (hle g2) e1
    have hs5 := Sep.addB hs4 g2 l2 a2
    refine VC.s rfl (RVs.assign rfl rfl (fun _ => rfl) ?_)
    refine VC.s rfl (RVs.storeBN (i := 0) hs5 rfl rfl rfl TyOf.h rfl rfl rfl ⟨rfl, rfl⟩ rfl (Nat.le_of_ble_eq_true rfl) rfl ?_)
    intro H3 hs6
    refine VC.nil (k8 ⟨91, [(1, _), (3, _), (4, _), (7, _), (8, _), (9, _)]⟩ _ ?_)
    refine CWp.seqK fun Kk9 k9 => ?_
    refine CWp.regionW [1, 3, 4, 5, 7, 8, 9] ?_
    refine VC.s rfl (RVs.fieldAddr rfl FieldOf.h (by decide) rfl (fun _ => rfl) ?_)
    refine VC.s rfl (RVs.load rfl TyOf.h rfl (fun _ => ⟨rfl, (get_prefix (hs6.pre) (Sep.at_ (i := 0) hs3 rfl)), rw_live, rfl⟩) ?_)
    refine VC.s rfl (RVs.move rfl rfl (fun _ => rfl) ?_)
    refine VC.s rfl (RVs.sliceS (l := 0) (h := i) (k := kTomb) rfl (hS_x_tombs.mono (hle (List.IsPrefix.trans hs3.pre (hs6.pre)))) ElemOf.h rfl ⟨_, rfl⟩ rfl rfl ⟨rfl, (fun y hy => by cases hy), (fun y hy => by cases hy; rfl)⟩ (Nat.zero_le _) hi ?_)
    intro a2 c2 hsub
    rw [List.drop_zero, Nat.sub_zero] at hsub
    refine VC.s rfl (RVs.makeFunc rfl rfl rfl (fun _ => ⟨rfl, rfl⟩) ?_)
    refine VC.s rfl (RVs.callp rfl rfl rfl (fun _ => ⟨⟨rfl, rfl⟩, containsTomb _ _ _ _ (fun u : Tomb => decide (u.uid = y1.uid)) _ hsub (fun H1 z q _ => tombsOk_c1 z _ _ _ y1.uid y1.mod _ (get_prefix q (Sep.at_ (i := 0) hs6 rfl)))⟩) ?_)
    refine VC.s rfl (RVs.assign rfl rfl (fun _ => rfl) ?_)
    refine VC.nil (k9 ⟨91, [(1, _), (3, _), (4, _), (5, _), (7, _), (8, _), (9, _)]⟩ _ ?_)
    refine CWp.seqK fun Kk10 k10 => ?_
    refine CWp.seqK fun Kk11 k11 => ?_
    refine CWp.regionW [1, 3, 4, 7, 8, 9, 47] ?_
    refine VC.s rfl (RVs.fieldAddr rfl FieldOf.h (by decide) rfl (fun _ => rfl) ?_)
    refine VC.s rfl (RVs.load rfl TyOf.h rfl (fun _ => ⟨rfl, (Sep.at_ (i := 0) hs6 rfl), rw_live, rfl⟩) ?_)
    refine VC.s rfl (RVs.fieldAddr rfl FieldOf.h (by decide) rfl (fun _ => rfl) ?_)
    refine VC.s rfl (RVs.load rfl TyOf.h rfl (fun _ => ⟨rfl, (get_prefix (hs6.pre) (Sep.at_ (i := 0) hs3 rfl)), rw_live, rfl⟩) ?_)
    refine VC.s rfl (RVs.arith (r := (x.next - 1)) rfl rfl rfl (by (try simp only [bl_bs]); first | exact wrap_in (by omega) | (rw [wrap_in (by omega)]; omega)) rfl (fun _ => ⟨⟨rfl, rfl⟩, rfl⟩) ?_)
    refine VC.s rfl (RVs.callp rfl rfl rfl (fun _ => ⟨⟨rfl, rfl⟩, within _ _ _ _⟩) ?_)
    refine VC.s rfl (RVs.not rfl rfl (fun _ => rfl) ?_)
    refine VC.s rfl (RVs.move rfl rfl (fun _ => rfl) ?_)
    refine VC.s rfl (RVs.fieldAddr rfl FieldOf.h (by decide) rfl (fun hg => rfl) ?_)
    refine VC.s rfl (RVs.load rfl TyOf.h rfl (fun hg => ⟨hg, (Sep.at_ (i := 0) hs6 rfl), rw_live, rfl⟩) ?_)
    refine VC.s rfl (RVs.fieldAddr rfl FieldOf.h (by decide) rfl (fun hg => rfl) ?_)
    refine VC.s rfl (RVs.load rfl TyOf.h rfl (fun hg => ⟨hg, (get_prefix (hs6.pre) (Sep.at_ (i := 0) hs3 rfl)), rw_live, rfl⟩) ?_)
    refine VC.s rfl (RVs.arith (r := (x.horizon + 1)) rfl rfl rfl (by (try simp only [bl_bs]); first | exact wrap_in (by omega) | (rw [wrap_in (by omega)]; omega)) rfl (fun hg => ⟨⟨hg, rfl⟩, rfl⟩) ?_)
    refine VC.s rfl (RVs.fieldAddr rfl FieldOf.h (by decide) rfl (fun hg => rfl) ?_)
    refine VC.s rfl (RVs.load rfl TyOf.h rfl (fun hg => ⟨hg, (get_prefix (hs6.pre) (Sep.at_ (i := 0) hs3 rfl)), rw_live, rfl⟩) ?_)
    refine VC.s rfl (RVs.callp rfl rfl rfl (fun hg => ⟨⟨rfl, (GF.conds_cons hg (GF.conds_cons hg (GF.conds_cons hg rfl)))⟩, within _ _ _ _⟩) ?_)
    refine VC.s rfl (RVs.not rfl rfl (fun hg => hg) ?_)
    refine VC.s rfl (RVs.pick rfl rfl rfl rfl (fun hg => ⟨rfl, fun _ => rfl, fun hh => pk_f hh rfl⟩) ?_)
    refine VC.s rfl (RVs.move rfl rfl (fun _ => rfl) ?_)
    refine VC.s rfl (RVs.move rfl rfl (fun hg => rfl) ?_)
    refine VC.s rfl (RVs.pick rfl rfl rfl rfl (fun hg => ⟨rfl, fun _ => rfl, fun hh => pk_f hh rfl⟩) ?_)
    refine VC.s rfl (RVs.move rfl rfl (fun _ => rfl) ?_)
    refine VC.s rfl (RVs.load_agg rfl TyOf.h rfl (fun hg => ⟨rfl, (get_prefix (hs6.pre) (Sep.at_ (i := 0) hs3 rfl)), rw_live, Nat.le_of_ble_eq_true rfl, rfl⟩) ?_)
    refine VC.s rfl (RVs.fieldAddr rfl FieldOf.h (by decide) rfl (fun hg => rfl) ?_)
    refine VC.s rfl (RVs.load rfl TyOf.h rfl (fun hg => ⟨hg, (Sep.at_ (i := 0) hs6 rfl), rw_live, rfl⟩) ?_)
    refine VC.s rfl (RVs.callp rfl rfl rfl (fun hg => ⟨⟨rfl, (GF.conds_cons hg (GF.conds_cons hg rfl))⟩, mailAt _ _ _ _ _ (hS_x_mails.mono (hle (List.IsPrefix.trans hs3.pre (hs6.pre))))⟩) ?_)
    refine VC.s rfl (RVs.bin rfl rfl rfl rfl (fun hg => ⟨⟨hg, rfl⟩, rfl⟩) ?_)
    refine VC.s rfl (RVs.pick rfl rfl rfl rfl (fun hg => ⟨rfl, fun _ => rfl, fun hh => pk_f hh rfl⟩) ?_)
    refine VC.nil (k11 ⟨91, [(1, _), (3, _), (4, _), (7, _), (8, _), (9, _), (47, _)]⟩ _ ?_)
    refine CWp.condV rfl (fun hc2 => ?_) (fun hc2 => ?_)
    · have hk : tombOkAt x i = false := by rw [tomb_parts hy1, ← hasMail_idx]; exact tomb_b2 hc2
      refine CWp.seqK fun Kk12 k12 => ?_
      refine CWp.regionW [2] ?_
      refine VC.s rfl (RVs.assign rfl rfl (fun _ => rfl) ?_)
      refine VC.nil (k12 ⟨91, [(2, _)]⟩ _ ?_)
      refine CWp.ret (q _ _ _ (.cons (.tmp rfl) .nil) ?_).1
      exact ⟨by simp only [one, tombsOk]; rw [all_bad (by omega) hk]; rfl, (List.IsPrefix.trans hs3.pre (hs6.pre))⟩
    · have hq := tomb_b3 hc2
      refine CWp.skip ?_
      refine k10 _ _ ?_
      refine CWp.seqK fun Kk13 k13 => ?_
      refine CWp.regionDW [1, 7, 8, 9, 85] [false, false, false, false, false, false, false, false, false, false, false, false, false, false, false, false, false, false, false, false, false, false, false, false, false, false, false, false, false, false, false, false, false, false, false, false, false, false] (by decide +kernel) ?_
      refine VC.s rfl (RVs.move rfl rfl (fun _ => rfl) ?_)
      refine VC.s rfl (RVs.bin rfl rfl rfl rfl (fun _ => ⟨⟨rfl, rfl⟩, rfl⟩) ?_)
      refine VC.s rfl (RVs.move rfl rfl (fun _ => rfl) ?_)
      refine VC.s rfl (RVs.fieldAddr rfl FieldOf.h (by decide) rfl (fun hg => rfl) ?_)
      refine VC.s rfl (RVs.load rfl TyOf.h rfl (fun hg => ⟨hg, (get_prefix (hs6.pre) (Sep.at_ (i := 0) hs3 rfl)), rw_live, rfl⟩) ?_)
      refine VC.s rfl (RVs.move rfl rfl (fun hg => rfl) ?_)
      refine VC.s rfl (RVs.arith (r := ((i : Int) - 1)) rfl rfl rfl (by (try simp only [bl_bs]); first | exact wrap_in (by omega) | (rw [wrap_in (by omega)]; omega)) rfl (fun hg => ⟨⟨hg, rfl⟩, rfl⟩) ?_)
      refine VC.s rfl (RVs.indexS rfl (hS_x_tombs.mono (hle (List.IsPrefix.trans hs3.pre (hs6.pre)))) rfl ElemOf.h rfl (fun hg => ⟨⟨hg, hg⟩, by (have hg2 := hg; simp at hg2; omega), by (have hg2 := hg; simp at hg2; omega)⟩) ?_)
      intro id2 j2 u2 B2 e3
      have e4 := fun hg => pv_epq Tomb.z (q' := i - 1) (by omega) (e3 hg)
      refine VC.s rfl (RVs.fieldAddr rfl FieldOf.h (by decide) rfl (fun hg => hg) ?_)
      refine VC.s rfl (RVs.loadF (k := kTomb) (f := 1) (v := .int .i64 (x.tombs[i - 1]?.getD Tomb.z).mod) rfl TyOf.h rfl (fun hg => ⟨hg, (e4 hg), by decide, by rw [(e4 hg).r.1]; rfl⟩) ?_)
      refine VC.s rfl (RVs.fieldAddr rfl FieldOf.h (by decide) rfl (fun hg => rfl) ?_)
      refine VC.s rfl (RVs.load rfl TyOf.h rfl (fun hg => ⟨hg, (Sep.at_ (i := 0) hs6 rfl), rw_live, rfl⟩) ?_)
      refine VC.s rfl (RVs.bin rfl rfl rfl rfl (fun hg => ⟨⟨hg, hg⟩, rfl⟩) ?_)
      refine VC.s rfl (RVs.move rfl rfl (fun hg => hg) ?_)
      refine VC.s rfl (RVs.fieldAddr rfl FieldOf.h (by decide) rfl (fun hg => rfl) ?_)
      refine VC.s rfl (RVs.load rfl TyOf.h rfl (fun hg => ⟨hg, (get_prefix (hs6.pre) (Sep.at_ (i := 0) hs3 rfl)), rw_live, rfl⟩) ?_)
      refine VC.s rfl (RVs.move rfl rfl (fun hg => rfl) ?_)
      refine VC.s rfl (RVs.arith (r := ((i : Int) - 1)) rfl rfl rfl (by (try simp only [bl_bs]); first | exact wrap_in (by omega) | (rw [wrap_in (by omega)]; omega)) rfl (fun hg => ⟨⟨hg, rfl⟩, rfl⟩) ?_)
      refine VC.s rfl (RVs.indexS rfl (hS_x_tombs.mono (hle (List.IsPrefix.trans hs3.pre (hs6.pre)))) rfl ElemOf.h rfl (fun hg => ⟨⟨hg, hg⟩, by (have hg2 := hg; simp at hg2; omega), by (have hg2 := hg; simp at hg2; omega)⟩) ?_)
      intro id3 j3 u3 B3 e5
      have e6 := fun hg => pv_epq Tomb.z (q' := i - 1) (by omega) (e5 hg)
      refine VC.s rfl (RVs.fieldAddr rfl FieldOf.h (by decide) rfl (fun hg => hg) ?_)
      refine VC.s rfl (RVs.loadF (k := kTomb) (f := 1) (v := .int .i64 (x.tombs[i - 1]?.getD Tomb.z).mod) rfl TyOf.h rfl (fun hg => ⟨hg, (e6 hg), by decide, by rw [(e6 hg).r.1]; rfl⟩) ?_)
      refine VC.s rfl (RVs.fieldAddr rfl FieldOf.h (by decide) rfl (fun hg => rfl) ?_)
      refine VC.s rfl (RVs.load rfl TyOf.h rfl (fun hg => ⟨hg, (Sep.at_ (i := 0) hs6 rfl), rw_live, rfl⟩) ?_)
      refine VC.s rfl (RVs.bin rfl rfl rfl rfl (fun hg => ⟨⟨hg, hg⟩, rfl⟩) ?_)
      refine VC.s rfl (RVs.move rfl rfl (fun hg => hg) ?_)
      refine VC.s rfl (RVs.fieldAddr rfl FieldOf.h (by decide) rfl (fun hg => rfl) ?_)
      refine VC.s rfl (RVs.load rfl TyOf.h rfl (fun hg => ⟨hg, (get_prefix (hs6.pre) (Sep.at_ (i := 0) hs3 rfl)), rw_live, rfl⟩) ?_)
      refine VC.s rfl (RVs.move rfl rfl (fun hg => rfl) ?_)
      refine VC.s rfl (RVs.arith (r := ((i : Int) - 1)) rfl rfl rfl (by (try simp only [bl_bs]); first | exact wrap_in (by omega) | (rw [wrap_in (by omega)]; omega)) rfl (fun hg => ⟨⟨hg, rfl⟩, rfl⟩) ?_)
      refine VC.s rfl (RVs.indexS rfl (hS_x_tombs.mono (hle (List.IsPrefix.trans hs3.pre (hs6.pre)))) rfl ElemOf.h rfl (fun hg => ⟨⟨hg, hg⟩, by (have hg2 := hg; simp at hg2; omega), by (have hg2 := hg; simp at hg2; omega)⟩) ?_)
      intro id4 j4 u4 B4 e7
      have e8 := fun hg => pv_epq Tomb.z (q' := i - 1) (by omega) (e7 hg)
      refine VC.s rfl (RVs.fieldAddr rfl FieldOf.h (by decide) rfl (fun hg => hg) ?_)
      refine VC.s rfl (RVs.loadF (k := kTomb) (f := 0) (v := .int .i64 (x.tombs[i - 1]?.getD Tomb.z).uid) rfl TyOf.h rfl (fun hg => ⟨hg, (e8 hg), by decide, by rw [(e8 hg).r.1]; rfl⟩) ?_)
      refine VC.s rfl (RVs.fieldAddr rfl FieldOf.h (by decide) rfl (fun hg => rfl) ?_)
      refine VC.s rfl (RVs.load rfl TyOf.h rfl (fun hg => ⟨hg, (Sep.at_ (i := 0) hs6 rfl), rw_live, rfl⟩) ?_)
      refine VC.s rfl (RVs.bin rfl rfl rfl rfl (fun hg => ⟨⟨hg, hg⟩, rfl⟩) ?_)
      refine VC.s rfl (RVs.pick rfl rfl rfl rfl (fun hg => ⟨hg, fun hh => pk_t hh hg, fun _ => rfl⟩) ?_)
      refine VC.s rfl (RVs.pick rfl rfl rfl rfl (fun hg => ⟨hg, fun _ => rfl, fun hh => pk_f hh hg⟩) ?_)
      refine VC.s rfl (RVs.pick rfl rfl rfl rfl (fun hg => ⟨rfl, fun hh => pk_t hh rfl, fun _ => rfl⟩) ?_)
      refine VC.nil (k13 ⟨91, [(1, _), (7, _), (8, _), (9, _), (85, _)]⟩ _ ?_)
      refine CWp.condV rfl (fun hc3 => ?_) (fun hc3 => ?_)
      · have hk : tombOkAt x i = false := by rw [tomb_parts hy1, hc3]; simp
        refine CWp.seqK fun Kk14 k14 => ?_
        refine CWp.regionW [2] ?_
        refine VC.s rfl (RVs.assign rfl rfl (fun _ => rfl) ?_)
        refine VC.nil (k14 ⟨91, [(2, _)]⟩ _ ?_)
        refine CWp.ret (q _ _ _ (.cons (.tmp rfl) .nil) ?_).1
        exact ⟨by simp only [one, tombsOk]; rw [all_bad (by omega) hk]; rfl, (List.IsPrefix.trans hs3.pre (hs6.pre))⟩
      · have hk : tombOkAt x i = true := by rw [tomb_parts hy1, ← hasMail_idx, hc3, hq.1, hq.2.1, hq.2.2.1, hq.2.2.2]; rfl
        refine CWp.skip ?_
        refine k7 _ _ ?_
        refine CWp.regionW [1, 7, 8, 9] ?_
        refine VC.s rfl (RVs.arith (r := ((i + 1 : Nat) : Int)) rfl rfl rfl (by (try simp only [bl_bs]); first | exact wrap_in (by omega) | (rw [wrap_in (by omega)]; omega)) rfl (fun _ => ⟨⟨rfl, rfl⟩, rfl⟩) ?_)
        refine VC.s rfl (RVs.move rfl rfl (fun _ => rfl) ?_)
        refine VC.nil (k4 _ ⟨91, [(1, _), (7, _), (8, _), (9, _)]⟩ _ ?_ ⟨i + 1, rfl, rfl, by omega, all_step ho hk, List.IsPrefix.trans hs2 hs6.pre⟩)
        omega
  · try simp at hc1
    refine CWp.exit ?_
    refine k2 _ _ ?_
    refine CWp.seqK fun Kk15 k15 => ?_
    refine CWp.regionW [2] ?_
    refine VC.s rfl (RVs.fieldAddr rfl FieldOf.h (by decide) rfl (fun _ => rfl) ?_)
    refine VC.s rfl (RVs.load rfl TyOf.h rfl (fun _ => ⟨rfl, (get_prefix (hs4.pre) (Sep.at_ (i := 0) hs3 rfl)), rw_live, rfl⟩) ?_)
    refine VC.s rfl (RVs.len_slice rfl UnSl.h rfl (fun _ => rfl) ?_)
    refine VC.s rfl (RVs.bin rfl rfl rfl rfl (fun _ => ⟨⟨rfl, rfl⟩, rfl⟩) ?_)
    refine VC.s rfl (RVs.assign rfl rfl (fun _ => rfl) ?_)
    refine VC.nil (k15 ⟨91, [(2, _)]⟩ _ ?_)
    refine CWp.ret (q _ _ _ (.cons (.tmp rfl) .nil) ?_).1
    exact ⟨by simp only [one, tombsOk]; rw [all_end ho (by omega)]; rfl, (List.IsPrefix.trans hs3.pre (hs4.pre))⟩

theorem iBoxOk (x : Box) (x_mails x_tombs : Value) (H : AH) (hS_x_mails : kMail.S H x_mails x.mails) (hS_x_tombs : kTomb.S H x_tombs x.tombs) (hb_x_name : x.name.length ≤ lim) : FWp Try.prog 61 [.agg #[.string (bs x.name), .int .i64 x.valid, .int .i64 x.next, .int .i64 x.mod, x_mails, x_tombs, .int .i64 x.horizon]] H (fun v' H' => v' = .bool (boxOk x) ∧ H' = H) := by
  refine FWp.pure rfl fun H ph => ?_
  replace hS_x_mails := hS_x_mails.mono (hle ph)
  replace hS_x_tombs := hS_x_tombs.mono (hle ph)
  refine FWp.enterK Try.func61 rfl (by decide +kernel) rfl rfl fun Q q => ?_
  have hs0 := Sep.nil (H := H)
  refine CWp.seqK fun Kk1 k1 => ?_
  refine CWp.regionW [1] ?_
  refine VC.s rfl (RVs.box rfl TyOf.h rfl rfl rfl ?_)
  intro b1 H1 g1 l1 a1
  have hs1 := Sep.addB hs0 g1 l1 a1
  refine VC.s rfl (RVs.assign rfl rfl (fun _ => rfl) ?_)
  refine VC.nil (k1 ⟨38, [(1, _)]⟩ _ ?_)
  refine CWp.seqK fun Kk2 k2 => ?_
  refine CWp.regionW [1, 3] ?_
  refine VC.s rfl (RVs.fieldAddr rfl FieldOf.h (by decide) rfl (fun _ => rfl) ?_)
  refine VC.s rfl (RVs.load rfl TyOf.h rfl (fun _ => ⟨rfl, (Sep.at_ (i := 0) hs1 rfl), rw_live, rfl⟩) ?_)
  refine VC.s rfl (RVs.callp rfl rfl rfl (fun _ => ⟨⟨rfl, rfl⟩, isUid _ _⟩) ?_)
  refine VC.s rfl (RVs.move rfl rfl (fun _ => rfl) ?_)
  refine VC.s rfl (RVs.fieldAddr rfl FieldOf.h (by decide) rfl (fun hg => rfl) ?_)
  refine VC.s rfl (RVs.load rfl TyOf.h rfl (fun hg => ⟨hg, (Sep.at_ (i := 0) hs1 rfl), rw_live, rfl⟩) ?_)
  refine VC.s rfl (RVs.callp rfl rfl rfl (fun hg => ⟨⟨rfl, (GF.conds_cons hg rfl)⟩, isUid _ _⟩) ?_)
  refine VC.s rfl (RVs.pick rfl rfl rfl rfl (fun hg => ⟨rfl, fun hh => pk_t hh rfl, fun _ => rfl⟩) ?_)
  refine VC.s rfl (RVs.move rfl rfl (fun _ => rfl) ?_)
  refine VC.s rfl (RVs.fieldAddr rfl FieldOf.h (by decide) rfl (fun hg => rfl) ?_)
  refine VC.s rfl (RVs.load rfl TyOf.h rfl (fun hg => ⟨hg, (Sep.at_ (i := 0) hs1 rfl), rw_live, rfl⟩) ?_)
  refine VC.s rfl (RVs.callp rfl rfl rfl (fun hg => ⟨⟨rfl, (GF.conds_cons hg (GF.conds_cons rfl (GF.conds_cons rfl rfl)))⟩, within _ _ _ _⟩) ?_)
  refine VC.s rfl (RVs.pick rfl rfl rfl rfl (fun hg => ⟨rfl, fun hh => pk_t hh rfl, fun _ => rfl⟩) ?_)
  refine VC.s rfl (RVs.move rfl rfl (fun _ => rfl) ?_)
  refine VC.s rfl (RVs.fieldAddr rfl FieldOf.h (by decide) rfl (fun hg => rfl) ?_)
  refine VC.s rfl (RVs.load rfl TyOf.h rfl (fun hg => ⟨hg, (Sep.at_ (i := 0) hs1 rfl), rw_live, rfl⟩) ?_)
  refine VC.s rfl (RVs.fieldAddr rfl FieldOf.h (by decide) rfl (fun hg => rfl) ?_)
  refine VC.s rfl (RVs.load rfl TyOf.h rfl (fun hg => ⟨hg, (Sep.at_ (i := 0) hs1 rfl), rw_live, rfl⟩) ?_)
  refine VC.s rfl (RVs.callp rfl rfl rfl (fun hg => ⟨⟨rfl, (GF.conds_cons hg (GF.conds_cons rfl (GF.conds_cons hg rfl)))⟩, within _ _ _ _⟩) ?_)
  refine VC.s rfl (RVs.pick rfl rfl rfl rfl (fun hg => ⟨rfl, fun hh => pk_t hh rfl, fun _ => rfl⟩) ?_)
  refine VC.s rfl (RVs.assign rfl rfl (fun _ => rfl) ?_)
  refine VC.nil (k2 ⟨38, [(1, _), (3, _)]⟩ _ ?_)
  refine CWp.seqK fun Kk3 k3 => ?_
  refine CWp.regionW [2] ?_
  refine VC.s rfl (RVs.fieldAddr rfl FieldOf.h (by decide) rfl (fun _ => rfl) ?_)
  refine VC.s rfl (RVs.load rfl TyOf.h rfl (fun _ => ⟨rfl, (Sep.at_ (i := 0) hs1 rfl), rw_live, rfl⟩) ?_)
  refine VC.s rfl (RVs.callp rfl rfl rfl (fun _ => ⟨⟨rfl, rfl⟩, iBoxName _ _ hb_x_name⟩) ?_)
  refine VC.s rfl (RVs.move rfl rfl (fun _ => rfl) ?_)
  refine VC.s rfl (RVs.move rfl rfl (fun hg => rfl) ?_)
  refine VC.s rfl (RVs.pick rfl rfl rfl rfl (fun hg => ⟨rfl, fun hh => pk_t hh rfl, fun _ => rfl⟩) ?_)
  refine VC.s rfl (RVs.move rfl rfl (fun _ => rfl) ?_)
  refine VC.s rfl (RVs.load_agg rfl TyOf.h rfl (fun hg => ⟨rfl, (Sep.at_ (i := 0) hs1 rfl), rw_live, Nat.le_of_ble_eq_true rfl, rfl⟩) ?_)
  refine VC.s rfl (RVs.callp rfl rfl rfl (fun hg => ⟨⟨rfl, (GF.conds_cons hg rfl)⟩, iMailsOk _ _ _ _ (hS_x_mails.mono (hle (hs1.pre))) (numbers_next (box_g1 hg))⟩) ?_)
  refine VC.s rfl (RVs.pick rfl rfl rfl rfl (fun hg => ⟨rfl, fun hh => pk_t hh rfl, fun _ => rfl⟩) ?_)
  refine VC.s rfl (RVs.move rfl rfl (fun _ => rfl) ?_)
  refine VC.s rfl (RVs.load_agg rfl TyOf.h rfl (fun hg => ⟨rfl, (Sep.at_ (i := 0) hs1 rfl), rw_live, Nat.le_of_ble_eq_true rfl, rfl⟩) ?_)
  refine VC.s rfl (RVs.callp rfl rfl rfl (fun hg => ⟨⟨rfl, (GF.conds_cons hg rfl)⟩, iTombsOk _ _ _ _ (hS_x_mails.mono (hle (hs1.pre))) (hS_x_tombs.mono (hle (hs1.pre))) (box_g2 hg)⟩) ?_)
  refine VC.s rfl (RVs.pick rfl rfl rfl rfl (fun hg => ⟨rfl, fun hh => pk_t hh rfl, fun _ => rfl⟩) ?_)
  refine VC.s rfl (RVs.assign rfl rfl (fun _ => rfl) ?_)
  refine VC.nil (k3 ⟨38, [(2, _)]⟩ _ ?_)
  refine CWp.ret (q _ _ _ (.cons (.tmp rfl) .nil) ?_).1
  exact ⟨by simp only [one]; exact congrArg Value.bool (box_fin _ _), (hs1.pre)⟩

end Go.Proofs.Ytaccaelocddakaa
