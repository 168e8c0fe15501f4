/- A part of the proof: no conditions. -/
import Derived.Test.YtaccaelocddakaaDoorP
namespace Go.Proofs.YtaccaelocddakaaDoor
open Go Go.RowKit
set_option linter.unusedVariables false
set_option linter.unusedSectionVars false
variable [Tabs]

/-! ### Plain operations, one by one -/
section
variable {P : Program} {ops : Array Oper} {K : GF → AH → Prop} {rest : List Oper} {sps : List Bool} {G : GF} {H : AH} {g : Bool} {dst : Option Nat} {ty : TypeId} {pos : String} {aft : Array Edge} {gd : Option (Nat × Bool)}

theorem RVs.move {x : Operand} {v : Value} (hx : G.raw x = some v) (hd : dstOk G ⟨dst, .move x, ty, pos, aft, gd⟩ = true) (hc : g = true → G.cond x = true)
    (k : VC P ops K rest sps.tail (G.put dst (g, v)) H) : RVs P ops K ⟨dst, .move x, ty, pos, aft, gd⟩ rest sps G H g :=
  RVs.pure hd (fun hg => .move rfl (raw_ev hx (hc hg))) k
theorem RVs.assign {x : Operand} {v : Value} (hx : G.raw x = some v) (hd : dstOk G ⟨dst, .assign x, ty, pos, aft, gd⟩ = true) (hc : g = true → G.cond x = true)
    (k : VC P ops K rest sps.tail (G.put dst (g, v)) H) : RVs P ops K ⟨dst, .assign x, ty, pos, aft, gd⟩ rest sps G H g :=
  RVs.pure hd (fun hg => .assign rfl (raw_ev hx (hc hg))) k
theorem RVs.pick {c a b : Operand} {t x y : Bool} (h1 : G.raw c = some (.bool t)) (h2 : G.raw a = some (.bool x)) (h3 : G.raw b = some (.bool y)) (hd : dstOk G ⟨dst, .pick c a b, ty, pos, aft, gd⟩ = true)
    (hc : g = true → G.cond c = true ∧ (t = true → G.cond a = true) ∧ (t = false → G.cond b = true)) (k : VC P ops K rest sps.tail (G.put dst (g, .bool (bif t then x else y))) H) : RVs P ops K ⟨dst, .pick c a b, ty, pos, aft, gd⟩ rest sps G H g := by
  refine RVs.pure hd (fun hg => ?_) k
  obtain ⟨c1, c2, c3⟩ := hc hg
  cases t with
  | true => exact OPure.pick (t := true) (x := .bool x) (y := .bool y) rfl (raw_ev h1 c1) (by simpa using raw_ev h2 (c2 rfl))
  | false => exact OPure.pick (t := false) (x := .bool x) (y := .bool y) rfl (raw_ev h1 c1) (by simpa using raw_ev h3 (c3 rfl))
theorem RVs.index {t : TypeId} {x i : Operand} {s : ByteArray} {kd : IntKind} {n : Int} (hx : G.raw x = some (.string s)) (hi : G.raw i = some (.int kd n)) (ht : P.underlying t = some .string) (hd : dstOk G ⟨dst, .index t x i, ty, pos, aft, gd⟩ = true)
    (hc : g = true → (G.cond x = true ∧ G.cond i = true) ∧ 0 ≤ n ∧ n < (bl s).length) (k : VC P ops K rest sps.tail (G.put dst (g, .int .u8 (byteAt s n))) H) : RVs P ops K ⟨dst, .index t x i, ty, pos, aft, gd⟩ rest sps G H g :=
  RVs.pure hd (fun hg => .index rfl ht (raw_ev hx (hc hg).1.1) (raw_ev hi (hc hg).1.2) (hc hg).2.1 (hc hg).2.2) k
theorem RVs.len_string {t : TypeId} {x : Operand} {s : ByteArray} (hx : G.raw x = some (.string s)) (ht : P.underlying t = some .string) (hd : dstOk G ⟨dst, .call ⟨.builtin .len, #[x], #[t]⟩, ty, pos, aft, gd⟩ = true) (hc : g = true → G.cond x = true)
    (k : VC P ops K rest sps.tail (G.put dst (g, .int .i64 (bl s).length)) H) : RVs P ops K ⟨dst, .call ⟨.builtin .len, #[x], #[t]⟩, ty, pos, aft, gd⟩ rest sps G H g :=
  RVs.pure hd (fun hg => .len_string rfl rfl rfl rfl ht (raw_ev hx (hc hg))) k
theorem RVs.len_slice {t e : TypeId} {x : Operand} {a : Option Addr} {n cp : Nat} (hx : G.raw x = some (.slice a n cp)) (ht : P.underlying t = some (.slice e)) (hd : dstOk G ⟨dst, .call ⟨.builtin .len, #[x], #[t]⟩, ty, pos, aft, gd⟩ = true) (hc : g = true → G.cond x = true)
    (k : VC P ops K rest sps.tail (G.put dst (g, .int .i64 n)) H) : RVs P ops K ⟨dst, .call ⟨.builtin .len, #[x], #[t]⟩, ty, pos, aft, gd⟩ rest sps G H g :=
  RVs.pure hd (fun hg => .len_slice rfl rfl rfl rfl ht (raw_ev hx (hc hg))) k
theorem RVs.bin {op : BinOp} {t ty' : TypeId} {x y : Operand} {u v r : Value} {c : Prop} (hx : G.raw x = some u) (hy : G.raw y = some v) (h : binV op u v = some (r, c)) (hd : dstOk G ⟨dst, .binOp op t x y ty', ty, pos, aft, gd⟩ = true)
    (hc : g = true → (G.cond x = true ∧ G.cond y = true) ∧ c) (k : VC P ops K rest sps.tail (G.put dst (g, r)) H) : RVs P ops K ⟨dst, .binOp op t x y ty', ty, pos, aft, gd⟩ rest sps G H g :=
  RVs.pure hd (fun hg => .bin rfl (raw_ev hx (hc hg).1.1) (raw_ev hy (hc hg).1.2) (binV_sound h (hc hg).2)) k
theorem RVs.eq_bool {t ty' : TypeId} {x y : Operand} {b c : Bool} (hx : G.raw x = some (.bool b)) (hy : G.raw y = some (.bool c)) (ht : P.underlying t = some .bool) (hd : dstOk G ⟨dst, .binOp .eql t x y ty', ty, pos, aft, gd⟩ = true)
    (hc : g = true → G.cond x = true ∧ G.cond y = true) (k : VC P ops K rest sps.tail (G.put dst (g, .bool (b == c))) H) : RVs P ops K ⟨dst, .binOp .eql t x y ty', ty, pos, aft, gd⟩ rest sps G H g :=
  RVs.pure hd (fun hg => OPure.eq_bool (op := .eql) rfl ht (raw_ev hx (hc hg).1) (raw_ev hy (hc hg).2) (.inl rfl)) k
theorem RVs.ne_bool {t ty' : TypeId} {x y : Operand} {b c : Bool} (hx : G.raw x = some (.bool b)) (hy : G.raw y = some (.bool c)) (ht : P.underlying t = some .bool) (hd : dstOk G ⟨dst, .binOp .neq t x y ty', ty, pos, aft, gd⟩ = true)
    (hc : g = true → G.cond x = true ∧ G.cond y = true) (k : VC P ops K rest sps.tail (G.put dst (g, .bool (!(b == c)))) H) : RVs P ops K ⟨dst, .binOp .neq t x y ty', ty, pos, aft, gd⟩ rest sps G H g :=
  RVs.pure hd (fun hg => OPure.eq_bool (op := .neq) rfl ht (raw_ev hx (hc hg).1) (raw_ev hy (hc hg).2) (.inr rfl)) k
theorem RVs.not {t : TypeId} {x : Operand} {b : Bool} (hx : G.raw x = some (.bool b)) (hd : dstOk G ⟨dst, .unOp .not t x, ty, pos, aft, gd⟩ = true) (hc : g = true → G.cond x = true)
    (k : VC P ops K rest sps.tail (G.put dst (g, .bool (!b))) H) : RVs P ops K ⟨dst, .unOp .not t x, ty, pos, aft, gd⟩ rest sps G H g :=
  RVs.pure hd (fun hg => .not rfl (raw_ev hx (hc hg))) k
theorem RVs.neg {t : TypeId} {x : Operand} {kd : IntKind} {n : Int} (hx : G.raw x = some (.int kd n)) (hd : dstOk G ⟨dst, .unOp .neg t x, ty, pos, aft, gd⟩ = true) (hc : g = true → G.cond x = true)
    (k : VC P ops K rest sps.tail (G.put dst (g, .int kd (kd.wrap (0 - n)))) H) : RVs P ops K ⟨dst, .unOp .neg t x, ty, pos, aft, gd⟩ rest sps G H g :=
  RVs.pure hd (fun hg => .neg rfl (raw_ev hx (hc hg))) k
theorem RVs.conv_int {s d : TypeId} {x : Operand} {k1 k2 kx : IntKind} {n : Int} (hx : G.raw x = some (.int kx n)) (hs : P.underlying s = some (.int k1)) (hd' : P.underlying d = some (.int k2)) (hd : dstOk G ⟨dst, .convert s d x, ty, pos, aft, gd⟩ = true)
    (hc : g = true → G.cond x = true) (k : VC P ops K rest sps.tail (G.put dst (g, .int k2 (k2.wrap n))) H) : RVs P ops K ⟨dst, .convert s d x, ty, pos, aft, gd⟩ rest sps G H g :=
  RVs.pure hd (fun hg => .conv_int rfl hs hd' (raw_ev hx (hc hg))) k
theorem RVs.conv_string {s d : TypeId} {x : Operand} {b : ByteArray} (hx : G.raw x = some (.string b)) (hs : P.underlying s = some .string) (hd' : P.underlying d = some .string) (hd : dstOk G ⟨dst, .convert s d x, ty, pos, aft, gd⟩ = true)
    (hc : g = true → G.cond x = true) (k : VC P ops K rest sps.tail (G.put dst (g, .string b)) H) : RVs P ops K ⟨dst, .convert s d x, ty, pos, aft, gd⟩ rest sps G H g :=
  RVs.pure hd (fun hg => .conv_string rfl hs hd' (raw_ev hx (hc hg))) k
theorem RVs.field1 {t : TypeId} {x : Operand} {i off n : Nat} {cs : Array Value} {v : Value} (hx : G.raw x = some (.agg cs)) (hf : fieldOf P t i = some (off, n, false)) (hv : cs.toList[off]? = some v) (hd : dstOk G ⟨dst, .field t x i, ty, pos, aft, gd⟩ = true)
    (hc : g = true → G.cond x = true) (k : VC P ops K rest sps.tail (G.put dst (g, v)) H) : RVs P ops K ⟨dst, .field t x i, ty, pos, aft, gd⟩ rest sps G H g :=
  RVs.pure hd (fun hg => pureStep_sound (o := ⟨dst, .field t x i, ty, pos, aft, gd⟩) (v := v) (c := True) (by simp only [pureStep, raw_ev hx (hc hg), hf, hv]; rfl) trivial) k
theorem RVs.field_agg {t : TypeId} {x : Operand} {i off n : Nat} {cs : Array Value} (hx : G.raw x = some (.agg cs)) (hf : fieldOf P t i = some (off, n, true)) (hd : dstOk G ⟨dst, .field t x i, ty, pos, aft, gd⟩ = true)
    (hc : g = true → G.cond x = true) (k : VC P ops K rest sps.tail (G.put dst (g, .agg ((cs.toList.drop off).take n).toArray)) H) : RVs P ops K ⟨dst, .field t x i, ty, pos, aft, gd⟩ rest sps G H g :=
  RVs.pure hd (fun hg => pureStep_sound (o := ⟨dst, .field t x i, ty, pos, aft, gd⟩) (c := True) (by simp only [pureStep, raw_ev hx (hc hg), hf]; rfl) trivial) k
theorem RVs.fieldAddr {t : TypeId} {x : Operand} {i off n id j : Nat} {ag : Bool} (hx : G.raw x = some (.pointer (some ⟨id, j, none⟩))) (hf : fieldOf P t i = some (off, n, ag)) (hn : n ≠ 0) (hd : dstOk G ⟨dst, .fieldAddr t x i, ty, pos, aft, gd⟩ = true)
    (hc : g = true → G.cond x = true) (k : VC P ops K rest sps.tail (G.put dst (g, .pointer (some ⟨id, j + off, none⟩))) H) : RVs P ops K ⟨dst, .fieldAddr t x i, ty, pos, aft, gd⟩ rest sps G H g :=
  RVs.pure hd (fun hg => pureStep_sound (o := ⟨dst, .fieldAddr t x i, ty, pos, aft, gd⟩) (by simp only [pureStep, raw_ev hx (hc hg), hf]) hn) k
theorem RVs.indexAddr {t e sz by_ : Nat} {x i : Operand} {id j n cp : Nat} {kd : IntKind} {q : Int} (hx : G.raw x = some (.slice (some ⟨id, j, none⟩) n cp)) (hi : G.raw i = some (.int kd q)) (ht : elemOf P t = some (e, sz, by_))
    (hd : dstOk G ⟨dst, .indexAddr t x i, ty, pos, aft, gd⟩ = true) (hc : g = true → (G.cond x = true ∧ G.cond i = true) ∧ 0 ≤ q ∧ q < n)
    (k : VC P ops K rest sps.tail (G.put dst (g, .pointer (some ⟨id, j + q.toNat * sz, none⟩))) H) : RVs P ops K ⟨dst, .indexAddr t x i, ty, pos, aft, gd⟩ rest sps G H g :=
  RVs.pure hd (fun hg => pureStep_sound (o := ⟨dst, .indexAddr t x i, ty, pos, aft, gd⟩) (by simp only [pureStep, raw_ev hx (hc hg).1.1, raw_ev hi (hc hg).1.2, ht]) (hc hg).2) k
theorem RVs.extract {x : Operand} {i : Nat} {vs : Array Value} {v : Value} (hx : G.raw x = some (.tuple vs)) (hv : vs.toList[i]? = some v) (hd : dstOk G ⟨dst, .extract x i, ty, pos, aft, gd⟩ = true) (hc : g = true → G.cond x = true)
    (k : VC P ops K rest sps.tail (G.put dst (g, v)) H) : RVs P ops K ⟨dst, .extract x i, ty, pos, aft, gd⟩ rest sps G H g :=
  RVs.pure hd (fun hg => .extract rfl (raw_ev hx (hc hg)) hv) k
theorem RVs.nilCheck {x : Operand} {a : Addr} (hx : G.raw x = some (.pointer (some a))) (hd : dstOk G ⟨dst, .nilCheck x, ty, pos, aft, gd⟩ = true) (hc : g = true → G.cond x = true)
    (k : VC P ops K rest sps.tail (G.put dst (g, .pointer (some a))) H) : RVs P ops K ⟨dst, .nilCheck x, ty, pos, aft, gd⟩ rest sps G H g :=
  RVs.pure hd (fun hg => OPure.nilCheck rfl (raw_ev hx (hc hg)) trivial) k
theorem RVs.nilCheckF {x : Operand} {f : FuncId} {us vs : Array Value} (hx : G.raw x = some (.func (.func f) us vs)) (hd : dstOk G ⟨dst, .nilCheck x, ty, pos, aft, gd⟩ = true) (hc : g = true → G.cond x = true)
    (k : VC P ops K rest sps.tail (G.put dst (g, .func (.func f) us vs)) H) : RVs P ops K ⟨dst, .nilCheck x, ty, pos, aft, gd⟩ rest sps G H g :=
  RVs.pure hd (fun hg => OPure.nilCheck rfl (raw_ev hx (hc hg)) trivial) k
theorem RVs.build {t : TypeId} {parts : Array (Nat × Operand)} {z cs : List Value} {us : List (Nat × Value)} (hu : rawParts G.raw parts.toList = some us) (hz : zeroOf P t = some z) (hb : putParts (buildPlace P t) z us = some cs) (hf : fieldsOk P t = true)
    (hd : dstOk G ⟨dst, .build t parts, ty, pos, aft, gd⟩ = true) (hc : g = true → G.conds (parts.toList.map (·.2)) = true) (k : VC P ops K rest sps.tail (G.put dst (g, .agg cs.toArray)) H) : RVs P ops K ⟨dst, .build t parts, ty, pos, aft, gd⟩ rest sps G H g :=
  RVs.pure hd (fun hg => OPure.of_conds (by simpa [Op.operands] using hc hg) (build_sound rfl hf hz hu hb)) k

/-- A new block, the heap named anew. -/
theorem RVs.box {t n : Nat} {x : Operand} {v : Value} {ag : Bool} (hx : G.raw x = some v) (ht : tyOf P t = some (n, ag)) (hg : g = true) (hd : dstOk G ⟨dst, .box t x, ty, pos, aft, gd⟩ = true) (hc : G.cond x = true)
    (k : ∀ (id : Nat) (H' : AH), H <+: H' → H.length ≤ id → H'[id]? = some ⟨t, n, v.cells.toList, .rw⟩ → VC P ops K rest sps.tail (G.put dst (true, .pointer (some ⟨id, 0, none⟩))) H') : RVs P ops K ⟨dst, .box t x, ty, pos, aft, gd⟩ rest sps G H g := by
  subst hg
  exact ⟨_, _, ⟨fun _ => ⟨OEval.box n rfl (raw_ev hx hc), .inr (List.prefix_append _ _), fun hi => by cases hi⟩, (fun hf => by cases hf), dstOk_sound hd⟩, k _ _ (List.prefix_append _ _) (Nat.le_refl _) (by simp)⟩
theorem RVs.alloc {t n : Nat} {z : List Value} {ag : Bool} (hz : zeroOf P t = some z) (ht : tyOf P t = some (n, ag)) (hg : g = true) (hd : dstOk G ⟨dst, .alloc t, ty, pos, aft, gd⟩ = true)
    (k : ∀ (id : Nat) (H' : AH), H <+: H' → H.length ≤ id → H'[id]? = some ⟨t, n, z, .rw⟩ → VC P ops K rest sps.tail (G.put dst (true, .pointer (some ⟨id, 0, none⟩))) H') : RVs P ops K ⟨dst, .alloc t, ty, pos, aft, gd⟩ rest sps G H g := by
  subst hg
  obtain ⟨ti, zv, z1, z2, z3, rfl⟩ := zero_parts hz
  exact ⟨_, _, ⟨fun _ => ⟨OEval.alloc n rfl ⟨ti, z1, z2⟩ z3, .inr (List.prefix_append _ _), fun hi => by cases hi⟩, (fun hf => by cases hf), dstOk_sound hd⟩, k _ _ (List.prefix_append _ _) (Nat.le_refl _) (by simp)⟩

/-- One block has changed. -/
structure Upd (H H' : AH) (id : Nat) (B : Blk) : Prop where
  len : H'.length = H.length
  at_ : H'[id]? = some B
  ne : ∀ i, i ≠ id → H'[i]? = H[i]?
theorem Upd.of_set {H : AH} {id : Nat} {B0 : Blk} (h : H[id]? = some B0) (B : Blk) : Upd H (H.set id B) id B :=
  ⟨by simp, by rw [List.getElem?_set_self (lt_of_at h)], fun i hi => by rw [List.getElem?_set_ne (by omega)]⟩
theorem Upd.prefix {H0 H H' : AH} {id : Nat} {B : Blk} (u : Upd H H' id B) (p : H0 <+: H) (h : H0.length ≤ id) : H0 <+: H' := by
  rw [List.prefix_iff_getElem?]
  intro i hi
  rw [u.ne i (by omega)]
  exact List.prefix_iff_getElem?.1 p i hi
theorem Upd.other {H H' : AH} {id : Nat} {B : Blk} (u : Upd H H' id B) {i : Nat} {C : Blk} (hi : i ≠ id) (h : H[i]? = some C) : H'[i]? = some C := by rw [u.ne i hi]; exact h

theorem RVs.store1 {t : TypeId} {x y : Operand} {id j : Nat} {B : Blk} {v : Value} (hx : G.raw x = some (.pointer (some ⟨id, j, none⟩))) (hy : G.raw y = some v) (ht : tyOf P t = some (1, false)) (hg : g = true) (hs : sps.headD false = true)
    (hd : dstOk G ⟨dst, .store t x y, ty, pos, aft, gd⟩ = true) (hc : G.cond x = true ∧ G.cond y = true) (hB : H[id]? = some B) (hst : B.st = .rw) (hj : j < B.cells.length) (hv : oneCell v = true)
    (k : ∀ H', Upd H H' id { B with cells := B.cells.set j v } → VC P ops K rest sps.tail (G.put dst (true, undef)) H') : RVs P ops K ⟨dst, .store t x y, ty, pos, aft, gd⟩ rest sps G H g :=
  RVs.store hx hy ht hg hs hd hc hB hst hj hv (k _ (.of_set hB _))
theorem RVs.storeN {t : TypeId} {x y : Operand} {id j n : Nat} {B : Blk} {vs : Array Value} (hx : G.raw x = some (.pointer (some ⟨id, j, none⟩))) (hy : G.raw y = some (.agg vs)) (ht : tyOf P t = some (n, true)) (hg : g = true) (hs : sps.headD false = true)
    (hd : dstOk G ⟨dst, .store t x y, ty, pos, aft, gd⟩ = true) (hc : G.cond x = true ∧ G.cond y = true) (hB : H[id]? = some B) (hst : B.st = .rw) (hn : vs.size = n) (hj : j + n ≤ B.cells.length) (hv : vs.toList.all oneCell = true)
    (k : ∀ H', Upd H H' id { B with cells := over B.cells j vs.toList } → VC P ops K rest sps.tail (G.put dst (true, undef)) H') : RVs P ops K ⟨dst, .store t x y, ty, pos, aft, gd⟩ rest sps G H g :=
  RVs.store_agg hx hy ht hg hs hd hc hB hst hn hj hv (k _ (.of_set hB _))

/-- A call of a function that does nothing but answer. -/
theorem RVs.callp {fx : Operand} {ags : List Operand} {ats : Array TypeId} {f : FuncId} {us cs : Array Value} {vs : List Value} {v : Value} (hf : G.raw fx = some (.func (.func f) us cs)) (ha : raws G.raw ags = some vs)
    (hd : dstOk G ⟨dst, .call ⟨.value fx, ags.toArray, ats⟩, ty, pos, aft, gd⟩ = true) (h : g = true → (G.cond fx = true ∧ G.conds ags = true) ∧ FWp P f (us.toList ++ vs ++ cs.toList) H (fun v' H' => v' = v ∧ H' = H))
    (k : VC P ops K rest sps.tail (G.put dst (g, v)) H) : RVs P ops K ⟨dst, .call ⟨.value fx, ags.toArray, ats⟩, ty, pos, aft, gd⟩ rest sps G H g := by
  cases hgg : g with
  | false => exact ⟨v, H, ⟨(fun hf => by cases hf), fun _ => rfl, dstOk_sound hd⟩, hgg ▸ k⟩
  | true =>
    obtain ⟨hc, ⟨fn, bd, f1, f2, f3⟩, v', H', ⟨rfl, rfl⟩, hE⟩ := h hgg
    exact ⟨v', H', ⟨fun _ => ⟨OEval.call rfl rfl (raw_ev hf hc.1) (by simpa using raws_ev ags vs ha hc.2) f1 f2 f3 hE, .inr (List.prefix_refl _), fun hi => by cases hi⟩, (fun hf => by cases hf), dstOk_sound hd⟩, hgg ▸ k⟩

/-! ### Elements of a slice that is told by a kind -/

/-- Where a datum lies. -/
structure EP {α : Type} (k : Kd α) (H : AH) (id j : Nat) (u : List Value) (x : α) (B : Blk) : Prop where
  at_ : H[id]? = some B
  live : B.st ≠ .dead
  r : k.R H u x
  cell : ∀ f, f < k.size → B.cells[j + f]? = u[f]?
  le : j + k.size ≤ B.cells.length

theorem EP.mono {α : Type} {k : Kd α} {H H' : AH} (p : HLe H H') {id j : Nat} {u : List Value} {x : α} {B : Blk} (h : EP k H id j u x B) : EP k H' id j u x B :=
  ⟨p _ _ h.at_ h.live, h.live, k.mono p h.r, h.cell, h.le⟩
theorem EP.all {α : Type} {k : Kd α} {H : AH} {id j : Nat} {u : List Value} {x : α} {B : Blk} (h : EP k H id j u x B) : (B.cells.drop j).take k.size = u := by
  apply List.ext_getElem?
  intro f
  by_cases hf : f < k.size
  · rw [List.getElem?_take, if_pos hf, List.getElem?_drop, h.cell f hf]
  · rw [List.getElem?_take, if_neg hf, List.getElem?_eq_none (by rw [k.len h.r]; omega)]

/-- An element's address. -/
theorem RVs.indexS {α : Type} {k : Kd α} {xs : List α} {v : Value} {t e by_ : Nat} {x i : Operand} {q : Int} {kd : IntKind} (hx : G.raw x = some v) (hS : k.S H v xs) (hi : G.raw i = some (.int kd q)) (ht : elemOf P t = some (e, k.size, by_))
    (hd : dstOk G ⟨dst, .indexAddr t x i, ty, pos, aft, gd⟩ = true) (hc : g = true → (G.cond x = true ∧ G.cond i = true) ∧ 0 ≤ q ∧ q < xs.length)
    (hk : ∀ (id j : Nat) (u : List Value) (B : Blk), (g = true → ∃ y, xs[q.toNat]? = some y ∧ EP k H id j u y B) → VC P ops K rest sps.tail (G.put dst (g, .pointer (some ⟨id, j, none⟩))) H) :
    RVs P ops K ⟨dst, .indexAddr t x i, ty, pos, aft, gd⟩ rest sps G H g := by
  cases hgg : g with
  | false => exact ⟨_, H, ⟨(fun hf => by cases hf), fun _ => rfl, dstOk_sound hd⟩, hgg ▸ hk 0 0 [] ⟨0, 0, [], .dead⟩ (fun h => by rw [hgg] at h; cases h)⟩
  | true =>
    obtain ⟨hcc, h0, h1⟩ := hc hgg
    have hlt : q.toNat < xs.length := by omega
    have hget : xs[q.toNat]? = some xs[q.toNat] := List.getElem?_eq_getElem hlt
    obtain ⟨id, j, c, B, u, rfl, e1, e2, e3, e4, e5⟩ := hS.elem hget
    have kk := hk id (j + q.toNat * k.size) u B (fun _ => ⟨_, hget, e1, e2, e3, e4, e5⟩)
    rw [hgg] at kk
    exact RVs.indexAddr hx hi ht hd (fun _ => ⟨hcc, h0, h1⟩) kk

/-- An element is read whole. -/
theorem RVs.loadE {α : Type} {k : Kd α} {t id j : Nat} {u : List Value} {y : α} {B : Blk} {x : Operand} (hx : G.raw x = some (.pointer (some ⟨id, j, none⟩))) (ht : tyOf P t = some (k.size, true)) (hd : dstOk G ⟨dst, .load t x, ty, pos, aft, gd⟩ = true)
    (hc : g = true → G.cond x = true ∧ EP k H id j u y B) (kk : VC P ops K rest sps.tail (G.put dst (g, .agg u.toArray)) H) : RVs P ops K ⟨dst, .load t x, ty, pos, aft, gd⟩ rest sps G H g :=
  RVs.load_agg hx ht hd (fun hg => ⟨(hc hg).1, (hc hg).2.at_, (hc hg).2.live, (hc hg).2.le, (hc hg).2.all⟩) kk
/-- A cell of an element is read. -/
theorem RVs.loadF {α : Type} {k : Kd α} {t id j f : Nat} {u : List Value} {y : α} {B : Blk} {v : Value} {x : Operand} (hx : G.raw x = some (.pointer (some ⟨id, j + f, none⟩))) (ht : tyOf P t = some (1, false)) (hd : dstOk G ⟨dst, .load t x, ty, pos, aft, gd⟩ = true)
    (hc : g = true → G.cond x = true ∧ EP k H id j u y B ∧ f < k.size ∧ u[f]? = some v) (kk : VC P ops K rest sps.tail (G.put dst (g, v)) H) : RVs P ops K ⟨dst, .load t x, ty, pos, aft, gd⟩ rest sps G H g :=
  RVs.load hx ht hd (fun hg => ⟨(hc hg).1, (hc hg).2.1.at_, (hc hg).2.1.live, by rw [(hc hg).2.1.cell f (hc hg).2.2.1]; exact (hc hg).2.2.2⟩) kk

end

theorem wrap_succ {i n : Nat} (h : i < n) (hn : n ≤ lim) : IntKind.i64.wrap ((i : Int) + 1) = ((i + 1 : Nat) : Int) := by
  unfold lim at hn
  rw [wrap_i64 (by omega) (by omega)]; omega
theorem wrap_in {n : Int} (h : -9223372036854775808 ≤ n ∧ n ≤ 9223372036854775807) : IntKind.i64.wrap n = n := IntWalk.i64_in n h
theorem byteAt_get {s : ByteArray} {i : Nat} (h : i < (bl s).length) : byteAt s i = ((bl s)[i].toNat : Int) := by
  unfold byteAt; simp [List.getD, h]

end Go.Proofs.YtaccaelocddakaaDoor
