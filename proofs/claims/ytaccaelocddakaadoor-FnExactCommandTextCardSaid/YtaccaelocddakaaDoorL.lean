/- A part of the proof: no conditions. -/
import Derived.Test.YtaccaelocddakaaDoorK
namespace Go.Proofs.YtaccaelocddakaaDoor
open Go Go.RowKit
set_option linter.unusedVariables false
set_option linter.unusedSectionVars false
variable [Tabs]

/-- A function that can be called, and what it answers. -/
structure FWp (P : Program) (k : FuncId) (args : List Value) (H : AH) (R : Value → AH → Prop) : Prop where
  can : ∃ fn bd, P.funcs[k]? = some fn ∧ fn.body = some bd ∧ (fn.name == "runtime.NumGoroutine") = false
  wp : AWp P k args H R

theorem FWp.enter {P : Program} {k : FuncId} {fn : Func} {bd : Code} {args : List Value} {H : AH} {R : Value → AH → Prop} (hf : P.funcs[k]? = some fn) (hb : fn.body = some bd) (hn : (fn.name == "runtime.NumGoroutine") = false)
    (h : CWp P bd (fun e T H' => (e = .ret ∨ e = .normal) ∧ ∃ vs, ResAs P T H' fn.results.toList vs ∧ R (one vs) H') ⟨fn.ntmps, argF 0 args⟩ H) : FWp P k args H R :=
  ⟨⟨fn, bd, hf, hb, hn⟩, .enter hf hb h⟩
theorem FWp.mono {P : Program} {k : FuncId} {args : List Value} {H : AH} {R R' : Value → AH → Prop} (h : FWp P k args H R) (j : ∀ v H', R v H' → R' v H') : FWp P k args H R' := ⟨h.can, h.wp.mono j⟩

/-! ### Structs and slices made of their parts -/

/-- A struct's cells, part by part. -/
def putParts (place : Nat → Option (Nat × Nat)) : List Value → List (Nat × Value) → Option (List Value)
  | z, [] => some z
  | z, (i, v) :: r => match place i with
    | some (off, n) => if v.cells.size = n ∧ off + n ≤ z.length then putParts place (over z off v.cells.toList) r else none
    | none => none

theorem putParts_fill {place : Nat → Option (Nat × Nat)} : ∀ (us : List (Nat × Value)) (z : List Value) (cs : List Value), putParts place z us = some cs → Instr.fill place z.toArray us = some cs.toArray
  | [], z, cs, h => by simp [putParts] at h; subst h; simp [Instr.fill]
  | (i, v) :: r, z, cs, h => by
    simp only [putParts] at h
    rw [Instr.fill]
    cases hp : place i with
    | none => rw [hp] at h; cases h
    | some on =>
      obtain ⟨off, n⟩ := on
      rw [hp] at h
      simp only at h ⊢
      split at h
      · rename_i hc
        have hcond : ¬ ((v.cells.size ≠ n || off + v.cells.size > z.toArray.size) = true) := by simp; omega
        rw [if_neg hcond, zip_over]
        have := putParts_fill r _ cs h
        simpa using this
      · cases h

def rawParts (raw : Operand → Option Value) : List (Nat × Operand) → Option (List (Nat × Value))
  | [] => some []
  | p :: ps => match raw p.2, rawParts raw ps with
    | some v, some r => some ((p.1, v) :: r)
    | _, _ => none

theorem rawParts_map {raw : Operand → Option Value} : ∀ (ps : List (Nat × Operand)) (us : List (Nat × Value)), rawParts raw ps = some us → ps.map (fun p => (raw p.2).map (fun u => (p.1, u))) = us.map some
  | [], us, h => by simp [rawParts] at h; subst h; rfl
  | p :: ps, us, h => by
    simp only [rawParts] at h
    split at h
    · rename_i v r h1 h2
      cases h
      simp [h1, rawParts_map ps r h2]
    · cases h

/-- The offsets and sizes of a struct's fields are as 'fieldOf' tells them. -/
theorem places_run {P : Program} {fs : Array Field} (h : ∀ (i : Nat) (f : Field), fs[i]? = some f → ∃ ti, P.info? f.type = some ti) :
    ∃ places : Array (Nat × Nat), (∀ w, (fs.mapM fun f => do pure (f.offset, ← sizeOf f.type) : Sem (Array (Nat × Nat))).run P w = .ok places w) ∧
      ∀ (i : Nat) (f : Field) (ti : TypeInfo), fs[i]? = some f → P.info? f.type = some ti → places[i]? = some (f.offset, ti.size) := by
  have gen : ∀ (l : List Field), (∀ f ∈ l, ∃ ti, P.info? f.type = some ti) → ∃ ps : List (Nat × Nat), (∀ w, (l.mapM fun f => do pure (f.offset, ← sizeOf f.type) : Sem (List (Nat × Nat))).run P w = .ok ps w) ∧
      ∀ (i : Nat) (f : Field) (ti : TypeInfo), l[i]? = some f → P.info? f.type = some ti → ps[i]? = some (f.offset, ti.size) := by
    intro l
    induction l with
    | nil => intro _; exact ⟨[], fun w => by simp, fun i f ti hf => by simp at hf⟩
    | cons f l ih =>
      intro hl
      obtain ⟨ti, hti⟩ := hl f (by simp)
      obtain ⟨ps, p1, p2⟩ := ih (fun g hg => hl g (by simp [hg]))
      have p1' := fun w => p1 w
      simp only [bind_pure_comp] at p1'
      have hsz : ∀ w, (sizeOf f.type).run P w = .ok ti.size w := fun w => by simp [sizeOf, typeInfo, hti]
      refine ⟨(f.offset, ti.size) :: ps, fun w => by simp [hsz, p1'], fun i g tj hg hj => ?_⟩
      cases i with
      | zero => simp at hg; subst hg; rw [hti] at hj; cases hj; rfl
      | succ i => simp at hg; simpa using p2 i g tj hg hj
  obtain ⟨ps, p1, p2⟩ := gen fs.toList (fun f hf => by
    obtain ⟨i, hi, he⟩ := List.getElem_of_mem hf
    exact h i f (by simp at hi; simp [hi]; simpa using he))
  refine ⟨ps.toArray, fun w => ?_, fun i f ti hf hi => ?_⟩
  · have p1' := p1 w
    simp only [bind_pure_comp] at p1'
    rw [Array.mapM_eq_mapM_toList]; simp [p1']
  · simpa using p2 i f ti (by simpa using hf) hi

def buildPlace (P : Program) (t : TypeId) (i : Nat) : Option (Nat × Nat) := match fieldOf P t i with | some (off, n, _) => some (off, n) | none => none

/-- All fields of the struct have types that are known. -/
def fieldsOk (P : Program) (t : TypeId) : Bool :=
  match P.underlying t with
  | some (.struct fs) => fs.toList.all fun f => (tyOf P f.type).isSome
  | _ => false

theorem fill_weaken {p q : Nat → Option (Nat × Nat)} (h : ∀ i e, p i = some e → q i = some e) : ∀ (us : List (Nat × Value)) (z r : Array Value), Instr.fill p z us = some r → Instr.fill q z us = some r
  | [], z, r, e => by simpa [Instr.fill] using e
  | (i, v) :: us, z, r, e => by
    rw [Instr.fill] at e ⊢
    cases hp : p i with
    | none => rw [hp] at e; cases e
    | some on =>
      rw [hp] at e
      rw [h i _ hp]
      obtain ⟨off, n⟩ := on
      simp only at e ⊢
      split at e
      · cases e
      · rename_i hc
        rw [if_neg hc]; exact fill_weaken h us _ r e

theorem build_sound {P : Program} {ρ : Operand → Option Value} {o : Oper} {t : TypeId} {parts : Array (Nat × Operand)} {z cs : List Value} {us : List (Nat × Value)} (ho : o.op = .build t parts) (hf : fieldsOk P t = true) (hz : zeroOf P t = some z)
    (hu : rawParts ρ parts.toList = some us) (hb : putParts (buildPlace P t) z us = some cs) : OPure P o ρ (.agg cs.toArray) := by
  unfold fieldsOk at hf
  split at hf
  · rename_i fs hfs
    rw [List.all_eq_true] at hf
    have hinfo : ∀ (i : Nat) (f : Field), fs[i]? = some f → ∃ ti, P.info? f.type = some ti := by
      intro i f hi
      have hm : f ∈ fs.toList := by rw [Array.mem_toList_iff]; exact Array.mem_of_getElem? hi
      obtain ⟨⟨n, ag⟩, he⟩ := Option.isSome_iff_exists.1 (hf f hm)
      obtain ⟨ti, h1, _⟩ := (Ty.of he).info
      exact ⟨ti, h1⟩
    obtain ⟨places, p1, p2⟩ := places_run hinfo
    unfold zeroOf at hz
    split at hz
    · rename_i ti hti
      split at hz
      · rename_i zv hzv
        split at hz
        · rename_i hall
          simp only [Option.some.injEq] at hz
          subst hz
          refine OPure.build ho hfs ⟨ti, hti, hzv⟩ hall p1 (rawParts_map _ _ hu) (fill_weaken ?_ us _ _ (putParts_fill us _ cs hb))
          intro i e he
          unfold buildPlace at he
          split at he
          · rename_i off n ag hfo
            obtain ⟨fs', f, tj, d, q1, q2, q3, q4, rfl, q6, q7⟩ := field_parts hfo
            rw [hfs] at q1; cases q1
            cases he
            rw [p2 i f tj q2 q3, q6]
          · cases he
        · cases hz
      · cases hz
    · cases hz
  · cases hf

/-! ### A region, by reckoning as far as it goes -/

def dstOk (G : GF) (o : Oper) : Bool := match o.dst with | none => true | some d => decide (d < G.n)
theorem dstOk_sound {G : GF} {o : Oper} (h : dstOk G o = true) : ∀ d, o.dst = some d → d < G.n := by
  intro d hd; unfold dstOk at h; rw [hd] at h; simpa using h

/-- Where the reckoning stops: an operation on memory, a call. -/
def RVs (P : Program) (ops : Array Oper) (K : GF → AH → Prop) (o : Oper) (rest : List Oper) (sps : List Bool) (G : GF) (H : AH) (g : Bool) : Prop :=
  ∃ v H', Rg P (sps.headD false) o G H g v H' ∧ regVC P ops rest sps.tail (G.put o.dst (g, v)) H' K

def RV (P : Program) (ops : Array Oper) (K : GF → AH → Prop) : List Oper → List Bool → GF → AH → Prop
  | [], _, G, H => K G H
  | o :: rest, sps, G, H => match guardVal ops G o with
    | none => False
    | some g => match o.op with
      | .pick c a b => match G.raw c, G.raw a, G.raw b with
        | some (.bool t), some (.bool x), some (.bool y) => (dstOk G o = true ∧ (g = true → G.cond c = true ∧ (t = true → G.cond a = true) ∧ (t = false → G.cond b = true))) ∧ RV P ops K rest sps.tail (G.put o.dst (g, .bool (bif t then x else y))) H
        | _, _, _ => False
      | .box t x => match G.raw x, tyOf P t with
        | some v, some (n, _) => (dstOk G o = true ∧ g = true ∧ G.cond x = true) ∧ RV P ops K rest sps.tail (G.put o.dst (true, .pointer (some ⟨H.length, 0, none⟩))) (H ++ [⟨t, n, v.cells.toList, .rw⟩])
        | _, _ => False
      | .alloc t => match zeroOf P t, tyOf P t with
        | some z, some (n, _) => (dstOk G o = true ∧ g = true) ∧ RV P ops K rest sps.tail (G.put o.dst (true, .pointer (some ⟨H.length, 0, none⟩))) (H ++ [⟨t, n, z, .rw⟩])
        | _, _ => False
      | .build t parts => match rawParts G.raw parts.toList, zeroOf P t with
        | some us, some z => match putParts (buildPlace P t) z us with
          | some cs => (dstOk G o = true ∧ fieldsOk P t = true ∧ (g = true → G.conds (parts.toList.map (·.2)) = true)) ∧ RV P ops K rest sps.tail (G.put o.dst (g, .agg cs.toArray)) H
          | none => False
        | _, _ => False
      | op => match pureStep P G.raw op with
        | some (v, c) => (dstOk G o = true ∧ (g = true → G.conds op.operands.toList = true ∧ c)) ∧ RV P ops K rest sps.tail (G.put o.dst (g, v)) H
        | none => RVs P ops K o rest sps G H g

/-- What an operation takes in, where all conditions hold. -/
theorem OPure.of_conds {P : Program} {o : Oper} {G : GF} {v : Value} (hc : G.conds o.op.operands.toList = true) (h : OPure P o G.raw v) : OPure P o G.ev v := by
  intro ψ σ hh
  refine h ψ σ fun x hx u hu => hh x hx u (raw_ev hu ?_)
  have gen : ∀ (l : List Operand), G.conds l = true → ∀ x ∈ l, G.cond x = true := by
    intro l
    induction l with
    | nil => intro _ x hx; cases hx
    | cons y l ih =>
      intro h x hx
      simp only [GF.conds, Bool.and_eq_true] at h
      rcases List.mem_cons.1 hx with rfl | hx
      · exact h.1
      · exact ih h.2 x hx
  exact gen _ hc x (by simpa using hx)

theorem Rg.pure {P : Program} {sp : Bool} {o : Oper} {G : GF} {H : AH} {g : Bool} {v : Value} (hd : dstOk G o = true) (h : g = true → OPure P o G.ev v) : Rg P sp o G H g v H :=
  ⟨fun hg => ⟨(h hg).oeval H, .inr (List.prefix_refl _), fun _ => ⟨rfl, h hg⟩⟩, fun _ => rfl, dstOk_sound hd⟩

theorem zero_parts {P : Program} {t : TypeId} {z : List Value} (h : zeroOf P t = some z) : ∃ ti zv, P.info? t = some ti ∧ ti.zero = some zv ∧ zv.cells.toList.all plainCell = true ∧ zv.cells.toList = z := by
  unfold zeroOf at h
  split at h
  · split at h
    · split at h
      · cases h; exact ⟨_, _, ‹_›, ‹_›, ‹_›, rfl⟩
      · cases h
    · cases h
  · cases h

theorem RV.sound {P : Program} {ops : Array Oper} {K : GF → AH → Prop} : ∀ (l : List Oper) (sps : List Bool) (G : GF) (H : AH), RV P ops K l sps G H → regVC P ops l sps G H K := by
  intro l
  induction l with
  | nil => intro sps G H h; exact h
  | cons o rest ih =>
    intro sps G H h
    obtain ⟨dst, op, type, pos, after, guard⟩ := o
    simp only [RV] at h
    split at h
    · cases h
    · rename_i g hg
      split at h
      · -- pick
        rename_i c a b
        split at h
        · rename_i t x y h1 h2 h3
          obtain ⟨⟨hd, hc⟩, hr⟩ := h
          refine ⟨g, _, H, hg, Rg.pure hd (fun hgt => ?_), ih _ _ _ hr⟩
          obtain ⟨c1, c2, c3⟩ := hc hgt
          cases t with
          | true => exact OPure.pick (t := true) (x := .bool x) (y := .bool y) rfl (raw_ev h1 c1) (by simpa using raw_ev h2 (c2 rfl))
          | false => exact OPure.pick (t := false) (x := .bool x) (y := .bool y) rfl (raw_ev h1 c1) (by simpa using raw_ev h3 (c3 rfl))
        · cases h
      · -- box
        rename_i t x
        split at h
        · rename_i v n ag h1 h2
          obtain ⟨⟨hd, hg1, hc⟩, hr⟩ := h
          subst hg1
          refine ⟨true, _, _, hg, ⟨fun _ => ⟨OEval.box n rfl (raw_ev h1 hc), .inr (List.prefix_append _ _), fun hi => by cases hi⟩, (fun hf => by cases hf), dstOk_sound hd⟩, ih _ _ _ hr⟩
        · cases h
      · -- alloc
        rename_i t
        split at h
        · rename_i z n ag h1 h2
          obtain ⟨⟨hd, hg1⟩, hr⟩ := h
          subst hg1
          obtain ⟨ti, zv, z1, z2, z3, rfl⟩ := zero_parts h1
          refine ⟨true, _, _, hg, ⟨fun _ => ⟨OEval.alloc n rfl ⟨ti, z1, z2⟩ z3, .inr (List.prefix_append _ _), fun hi => by cases hi⟩, (fun hf => by cases hf), dstOk_sound hd⟩, ih _ _ _ hr⟩
        · cases h
      · -- build
        rename_i t parts
        split at h
        · rename_i us z h1 h2
          split at h
          · rename_i cs h3
            obtain ⟨⟨hd, hf, hc⟩, hr⟩ := h
            refine ⟨g, _, H, hg, Rg.pure hd (fun hgt => ?_), ih _ _ _ hr⟩
            refine OPure.of_conds ?_ (build_sound rfl hf h2 h1 h3)
            simpa [Op.operands] using hc hgt
          · cases h
        · cases h
      · split at h
        · rename_i v c h1
          obtain ⟨⟨hd, hc⟩, hr⟩ := h
          refine ⟨g, _, H, hg, Rg.pure hd (fun hgt => ?_), ih _ _ _ hr⟩
          obtain ⟨c1, c2⟩ := hc hgt
          exact OPure.of_conds c1 (pureStep_sound h1 c2)
        · obtain ⟨v, H', h1, h2⟩ := h
          exact ⟨g, v, H', hg, h1, h2⟩

theorem CWp.regionV {P : Program} {id : Nat} {l : List Oper} {Q : Exit → AF → AH → Prop} {T : AF} {H : AH} (live : List Nat)
    (h : RV P l.toArray (fun G H => Q .normal ⟨G.n, G.keep live⟩ H) l (List.replicate l.length true) T.toG H) : CWp P (.region id l.toArray false) Q T H :=
  CWp.region live (by simpa using RV.sound _ _ _ _ h)
theorem CWp.regionDV {P : Program} {id : Nat} {l : List Oper} {Q : Exit → AF → AH → Prop} {T : AF} {H : AH} (live : List Nat) (sps : List Bool) (hok : drawOk l.toArray sps = true)
    (h : RV P l.toArray (fun G H => Q .normal ⟨G.n, G.keep live⟩ H) l sps T.toG H) : CWp P (.region id l.toArray true) Q T H :=
  CWp.regionD live sps hok (by simpa using RV.sound _ _ _ _ h)

/-- What is left of a region. -/
abbrev VC (P : Program) (ops : Array Oper) (K : GF → AH → Prop) (rest : List Oper) (sps : List Bool) (G : GF) (H : AH) : Prop := regVC P ops rest sps G H K
theorem VC.s {P : Program} {ops : Array Oper} {K : GF → AH → Prop} {o : Oper} {rest : List Oper} {sps : List Bool} {G : GF} {H : AH} {g : Bool} (hg : guardVal ops G o = some g) (h : RVs P ops K o rest sps G H g) : VC P ops K (o :: rest) sps G H :=
  let ⟨v, H', h1, h2⟩ := h; ⟨g, v, H', hg, h1, h2⟩
theorem VC.nil {P : Program} {ops : Array Oper} {K : GF → AH → Prop} {sps : List Bool} {G : GF} {H : AH} (h : K G H) : VC P ops K [] sps G H := h
theorem CWp.regionW {P : Program} {id : Nat} {l : List Oper} {Q : Exit → AF → AH → Prop} {T : AF} {H : AH} (live : List Nat)
    (h : VC P l.toArray (fun G H => Q .normal ⟨G.n, G.keep live⟩ H) l (List.replicate l.length true) T.toG H) : CWp P (.region id l.toArray false) Q T H :=
  CWp.region live (by simpa using h)
theorem CWp.regionDW {P : Program} {id : Nat} {l : List Oper} {Q : Exit → AF → AH → Prop} {T : AF} {H : AH} (live : List Nat) (sps : List Bool) (hok : drawOk l.toArray sps = true)
    (h : VC P l.toArray (fun G H => Q .normal ⟨G.n, G.keep live⟩ H) l sps T.toG H) : CWp P (.region id l.toArray true) Q T H :=
  CWp.regionD live sps hok (by simpa using h)

/-! ### Memory and calls -/
section
variable {P : Program} {ops : Array Oper} {K : GF → AH → Prop} {rest : List Oper} {sps : List Bool} {G : GF} {H : AH} {g : Bool} {dst : Option Nat} {ty : TypeId} {pos : String} {aft : Array Edge} {gd : Option (Nat × Bool)}

theorem RVs.load {t : TypeId} {x : Operand} {id j : Nat} {B : Blk} {v : Value} (hx : G.raw x = some (.pointer (some ⟨id, j, none⟩))) (ht : tyOf P t = some (1, false)) (hd : dstOk G ⟨dst, .load t x, ty, pos, aft, gd⟩ = true)
    (hc : g = true → G.cond x = true ∧ H[id]? = some B ∧ B.st ≠ .dead ∧ B.cells[j]? = some v) (k : VC P ops K rest sps.tail (G.put dst (g, v)) H) : RVs P ops K ⟨dst, .load t x, ty, pos, aft, gd⟩ rest sps G H g :=
  ⟨v, H, ⟨fun hg => ⟨OEval.load rfl (.of ht) (raw_ev hx (hc hg).1) (hc hg).2.1 (hc hg).2.2.1 (hc hg).2.2.2, .inr (List.prefix_refl _), fun hi => by cases hi⟩, fun _ => rfl, dstOk_sound hd⟩, k⟩

theorem RVs.load_agg {t : TypeId} {x : Operand} {id j n : Nat} {B : Blk} {vs : List Value} (hx : G.raw x = some (.pointer (some ⟨id, j, none⟩))) (ht : tyOf P t = some (n, true)) (hd : dstOk G ⟨dst, .load t x, ty, pos, aft, gd⟩ = true)
    (hc : g = true → G.cond x = true ∧ H[id]? = some B ∧ B.st ≠ .dead ∧ j + n ≤ B.cells.length ∧ (B.cells.drop j).take n = vs) (k : VC P ops K rest sps.tail (G.put dst (g, .agg vs.toArray)) H) : RVs P ops K ⟨dst, .load t x, ty, pos, aft, gd⟩ rest sps G H g :=
  ⟨.agg vs.toArray, H, ⟨fun hg => ⟨by rw [← (hc hg).2.2.2.2]; exact OEval.load_agg rfl (.of ht) (raw_ev hx (hc hg).1) (hc hg).2.1 (hc hg).2.2.1 (hc hg).2.2.2.1, .inr (List.prefix_refl _), fun hi => by cases hi⟩, fun _ => rfl, dstOk_sound hd⟩, k⟩

theorem RVs.store {t : TypeId} {x y : Operand} {id j : Nat} {B : Blk} {v : Value} (hx : G.raw x = some (.pointer (some ⟨id, j, none⟩))) (hy : G.raw y = some v) (ht : tyOf P t = some (1, false)) (hg : g = true) (hs : sps.headD false = true)
    (hd : dstOk G ⟨dst, .store t x y, ty, pos, aft, gd⟩ = true) (hc : G.cond x = true ∧ G.cond y = true) (hB : H[id]? = some B) (hst : B.st = .rw) (hj : j < B.cells.length) (hv : oneCell v = true)
    (k : VC P ops K rest sps.tail (G.put dst (true, undef)) (H.set id { B with cells := B.cells.set j v })) : RVs P ops K ⟨dst, .store t x y, ty, pos, aft, gd⟩ rest sps G H g := by
  subst hg
  exact ⟨undef, _, ⟨fun _ => ⟨OEval.store rfl (.of ht) (raw_ev hx hc.1) (raw_ev hy hc.2) hB hst hj hv, .inl hs, fun hi => by cases hi⟩, (fun hf => by cases hf), dstOk_sound hd⟩, k⟩

theorem RVs.store_agg {t : TypeId} {x y : Operand} {id j n : Nat} {B : Blk} {vs : Array Value} (hx : G.raw x = some (.pointer (some ⟨id, j, none⟩))) (hy : G.raw y = some (.agg vs)) (ht : tyOf P t = some (n, true)) (hg : g = true) (hs : sps.headD false = true)
    (hd : dstOk G ⟨dst, .store t x y, ty, pos, aft, gd⟩ = true) (hc : G.cond x = true ∧ G.cond y = true) (hB : H[id]? = some B) (hst : B.st = .rw) (hn : vs.size = n) (hj : j + n ≤ B.cells.length) (hv : vs.toList.all oneCell = true)
    (k : VC P ops K rest sps.tail (G.put dst (true, undef)) (H.set id { B with cells := over B.cells j vs.toList })) : RVs P ops K ⟨dst, .store t x y, ty, pos, aft, gd⟩ rest sps G H g := by
  subst hg
  exact ⟨undef, _, ⟨fun _ => ⟨OEval.store_agg rfl (.of ht) (raw_ev hx hc.1) (raw_ev hy hc.2) hB hst hn hj hv, .inl hs, fun hi => by cases hi⟩, (fun hf => by cases hf), dstOk_sound hd⟩, k⟩

def raws (raw : Operand → Option Value) : List Operand → Option (List Value)
  | [] => some []
  | x :: xs => match raw x, raws raw xs with
    | some v, some vs => some (v :: vs)
    | _, _ => none
theorem raws_ev : ∀ (xs : List Operand) (vs : List Value), raws G.raw xs = some vs → G.conds xs = true → xs.map G.ev = vs.map some
  | [], vs, h, _ => by simp [raws] at h; subst h; rfl
  | x :: xs, vs, h, hc => by
    simp only [raws] at h
    simp only [GF.conds, Bool.and_eq_true] at hc
    split at h
    · rename_i v r h1 h2
      cases h
      simp [raw_ev h1 hc.1, raws_ev xs r h2 hc.2]
    · cases h

/-- A call, by the callee's contract. -/
theorem RVs.call {fx : Operand} {ags : List Operand} {ats : Array TypeId} {f : FuncId} {us cs : Array Value} {vs : List Value} {R : Value → AH → Prop} (hf : G.raw fx = some (.func (.func f) us cs)) (ha : raws G.raw ags = some vs) (hg : g = true)
    (hd : dstOk G ⟨dst, .call ⟨.value fx, ags.toArray, ats⟩, ty, pos, aft, gd⟩ = true) (hc : G.cond fx = true ∧ G.conds ags = true) (h : FWp P f (us.toList ++ vs ++ cs.toList) H R)
    (hs : sps.headD false = true ∨ ∀ v H', R v H' → H <+: H') (k : ∀ v H', R v H' → VC P ops K rest sps.tail (G.put dst (true, v)) H') : RVs P ops K ⟨dst, .call ⟨.value fx, ags.toArray, ats⟩, ty, pos, aft, gd⟩ rest sps G H g := by
  subst hg
  obtain ⟨⟨fn, bd, f1, f2, f3⟩, v, H', hR, hE⟩ := h
  exact ⟨v, H', ⟨fun _ => ⟨OEval.call rfl rfl (raw_ev hf hc.1) (by simpa using raws_ev ags vs ha hc.2) f1 f2 f3 hE, hs.imp id (fun q => q v H' hR), fun hi => by cases hi⟩, (fun hf => by cases hf), dstOk_sound hd⟩, (k v H' hR)⟩

/-- A call under a condition: its value must be told ahead, and it may only make memory. -/
theorem RVs.callg {fx : Operand} {ags : List Operand} {ats : Array TypeId} {f : FuncId} {us cs : Array Value} {vs : List Value} {v : Value} (hf : G.raw fx = some (.func (.func f) us cs)) (ha : raws G.raw ags = some vs)
    (hd : dstOk G ⟨dst, .call ⟨.value fx, ags.toArray, ats⟩, ty, pos, aft, gd⟩ = true) (h : g = true → (G.cond fx = true ∧ G.conds ags = true) ∧ FWp P f (us.toList ++ vs ++ cs.toList) H (fun v' H' => v' = v ∧ H <+: H'))
    (k : ∀ H', H <+: H' → VC P ops K rest sps.tail (G.put dst (g, v)) H') : RVs P ops K ⟨dst, .call ⟨.value fx, ags.toArray, ats⟩, ty, pos, aft, gd⟩ rest sps G H g := by
  cases hgg : g with
  | false => exact ⟨v, H, ⟨(fun hf => by cases hf), fun _ => rfl, dstOk_sound hd⟩, (hgg ▸ k H (List.prefix_refl _))⟩
  | true =>
    obtain ⟨hc, ⟨fn, bd, f1, f2, f3⟩, v', H', ⟨rfl, hp⟩, hE⟩ := h hgg
    exact ⟨v', H', ⟨fun _ => ⟨OEval.call rfl rfl (raw_ev hf hc.1) (by simpa using raws_ev ags vs ha hc.2) f1 f2 f3 hE, .inr hp, fun hi => by cases hi⟩, (fun hf => by cases hf), dstOk_sound hd⟩, (hgg ▸ k H' hp)⟩

end

attribute [simp] RV guardVal GF.get GF.put GF.raw GF.cond GF.conds pureStep binV dstOk AF.toG AF.get AF.eval Op.operands Call.operands argF GF.keep thenQ inBlk plainCell List.lookup rawParts putParts raws over Value.cells one buildPlace oneCell

theorem CWp.seqK {P : Program} {x y : Code} {Q : Exit → AF → AH → Prop} {T : AF} {H : AH} (h : ∀ K : AF → AH → Prop, (∀ T H, CWp P y Q T H → K T H) → CWp P x (thenQ K Q) T H) : CWp P (.seq x y) Q T H :=
  CWp.seq (h _ fun _ _ h => h)
theorem CWp.loopK {P : Program} {c : Code} {Q : Exit → AF → AH → Prop} (I : Nat → AF → AH → Prop) {n : Nat} {T : AF} {H : AH} (h0 : I n T H)
    (round : ∀ n T H (K : AF → AH → Prop), (∀ m T' H', m < n → I m T' H' → K T' H') → I n T H → CWp P c (thenQ K Q) T H) : CWp P (.loop c) Q T H :=
  CWp.loop I (fun n T H h => round n T H _ (fun m T' H' hm hI => ⟨m, hm, hI⟩) h) h0
theorem FWp.enterK {P : Program} {k : FuncId} {fn : Func} {bd : Code} {args : List Value} {H : AH} {R : Value → AH → Prop} (hf : P.funcs[k]? = some fn) (hb : fn.body = some bd) (hn : (fn.name == "runtime.NumGoroutine") = false)
    {n : Nat} (hm : fn.ntmps = n) {rs : List ResultVar} (hr : fn.results.toList = rs)
    (h : ∀ Q : Exit → AF → AH → Prop, (∀ T H' vs, ResAs P T H' rs vs → R (one vs) H' → Q .ret T H' ∧ Q .normal T H') → CWp P bd Q ⟨n, argF 0 args⟩ H) : FWp P k args H R := by
  subst hm hr
  refine FWp.enter hf hb hn (h _ fun T H' vs a b => ⟨⟨.inl rfl, vs, a, b⟩, ⟨.inr rfl, vs, a, b⟩⟩)

theorem CWp.condV {P : Program} {c : Operand} {x y : Code} {t : Bool} {Q : Exit → AF → AH → Prop} {T : AF} {H : AH} (hc : T.eval c = some (.bool t))
    (h1 : t = true → CWp P x Q T H) (h2 : t = false → CWp P y Q T H) : CWp P (.cond c x y) Q T H := by
  cases t with
  | true => exact CWp.cond hc (h1 rfl)
  | false => exact CWp.cond hc (h2 rfl)

end Go.Proofs.YtaccaelocddakaaDoor
