/- A part of the proof: no conditions. -/
import Derived.Test.YtaccaelocddakaaDoorB
namespace Go.Proofs.YtaccaelocddakaaDoor
open Go Go.RowKit
set_option linter.unusedVariables false
set_option linter.unusedSectionVars false
variable [Tabs]

/-- A type: how many cells its values take, and whether they are structs or arrays. -/
structure Ty (P : Program) (t : TypeId) (n : Nat) (ag : Bool) : Prop where
  info : ∃ ti, P.info? t = some ti ∧ ti.size = n
  desc : ∃ d, P.underlying t = some d ∧ (match d with | .struct _ | .array _ _ => true | _ => false) = ag

theorem Ty.isAgg {P : Program} {t : TypeId} {n : Nat} {ag : Bool} (h : Ty P t n ag) (w : World) : (isAgg t).run P w = .ok ag w := by
  obtain ⟨d, h1, h2⟩ := h.desc
  subst h2
  cases d <;> simp [Go.isAgg, underlying, h1]
theorem Ty.sizeOf {P : Program} {t : TypeId} {n : Nat} {ag : Bool} (h : Ty P t n ag) (w : World) : (sizeOf t).run P w = .ok n w := by
  obtain ⟨ti, h1, h2⟩ := h.info
  simp [Go.sizeOf, typeInfo, h1, h2]

theorem Addr.add_eq (b o n : Nat) : (⟨b, o, none⟩ : Addr).add n = ⟨b, o + n, none⟩ := by
  unfold Addr.add; split <;> simp_all

theorem cell_of {w : World} {b : Nat} {c : Array Value} {el : TypeId} {fr : Nat × Nat} (h : w.heap[b]? = some (.cells c el fr)) (i : Nat) : w.cell? ⟨b, i, none⟩ = c[i]? := by
  simp [World.cell?, h]
theorem frozen_of {w : World} {b : Nat} {c : Array Value} {el : TypeId} {fr : Nat × Nat} (h : w.heap[b]? = some (.cells c el fr)) (i : Nat) : w.frozen? ⟨b, i, none⟩ = (fr.1 ≤ i && i < fr.2) := by
  obtain ⟨lo, hi⟩ := fr
  simp [World.frozen?, h]

theorem loadCellsFrom_run {P : Program} {w : World} {b o : Nat} {c : Array Value} {el : TypeId} {fr : Nat × Nat} (h : w.heap[b]? = some (.cells c el fr)) :
    ∀ (n i : Nat) (acc : Array Value), o + i + n ≤ c.size → (loadCellsFrom ⟨b, o, none⟩ i n acc).run P w = .ok (acc ++ ((c.toList.drop (o + i)).take n).toArray) w := by
  intro n
  induction n with
  | zero => intro i acc _; simp [loadCellsFrom]
  | succ n ih =>
    intro i acc hle
    have hlt : o + i < c.size := by omega
    have hc : w.cell? ⟨b, o + i, none⟩ = some c[o + i] := by rw [cell_of h]; simp [hlt]
    have hd : c.toList.drop (o + i) = c[o + i] :: c.toList.drop (o + (i + 1)) := by
      rw [List.drop_eq_getElem_cons (by simpa using hlt)]; simp [Nat.add_assoc]
    rw [loadCellsFrom]
    simp only [Sem.run_bind, Addr.add_eq, run_load, hc, Result.andThen_ok]
    rw [ih (i + 1) _ (by omega), hd, List.take_succ_cons]
    simp

theorem loadCells_run {P : Program} {w : World} {b o : Nat} {c : Array Value} {el : TypeId} {fr : Nat × Nat} (h : w.heap[b]? = some (.cells c el fr)) (n : Nat) (hn : o + n ≤ c.size) :
    (loadCells ⟨b, o, none⟩ n).run P w = .ok ((c.toList.drop o).take n).toArray w := by
  unfold loadCells
  rw [loadCellsFrom_run h n 0 #[] (by omega)]
  simp

/-- The world with one block's cells turned. -/
def putBlk (w : World) (b : Nat) (c : Array Value) (el : TypeId) (fr : Nat × Nat) : World := { w with heap := w.heap.setIfInBounds b (.cells c el fr) }

theorem setCell_put {w : World} {b i : Nat} {c : Array Value} {el : TypeId} {fr : Nat × Nat} (h : w.heap[b]? = some (.cells c el fr)) (v : Value) :
    w.setCell ⟨b, i, none⟩ v = putBlk w b (c.setIfInBounds i v) el fr := by
  unfold World.setCell putBlk
  congr 1
  apply Array.ext_getElem?
  intro k
  rw [Array.getElem?_modify]
  by_cases hk : k = b
  · subst hk
    have hb : k < w.heap.size := by
      rcases Nat.lt_or_ge k w.heap.size with g | g
      · exact g
      · simp [Array.getElem?_eq_none g] at h
    rw [if_pos rfl, h, Array.getElem?_setIfInBounds_self_of_lt hb]
    rfl
  · rw [if_neg (fun e => hk e.symm), Array.getElem?_setIfInBounds_ne (fun e => hk e.symm)]

theorem putBlk_get {w : World} {b : Nat} {c c' : Array Value} {el el' : TypeId} {fr fr' : Nat × Nat} (h : w.heap[b]? = some (.cells c el fr)) : (putBlk w b c' el' fr').heap[b]? = some (.cells c' el' fr') := by
  have hb : b < w.heap.size := by
    rcases Nat.lt_or_ge b w.heap.size with g | g
    · exact g
    · simp [Array.getElem?_eq_none g] at h
  simp [putBlk, hb]
theorem putBlk_ne {w : World} {b k : Nat} {c' : Array Value} {el' : TypeId} {fr' : Nat × Nat} (h : k ≠ b) : (putBlk w b c' el' fr').heap[k]? = w.heap[k]? := by
  simp only [putBlk]; rw [Array.getElem?_setIfInBounds_ne (by omega)]
theorem putBlk_put {w : World} {b : Nat} {c c' : Array Value} {el : TypeId} {fr : Nat × Nat} : putBlk (putBlk w b c el fr) b c' el fr = putBlk w b c' el fr := by
  simp [putBlk, Array.setIfInBounds_setIfInBounds]

/-- Some cells laid over others. -/
def over (c : List Value) (o : Nat) : List Value → List Value
  | [] => c
  | v :: vs => over (c.set o v) (o + 1) vs
theorem over_length (c : List Value) (o : Nat) (vs : List Value) : (over c o vs).length = c.length := by
  induction vs generalizing c o with
  | nil => rfl
  | cons v vs ih => simp [over, ih]
theorem over_get (c : List Value) (o : Nat) (vs : List Value) (i : Nat) (h : o + vs.length ≤ c.length) :
    (over c o vs)[i]? = if o ≤ i ∧ i < o + vs.length then vs[i - o]? else c[i]? := by
  induction vs generalizing c o with
  | nil => simp only [over, List.length_nil]; rw [if_neg (by omega)]
  | cons v vs ih =>
    simp only [List.length_cons] at h
    rw [over, ih _ _ (by simp; omega)]
    by_cases h1 : i = o
    · subst h1
      rw [if_neg (by omega), if_pos (by simp only [List.length_cons]; omega)]
      simp [show i < c.length by omega]
    · by_cases h2 : o + 1 ≤ i ∧ i < o + 1 + vs.length
      · rw [if_pos h2, if_pos (by simp only [List.length_cons]; omega)]
        obtain ⟨d, rfl⟩ : ∃ d, i = o + 1 + d := ⟨i - (o + 1), by omega⟩
        rw [show o + 1 + d - (o + 1) = d by omega, show o + 1 + d - o = d + 1 by omega]; simp
      · rw [if_neg h2, if_neg (by simp only [List.length_cons]; omega), List.getElem?_set_ne (by omega)]

def oneCell (v : Value) : Bool := match v with | .agg _ | .tuple _ => false | _ => true
theorem oneCell_eq (v : Value) : oneCell v = v.oneCell' := by cases v <;> rfl
theorem VR.oneCell {ψ : Emb} {u v : Value} (h : VR ψ u v) : oneCell v = oneCell u := by cases h <;> rfl

theorem storeCells_run {P : Program} {b o : Nat} {el : TypeId} {fr : Nat × Nat} : ∀ (vs : List Value) (i : Nat) (w : World) (c : Array Value), w.heap[b]? = some (.cells c el fr) →
    (∀ k, k < c.size → ¬ (fr.1 ≤ k ∧ k < fr.2)) → o + i + vs.length ≤ c.size → (∀ v ∈ vs, oneCell v = true) →
    (storeCells ⟨b, o, none⟩ vs i).run P w = .ok () (putBlk w b (over c.toList (o + i) vs).toArray el fr) := by
  intro vs
  induction vs with
  | nil =>
    intro i w c h _ _ _
    have : putBlk w b (over c.toList (o + i) []).toArray el fr = w := by
      simp only [over, putBlk, Array.toArray_toList]
      have hb : b < w.heap.size := by
        rcases Nat.lt_or_ge b w.heap.size with g | g
        · exact g
        · simp [Array.getElem?_eq_none g] at h
      have : w.heap.setIfInBounds b (.cells c el fr) = w.heap := by
        apply Array.ext_getElem?
        intro k
        by_cases hk : k = b
        · subst hk; rw [Array.getElem?_setIfInBounds_self_of_lt hb, h]
        · rw [Array.getElem?_setIfInBounds_ne (by omega)]
      rw [this]
    rw [this]; simp [storeCells]
  | cons v vs ih =>
    intro i w c h hf hle ho
    simp only [List.length_cons] at hle
    have hlt : o + i < c.size := by omega
    have hc : w.cell? ⟨b, o + i, none⟩ = some c[o + i] := by rw [cell_of h]; simp [hlt]
    have hfz : w.frozen? ⟨b, o + i, none⟩ = false := by
      rw [frozen_of h]; have := hf (o + i) hlt; simpa using this
    rw [storeCells]
    simp only [Sem.run_bind, Addr.add_eq]
    rw [run_store P w _ v .plain (by rw [← oneCell_eq]; exact ho v (by simp))]
    simp only [hc, hfz, Result.andThen_ok, Bool.false_eq_true, if_false]
    rw [setCell_put h, ih (i + 1) _ (c.setIfInBounds (o + i) v) (putBlk_get h) (by simpa using hf) (by simp; omega) (fun x hx => ho x (by simp [hx])), putBlk_put]
    simp [over, Nat.add_assoc]

theorem WR.some_live {ψ : Emb} {H : AH} {w : World} (hw : WR ψ H w) {id : Nat} {L : Loc} {B : Blk} (h1 : ψ id = some L) (h2 : H[id]? = some B) (h3 : B.st ≠ .dead) :
    ∃ c fr, w.heap[L.b]? = some (.cells c B.el fr) ∧ c.size = L.lim ∧ L.esz = B.esz ∧ L.o + B.cells.length ≤ L.lim ∧
      (∀ i v, B.cells[i]? = some v → ∃ v', c[L.o + i]? = some v' ∧ VR ψ v v') ∧ (B.st = .rw → ∀ k, k < L.lim → ¬ (fr.1 ≤ k ∧ k < fr.2)) := by
  obtain ⟨c1, el1, fr1, g1, g2⟩ := hw.blk id L h1
  obtain ⟨e1, e2⟩ := hw.cells id L B h1 h2
  obtain ⟨c, fr, k1, k2, k3, k4⟩ := e2 h3
  rw [g1] at k1
  simp only [Option.some.injEq, Obj.cells.injEq] at k1
  obtain ⟨rfl, rfl, rfl⟩ := k1
  exact ⟨c1, fr1, g1, g2, e1, k2, k3, k4⟩

theorem set_get_eq {H : AH} {id : Nat} {B B' : Blk} (h : H[id]? = some B) : (H.set id B')[id]? = some B' := by
  have : id < H.length := by
    rcases Nat.lt_or_ge id H.length with g | g
    · exact g
    · simp [List.getElem?_eq_none g] at h
  simp [this]

/-- A block's cells are turned. -/
theorem Step.put {ψ : Emb} {H : AH} {w : World} (hw : WR ψ H w) {id : Nat} {L : Loc} {B : Blk} (h1 : ψ id = some L) (h2 : H[id]? = some B) (h3 : B.st = .rw)
    {c c' : Array Value} {fr : Nat × Nat} (hc : w.heap[L.b]? = some (.cells c B.el fr)) (hsz : c.size = L.lim) (hsz' : c'.size = c.size) {cs' : List Value} (hl : L.o + cs'.length ≤ L.lim)
    (hfr : ∀ k, k < L.lim → ¬ (fr.1 ≤ k ∧ k < fr.2)) (hrel : ∀ (i : Nat) (v : Value), cs'[i]? = some v → ∃ v', c'[L.o + i]? = some v' ∧ VR ψ v v') :
    Step ψ H w ψ (H.set id { B with cells := cs' }) (putBlk w L.b c' B.el fr) := by
  have back : ∀ (k : Nat) (Bk : Blk), (H.set id { B with cells := cs' })[k]? = some Bk → ∃ B0, H[k]? = some B0 ∧ B0.st = Bk.st := by
    intro k Bk hk
    by_cases e : k = id
    · subst e; rw [set_get_eq h2] at hk; cases hk; exact ⟨B, h2, rfl⟩
    · rw [List.getElem?_set_ne (fun x => e x.symm)] at hk; exact ⟨Bk, hk, rfl⟩
  have forth : ∀ (k : Nat) (Bk : Blk), H[k]? = some Bk → ∃ B0, (H.set id { B with cells := cs' })[k]? = some B0 ∧ B0.st = Bk.st := by
    intro k Bk hk
    by_cases e : k = id
    · subst e; rw [h2] at hk; cases hk; exact ⟨_, set_get_eq h2, rfl⟩
    · exact ⟨Bk, by rw [List.getElem?_set_ne (fun x => e x.symm)]; exact hk, rfl⟩
  have hots : ∀ b, Hot ψ (H.set id { B with cells := cs' }) b → Hot ψ H b := by
    rintro b ⟨k, Lk, Bk, q1, q2, q3, q4⟩
    obtain ⟨B0, q5, q6⟩ := back k Bk q2
    exact ⟨k, Lk, B0, q1, q5, q6.trans q3, q4⟩
  refine ⟨⟨?_, ?_, ?_, ?_, hw.fin⟩, fun _ _ e => e, fun _ _ => rfl, by simp, by simp [putBlk], rfl, rfl, rfl, ?_, fun _ _ a b => by simp at b; omega, ?_⟩
  · intro k Lk hk
    obtain ⟨d, el, f, g1, g2⟩ := hw.blk k Lk hk
    by_cases e : Lk.b = L.b
    · rw [e, hc] at g1; cases g1
      exact ⟨c', B.el, fr, by rw [e]; exact putBlk_get hc, by omega⟩
    · exact ⟨d, el, f, by rw [putBlk_ne e]; exact g1, g2⟩
  · intro k Lk Bk hk hB
    by_cases e : k = id
    · subst e
      rw [h1] at hk; cases hk
      rw [set_get_eq h2] at hB; cases hB
      exact ⟨(hw.cells _ _ _ h1 h2).1, fun _ => ⟨c', fr, putBlk_get hc, hl, hrel, fun _ => hfr⟩⟩
    · rw [List.getElem?_set_ne (fun x => e x.symm)] at hB
      obtain ⟨g1, g2⟩ := hw.cells k Lk Bk hk hB
      refine ⟨g1, fun hd => ?_⟩
      have hne : Lk.b ≠ L.b := by
        intro eb
        obtain ⟨_, B2, q1, q2⟩ := hw.inj id k L Lk B h1 hk h2 h3 (fun x => e x.symm) eb.symm
        rw [hB] at q1; cases q1; exact hd q2
      rw [putBlk_ne hne]; exact g2 hd
  · intro a b La Lb Ba ha hb hBa hst hne hbb
    obtain ⟨B0, q1, q2⟩ := back a Ba hBa
    obtain ⟨q3, B2, q4, q5⟩ := hw.inj a b La Lb B0 ha hb q1 (q2.trans hst) hne hbb
    obtain ⟨B3, q6, q7⟩ := forth b B2 q4
    exact ⟨q3, B3, q6, q7.trans q5⟩
  · intro g vs hv
    obtain ⟨⟨d, el, f, r1, r2⟩, r3⟩ := hw.fixed g vs hv
    have hg : g ≠ L.b := fun e => r3 ⟨id, L, B, h1, h2, h3, e.symm⟩
    exact ⟨⟨d, el, f, by rw [putBlk_ne hg]; exact r1, r2⟩, fun hh => r3 (hots g hh)⟩
  · intro b hb hn
    exact putBlk_ne (fun e => hn ⟨id, L, B, h1, h2, h3, e.symm⟩)
  · exact fun b hb => .inr (hots b hb)

def Emb.put (ψ : Emb) (id : Nat) (L : Loc) : Emb := fun i => if i = id then some L else ψ i
theorem Emb.put_le {ψ : Emb} {id : Nat} {L : Loc} (h : ψ id = none) : ψ.le (ψ.put id L) := by
  intro i K e
  by_cases hi : i = id
  · subst hi; rw [h] at e; cases e
  · simp [Emb.put, hi, e]
theorem Emb.put_self {ψ : Emb} {id : Nat} {L : Loc} : ψ.put id L id = some L := by simp [Emb.put]
theorem Emb.put_ne {ψ : Emb} {id i : Nat} {L : Loc} (h : i ≠ id) : ψ.put id L i = ψ i := by simp [Emb.put, h]

theorem Emb.put_fin {ψ : Emb} {id : Nat} {L : Loc} (h : ∃ N, ∀ i, N ≤ i → ψ i = none) : ∃ N, ∀ i, N ≤ i → ψ.put id L i = none := by
  obtain ⟨N, h⟩ := h
  refine ⟨max N (id + 1), fun i hi => ?_⟩
  rw [Emb.put_ne (by omega)]; exact h i (by omega)

theorem heap_lt {w : World} {b : Nat} {o : Obj} (h : w.heap[b]? = some o) : b < w.heap.size := by
  rcases Nat.lt_or_ge b w.heap.size with g | g
  · exact g
  · simp [Array.getElem?_eq_none g] at h

/-- A new block. -/
theorem Step.alloc {ψ : Emb} {H : AH} {w w' : World} (hw : WR ψ H w) (hn : ψ H.length = none) {c : Array Value} {el : TypeId} {fr : Nat × Nat} {esz : Nat} {cs : List Value}
    (hh : w'.heap = w.heap.push (.cells c el fr)) (hos : w'.os = w.os) (htape : w'.tape = w.tape) (hout : w'.output = w.output) (hl : cs.length ≤ c.size)
    (hfr : ∀ k, k < c.size → ¬ (fr.1 ≤ k ∧ k < fr.2)) (hrel : ∀ (i : Nat) (v : Value), cs[i]? = some v → ∃ v', c[i]? = some v' ∧ VR ψ v v') :
    Step ψ H w (ψ.put H.length ⟨w.heap.size, 0, c.size, esz⟩) (H ++ [⟨el, esz, cs, .rw⟩]) w' := by
  have old : ∀ b, b < w.heap.size → w'.heap[b]? = w.heap[b]? := by
    intro b hb; rw [hh, Array.getElem?_push, if_neg (by omega)]
  have new : w'.heap[w.heap.size]? = some (.cells c el fr) := by rw [hh]; simp
  have hle := Emb.put_le (L := ⟨w.heap.size, 0, c.size, esz⟩) hn
  have hots : ∀ b, Hot (ψ.put H.length ⟨w.heap.size, 0, c.size, esz⟩) (H ++ [⟨el, esz, cs, .rw⟩]) b → w.heap.size ≤ b ∨ Hot ψ H b := by
    rintro b ⟨k, Lk, Bk, q1, q2, q3, q4⟩
    by_cases e : k = H.length
    · subst e; rw [Emb.put_self] at q1; cases q1; exact .inl (by simp only at q4; omega)
    · rw [Emb.put_ne e] at q1
      have hlt : k < H.length := by
        rcases Nat.lt_or_ge k H.length with g | g
        · exact g
        · rw [List.getElem?_append_right g, List.getElem?_eq_none (by simp; omega)] at q2; cases q2
      rw [List.getElem?_append_left hlt] at q2
      exact .inr ⟨k, Lk, Bk, q1, q2, q3, q4⟩
  refine ⟨⟨?_, ?_, ?_, ?_, Emb.put_fin hw.fin⟩, hle, ?_, by simp, by simp [hh], hos, htape, hout, fun b hb _ => old b hb, ?_, ?_⟩
  · intro k Lk hk
    by_cases e : k = H.length
    · subst e; rw [Emb.put_self] at hk; cases hk; exact ⟨c, el, fr, new, rfl⟩
    · rw [Emb.put_ne e] at hk
      obtain ⟨d, el', f, g1, g2⟩ := hw.blk k Lk hk
      exact ⟨d, el', f, by rw [old _ (heap_lt g1)]; exact g1, g2⟩
  · intro k Lk Bk hk hB
    by_cases e : k = H.length
    · subst e; rw [Emb.put_self] at hk; cases hk
      simp at hB; subst hB
      refine ⟨rfl, fun _ => ⟨c, fr, new, by simpa using hl, fun i v hv => ?_, fun _ => hfr⟩⟩
      obtain ⟨v', q1, q2⟩ := hrel i v hv
      exact ⟨v', by simpa using q1, q2.mono hle⟩
    · rw [Emb.put_ne e] at hk
      have hlt : k < H.length := by
        rcases Nat.lt_or_ge k H.length with g | g
        · exact g
        · rw [List.getElem?_append_right g, List.getElem?_eq_none (by simp; omega)] at hB; cases hB
      rw [List.getElem?_append_left hlt] at hB
      obtain ⟨g1, g2⟩ := hw.cells k Lk Bk hk hB
      refine ⟨g1, fun hd => ?_⟩
      obtain ⟨d, f, q1, q2, q3, q4⟩ := g2 hd
      exact ⟨d, f, by rw [old _ (heap_lt q1)]; exact q1, q2, fun i v hv => by obtain ⟨v', r1, r2⟩ := q3 i v hv; exact ⟨v', r1, r2.mono hle⟩, q4⟩
  · intro a b La Lb Ba ha hb hBa hst hne hbb
    by_cases ea : a = H.length
    · subst ea
      rw [Emb.put_self] at ha; cases ha
      rw [Emb.put_ne (fun x => hne x.symm)] at hb
      obtain ⟨d, el', f, g1, g2⟩ := hw.blk b Lb hb
      have := heap_lt g1
      simp only at hbb; omega
    · rw [Emb.put_ne ea] at ha
      have hlt : a < H.length := by
        rcases Nat.lt_or_ge a H.length with g | g
        · exact g
        · rw [List.getElem?_append_right g, List.getElem?_eq_none (by simp; omega)] at hBa; cases hBa
      rw [List.getElem?_append_left hlt] at hBa
      by_cases eb : b = H.length
      · subst eb
        rw [Emb.put_self] at hb; cases hb
        obtain ⟨d, el', f, g1, g2⟩ := hw.blk a La ha
        have := heap_lt g1
        simp only at hbb; omega
      · rw [Emb.put_ne eb] at hb
        obtain ⟨q1, B2, q2, q3⟩ := hw.inj a b La Lb Ba ha hb hBa hst hne hbb
        exact ⟨q1, B2, by rw [List.getElem?_append_left (by omega)]; exact q2, q3⟩
  · intro g vs hv
    obtain ⟨⟨d, el', f, r1, r2⟩, r3⟩ := hw.fixed g vs hv
    have hg := heap_lt r1
    exact ⟨⟨d, el', f, by rw [old _ hg]; exact r1, r2⟩, fun hh => (hots g hh).elim (fun q => by omega) r3⟩
  · intro k hk
    have : k ≠ H.length := by simp at hk; omega
    exact Emb.put_ne this
  · intro k Lk h1 h2 hk
    have : k = H.length := by simp at h2; omega
    subst this; rw [Emb.put_self] at hk; cases hk; exact .inl (Nat.le_refl _)
  · exact hots

def kill (B : Blk) : Blk := { B with st := .dead }

/-- A block is not looked at any more. -/
theorem Step.kill {ψ : Emb} {H : AH} {w : World} (hw : WR ψ H w) {id : Nat} {B : Blk} (h2 : H[id]? = some B) : Step ψ H w ψ (H.set id (kill B)) w := by
  have back : ∀ (k : Nat) (Bk : Blk), (H.set id (YtaccaelocddakaaDoor.kill B))[k]? = some Bk → Bk.st ≠ .dead → H[k]? = some Bk := by
    intro k Bk hk hd
    by_cases e : k = id
    · subst e; rw [set_get_eq h2] at hk; cases hk; exact absurd rfl hd
    · rw [List.getElem?_set_ne (fun x => e x.symm)] at hk; exact hk
  have hots : ∀ b, Hot ψ (H.set id (YtaccaelocddakaaDoor.kill B)) b → Hot ψ H b := by
    rintro b ⟨k, Lk, Bk, q1, q2, q3, q4⟩
    exact ⟨k, Lk, Bk, q1, back k Bk q2 (by rw [q3]; decide), q3, q4⟩
  refine ⟨⟨hw.blk, ?_, ?_, ?_, hw.fin⟩, fun _ _ e => e, fun _ _ => rfl, by simp, Nat.le_refl _, rfl, rfl, rfl, fun _ _ _ => rfl, fun _ _ a b => by simp at b; omega, ?_⟩
  · intro k Lk Bk hk hB
    by_cases e : k = id
    · subst e; rw [set_get_eq h2] at hB; cases hB
      exact ⟨(hw.cells _ _ _ hk h2).1, fun hd => absurd rfl hd⟩
    · rw [List.getElem?_set_ne (fun x => e x.symm)] at hB
      exact hw.cells k Lk Bk hk hB
  · intro a b La Lb Ba ha hb hBa hst hne hbb
    have q := back a Ba hBa (by rw [hst]; decide)
    obtain ⟨q3, B2, q4, q5⟩ := hw.inj a b La Lb Ba ha hb q hst hne hbb
    by_cases e : b = id
    · subst e; exact ⟨q3, _, set_get_eq h2, rfl⟩
    · exact ⟨q3, B2, by rw [List.getElem?_set_ne (fun x => e x.symm)]; exact q4, q5⟩
  · intro g vs hv
    obtain ⟨r1, r2⟩ := hw.fixed g vs hv
    exact ⟨r1, fun hh => r2 (hots g hh)⟩
  · exact fun b hb => .inr (hots b hb)

/-- A block is gone on in place, under a new number. -/
theorem Step.regrow {ψ : Emb} {H : AH} {w : World} (hw : WR ψ H w) (hn : ψ H.length = none) {id : Nat} {L : Loc} {B : Blk} (h1 : ψ id = some L) (h2 : H[id]? = some B) (h3 : B.st = .rw)
    {c c' : Array Value} {fr : Nat × Nat} (hc : w.heap[L.b]? = some (.cells c B.el fr)) (hsz : c.size = L.lim) (hsz' : c'.size = c.size) {cs' : List Value} {o' : Nat} (hl : o' + cs'.length ≤ L.lim)
    (hfr : ∀ k, k < L.lim → ¬ (fr.1 ≤ k ∧ k < fr.2)) (hrel : ∀ (i : Nat) (v : Value), cs'[i]? = some v → ∃ v', c'[o' + i]? = some v' ∧ VR ψ v v') :
    Step ψ H w (ψ.put H.length ⟨L.b, o', L.lim, L.esz⟩) (H.set id (YtaccaelocddakaaDoor.kill B) ++ [⟨B.el, B.esz, cs', .rw⟩]) (putBlk w L.b c' B.el fr) := by
  have hid : id < H.length := by
    rcases Nat.lt_or_ge id H.length with g | g
    · exact g
    · simp [List.getElem?_eq_none g] at h2
  have hle := Emb.put_le (L := ⟨L.b, o', L.lim, L.esz⟩) hn
  have back : ∀ (k : Nat) (Bk : Blk), k ≠ H.length → (H.set id (YtaccaelocddakaaDoor.kill B) ++ [⟨B.el, B.esz, cs', .rw⟩])[k]? = some Bk → (k = id ∧ Bk = YtaccaelocddakaaDoor.kill B) ∨ (k ≠ id ∧ H[k]? = some Bk) := by
    intro k Bk e hk
    have hlt : k < H.length := by
      rcases Nat.lt_or_ge k H.length with g | g
      · exact g
      · rw [List.getElem?_append_right (by simpa using g), List.getElem?_eq_none (by simp; omega)] at hk; cases hk
    rw [List.getElem?_append_left (by simpa using hlt)] at hk
    by_cases e2 : k = id
    · subst e2; rw [set_get_eq h2] at hk; cases hk; exact .inl ⟨rfl, rfl⟩
    · rw [List.getElem?_set_ne (fun x => e2 x.symm)] at hk; exact .inr ⟨e2, hk⟩
  have esz := (hw.cells _ _ _ h1 h2).1
  have hnewb : (H.set id (YtaccaelocddakaaDoor.kill B) ++ [⟨B.el, B.esz, cs', .rw⟩])[H.length]? = some ⟨B.el, B.esz, cs', .rw⟩ := by
    rw [List.getElem?_append_right (by simp)]; simp
  have hots : ∀ b, Hot (ψ.put H.length ⟨L.b, o', L.lim, L.esz⟩) (H.set id (YtaccaelocddakaaDoor.kill B) ++ [⟨B.el, B.esz, cs', .rw⟩]) b → Hot ψ H b := by
    rintro b ⟨k, Lk, Bk, q1, q2, q3, q4⟩
    by_cases e : k = H.length
    · subst e; rw [Emb.put_self] at q1; cases q1; exact ⟨id, L, B, h1, h2, h3, q4⟩
    · rw [Emb.put_ne e] at q1
      rcases back k Bk e q2 with ⟨rfl, rfl⟩ | ⟨e2, hB'⟩
      · cases q3
      · exact ⟨k, Lk, Bk, q1, hB', q3, q4⟩
  refine ⟨⟨?_, ?_, ?_, ?_, Emb.put_fin hw.fin⟩, hle, ?_, by simp, by simp [putBlk], rfl, rfl, rfl, ?_, ?_, ?_⟩
  · intro k Lk hk
    by_cases e0 : k = H.length
    · subst e0; rw [Emb.put_self] at hk; cases hk; exact ⟨c', B.el, fr, putBlk_get hc, by simp only; omega⟩
    · rw [Emb.put_ne e0] at hk
      obtain ⟨d, el, f, g1, g2⟩ := hw.blk k Lk hk
      by_cases e : Lk.b = L.b
      · rw [e, hc] at g1; cases g1
        exact ⟨c', B.el, fr, by rw [e]; exact putBlk_get hc, by omega⟩
      · exact ⟨d, el, f, by rw [putBlk_ne e]; exact g1, g2⟩
  · intro k Lk Bk hk hB
    by_cases e0 : k = H.length
    · subst e0; rw [Emb.put_self] at hk; cases hk
      rw [hnewb] at hB; cases hB
      exact ⟨esz, fun _ => ⟨c', fr, putBlk_get hc, hl, fun i v hv => by obtain ⟨v', r1, r2⟩ := hrel i v hv; exact ⟨v', r1, r2.mono hle⟩, fun _ => hfr⟩⟩
    · rw [Emb.put_ne e0] at hk
      rcases back k Bk e0 hB with ⟨rfl, rfl⟩ | ⟨e, hB'⟩
      · rw [h1] at hk; cases hk
        exact ⟨esz, fun hd => absurd rfl hd⟩
      · obtain ⟨g1, g2⟩ := hw.cells k Lk Bk hk hB'
        refine ⟨g1, fun hd => ?_⟩
        have hne : Lk.b ≠ L.b := by
          intro eb
          obtain ⟨_, B2, q1, q2⟩ := hw.inj id k L Lk B h1 hk h2 h3 (fun x => e x.symm) eb.symm
          rw [hB'] at q1; cases q1; exact hd q2
        rw [putBlk_ne hne]
        obtain ⟨d, f, q1, q2, q3, q4⟩ := g2 hd
        exact ⟨d, f, q1, q2, fun i v hv => by obtain ⟨v', r1, r2⟩ := q3 i v hv; exact ⟨v', r1, r2.mono hle⟩, q4⟩
  · intro a b La Lb Ba ha hb hBa hst hne hbb
    by_cases ea : a = H.length
    · subst ea
      rw [Emb.put_self] at ha; cases ha
      rw [Emb.put_ne (fun x => hne x.symm)] at hb
      by_cases ebi : b = id
      · subst ebi
        refine ⟨hid, YtaccaelocddakaaDoor.kill B, ?_, rfl⟩
        rw [List.getElem?_append_left (by simpa using hid)]; exact set_get_eq h2
      · obtain ⟨q1, B2, q2, q3⟩ := hw.inj id b L Lb B h1 hb h2 h3 (fun x => ebi x.symm) hbb
        refine ⟨by omega, B2, ?_, q3⟩
        rw [List.getElem?_append_left (by simp; omega), List.getElem?_set_ne (fun x => ebi x.symm)]; exact q2
    · rw [Emb.put_ne ea] at ha
      rcases back a Ba ea hBa with ⟨rfl, rfl⟩ | ⟨e, hB'⟩
      · cases hst
      · by_cases eb : b = H.length
        · subst eb
          rw [Emb.put_self] at hb; cases hb
          simp only at hbb
          obtain ⟨q1, B2, q2, q3⟩ := hw.inj id a L La B h1 ha h2 h3 (fun x => e x.symm) hbb.symm
          rw [hB'] at q2; cases q2; rw [hst] at q3; cases q3
        · rw [Emb.put_ne eb] at hb
          obtain ⟨q1, B2, q2, q3⟩ := hw.inj a b La Lb Ba ha hb hB' hst hne hbb
          have halt : a < H.length := by
            rcases Nat.lt_or_ge a H.length with g | g
            · exact g
            · simp [List.getElem?_eq_none g] at hB'
          by_cases ebi : b = id
          · subst ebi; rw [h2] at q2; cases q2; rw [h3] at q3; cases q3
          · refine ⟨q1, B2, ?_, q3⟩
            rw [List.getElem?_append_left (by simp; omega), List.getElem?_set_ne (fun x => ebi x.symm)]; exact q2
  · intro g vs hv
    obtain ⟨⟨d, el, f, r1, r2⟩, r3⟩ := hw.fixed g vs hv
    have hg : g ≠ L.b := fun e => r3 ⟨id, L, B, h1, h2, h3, e.symm⟩
    exact ⟨⟨d, el, f, by rw [putBlk_ne hg]; exact r1, r2⟩, fun hh => r3 (hots g hh)⟩
  · intro k hk
    have : k ≠ H.length := by simp at hk; omega
    exact Emb.put_ne this
  · intro b hb hnot
    exact putBlk_ne (fun e => hnot ⟨id, L, B, h1, h2, h3, e.symm⟩)
  · intro k Lk p1 p2 hk
    have : k = H.length := by simp at p2; omega
    subst this; rw [Emb.put_self] at hk; cases hk; exact .inr ⟨id, L, B, h1, h2, h3, rfl⟩
  · exact fun b hb => .inr (hots b hb)

end Go.Proofs.YtaccaelocddakaaDoor
