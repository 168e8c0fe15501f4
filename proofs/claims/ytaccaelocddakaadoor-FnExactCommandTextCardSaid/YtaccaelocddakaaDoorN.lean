/- A part of the proof: no conditions. -/
import Derived.Test.YtaccaelocddakaaDoorM
import Derived.WideShapes
import Derived.ChangeShapes
namespace Go.Proofs.YtaccaelocddakaaDoor
open Go Go.RowKit
set_option linter.unusedVariables false
set_option linter.unusedSectionVars false
variable [Tabs]

/-- No block may be written. -/
def Cold (ψ : Emb) (H : AH) : Prop := ∀ id L B, ψ id = some L → H[id]? = some B → B.st ≠ .rw
theorem Cold.hot {ψ : Emb} {H : AH} (h : Cold ψ H) (b : Nat) : ¬ Hot ψ H b := fun ⟨id, L, B, h1, h2, h3, _⟩ => h id L B h1 h2 h3

/-- What is read ahead of a call: the memory that came in, told as blocks that are only read. -/
structure Seen0 (ψ : Emb) (H : AH) (w : World) : Prop where
  wr : WR ψ H w
  cold : Cold ψ H
  free : ∀ id, H.length ≤ id → ψ id = none

theorem Seen0.place {ψ : Emb} {H : AH} {w : World} (h : Seen0 ψ H w) {b o esz : Nat} {c : Array Value} {el : TypeId} {fr : Nat × Nat} {cs : List Value} (hc : w.heap[b]? = some (.cells c el fr)) (hl : o + cs.length ≤ c.size)
    (hrel : ∀ (i : Nat) (v : Value), cs[i]? = some v → ∃ v', c[o + i]? = some v' ∧ VR ψ v v') :
    Seen0 (ψ.put H.length ⟨b, o, c.size, esz⟩) (H ++ [⟨el, esz, cs, .ro⟩]) w := by
  have hn := h.free H.length (Nat.le_refl _)
  have hle := Emb.put_le (L := ⟨b, o, c.size, esz⟩) hn
  have cases_ : ∀ (k : Nat) (Bk : Blk), (H ++ [⟨el, esz, cs, .ro⟩])[k]? = some Bk → (k = H.length ∧ Bk = ⟨el, esz, cs, .ro⟩) ∨ (k < H.length ∧ H[k]? = some Bk) := by
    intro k Bk hk
    rcases Nat.lt_trichotomy k H.length with q | q | q
    · rw [List.getElem?_append_left q] at hk; exact .inr ⟨q, hk⟩
    · subst q; rw [List.getElem?_append_right (Nat.le_refl _)] at hk; simp at hk; exact .inl ⟨rfl, hk.symm⟩
    · rw [List.getElem?_append_right (by omega), List.getElem?_eq_none (by simp; omega)] at hk; cases hk
  have cold : Cold (ψ.put H.length ⟨b, o, c.size, esz⟩) (H ++ [⟨el, esz, cs, .ro⟩]) := by
    intro id L B h1 h2
    rcases cases_ id B h2 with ⟨rfl, rfl⟩ | ⟨q, h3⟩
    · simp
    · rw [Emb.put_ne (by omega)] at h1; exact h.cold id L B h1 h3
  refine ⟨⟨?_, ?_, ?_, ?_, Emb.put_fin h.wr.fin⟩, cold, ?_⟩
  · intro id L h1
    by_cases e : id = H.length
    · subst e; rw [Emb.put_self] at h1; cases h1; exact ⟨c, el, fr, hc, rfl⟩
    · rw [Emb.put_ne e] at h1; exact h.wr.blk id L h1
  · intro id L B h1 h2
    rcases cases_ id B h2 with ⟨rfl, rfl⟩ | ⟨q, h3⟩
    · rw [Emb.put_self] at h1; cases h1
      refine ⟨rfl, fun _ => ⟨c, fr, hc, hl, fun i v hv => ?_, fun h => by cases h⟩⟩
      obtain ⟨v', r1, r2⟩ := hrel i v hv
      exact ⟨v', r1, r2.mono hle⟩
    · rw [Emb.put_ne (by omega)] at h1
      obtain ⟨g1, g2⟩ := h.wr.cells id L B h1 h3
      refine ⟨g1, fun hd => ?_⟩
      obtain ⟨d, f, q1, q2, q3, q4⟩ := g2 hd
      refine ⟨d, f, q1, q2, fun i v hv => ?_, q4⟩
      obtain ⟨v', r1, r2⟩ := q3 i v hv
      exact ⟨v', r1, r2.mono hle⟩
  · intro a b La Lb Ba h1 h2 h3 h4
    exact absurd h4 (cold a La Ba h1 h3)
  · intro g vs hv
    exact ⟨(h.wr.fixed g vs hv).1, cold.hot g⟩
  · intro id hid
    have : id ≠ H.length := by simp at hid; omega
    rw [Emb.put_ne this]; exact h.free id (by simp at hid; omega)

/-- A type's values, read as data, are told by a kind. -/
def Conv {α : Type} (P : Program) (t : TypeId) (k : Kd α) (wf : α → Prop) : Prop :=
  ∀ (E : Type) (enc : TypeId × Value → E) (w : World) (fuel : Nat) (cs : List Value) (d : DataW E) (ps : List MemPlace), DataW.trod enc P w 0 (fun _ => true) true fuel t cs = some (d, ps) →
    ∀ (ψ : Emb) (H : AH), Seen0 ψ H w → ∃ ψ' H' us x, ψ.le ψ' ∧ H <+: H' ∧ Seen0 ψ' H' w ∧ VRs ψ' us cs ∧ k.R H' us x ∧ wf x

theorem maxLen_lim : maxLen ≤ lim := by decide

theorem Conv.int {P : Program} {t : TypeId} {k : IntKind} (ht : P.underlying t = some (.int k)) : Conv P t (Kd.int k) (fun n => (Lit.int k n).wf = true) := by
  intro E enc w fuel cs d ps h ψ H hs
  cases fuel with
  | zero => simp [DataW.trod] at h
  | succ fuel =>
    unfold DataW.trod at h
    simp only [ht] at h
    rcases cs with _ | ⟨v, _ | ⟨u, r⟩⟩
    · simp at h
    · cases v <;> simp at h
      rename_i k' n
      obtain ⟨⟨rfl, hw⟩, _⟩ := h
      exact ⟨ψ, H, _, n, fun _ _ e => e, List.prefix_refl _, hs, .cons (.int _ _) .nil, rfl, hw⟩
    · simp at h

theorem Conv.bool {P : Program} {t : TypeId} (ht : P.underlying t = some .bool) : Conv P t Kd.bool (fun _ => True) := by
  intro E enc w fuel cs d ps h ψ H hs
  cases fuel with
  | zero => simp [DataW.trod] at h
  | succ fuel =>
    unfold DataW.trod at h
    simp only [ht] at h
    rcases cs with _ | ⟨v, _ | ⟨u, r⟩⟩
    · simp at h
    · cases v <;> simp at h
      rename_i b
      exact ⟨ψ, H, _, b, fun _ _ e => e, List.prefix_refl _, hs, .cons (.bool _) .nil, rfl, trivial⟩
    · simp at h

theorem Conv.str {P : Program} {t : TypeId} (ht : P.underlying t = some .string) : Conv P t Kd.str (fun l => True) := by
  intro E enc w fuel cs d ps h ψ H hs
  cases fuel with
  | zero => simp [DataW.trod] at h
  | succ fuel =>
    unfold DataW.trod at h
    simp only [ht] at h
    rcases cs with _ | ⟨v, _ | ⟨u, r⟩⟩
    · simp at h
    · cases v <;> simp at h
      rename_i s
      exact ⟨ψ, H, _, bl s, fun _ _ e => e, List.prefix_refl _, hs, .cons (.string s) .nil, ⟨by simp, by rw [bl_length]; exact Nat.le_trans h.1 maxLen_lim⟩, trivial⟩
    · simp at h

/-- A struct's fields, from an offset on. -/
inductive Chain (P : Program) : List Field → Nat → {α : Type} → Kd α → (α → Prop) → Prop
  | last {f : Field} {off : Nat} {α : Type} {k : Kd α} {wf : α → Prop} (h : Conv P f.type k wf) (ho : f.offset = off) (hs : P.cellsOf f.type = k.size) : Chain P [f] off k wf
  | cons {f : Field} {fs : List Field} {off : Nat} {α β : Type} {k : Kd α} {wf : α → Prop} {k' : Kd β} {wf' : β → Prop} (h : Conv P f.type k wf) (ho : f.offset = off) (hs : P.cellsOf f.type = k.size) (t : Chain P fs (off + k.size) k' wf') :
      Chain P (f :: fs) off (k.pair k') (fun x => wf x.1 ∧ wf' x.2)

theorem mapM_some_cons {α β : Type} {f : α → Option β} {a : α} {l : List α} {r : List β} (h : (a :: l).mapM f = some r) : ∃ b r', f a = some b ∧ l.mapM f = some r' ∧ r = b :: r' := by
  simp only [List.mapM_cons, Option.bind_eq_bind, Option.bind_eq_some_iff, Option.pure_def, Option.some.injEq] at h
  obtain ⟨b, hb, r', hr', rfl⟩ := h
  exact ⟨b, r', hb, hr', rfl⟩

theorem Chain.read {P : Program} {E : Type} {enc : TypeId × Value → E} {w : World} {fuel : Nat} {cs : List Value} : ∀ {fs : List Field} {off : Nat} {α : Type} {k : Kd α} {wf : α → Prop}, Chain P fs off k wf → ∀ {xs : List (DataW E × List MemPlace)},
    (fs.mapM fun f => DataW.trod enc P w 0 (fun _ => true) true fuel f.type ((cs.drop f.offset).take (P.cellsOf f.type))) = some xs → cs.length = off + k.size → ∀ {ψ : Emb} {H : AH}, Seen0 ψ H w →
    ∃ ψ' H' us x, ψ.le ψ' ∧ H <+: H' ∧ Seen0 ψ' H' w ∧ VRs ψ' us (cs.drop off) ∧ k.R H' us x ∧ wf x := by
  intro fs off α k wf hc
  induction hc with
  | last h ho hs =>
    intro xs hm hl ψ H hs0
    obtain ⟨b, r', h1, _, _⟩ := mapM_some_cons hm
    obtain ⟨ψ', H', us, x, q1, q2, q3, q4, q5, q6⟩ := h E enc w fuel _ b.1 b.2 h1 ψ H hs0
    rw [ho, hs, List.take_of_length_le (by simp; omega)] at q4
    exact ⟨ψ', H', us, x, q1, q2, q3, q4, q5, q6⟩
  | cons h ho hs t ih =>
    rename_i f fs off α β k wf k' wf'
    intro xs hm hl ψ H hs0
    obtain ⟨b, r', h1, h2, _⟩ := mapM_some_cons hm
    obtain ⟨ψ1, H1, us, x, q1, q2, q3, q4, q5, q6⟩ := h E enc w fuel _ b.1 b.2 h1 ψ H hs0
    have hsz : (k.pair k').size = k.size + k'.size := rfl
    obtain ⟨ψ2, H2, vs, y, r1, r2, r3, r4, r5, r6⟩ := ih h2 (by omega) q3
    refine ⟨ψ2, H2, us ++ vs, (x, y), fun i L e => r1 i L (q1 i L e), q2.trans r2, r3, ?_, ⟨us, vs, rfl, k.mono (hle r2) q5, r5⟩, q6, r6⟩
    rw [ho, hs] at q4
    have : cs.drop off = (cs.drop off).take k.size ++ cs.drop (off + k.size) := by
      rw [← List.drop_drop, List.take_append_drop]
    rw [this]; exact (q4.mono r1).append r4

theorem Conv.struct {P : Program} {t : TypeId} {fs : Array Field} {α : Type} {k : Kd α} {wf : α → Prop} (ht : P.underlying t = some (.struct fs)) (hsz : P.cellsOf t = k.size) (h : Chain P fs.toList 0 k wf) : Conv P t k wf := by
  intro E enc w fuel cs d ps h' ψ H hs
  cases fuel with
  | zero => simp [DataW.trod] at h'
  | succ fuel =>
    unfold DataW.trod at h'
    simp only [ht] at h'
    split at h'
    · rename_i hl
      simp only [Option.map_eq_some_iff] at h'
      obtain ⟨xs, hx, _⟩ := h'
      have := h.read hx (by omega) hs
      simpa using this
    · cases h'

theorem Conv.iso {P : Program} {t : TypeId} {α β : Type} {k : Kd α} {wf : α → Prop} (h : Conv P t k wf) (f : β → α) (g : α → β) (hfg : ∀ a, f (g a) = a) : Conv P t (k.iso f) (fun b => wf (f b)) := by
  intro E enc w fuel cs d ps h' ψ H hs
  obtain ⟨ψ', H', us, x, q1, q2, q3, q4, q5, q6⟩ := h E enc w fuel cs d ps h' ψ H hs
  exact ⟨ψ', H', us, g x, q1, q2, q3, q4, by show k.R H' us (f (g x)); rw [hfg]; exact q5, by show wf (f (g x)); rw [hfg]; exact q6⟩

theorem cells?_some {w : World} {base : Nat} {a : Addr} {n : Nat} {l : List Value} (h : w.cells? base a n = some l) : l.length = n ∧ ∀ i, i < n → ∃ v, w.cell? (a.add i) = some v ∧ l[i]? = some v := by
  unfold World.cells? at h
  split at h
  · have gen : ∀ (xs : List Nat) (l : List Value), xs.mapM (fun i => w.cell? (a.add i)) = some l → l.length = xs.length ∧ ∀ (i x : Nat), xs[i]? = some x → ∃ v, w.cell? (a.add x) = some v ∧ l[i]? = some v := by
      intro xs
      induction xs with
      | nil => intro l h; simp at h; subst h; exact ⟨rfl, fun i x hx => by simp at hx⟩
      | cons x xs ih =>
        intro l h
        obtain ⟨b, r', h1, h2, rfl⟩ := mapM_some_cons h
        obtain ⟨q1, q2⟩ := ih r' h2
        refine ⟨by simp [q1], fun i y hy => ?_⟩
        cases i with
        | zero => simp at hy; subst hy; exact ⟨b, h1, by simp⟩
        | succ i => simp at hy; obtain ⟨v, p1, p2⟩ := q2 i y hy; exact ⟨v, p1, by simpa using p2⟩
    obtain ⟨q1, q2⟩ := gen _ _ h
    refine ⟨by simpa using q1, fun i hi => q2 i i (by simp [hi])⟩
  · cases h

theorem mapM_get {α β : Type} {f : α → Option β} : ∀ {l : List α} {r : List β}, l.mapM f = some r → ∀ a ∈ l, ∃ b, f a = some b
  | [], _, _, a, ha => by cases ha
  | x :: l, r, h, a, ha => by
    obtain ⟨b, r', h1, h2, _⟩ := mapM_some_cons h
    rcases List.mem_cons.1 ha with rfl | ha
    · exact ⟨b, h1⟩
    · exact mapM_get h2 a ha

theorem Conv.slice {P : Program} {t e : TypeId} {α : Type} {k : Kd α} {wf : α → Prop} (ht : P.underlying t = some (.slice e)) (he : P.cellsOf e = k.size) (hp : 0 < k.size) (h : Conv P e k wf) :
    Conv P t k.slice (fun xs => ∀ x ∈ xs, wf x) := by
  intro E enc w fuel cs d ps h' ψ H hs
  cases fuel with
  | zero => simp [DataW.trod] at h'
  | succ fuel =>
    unfold DataW.trod at h'
    simp only [ht] at h'
    rcases cs with _ | ⟨v, _ | ⟨u, r⟩⟩
    · simp at h'
    · cases v <;> simp at h'
      rename_i a len cap
      cases a with
      | none =>
        -- nil
        rcases len with _ | len <;> rcases cap with _ | cap <;> simp at h'
        exact ⟨ψ, H, [.slice none 0 0], [], fun _ _ e => e, List.prefix_refl _, hs, .cons .snil .nil, ⟨_, rfl, .inl ⟨rfl, rfl⟩⟩, by simp⟩
      | some a =>
        simp only at h'
        split at h'
        · rename_i hcond
          obtain ⟨hlc, hcm⟩ := hcond
          rw [Option.bind_eq_some_iff] at h'
          obtain ⟨elems, h1, h2⟩ := h'
          simp only [Option.map_eq_some_iff] at h2
          obtain ⟨rest, h3, _⟩ := h2
          rcases Nat.eq_zero_or_pos cap with hc0 | hc0
          · subst hc0
            obtain rfl : len = 0 := by omega
            exact ⟨ψ, H, [.slice none 0 0], [], fun _ _ e => e, List.prefix_refl _, hs, .cons .snilE .nil, ⟨_, rfl, .inl ⟨rfl, rfl⟩⟩, by simp⟩
          · -- all cells up to the capacity are there
            have elem : ∀ i, i < cap → ∃ l x, w.cells? 0 (a.add (i * P.cellsOf e)) (P.cellsOf e) = some l ∧ DataW.trod enc P w 0 (fun _ => true) true fuel e l = some x := by
              intro i hi
              rcases Nat.lt_or_ge i len with q | q
              · obtain ⟨x, hx⟩ := mapM_get h1 i (by simp [q])
                rw [Option.bind_eq_some_iff] at hx
                obtain ⟨l, p1, p2⟩ := hx
                exact ⟨l, x, p1, p2⟩
              · obtain ⟨x, hx⟩ := mapM_get h3 (i - len) (by simp; omega)
                rw [Option.bind_eq_some_iff] at hx
                obtain ⟨l, p1, p2⟩ := hx
                exact ⟨l, x, by rw [show len + (i - len) = i by omega] at p1; exact p1, p2⟩
            rw [he] at elem
            -- the block
            obtain ⟨l0, x0, p0, _⟩ := elem 0 hc0
            obtain ⟨v0, pv, _⟩ := (cells?_some p0).2 0 hp
            have hspot : a.spot = none ∧ ∃ c el fr, w.heap[a.block]? = some (.cells c el fr) := by
              have e0 : (a.add (0 * k.size)).add 0 = a := by simp [Addr.add]
              rw [e0] at pv
              unfold World.cell? at pv
              split at pv
              · rename_i c el fr hcell
                split at pv
                · cases pv
                · rename_i hsp
                  exact ⟨by cases hh : a.spot <;> simp_all, c, el, fr, hcell⟩
              · cases pv
            obtain ⟨hspn, c, el, fr, hcell⟩ := hspot
            obtain ⟨b, off, sp⟩ := a
            simp only at hspn hcell
            subst hspn
            have cell : ∀ i, i < cap → ∃ l x, l = (c.toList.drop (off + i * k.size)).take k.size ∧ off + i * k.size + k.size ≤ c.size ∧ DataW.trod enc P w 0 (fun _ => true) true fuel e l = some x := by
              intro i hi
              obtain ⟨l, x, q1, q2⟩ := elem i hi
              obtain ⟨r1, r2⟩ := cells?_some q1
              have each : ∀ f, f < k.size → ∃ v, c[off + i * k.size + f]? = some v ∧ l[f]? = some v := by
                intro f hf
                obtain ⟨v, s1, s2⟩ := r2 f hf
                rw [Addr.add_eq, Addr.add_eq, cell_of hcell] at s1
                exact ⟨v, s1, s2⟩
              have hle : off + i * k.size + k.size ≤ c.size := by
                obtain ⟨v, s1, _⟩ := each (k.size - 1) (by omega)
                have : off + i * k.size + (k.size - 1) < c.size := by
                  rcases Nat.lt_or_ge (off + i * k.size + (k.size - 1)) c.size with g | g
                  · exact g
                  · simp [Array.getElem?_eq_none g] at s1
                omega
              refine ⟨l, x, ?_, hle, q2⟩
              apply List.ext_getElem?
              intro f
              by_cases hf : f < k.size
              · obtain ⟨v, s1, s2⟩ := each f hf
                rw [s2, List.getElem?_take, if_pos hf, List.getElem?_drop]
                simpa using s1.symm
              · rw [List.getElem?_eq_none (by omega), List.getElem?_take, if_neg hf]
            have hlim : off + cap * k.size ≤ c.size := by
              obtain ⟨_, _, _, q, _⟩ := cell (cap - 1) (by omega)
              have : cap * k.size = (cap - 1) * k.size + k.size := by
                rw [← Nat.succ_mul]; congr 1; omega
              omega
            -- the elements, one by one
            have all : ∀ m, m ≤ len → ∃ ψ' H' us xs, ψ.le ψ' ∧ H <+: H' ∧ Seen0 ψ' H' w ∧ VRs ψ' us ((c.toList.drop off).take (m * k.size)) ∧ k.Rs H' us xs ∧ xs.length = m ∧ ∀ x ∈ xs, wf x := by
              intro m
              induction m with
              | zero => intro _; exact ⟨ψ, H, [], [], fun _ _ e => e, List.prefix_refl _, hs, by simp; exact .nil, .nil, rfl, fun x hx => by cases hx⟩
              | succ m ih =>
                intro hm
                obtain ⟨ψ1, H1, us, xs, a1, a2, a3, a4, a5, a6, a7⟩ := ih (by omega)
                obtain ⟨l, x, rfl, q2, q3⟩ := cell m (by omega)
                obtain ⟨ψ2, H2, u, y, b1, b2, b3, b4, b5, b6⟩ := h E enc w fuel _ x.1 x.2 q3 ψ1 H1 a3
                refine ⟨ψ2, H2, us ++ u, xs ++ [y], fun i L e => b1 i L (a1 i L e), a2.trans b2, b3, ?_, (a5.mono (hle b2)).append (Kd.Rs.one b5), by simp [a6], fun z hz => ?_⟩
                · have : (c.toList.drop off).take ((m + 1) * k.size) = (c.toList.drop off).take (m * k.size) ++ (c.toList.drop (off + m * k.size)).take k.size := by
                    rw [Nat.succ_mul, List.take_add, List.drop_drop]
                  rw [this]; exact (a4.mono b1).append b4
                · rcases List.mem_append.1 hz with hz | hz
                  · exact a7 z hz
                  · rw [List.mem_singleton] at hz; subst hz; exact b6
            obtain ⟨ψ1, H1, us, xs, a1, a2, a3, a4, a5, a6, a7⟩ := all len (Nat.le_refl _)
            have hul := a5.len
            have hlen : len * k.size ≤ cap * k.size := Nat.mul_le_mul_right _ hlc
            have hpl := a3.place (b := b) (o := off) (esz := k.size) (cs := us) hcell (by rw [hul, a6]; omega) (fun i v hv => by
              obtain ⟨v', r1, r2⟩ := a4.get i v hv
              rw [List.getElem?_take] at r1
              split at r1
              · rw [List.getElem?_drop] at r1
                exact ⟨v', by simpa using r1, r2⟩
              · cases r1)
            have hle1 := Emb.put_le (L := ⟨b, off, c.size, k.size⟩) (a3.free H1.length (Nat.le_refl _))
            have hnew : (H1 ++ [⟨el, k.size, us, .ro⟩])[H1.length]? = some (⟨el, k.size, us, .ro⟩ : Blk) := by simp
            refine ⟨_, _, [.slice (some ⟨H1.length, 0, none⟩) xs.length xs.length], xs, fun i L e => hle1 i L (a1 i L e), a2.trans (List.prefix_append _ _), hpl, .cons ?_ .nil,
              ⟨_, rfl, .inr ⟨H1.length, 0, xs.length, _, rfl, ⟨Nat.le_refl _, by have := maxLen_lim; omega⟩, hnew, by simp, rfl, by simp [hul], ?_⟩⟩, a7⟩
            · rw [a6]
              rcases Nat.eq_zero_or_pos len with g | g
              · subst g
                exact .sl0 (j' := off) Emb.put_self (by simpa using hlim)
              · have := VR.sl (ψ := ψ1.put H1.length ⟨b, off, c.size, k.size⟩) (id := H1.length) (j := 0) (L := ⟨b, off, c.size, k.size⟩) (n := len) (c := len) (c' := cap) Emb.put_self g (Nat.le_refl _) hlc (by simpa using hlim)
                simpa using this
            · have : (us.drop 0).take (xs.length * k.size) = us := by simp [List.take_of_length_le, hul]
              simp only
              rw [this]
              exact a5.mono (hle (List.prefix_append _ _))
        · cases h'
    · simp at h'

end Go.Proofs.YtaccaelocddakaaDoor
