/- A part of the proof: no conditions. -/
import Derived.Test.YtaccaelocddakaaDoorI
namespace Go.Proofs.YtaccaelocddakaaDoor
open Go Go.RowKit
set_option linter.unusedVariables false
set_option linter.unusedSectionVars false
variable [Tabs]

theorem WR.down {ψ : Emb} {H Hc : AH} {w : World} (hw : WR ψ Hc w) (h : H <+: Hc) : WR ψ H w := by
  obtain ⟨r, rfl⟩ := h
  have g : ∀ (k : Nat) (B : Blk), H[k]? = some B → (H ++ r)[k]? = some B := by
    intro k B e
    have : k < H.length := by
      rcases Nat.lt_or_ge k H.length with g | g
      · exact g
      · simp [List.getElem?_eq_none g] at e
    rw [List.getElem?_append_left this]; exact e
  refine ⟨hw.blk, fun id L B a b => hw.cells id L B a (g id B b), fun a b La Lb Ba h1 h2 h3 h4 h5 h6 => ?_, fun q vs hv => ?_, hw.fin⟩
  case refine_2 =>
    obtain ⟨r1, r2⟩ := hw.fixed q vs hv
    exact ⟨r1, fun ⟨id', L', B', a1, a2, a3, a4⟩ => r2 ⟨id', L', B', a1, g id' B' a2, a3, a4⟩⟩
  obtain ⟨q1, B2, q2, q3⟩ := hw.inj a b La Lb Ba h1 h2 (g a Ba h3) h4 h5 h6
  have : a < H.length := by
    rcases Nat.lt_or_ge a H.length with g | g
    · exact g
    · simp [List.getElem?_eq_none g] at h3
  rw [List.getElem?_append_left (by omega)] at q2
  exact ⟨q1, B2, q2, q3⟩

theorem get_prefix {H Hc : AH} (h : H <+: Hc) {k : Nat} {B : Blk} (e : H[k]? = some B) : Hc[k]? = some B := by
  obtain ⟨r, rfl⟩ := h
  have : k < H.length := by
    rcases Nat.lt_or_ge k H.length with g | g
    · exact g
    · simp [List.getElem?_eq_none g] at e
  rw [List.getElem?_append_left this]; exact e
theorem get_prefix' {H Hc : AH} (h : H <+: Hc) {k : Nat} {B : Blk} (hk : k < H.length) (e : Hc[k]? = some B) : H[k]? = some B := by
  obtain ⟨r, rfl⟩ := h
  rw [List.getElem?_append_left hk] at e; exact e
theorem lt_of_get {H : AH} {k : Nat} {B : Blk} (e : H[k]? = some B) : k < H.length := by
  rcases Nat.lt_or_ge k H.length with g | g
  · exact g
  · simp [List.getElem?_eq_none g] at e

/-- More heap, of which nothing is placed yet. -/
theorem WR.ext {ψ : Emb} {H H' : AH} {w : World} (hw : WR ψ H w) (h : H <+: H') (hn : ∀ id, H.length ≤ id → id < H'.length → ψ id = none) : WR ψ H' w := by
  have g : ∀ (id : Nat) (L : Loc) (B : Blk), ψ id = some L → H'[id]? = some B → H[id]? = some B := by
    intro id L B a b
    rcases Nat.lt_or_ge id H.length with q | q
    · exact get_prefix' h q b
    · rw [hn id q (lt_of_get b)] at a; cases a
  refine ⟨hw.blk, fun id L B a b => hw.cells id L B a (g id L B a b), fun a b La Lb Ba h1 h2 h3 h4 h5 h6 => ?_, fun q vs hv => ?_, hw.fin⟩
  case refine_2 =>
    obtain ⟨r1, r2⟩ := hw.fixed q vs hv
    exact ⟨r1, fun ⟨id', L', B', a1, a2, a3, a4⟩ => r2 ⟨id', L', B', a1, g id' L' B' a1 a2, a3, a4⟩⟩
  obtain ⟨q1, B2, q2, q3⟩ := hw.inj a b La Lb Ba h1 h2 (g a La Ba h1 h3) h4 h5 h6
  exact ⟨q1, B2, get_prefix h q2, q3⟩
theorem Hot.ext {ψ : Emb} {H H' : AH} (h : H <+: H') (hn : ∀ id, H.length ≤ id → id < H'.length → ψ id = none) {b : Nat} (k : Hot ψ H' b) : Hot ψ H b := by
  obtain ⟨id, L, B, q1, q2, q3, q4⟩ := k
  rcases Nat.lt_or_ge id H.length with q | q
  · exact ⟨id, L, B, q1, get_prefix' h q q2, q3, q4⟩
  · rw [hn id q (lt_of_get q2)] at q1; cases q1

/-- A step made with a smaller heap in sight, seen with a greater one. -/
theorem WR.up {ψ ψ' : Emb} {H H' Hc : AH} {w w' : World} (hw : WR ψ Hc w) (h1 : H <+: Hc) (h2 : H' <+: Hc) (st : Step ψ H w ψ' H' w') (h3 : H.length ≤ H'.length) :
    WR ψ' Hc w' ∧ (∀ b, Hot ψ' Hc b → Hot ψ Hc b ∨ w.heap.size ≤ b) := by
  have hot_up : ∀ b, Hot ψ H b → Hot ψ Hc b := fun b ⟨id, L, B, a1, a2, a3, a4⟩ => ⟨id, L, B, a1, get_prefix h1 a2, a3, a4⟩
  -- a block of a number past the step's is not written
  have far : ∀ (id : Nat) (L : Loc), H'.length ≤ id → ψ' id = some L → ¬ Hot ψ H L.b := by
    rintro id L hid hL ⟨id0, L0, B0, a1, a2, a3, a4⟩
    have hψ : ψ id = some L := by rw [← st.off id (.inr hid)]; exact hL
    have := lt_of_get a2
    obtain ⟨q1, _⟩ := hw.inj id0 id L0 L B0 a1 hψ (get_prefix h1 a2) a3 (by omega) a4
    omega
  have farblk : ∀ (id : Nat) (L : Loc), H'.length ≤ id → ψ' id = some L → w'.heap[L.b]? = w.heap[L.b]? := by
    intro id L hid hL
    have hψ : ψ id = some L := by rw [← st.off id (.inr hid)]; exact hL
    obtain ⟨c, el, fr, g1, g2⟩ := hw.blk id L hψ
    exact st.keep _ (heap_lt g1) (far id L hid hL)
  have farsize : ∀ (id : Nat) (L : Loc), H'.length ≤ id → ψ' id = some L → L.b < w.heap.size := by
    intro id L hid hL
    have hψ : ψ id = some L := by rw [← st.off id (.inr hid)]; exact hL
    obtain ⟨c, el, fr, g1, g2⟩ := hw.blk id L hψ
    exact heap_lt g1
  have hots : ∀ b, Hot ψ' Hc b → Hot ψ Hc b ∨ w.heap.size ≤ b := by
    rintro b ⟨id, L, B, a1, a2, a3, a4⟩
    rcases Nat.lt_or_ge id H'.length with q | q
    · rcases st.hot b ⟨id, L, B, a1, get_prefix' h2 q a2, a3, a4⟩ with g | g
      · exact .inr g
      · exact .inl (hot_up b g)
    · have hψ : ψ id = some L := by rw [← st.off id (.inr q)]; exact a1
      exact .inl ⟨id, L, B, hψ, a2, a3, a4⟩
  refine ⟨⟨st.wr.blk, ?_, ?_, ?_, st.wr.fin⟩, hots⟩
  · intro id L B hL hB
    rcases Nat.lt_or_ge id H'.length with q | q
    · exact st.wr.cells id L B hL (get_prefix' h2 q hB)
    · have hψ : ψ id = some L := by rw [← st.off id (.inr q)]; exact hL
      obtain ⟨g1, g2⟩ := hw.cells id L B hψ hB
      refine ⟨g1, fun hd => ?_⟩
      obtain ⟨c, fr, k1, k2, k3, k4⟩ := g2 hd
      exact ⟨c, fr, by rw [farblk id L q hL]; exact k1, k2, fun i v hv => by obtain ⟨v', r1, r2⟩ := k3 i v hv; exact ⟨v', r1, r2.mono st.le⟩, k4⟩
  · intro a b La Lb Ba ha hb hBa hst hne hbb
    rcases Nat.lt_or_ge a H'.length with qa | qa
    · rcases Nat.lt_or_ge b H'.length with qb | qb
      · obtain ⟨q1, B2, q2, q3⟩ := st.wr.inj a b La Lb Ba ha hb (get_prefix' h2 qa hBa) hst hne hbb
        exact ⟨q1, B2, get_prefix h2 q2, q3⟩
      · exfalso
        have hhot : Hot ψ' H' La.b := ⟨a, La, Ba, ha, get_prefix' h2 qa hBa, hst, rfl⟩
        have hf := far b Lb qb hb
        have hs := farsize b Lb qb hb
        rcases st.hot _ hhot with g | g
        · omega
        · rw [hbb] at g; exact hf g
    · have hψa : ψ a = some La := by rw [← st.off a (.inr qa)]; exact ha
      rcases Nat.lt_or_ge b H'.length with qb | qb
      · rcases Nat.lt_or_ge b H.length with qb2 | qb2
        · have hψb : ψ b = some Lb := by rw [← st.off b (.inl qb2)]; exact hb
          exact hw.inj a b La Lb Ba hψa hψb hBa hst hne hbb
        · exfalso
          have hs := farsize a La qa ha
          rcases st.new b Lb qb2 qb hb with g | g
          · omega
          · exact far a La qa ha (hbb ▸ g)
      · have hψb : ψ b = some Lb := by rw [← st.off b (.inr qb)]; exact hb
        exact hw.inj a b La Lb Ba hψa hψb hBa hst hne hbb
  · intro q vs hv
    obtain ⟨⟨c, el, fr, r1, r2⟩, r3⟩ := hw.fixed q vs hv
    have hq := heap_lt r1
    exact ⟨⟨c, el, fr, by rw [st.keep _ hq (fun hh => r3 (hot_up q hh))]; exact r1, r2⟩, fun hh => (hots q hh).elim r3 (fun e => by omega)⟩

/-- What must stand ahead whatever the order is. -/
def aft (o : Oper) : List Edge := o.after.toList.filter fun e => Region.binds .any e
/-- Whatever must stand ahead, as bits. -/
def bits (acc : List Nat) (es : List Edge) : Nat := es.foldl (fun s e => s ||| 2 ^ e.on ||| acc.getD e.on 0) 0
def befGo : List Oper → List Nat → List Nat
  | [], acc => acc
  | o :: r, acc => befGo r (acc ++ [bits acc (aft o)])
def bef (ops : Array Oper) : List Nat := befGo ops.toList []

theorem bits_sound (acc : List Nat) : ∀ (es : List Edge) (s : Nat) (j : Nat), (es.foldl (fun s e => s ||| 2 ^ e.on ||| acc.getD e.on 0) s).testBit j = true → s.testBit j = true ∨ ∃ e ∈ es, e.on = j ∨ (acc.getD e.on 0).testBit j = true := by
  intro es
  induction es with
  | nil => intro s j h; exact .inl h
  | cons e es ih =>
    intro s j h
    simp only [List.foldl_cons] at h
    rcases ih _ _ h with g | ⟨e', m, g⟩
    · rw [Nat.testBit_or, Nat.testBit_or, Bool.or_eq_true, Bool.or_eq_true] at g
      rcases g with (g | g) | g
      · exact .inl g
      · right; refine ⟨e, by simp, .inl ?_⟩
        rw [Nat.testBit_two_pow] at g; simpa using g
      · right; exact ⟨e, by simp, .inr g⟩
    · right; exact ⟨e', by simp [m], g⟩

/-- What closes under the edges closes under the bits. -/
theorem befGo_closed (S : Nat → Prop) (ops : Array Oper) (hS : ∀ i o, ops[i]? = some o → S i → ∀ e ∈ (aft o), S e.on) :
    ∀ (rest : List Oper) (acc : List Nat), (∀ k, rest[k]? = ops[acc.length + k]?) → (∀ i, S i → ∀ j, (acc.getD i 0).testBit j = true → S j) →
      ∀ i, S i → ∀ j, ((befGo rest acc).getD i 0).testBit j = true → S j := by
  intro rest
  induction rest with
  | nil => intro acc _ h; exact h
  | cons o rest ih =>
    intro acc hk h
    refine ih (acc ++ [bits acc (aft o)]) (fun k => by have := hk (k + 1); simp at this ⊢; rw [this]; congr 1; omega) ?_
    intro i hi j hj
    rcases Nat.lt_trichotomy i acc.length with q | q | q
    · have hg : (acc ++ [bits acc (aft o)]).getD i 0 = acc.getD i 0 := by simp [List.getD, List.getElem?_append_left q]
      rw [hg] at hj; exact h i hi j hj
    · subst q
      have : (acc ++ [bits acc (aft o)]).getD acc.length 0 = bits acc (aft o) := by simp [List.getD]
      rw [this] at hj
      have ho : ops[acc.length]? = some o := by have := hk 0; simp at this; exact this.symm
      rcases bits_sound acc _ _ _ hj with g | ⟨e, m, g | g⟩
      · simp at g
      · exact g ▸ hS _ o ho hi e m
      · exact h _ (hS _ o ho hi e m) j g
    · have : (acc ++ [bits acc (aft o)]).getD i 0 = 0 := by simp [List.getD]; rw [List.getElem?_eq_none (by simp; omega)]; rfl
      rw [this] at hj; simp at hj

theorem bef_closed {S : Nat → Prop} {ops : Array Oper} (hS : ∀ i o, ops[i]? = some o → S i → ∀ e ∈ (aft o), S e.on) {i j : Nat} (hi : S i) (hj : ((bef ops).getD i 0).testBit j = true) : S j :=
  befGo_closed S ops hS ops.toList [] (fun k => by simp) (fun i _ j hj => by simp at hj) i hi j hj

/-- The look at a region that draws its order: which operations may be apart. -/
def drawOk (ops : Array Oper) (sps : List Bool) : Bool :=
  let dep := Region.departs ops
  let l := bif dep then Region.linearise .gc ops 0 else []
  let b := bef ops
  ops.toList.zipIdx.all fun (o, i) =>
    o.after.toList.all (fun e => decide (e.on < ops.size) && (!Region.binds .text e || decide (e.on < i)) && (!dep || !Region.binds .gc e || decide (l.idxOf e.on < l.idxOf i))) &&
    ops.toList.zipIdx.all fun (q, j) =>
      (i == j || match o.dst, q.dst with | some s, some t => s != t | _, _ => true) &&
      (match q.dst with
       | some t => !(o.looksAt ops).contains t || i == j || (decide (j < i) && (b.getD i 0).testBit j) || (decide (i < j) && (b.getD j 0).testBit i)
       | none => true) &&
      (!(sps.getD i false) || inertOp o.op || i == j || inertOp q.op || (if j < i then (b.getD i 0).testBit j else (b.getD j 0).testBit i))

theorem binds_text {e : Edge} (h : Region.binds .any e = true) : Region.binds .text e = true := by
  unfold Region.binds at *; split <;> simp_all
theorem binds_gc {e : Edge} (h : Region.binds .any e = true) : Region.binds .gc e = true := by
  unfold Region.binds at *; split <;> simp_all

structure DrawOk (ops : Array Oper) (sps : List Bool) : Prop where
  edge : ∀ (i : Nat) (o : Oper), ops[i]? = some o → ∀ e ∈ o.after.toList, e.on < ops.size ∧ (Region.binds .text e = true → e.on < i)
  gc : Region.departs ops = true → ∃ ρ : Nat → Nat, ∀ (i : Nat) (o : Oper), ops[i]? = some o → ∀ e ∈ o.after.toList, Region.binds .gc e = true → ρ e.on < ρ i
  dst : ∀ (i j : Nat) (o q : Oper) (t : Nat), ops[i]? = some o → ops[j]? = some q → i ≠ j → o.dst = some t → q.dst = some t → False
  look : ∀ (i j : Nat) (o q : Oper) (t : Nat), ops[i]? = some o → ops[j]? = some q → q.dst = some t → t ∈ o.looksAt ops → i = j ∨ (j < i ∧ ((bef ops).getD i 0).testBit j = true) ∨ (i < j ∧ ((bef ops).getD j 0).testBit i = true)
  spec : ∀ (i j : Nat) (o q : Oper), ops[i]? = some o → ops[j]? = some q → sps.getD i false = true → inertOp o.op = false → i ≠ j → inertOp q.op = false →
    (j < i → ((bef ops).getD i 0).testBit j = true) ∧ (i < j → ((bef ops).getD j 0).testBit i = true)

theorem DrawOk.of {ops : Array Oper} {sps : List Bool} (h : drawOk ops sps = true) : DrawOk ops sps := by
  simp only [drawOk, Bool.and_eq_true, List.all_eq_true] at h
  have h2 := h
  have mem : ∀ (i : Nat) (o : Oper), ops[i]? = some o → (o, i) ∈ ops.toList.zipIdx := by
    intro i o ho
    rw [List.mem_zipIdx_iff_getElem?]; simpa using ho
  refine ⟨?_, ?_, ?_, ?_, ?_⟩
  · intro i o ho e he
    have := ((h2 _ (mem i o ho)).1 e he).1
    refine ⟨of_decide_eq_true this.1, fun hb => ?_⟩
    have h3 := this.2
    rw [hb] at h3; simpa using h3
  · intro hdep
    refine ⟨fun k => (Region.linearise .gc ops 0).idxOf k, fun i o ho e he hb => ?_⟩
    have h3 := ((h2 _ (mem i o ho)).1 e he).2
    rw [hdep, hb] at h3; simpa using h3
  · intro i j o q t ho hq hne e1 e2
    have := ((h2 _ (mem i o ho)).2 _ (mem j q hq)).1.1
    simp [e1, e2, hne] at this
  · intro i j o q t ho hq e1 e2
    have := ((h2 _ (mem i o ho)).2 _ (mem j q hq)).1.2
    simp [e1, e2] at this
    rcases this with (g | g) | g
    · exact .inl g
    · exact .inr (.inl g)
    · exact .inr (.inr g)
  · intro i j o q ho hq hs h3 hne h4
    have := ((h2 _ (mem i o ho)).2 _ (mem j q hq)).2
    simp only [hs, h3, h4, Bool.or_eq_true, Bool.not_true, Bool.false_eq_true, false_or, beq_iff_eq, hne] at this
    constructor
    · intro hlt; rw [if_pos hlt] at this; exact this
    · intro hlt; rw [if_neg (by omega)] at this; exact this

/-- What a run along the text shows of each operation. -/
structure Trace (P : Program) (ops : Array Oper) (sps : List Bool) where
  G : Nat → GF
  H : Nat → AH
  g : Nat → Bool
  v : Nat → Value
  guard : ∀ (i : Nat) (o : Oper), ops[i]? = some o → guardVal ops (G i) o = some (g i)
  rg : ∀ (i : Nat) (o : Oper), ops[i]? = some o → Rg P (sps.getD i false) o (G i) (H i) (g i) (v i) (H (i + 1))
  next : ∀ (i : Nat) (o : Oper), ops[i]? = some o → G (i + 1) = (G i).put o.dst (g i, v i)

theorem trace_gen {P : Program} {ops : Array Oper} {K : GF → AH → Prop} : ∀ (rest : List Oper) (s : Nat) (sps : List Bool) (G : GF) (H : AH), (∀ k, rest[k]? = ops[s + k]?) → s + rest.length = ops.size → regVC P ops rest sps G H K →
    ∃ f : Nat → GF × AH × Bool × Value, (f s).1 = G ∧ (f s).2.1 = H ∧ K (f ops.size).1 (f ops.size).2.1 ∧ ∀ i o, s ≤ i → ops[i]? = some o →
      guardVal ops (f i).1 o = some (f i).2.2.1 ∧ Rg P (sps.getD (i - s) false) o (f i).1 (f i).2.1 (f i).2.2.1 (f i).2.2.2 (f (i + 1)).2.1 ∧ (f (i + 1)).1 = (f i).1.put o.dst ((f i).2.2.1, (f i).2.2.2) := by
  intro rest
  induction rest with
  | nil =>
    intro s sps G H hk hs h
    refine ⟨fun _ => (G, H, false, undef), rfl, rfl, h, fun i o hi ho => ?_⟩
    have : i < ops.size := by
      rcases Nat.lt_or_ge i ops.size with q | q
      · exact q
      · simp [Array.getElem?_eq_none q] at ho
    simp at hs; omega
  | cons o rest ih =>
    intro s sps G H hk hs h
    obtain ⟨g, v, H1, h1, h2, h3⟩ := h
    obtain ⟨f, f1, f2, f3, f4⟩ := ih (s + 1) sps.tail (G.put o.dst (g, v)) H1 (fun k => by have := hk (k + 1); simp at this; rw [this]; congr 1; omega) (by simp at hs; omega) h3
    have hoi : ops[s]? = some o := by have := hk 0; simp at this; exact this.symm
    have hns : ops.size ≠ s := by simp at hs; omega
    refine ⟨fun i => if i = s then (G, H, g, v) else f i, by simp, by simp, by simp only [if_neg hns]; exact f3, fun i q hi hq => ?_⟩
    by_cases e : i = s
    · subst e
      rw [hoi] at hq; cases hq
      have hne : i + 1 ≠ i := by omega
      simp only [if_true, hne, if_false, Nat.sub_self]
      refine ⟨h1, ?_, f1⟩
      rw [f2]
      have : sps.getD 0 false = sps.headD false := by cases sps <;> rfl
      rw [this]; exact h2
    · have e1 : i + 1 ≠ s := by omega
      simp only [e, e1, if_false]
      have := f4 i q (by omega) hq
      have e2 : sps.tail.getD (i - (s + 1)) false = sps.getD (i - s) false := by
        obtain ⟨d, hd⟩ : ∃ d, i - s = d + 1 := ⟨i - s - 1, by omega⟩
        rw [hd, show i - (s + 1) = d by omega]
        cases sps <;> simp [List.getD]
      rw [e2] at this
      exact this

theorem trace_of {P : Program} {ops : Array Oper} {K : GF → AH → Prop} {sps : List Bool} {G : GF} {H : AH} (h : regVC P ops ops.toList sps G H K) :
    ∃ tr : Trace P ops sps, tr.G 0 = G ∧ tr.H 0 = H ∧ K (tr.G ops.size) (tr.H ops.size) := by
  obtain ⟨f, f1, f2, f3, f4⟩ := trace_gen ops.toList 0 sps G H (fun k => by simp) (by simp) h
  exact ⟨⟨fun i => (f i).1, fun i => (f i).2.1, fun i => (f i).2.2.1, fun i => (f i).2.2.2, fun i o ho => (f4 i o (by omega) ho).1, fun i o ho => (f4 i o (by omega) ho).2.1, fun i o ho => (f4 i o (by omega) ho).2.2⟩, f1, f2, f3⟩

section
variable {P : Program} {ops : Array Oper} {sps : List Bool} (tr : Trace P ops sps)

theorem get_some {i : Nat} (h : i < ops.size) : ∃ o, ops[i]? = some o := ⟨ops[i], by simp [h]⟩
theorem lt_of_ops {i : Nat} {o : Oper} (h : ops[i]? = some o) : i < ops.size := by
  rcases Nat.lt_or_ge i ops.size with q | q
  · exact q
  · simp [Array.getElem?_eq_none q] at h

def special (ops : Array Oper) (sps : List Bool) (i : Nat) : Prop := sps.getD i false = true ∧ ∃ o, ops[i]? = some o ∧ inertOp o.op = false

/-- An operation that is not special only makes the heap longer. -/
theorem Trace.step_prefix {i : Nat} (hi : i < ops.size) (hs : ¬ special ops sps i) : tr.H i <+: tr.H (i + 1) := by
  obtain ⟨o, ho⟩ := get_some hi
  have h := tr.rg i o ho
  cases hg : tr.g i with
  | false => rw [h.2.1 hg]; exact List.prefix_refl _
  | true =>
    obtain ⟨h1, h2, h3⟩ := h.1 hg
    cases hin : inertOp o.op with
    | true => rw [(h3 hin).1]; exact List.prefix_refl _
    | false =>
      rcases h2 with h2 | h2
      · exact absurd ⟨h2, o, ho, hin⟩ hs
      · exact h2

theorem Trace.prefix {i j : Nat} (hij : i ≤ j) (hj : j ≤ ops.size) (hs : ∀ k, i ≤ k → k < j → ¬ special ops sps k) : tr.H i <+: tr.H j := by
  induction j with
  | zero => obtain rfl : i = 0 := by omega
            exact List.prefix_refl _
  | succ j ih =>
    rcases Nat.lt_or_ge i (j + 1) with q | q
    · exact (ih (by omega) (by omega) (fun k a b => hs k a (by omega))).trans (tr.step_prefix (by omega) (hs j (by omega) (by omega)))
    · obtain rfl : i = j + 1 := by omega
      exact List.prefix_refl _

theorem Trace.len_step {i : Nat} (hi : i < ops.size) : (tr.H i).length ≤ (tr.H (i + 1)).length := by
  obtain ⟨o, ho⟩ := get_some hi
  have h := tr.rg i o ho
  cases hg : tr.g i with
  | false => rw [h.2.1 hg]; exact Nat.le_refl _
  | true => exact (h.1 hg).1.1
theorem Trace.len_mono {i j : Nat} (hij : i ≤ j) (hj : j ≤ ops.size) : (tr.H i).length ≤ (tr.H j).length := by
  induction j with
  | zero => obtain rfl : i = 0 := by omega
            exact Nat.le_refl _
  | succ j ih =>
    rcases Nat.lt_or_ge i (j + 1) with q | q
    · exact Nat.le_trans (ih (by omega) (by omega)) (tr.len_step (by omega))
    · obtain rfl : i = j + 1 := by omega
      exact Nat.le_refl _

/-- What the frame along the text knows of a slot: by who wrote it. -/
theorem Trace.get_written (ok : DrawOk ops sps) {i j : Nat} {o : Oper} {t : Nat} (hj : ops[j]? = some o) (ht : o.dst = some t) (hji : j < i) (hi : i ≤ ops.size) : (tr.G i).get t = some (tr.g j, tr.v j) := by
  induction i with
  | zero => omega
  | succ i ih =>
    obtain ⟨q, hq⟩ := get_some (ops := ops) (i := i) (by omega)
    rw [tr.next i q hq]
    by_cases e : j = i
    · subst e; rw [hj] at hq; cases hq; simp [GF.put, ht, GF.get]
    · have h1 := ih (by omega) (by omega)
      cases hd : q.dst with
      | none => simpa [GF.put] using h1
      | some s =>
        have hst : t ≠ s := by rintro rfl; exact ok.dst j i o q t hj hq e ht hd
        have : (t == s) = false := by simpa using hst
        simp only [GF.put, GF.get, List.lookup_cons, this]
        exact h1
theorem Trace.get_unwritten {i : Nat} {t : Nat} (hi : i ≤ ops.size) (h : ∀ j o, j < i → ops[j]? = some o → o.dst ≠ some t) : (tr.G i).get t = (tr.G 0).get t := by
  induction i with
  | zero => rfl
  | succ i ih =>
    obtain ⟨q, hq⟩ := get_some (ops := ops) (i := i) (by omega)
    rw [tr.next i q hq]
    have h1 := ih (by omega) (fun j o a b => h j o (by omega) b)
    cases hd : q.dst with
    | none => simpa [GF.put] using h1
    | some s =>
      have hst : t ≠ s := by rintro rfl; exact h i q (by omega) hq hd
      have : (t == s) = false := by simpa using hst
      simp only [GF.put, GF.get, List.lookup_cons, this]
      exact h1

theorem Trace.n_eq {i : Nat} (hi : i ≤ ops.size) : (tr.G i).n = (tr.G 0).n := by
  induction i with
  | zero => rfl
  | succ i ih =>
    obtain ⟨q, hq⟩ := get_some (ops := ops) (i := i) (by omega)
    rw [tr.next i q hq, ← ih (by omega)]
    cases q.dst <;> rfl

/-- What holds while the operations come up in an order of their own. -/
structure Mid (ψ0 : Emb) (w0 : World) (S : Nat → Prop) (ψ : Emb) (a : Act) (w : World) (c : Nat) : Prop where
  closed : ∀ (i : Nat) (o : Oper), ops[i]? = some o → S i → ∀ e ∈ (aft o), S e.on
  defers : a.defers = []
  size : (tr.G 0).n ≤ a.tmps.size
  done : ∀ (i : Nat) (o : Oper) (t : Nat), ops[i]? = some o → S i → o.dst = some t → Rel ψ (tr.g i, tr.v i) a.tmps[t]?
  old : ∀ (t : Nat) (e : Bool × Value), (∀ (i : Nat) (o : Oper), ops[i]? = some o → S i → o.dst ≠ some t) → (tr.G 0).get t = some e → Rel ψ e a.tmps[t]?
  cle : c ≤ ops.size
  before : ∀ k, k < c → special ops sps k → S k
  atc : c < ops.size → special ops sps c ∧ ¬ S c
  wr : WR ψ (tr.H c) w
  le : ψ0.le ψ
  off : ∀ id, (id < (tr.H 0).length ∨ (tr.H ops.size).length ≤ id) → ψ id = ψ0 id
  fresh : ∀ i, i < ops.size → ¬ S i → ∀ id, (tr.H i).length ≤ id → id < (tr.H (i + 1)).length → ψ id = none
  hsize : w0.heap.size ≤ w.heap.size
  os : w.os = w0.os
  tape : w.tape = w0.tape
  output : w.output = w0.output
  keep : ∀ b, b < w0.heap.size → ¬ Hot ψ0 (tr.H 0) b → w.heap[b]? = w0.heap[b]?
  new : ∀ id L, (tr.H 0).length ≤ id → id < (tr.H ops.size).length → ψ id = some L → w0.heap.size ≤ L.b ∨ Hot ψ0 (tr.H 0) L.b
  hot : ∀ b, Hot ψ (tr.H c) b → w0.heap.size ≤ b ∨ Hot ψ0 (tr.H 0) b

/-- The slot that an operation looks at, as it stands, is as it stood along the text. -/
theorem Mid.looked (ok : DrawOk ops sps) {ψ0 ψ : Emb} {w0 w : World} {S : Nat → Prop} {a : Act} {c : Nat} (m : Mid tr ψ0 w0 S ψ a w c) {i : Nat} {o : Oper} (ho : ops[i]? = some o) (hn : ¬ S i) (hr : ∀ e ∈ (aft o), S e.on)
    {t : Nat} (ht : t ∈ o.looksAt ops) {e : Bool × Value} (he : (tr.G i).get t = some e) : Rel ψ e a.tmps[t]? := by
  have hi := lt_of_ops ho
  -- the set with i put in is closed, too
  let S' : Nat → Prop := fun k => S k ∨ k = i
  have hS' : ∀ k q, ops[k]? = some q → S' k → ∀ e ∈ (aft q), S' e.on := by
    rintro k q hq (h | rfl) e he
    · exact .inl (m.closed k q hq h e he)
    · rw [ho] at hq; cases hq; exact .inl (hr e he)
  by_cases hw : ∃ j q, j < i ∧ ops[j]? = some q ∧ q.dst = some t
  · obtain ⟨j, q, hj, hq, hd⟩ := hw
    rw [tr.get_written ok hq hd hj (by omega)] at he
    cases he
    rcases ok.look i j o q t ho hq hd ht with g | ⟨_, g⟩ | ⟨g, _⟩
    · omega
    · have : S' j := bef_closed hS' (i := i) (.inr rfl) g
      rcases this with h | h
      · exact m.done j q t hq h hd
      · omega
    · omega
  · have hw' : ∀ j q, j < i → ops[j]? = some q → q.dst ≠ some t := fun j q a b c => hw ⟨j, q, a, b, c⟩
    rw [tr.get_unwritten (by omega) hw'] at he
    refine m.old t e (fun j q hq hS hd => ?_) he
    have hji : ¬ j < i := fun h => hw' j q h hq hd
    rcases ok.look i j o q t ho hq hd ht with g | ⟨g, _⟩ | ⟨_, g⟩
    · subst g; exact hn hS
    · exact hji g
    · exact hn (bef_closed m.closed hS g)

theorem Mid.orel (ok : DrawOk ops sps) {ψ0 ψ : Emb} {w0 w : World} {S : Nat → Prop} {a : Act} {c : Nat} (m : Mid tr ψ0 w0 S ψ a w c) {i : Nat} {o : Oper} (ho : ops[i]? = some o) (hn : ¬ S i) (hr : ∀ e ∈ (aft o), S e.on) :
    ORel ψ (tr.G i).ev a o := by
  intro x hx u hu
  cases x with
  | tmp t =>
    have hl : t ∈ o.looksAt ops := List.mem_append_left _ (List.mem_filterMap.2 ⟨.tmp t, by simpa using hx, rfl⟩)
    obtain ⟨v', h1, h2⟩ := (m.looked tr ok ho hn hr hl (ev_tmp hu)).ev rfl rfl
    simpa [Act.eval, h1] using h2
  | const v => exact ev_const hu
  | func f => simp [GF.ev] at hu; subst hu; exact .func .nil .nil
  | global g => simp [GF.ev] at hu

theorem Mid.wanted (ok : DrawOk ops sps) {ψ0 ψ : Emb} {w0 w : World} {S : Nat → Prop} {a : Act} {c : Nat} (m : Mid tr ψ0 w0 S ψ a w c) {i : Nat} {o : Oper} (ho : ops[i]? = some o) (hn : ¬ S i) (hr : ∀ e ∈ (aft o), S e.on) :
    Region.wanted o (yielded ops a.tmps) = tr.g i := by
  have hg := tr.guard i o ho
  unfold guardVal at hg
  cases hgd : o.guard with
  | none => rw [hgd] at hg; simp at hg; rw [hg]; simp [Region.wanted, hgd]
  | some jw =>
    obtain ⟨j, want⟩ := jw
    rw [hgd] at hg
    simp only at hg
    cases hd : (ops[j]?).bind (·.dst) with
    | none => rw [hd] at hg; cases hg
    | some t =>
      rw [hd] at hg
      simp only at hg
      split at hg
      · rename_i gj b hG
        simp only [Option.some.injEq] at hg
        have hl : t ∈ o.looksAt ops := List.mem_append_right _ (by rw [hgd]; simp [hd])
        rw [wanted_of hgd hd (m.looked tr ok ho hn hr hl hG), hg]
      · cases hg

/-- The next special operation that has not come up. -/
theorem next_special (S : Nat → Prop) (c : Nat) (hc : c ≤ ops.size) (h : ∀ k, k < c → special ops sps k → S k) :
    ∃ c', c ≤ c' ∧ c' ≤ ops.size ∧ (∀ k, k < c' → special ops sps k → S k) ∧ (c' < ops.size → special ops sps c' ∧ ¬ S c') ∧ (∀ k, c ≤ k → k < c' → special ops sps k → S k) := by
  obtain ⟨d, hd⟩ : ∃ d, ops.size = c + d := ⟨ops.size - c, by omega⟩
  induction d generalizing c with
  | zero => exact ⟨c, Nat.le_refl _, hc, h, fun q => by omega, fun k a b => by omega⟩
  | succ d ih =>
    by_cases hs : special ops sps c ∧ ¬ S c
    · exact ⟨c, Nat.le_refl _, hc, h, fun _ => hs, fun k a b => by omega⟩
    · have h' : ∀ k, k < c + 1 → special ops sps k → S k := by
        intro k hk hsp
        rcases Nat.lt_or_ge k c with q | q
        · exact h k q hsp
        · obtain rfl : k = c := by omega
          exact Classical.byContradiction fun hn => hs ⟨hsp, hn⟩
      obtain ⟨c', a1, a2, a3, a4, a5⟩ := ih (c + 1) (by omega) h' (by omega)
      refine ⟨c', by omega, a2, a3, a4, fun k p q hsp => a3 k q hsp⟩

/-- One operation comes up. -/
theorem Mid.step (ok : DrawOk ops sps) {ψ0 ψ : Emb} {w0 w : World} {S : Nat → Prop} {a : Act} {c : Nat} (m : Mid tr ψ0 w0 S ψ a w c) {i : Nat} {o : Oper} (ho : ops[i]? = some o) (hn : ¬ S i) (hr : ∀ e ∈ (aft o), S e.on)
    {K : Act → World → Prop} {Q : Exit → Act → World → Prop} (hK : ∀ ψ' a' w' c', Mid tr ψ0 w0 (fun k => S k ∨ k = i) ψ' a' w' c' → K a' w') : wpOp P ops Q i K a w := by
  have hi := lt_of_ops ho
  have hwant := m.wanted tr ok ho hn hr
  have horel := m.orel tr ok ho hn hr
  have hrg := tr.rg i o ho
  let S' : Nat → Prop := fun k => S k ∨ k = i
  have hclosed : ∀ k q, ops[k]? = some q → S' k → ∀ e ∈ (aft q), S' e.on := by
    rintro k q hq (h | rfl) e he
    · exact .inl (m.closed k q hq h e he)
    · rw [ho] at hq; cases hq; exact .inl (hr e he)
  have hdst : ∀ d, o.dst = some d → d < a.tmps.size := fun d hd => by
    have h1 := hrg.2.2 d hd
    have h2 := tr.n_eq (i := i) (by omega)
    have h3 := m.size
    rw [h2] at h1
    exact Nat.lt_of_lt_of_le h1 h3
  -- the frame behind it
  have frame : ∀ (ψ' : Emb) (v' : Value), ψ.le ψ' → Rel ψ' (tr.g i, tr.v i) (some v') →
      (a.put o.dst v').defers = [] ∧ (tr.G 0).n ≤ (a.put o.dst v').tmps.size ∧
      (∀ (k : Nat) (q : Oper) (t : Nat), ops[k]? = some q → S' k → q.dst = some t → Rel ψ' (tr.g k, tr.v k) (a.put o.dst v').tmps[t]?) ∧
      (∀ (t : Nat) (e : Bool × Value), (∀ (k : Nat) (q : Oper), ops[k]? = some q → S' k → q.dst ≠ some t) → (tr.G 0).get t = some e → Rel ψ' e (a.put o.dst v').tmps[t]?) := by
    intro ψ' v' hle hrel
    have other : ∀ t, o.dst ≠ some t → (a.put o.dst v').tmps[t]? = a.tmps[t]? := by
      intro t ht
      cases hd : o.dst with
      | none => rfl
      | some d =>
        have : d ≠ t := fun e => ht (by rw [hd, e])
        simp only [Act.put]; rw [Array.getElem?_setIfInBounds_ne this]
    refine ⟨?_, ?_, ?_, ?_⟩
    · cases o.dst <;> exact m.defers
    · have := m.size
      cases o.dst <;> simpa [Act.put] using this
    · intro k q t hq hS hd
      by_cases e : k = i
      · subst e; rw [ho] at hq; cases hq
        have : (a.put o.dst v').tmps[t]? = some v' := by rw [hd]; simp only [Act.put]; rw [Array.getElem?_setIfInBounds_self_of_lt (hdst t hd)]
        rw [this]; exact hrel
      · have hSk : S k := hS.resolve_right e
        rw [other t (fun h => ok.dst k i q o t hq ho e hd h)]
        exact (m.done k q t hq hSk hd).mono hle
    · intro t e hun he
      have hoi : o.dst ≠ some t := hun i o ho (.inr rfl)
      rw [other t hoi]
      exact (m.old t e (fun k q hq hS => hun k q hq (.inl hS)) he).mono hle
  -- nothing turns but the frame
  have same : tr.H (i + 1) = tr.H i → ∀ (v' : Value), Rel ψ (tr.g i, tr.v i) (some v') → K (a.put o.dst v') w := by
    intro hH v' hrel
    obtain ⟨f1, f2, f3, f4⟩ := frame ψ v' (fun _ _ e => e) hrel
    obtain ⟨c', a1, a2, a3, a4, a5⟩ := next_special (sps := sps) S' c m.cle (fun k p q => .inl (m.before k p q))
    -- from c to c' nothing special is left but i itself
    have hpre : tr.H c <+: tr.H c' := by
      have gen : ∀ d, c + d ≤ c' → tr.H c <+: tr.H (c + d) := by
        intro d
        induction d with
        | zero => intro _; exact List.prefix_refl _
        | succ d ih =>
          intro hd
          refine (ih (by omega)).trans ?_
          by_cases hsp : special ops sps (c + d)
          · have : S' (c + d) := a5 _ (by omega) (by omega) hsp
            rcases this with h | h
            · -- it had come up: c is special, not come up, and stands ahead of it
              exfalso
              rcases Nat.eq_zero_or_pos d with hd0 | hd0
              · subst hd0; exact (m.atc (by omega)).2 h
              · obtain ⟨hsc, hnc⟩ := m.atc (by omega)
                obtain ⟨s1, qc, hqc, hic⟩ := hsc
                obtain ⟨s2, qd, hqd, hid⟩ := hsp
                have := (ok.spec (c + d) c qd qc hqd hqc s2 hid (by omega) hic).1 (by omega)
                exact hnc (bef_closed m.closed h this)
            · rw [show c + (d + 1) = (c + d) + 1 by omega, h, hH]; exact List.prefix_refl _
          · rw [show c + (d + 1) = (c + d) + 1 by omega]; exact tr.step_prefix (by omega) hsp
      have := gen (c' - c) (by omega)
      rw [show c + (c' - c) = c' by omega] at this; exact this
    have hnone : ∀ id, (tr.H c).length ≤ id → id < (tr.H c').length → ψ id = none := by
      have gen : ∀ d, c + d ≤ c' → ∀ id, (tr.H c).length ≤ id → id < (tr.H (c + d)).length → ψ id = none := by
        intro d
        induction d with
        | zero => intro _ id p q; simp at q; omega
        | succ d ih =>
          intro hd id p q
          rcases Nat.lt_or_ge id (tr.H (c + d)).length with g | g
          · exact ih (by omega) id p g
          · by_cases hS : S (c + d)
            · -- what had come up past c is inert: the heap did not turn
              obtain ⟨qd, hqd⟩ := get_some (ops := ops) (i := c + d) (by omega)
              cases hin : inertOp qd.op with
              | true =>
                have hrg2 := tr.rg _ _ hqd
                have : tr.H (c + d + 1) = tr.H (c + d) := by
                  cases hgg : tr.g (c + d) with
                  | false => exact hrg2.2.1 hgg
                  | true => exact ((hrg2.1 hgg).2.2 hin).1
                rw [show c + (d + 1) = c + d + 1 by omega, this] at q; omega
              | false =>
                exfalso
                rcases Nat.eq_zero_or_pos d with hd0 | hd0
                · subst hd0; exact (m.atc (by omega)).2 hS
                · obtain ⟨hsc, hnc⟩ := m.atc (by omega)
                  obtain ⟨s1, qc, hqc, hic⟩ := hsc
                  have := (ok.spec c (c + d) qc qd hqc hqd s1 hic (by omega) hin).2 (by omega)
                  exact hnc (bef_closed m.closed hS this)
            · exact m.fresh (c + d) (by omega) hS id g (by rw [show c + d + 1 = c + (d + 1) by omega]; exact q)
      have := gen (c' - c) (by omega)
      rw [show c + (c' - c) = c' by omega] at this; exact this
    refine hK ψ _ w c' ⟨hclosed, f1, f2, f3, f4, a2, a3, a4, m.wr.ext hpre hnone, m.le, m.off, fun k hk hS => m.fresh k hk (fun h => hS (.inl h)), m.hsize, m.os, m.tape, m.output, m.keep, m.new, fun b hb => m.hot b (hb.ext hpre hnone)⟩
  unfold wpOp
  simp only [ho, hwant]
  cases hg : tr.g i with
  | false =>
    simp only [Bool.false_eq_true, if_false]
    exact same (hrg.2.1 hg) undef (by simp [Rel, hg])
  | true =>
    simp only [if_true]
    obtain ⟨h1, h2, h3⟩ := hrg.1 hg
    cases hin : inertOp o.op with
    | true =>
      obtain ⟨e1, e2⟩ := h3 hin
      obtain ⟨v', q1, q2⟩ := e2 ψ a.eval horel
      exact .inl (wp_value (q2 w) (same e1 v' (by simp [Rel, hg]; exact q1)))
    | false =>
      refine .inl ?_
      -- how it stands to the special ones
      have hci : i ≤ c := by
        rcases Nat.lt_or_ge c i with q | q
        · exfalso
          obtain ⟨hsc, hnc⟩ := m.atc (by omega)
          obtain ⟨s1, qc, hqc, hic⟩ := hsc
          have := (ok.spec c i qc o hqc ho s1 hic (by omega) hin).2 q
          rcases bef_closed hclosed (i := i) (.inr rfl) this with h | h
          · exact hnc h
          · omega
        · exact q
      have hnos : ∀ k, i < k → k < c → ¬ special ops sps k := by
        rintro k p q ⟨s1, qk, hqk, hik⟩
        have hSk := m.before k q ⟨s1, qk, hqk, hik⟩
        have := (ok.spec k i qk o hqk ho s1 hik (by omega) hin).1 p
        exact hn (bef_closed m.closed hSk this)
      have hlt : i < c → ¬ special ops sps i := fun p hsp => hn (m.before i p hsp)
      have hpi : tr.H i <+: tr.H c := tr.prefix hci m.cle (fun k p q => by
        rcases Nat.lt_or_ge i k with g | g
        · exact hnos k g q
        · obtain rfl : k = i := by omega
          exact hlt q)
      refine h1.2 ψ w a (m.wr.down hpi) horel (m.fresh i hi hn) K Q ?_
      intro v' ψ' w' hv hs
      have hlen := hs.len
      obtain ⟨f1, f2, f3, f4⟩ := frame ψ' v' hs.le (by simp [Rel, hg]; exact hv)
      have hle' : ψ0.le ψ' := fun id L e => hs.le id L (m.le id L e)
      have hl0 := tr.len_mono (i := 0) (j := i) (by omega) (by omega)
      have hln := tr.len_mono (i := i + 1) (j := ops.size) (by omega) (by omega)
      have hhotup : ∀ b, Hot ψ (tr.H i) b → Hot ψ (tr.H c) b := fun b ⟨id, L, B, b1, b2, b3, b4⟩ => ⟨id, L, B, b1, get_prefix hpi b2, b3, b4⟩
      have hoff : ∀ id, (id < (tr.H 0).length ∨ (tr.H ops.size).length ≤ id) → ψ' id = ψ0 id := fun id p => by
        rw [hs.off id (by omega), m.off id p]
      have hfresh : ∀ k, k < ops.size → ¬ S' k → ∀ id, (tr.H k).length ≤ id → id < (tr.H (k + 1)).length → ψ' id = none := by
        intro k hk hS id p q
        have hki : k ≠ i := fun e => hS (.inr e)
        have : id < (tr.H i).length ∨ (tr.H (i + 1)).length ≤ id := by
          rcases Nat.lt_or_ge k i with g | g
          · have := tr.len_mono (i := k + 1) (j := i) (by omega) (by omega); omega
          · have := tr.len_mono (i := i + 1) (j := k) (by omega) (by omega); omega
        rw [hs.off id this]
        exact m.fresh k hk (fun h => hS (.inl h)) id p q
      have hkeep : ∀ b, b < w0.heap.size → ¬ Hot ψ0 (tr.H 0) b → w'.heap[b]? = w0.heap[b]? := by
        intro b hb hnb
        have hsz := m.hsize
        rw [hs.keep b (by omega) (fun hh => ?_), m.keep b hb hnb]
        rcases m.hot b (hhotup b hh) with g | g
        · omega
        · exact hnb g
      have hnew : ∀ id L, (tr.H 0).length ≤ id → id < (tr.H ops.size).length → ψ' id = some L → w0.heap.size ≤ L.b ∨ Hot ψ0 (tr.H 0) L.b := by
        intro id L p q e
        have hsz := m.hsize
        by_cases hin2 : (tr.H i).length ≤ id ∧ id < (tr.H (i + 1)).length
        · rcases hs.new id L hin2.1 hin2.2 e with g | g
          · exact .inl (by omega)
          · exact m.hot _ (hhotup _ g)
        · rw [hs.off id (by omega)] at e
          exact m.new id L p q e
      rcases Nat.lt_or_ge i c with hic | hic
      · -- between two special ones
        have hpi1 : tr.H (i + 1) <+: tr.H c := tr.prefix (by omega) m.cle (fun k p q => hnos k (by omega) q)
        obtain ⟨u1, u2⟩ := m.wr.up hpi hpi1 hs hlen
        refine hK ψ' _ w' c ⟨hclosed, f1, f2, f3, f4, m.cle, fun k p q => .inl (m.before k p q), fun p => ⟨(m.atc p).1, fun h => h.elim (m.atc p).2 (fun e => by omega)⟩, u1, hle', hoff, hfresh,
          Nat.le_trans m.hsize hs.size, hs.os.trans m.os, hs.tape.trans m.tape, hs.output.trans m.output, hkeep, hnew, fun b hb => ?_⟩
        have hsz := m.hsize
        rcases u2 b hb with g | g
        · exact m.hot b g
        · exact .inl (by omega)
      · -- the special one itself
        obtain rfl : i = c := by omega
        have hbef : ∀ k, k < i + 1 → special ops sps k → S' k := by
          intro k p q
          rcases Nat.lt_or_ge k i with g | g
          · exact .inl (m.before k g q)
          · exact .inr (by omega)
        obtain ⟨c', a1, a2, a3, a4, a5⟩ := next_special (ops := ops) (sps := sps) S' (i + 1) (by omega) hbef
        have hnospec : ∀ k, i + 1 ≤ k → k < c' → ¬ special ops sps k := by
          rintro k p q hsp
          rcases a5 k p q hsp with h | h
          · obtain ⟨s1, qk, hqk, hik⟩ := hsp
            have := (ok.spec k i qk o hqk ho s1 hik (by omega) hin).1 (by omega)
            exact hn (bef_closed m.closed h this)
          · omega
        have hpre : tr.H (i + 1) <+: tr.H c' := tr.prefix (by omega) a2 hnospec
        have hspi : special ops sps i := (m.atc hi).1
        have hnone : ∀ id, (tr.H (i + 1)).length ≤ id → id < (tr.H c').length → ψ' id = none := by
          have gen : ∀ d, i + 1 + d ≤ c' → ∀ id, (tr.H (i + 1)).length ≤ id → id < (tr.H (i + 1 + d)).length → ψ' id = none := by
            intro d
            induction d with
            | zero => intro _ id p q; simp at q; omega
            | succ d ih =>
              intro hd id p q
              rcases Nat.lt_or_ge id (tr.H (i + 1 + d)).length with g | g
              · exact ih (by omega) id p g
              · by_cases hS : S (i + 1 + d)
                · obtain ⟨qd, hqd⟩ := get_some (ops := ops) (i := i + 1 + d) (by omega)
                  cases hin2 : inertOp qd.op with
                  | true =>
                    have hrg2 := tr.rg _ _ hqd
                    have : tr.H (i + 1 + d + 1) = tr.H (i + 1 + d) := by
                      cases hgg : tr.g (i + 1 + d) with
                      | false => exact hrg2.2.1 hgg
                      | true => exact ((hrg2.1 hgg).2.2 hin2).1
                    rw [show i + 1 + (d + 1) = i + 1 + d + 1 by omega, this] at q; omega
                  | false =>
                    exfalso
                    obtain ⟨s1, qc, hqc, hic'⟩ := hspi
                    have := (ok.spec i (i + 1 + d) qc qd hqc hqd s1 hic' (by omega) hin2).2 (by omega)
                    exact hn (bef_closed m.closed hS this)
                · exact hfresh (i + 1 + d) (by omega) (fun h => h.elim hS (fun e => by omega)) id g (by rw [show i + 1 + d + 1 = i + 1 + (d + 1) by omega]; exact q)
          have := gen (c' - (i + 1)) (by omega)
          rw [show i + 1 + (c' - (i + 1)) = c' by omega] at this; exact this
        refine hK ψ' _ w' c' ⟨hclosed, f1, f2, f3, f4, a2, a3, a4, hs.wr.ext hpre hnone, hle', hoff, hfresh,
          Nat.le_trans m.hsize hs.size, hs.os.trans m.os, hs.tape.trans m.tape, hs.output.trans m.output, hkeep, hnew, fun b hb => ?_⟩
        have hsz := m.hsize
        rcases hs.hot b (hb.ext hpre hnone) with g | g
        · exact .inl (by omega)
        · exact m.hot b g

theorem ready_mem {md : Region.Mode} {listed : Array Bool} {i : Nat} (h : i ∈ Region.ready md ops listed) : i < ops.size ∧ listed.getD i true = false ∧ ∃ o, ops[i]? = some o ∧ ∀ e ∈ o.after.toList, Region.binds md e = true → listed.getD e.on false = true := by
  unfold Region.ready at h
  rw [List.mem_filter] at h
  obtain ⟨h1, h2⟩ := h
  have hi : i < ops.size := by simpa using h1
  obtain ⟨o, ho⟩ := get_some hi
  rw [Bool.and_eq_true, ho] at h2
  refine ⟨hi, by simpa using h2.1, o, ho, fun e he hb => ?_⟩
  have := h2.2
  simp only [Option.map_some, Option.getD_some] at this
  rw [← Array.all_toList, List.all_eq_true] at this
  have := this e he
  rw [hb] at this; simpa using this

theorem Mid.any (ok : DrawOk ops sps) {md : Region.Mode} (hmd : ∀ e : Edge, Region.binds .any e = true → Region.binds md e = true) (ρ : Nat → Nat) (hρ : ∀ (i : Nat) (o : Oper), ops[i]? = some o → ∀ e ∈ o.after.toList, Region.binds md e = true → ρ e.on < ρ i) {ψ0 : Emb} {w0 : World} {Q : Exit → Act → World → Prop}
    (hQ : ∀ ψ a w, Mid tr ψ0 w0 (fun k => k < ops.size) ψ a w ops.size → Q .normal a w) :
    ∀ (fuel : Nat) (listed : Array Bool) (ψ : Emb) (a : Act) (w : World) (c : Nat), listed.size = ops.size → listed.toList.count false = fuel → Mid tr ψ0 w0 (fun k => listed.getD k false = true) ψ a w c → wpAny P md ops Q fuel listed a w := by
  intro fuel
  induction fuel with
  | zero =>
    intro listed ψ a w c hs hc m
    have hall : ∀ k, k < ops.size → listed.getD k false = true := by
      intro k hk
      have : false ∉ listed.toList := List.count_eq_zero.1 hc
      have hk' : k < listed.size := by omega
      cases hb : listed[k] with
      | true => simp [hk', hb]
      | false => exact absurd (by rw [← hb]; simp) this
    refine ⟨?_, ?_⟩
    · refine Classical.byContradiction fun hne => ?_
      obtain ⟨i, hi⟩ := List.exists_mem_of_ne_nil _ hne
      obtain ⟨h1, h2, _⟩ := ready_mem hi
      have := hall i h1
      have hk' : i < listed.size := by omega
      simp [hk'] at this h2; rw [this] at h2; cases h2
    · have hS : (fun k => listed.getD k false = true) = (fun k => k < ops.size) := by
        funext k
        apply propext
        constructor
        · intro h
          rcases Nat.lt_or_ge k ops.size with q | q
          · exact q
          · have : ¬ k < listed.size := by omega
            simp [this] at h
        · exact hall k
      rw [hS] at m
      have hcc : c = ops.size := by
        have := m.cle
        rcases Nat.lt_or_ge c ops.size with q | q
        · exact absurd q (m.atc q).2
        · omega
      subst hcc
      exact hQ ψ a w m
  | succ fuel ih =>
    intro listed ψ a w c hs hc m
    refine ⟨fun hnil => ?_, fun i hi => ?_⟩
    · -- the first that has not come up is ready
      exfalso
      have hex : ∃ k, k < ops.size ∧ listed.getD k false = false := by
        have : false ∈ listed.toList := List.count_pos_iff.1 (by omega)
        obtain ⟨k, hk, hv⟩ := List.getElem_of_mem this
        exact ⟨k, by simp at hk; omega, by simp at hk hv; simp [hk, hv]⟩
      have hmin : ∀ n k, ρ k ≤ n → k < ops.size → listed.getD k false = false → ∃ k, k < ops.size ∧ listed.getD k false = false ∧ ∀ j, j < ops.size → ρ j < ρ k → listed.getD j false = true := by
        intro n
        induction n with
        | zero => intro k h1 h2 h3; exact ⟨k, h2, h3, fun j _ hj => by omega⟩
        | succ n ihn =>
          intro k h1 h2 h3
          by_cases hl : ∃ j, j < ops.size ∧ ρ j < ρ k ∧ listed.getD j false = false
          · obtain ⟨j, g1, g2, g3⟩ := hl
            exact ihn j (by omega) g1 g3
          · refine ⟨k, h2, h3, fun j g1 g2 => ?_⟩
            cases hb : listed.getD j false with
            | true => rfl
            | false => exact absurd ⟨j, g1, g2, hb⟩ hl
      obtain ⟨k0, q1, q2⟩ := hex
      obtain ⟨k, h1, h2, h3⟩ := hmin (ρ k0) k0 (Nat.le_refl _) q1 q2
      obtain ⟨o, ho⟩ := get_some h1
      have hmem : k ∈ Region.ready md ops listed := by
        unfold Region.ready
        rw [List.mem_filter]
        refine ⟨by simpa using h1, ?_⟩
        have hk' : k < listed.size := by omega
        have hb : listed.getD k true = false := by simp [hk'] at h2 ⊢; exact h2
        rw [Bool.and_eq_true, ho, hb]
        refine ⟨rfl, ?_⟩
        simp only [Option.map_some, Option.getD_some]
        rw [← Array.all_toList, List.all_eq_true]
        intro e he
        cases hbe : Region.binds md e with
        | false => rfl
        | true => rw [h3 e.on (ok.edge k o ho e he).1 (hρ k o ho e he hbe)]; rfl
      rw [hnil] at hmem; cases hmem
    · obtain ⟨h1, h2, o, ho, h3⟩ := ready_mem hi
      have hk' : i < listed.size := by omega
      have hnl : ¬ (listed.getD i false = true) := by simp [hk'] at h2 ⊢; exact h2
      refine m.step tr ok ho hnl (fun e he => h3 e (List.mem_filter.1 he).1 (hmd e (List.mem_filter.1 he).2)) ?_
      intro ψ' a' w' c' m'
      refine ih (listed.setIfInBounds i true) ψ' a' w' c' (by simpa using hs) ?_ ?_
      · have hb : listed[i] = false := by simp [hk'] at h2; exact h2
        have : (listed.setIfInBounds i true).toList = listed.toList.set i true := by simp
        have e1 : (listed.toList[i]'(by simpa using hk') == false) = true := by simp [hb]
        rw [this, List.count_set (by simpa using hk'), if_pos e1, if_neg (by decide)]; omega
      · have hS : (fun k => (listed.setIfInBounds i true).getD k false = true) = (fun k => listed.getD k false = true ∨ k = i) := by
          funext k
          apply propext
          by_cases e : k = i
          · subst e; simp [hk']
          · have : (listed.setIfInBounds i true).getD k false = listed.getD k false := by
              simp only [Array.getD_eq_getD_getElem?]; rw [Array.getElem?_setIfInBounds_ne (fun h => e h.symm)]
            rw [this]; simp [e]
        rw [hS]; exact m'

end

/-- A region that draws its order. -/
theorem CWp.regionD {P : Program} {id : Nat} {ops : Array Oper} {Q : Exit → AF → AH → Prop} {T : AF} {H : AH} (live : List Nat) (sps : List Bool) (hok : drawOk ops sps = true)
    (h : regVC P ops ops.toList sps T.toG H (fun G H => Q .normal ⟨G.n, G.keep live⟩ H)) : CWp P (.region id ops true) Q T H := by
  have ok := DrawOk.of hok
  obtain ⟨tr, t1, t2, t3⟩ := trace_of h
  subst t2
  refine ⟨.normal, _, _, t3, tr.len_mono (Nat.zero_le _) (Nat.le_refl _), fun ψ w a hw hf hn => ?_⟩
  refine wp_region_draw fun t => ?_
  have hg := hf.toG
  obtain ⟨c, a1, a2, a3, a4, a5⟩ := next_special (ops := ops) (sps := sps) (fun _ => False) 0 (Nat.zero_le _) (fun k p q => by omega)
  have hnos : ∀ k, 0 ≤ k → k < c → ¬ special ops sps k := fun k p q hsp => a3 k q hsp
  have hpre : tr.H 0 <+: tr.H c := tr.prefix (Nat.zero_le _) a2 hnos
  have hlen := tr.len_mono a2 (Nat.le_refl _)
  have hnone : ∀ id, (tr.H 0).length ≤ id → id < (tr.H c).length → ψ id = none := fun id p q => hn id p (by omega)
  have hw1 : WR ψ (tr.H 0) { w with drawn := w.drawn + 1 } := hw.drew _
  have m0 : Mid tr ψ { w with drawn := w.drawn + 1 } (fun k => (Array.replicate ops.size false).getD k false = true) ψ a { w with drawn := w.drawn + 1 } c := by
    have hS : (fun k => (Array.replicate ops.size false).getD k false = true) = (fun _ => False) := by
      funext k
      have : (Array.replicate ops.size false).getD k false = false := by
        rw [Array.getD_eq_getD_getElem?, Array.getElem?_replicate]; split <;> rfl
      rw [this]; simp
    rw [hS]
    refine ⟨fun _ _ _ h => h.elim, hg.1, by rw [t1]; exact hg.2.1, fun _ _ _ _ h => h.elim, fun t e _ he => hg.2.2 t e (by rw [← t1]; exact he), a2, a3, a4, hw1.ext hpre hnone, fun _ _ e => e, fun _ _ => rfl,
      fun i hi _ id p q => ?_, Nat.le_refl _, rfl, rfl, rfl, fun _ _ _ => rfl, fun id L p q e => ?_, fun b hb => .inr (hb.ext hpre hnone)⟩
    · have l1 := tr.len_mono (i := 0) (j := i) (by omega) (by omega)
      have l2 := tr.len_mono (i := i + 1) (j := ops.size) (by omega) (by omega)
      exact hn id (by omega) (by omega)
    · rw [hn id p q] at e; cases e
  have fin : ∀ (md : Region.Mode) (t : Nat), (∀ e : Edge, Region.binds .any e = true → Region.binds md e = true) → (∃ ρ : Nat → Nat, ∀ (i : Nat) (o : Oper), ops[i]? = some o → ∀ e ∈ o.after.toList, Region.binds md e = true → ρ e.on < ρ i) →
      wpOps P ops (fun e1 a1 w1 => ∃ ψ', e1 = .normal ∧ FR ψ' ⟨(tr.G ops.size).n, (tr.G ops.size).keep live⟩ a1 ∧ Step ψ (tr.H 0) w ψ' (tr.H ops.size) w1) (Region.linearise md ops t) a { w with drawn := w.drawn + 1 } := by
    rintro md t hmd ⟨ρ, hρ⟩
    unfold Region.linearise
    refine wpAny_sound ops.size t _ a _ (Mid.any tr ok hmd ρ hρ ?_ ops.size _ ψ a _ c (by simp) (by simp) m0)
    intro ψ' a' w' m
    refine ⟨ψ', rfl, ?_, ?_⟩
    · refine GR.toF (G := tr.G ops.size) ⟨m.defers, by rw [tr.n_eq (Nat.le_refl _)]; exact m.size, fun t e he => ?_⟩ live
      by_cases hw' : ∃ j q, j < ops.size ∧ ops[j]? = some q ∧ q.dst = some t
      · obtain ⟨j, q, hj, hq, hd⟩ := hw'
        rw [tr.get_written ok hq hd hj (Nat.le_refl _)] at he
        cases he
        exact m.done j q t hq hj hd
      · have hw2 : ∀ j q, j < ops.size → ops[j]? = some q → q.dst ≠ some t := fun j q a b c => hw' ⟨j, q, a, b, c⟩
        rw [tr.get_unwritten (Nat.le_refl _) hw2] at he
        exact m.old t e (fun j q hq hS => hw2 j q hS hq) he
    · exact ⟨m.wr, m.le, m.off, tr.len_mono (Nat.zero_le _) (Nat.le_refl _), m.hsize, m.os, m.tape, m.output, m.keep, m.new, m.hot⟩
  have htext : ∃ ρ : Nat → Nat, ∀ (i : Nat) (o : Oper), ops[i]? = some o → ∀ e ∈ o.after.toList, Region.binds .text e = true → ρ e.on < ρ i := ⟨fun k => k, fun i o ho e he hb => (ok.edge i o ho e he).2 hb⟩
  have hany : ∃ ρ : Nat → Nat, ∀ (i : Nat) (o : Oper), ops[i]? = some o → ∀ e ∈ o.after.toList, Region.binds .any e = true → ρ e.on < ρ i := ⟨fun k => k, fun i o ho e he hb => (ok.edge i o ho e he).2 (binds_text hb)⟩
  unfold Region.schedule
  split
  · exact fin .any t (fun _ h => h) hany
  · rename_i hm
    have hdep : Region.departs ops = true := by
      cases hd : Region.departs ops with
      | true => rfl
      | false => rw [hd] at hm; simp at hm
    split
    · exact fin .text (t / 2) (fun _ h => binds_text h) htext
    · exact fin .gc (t / 2) (fun _ h => binds_gc h) (ok.gc hdep)

end Go.Proofs.YtaccaelocddakaaDoor
