/- A part of the proof: no conditions. -/
import Derived.Test.YtaccaelocddakaaDoorR
namespace Go.Proofs.YtaccaelocddakaaDoor
open Go Go.RowKit
set_option linter.unusedVariables false
set_option linter.unusedSectionVars false
variable [Tabs]

/-! ### Kinds of records -/

/-- A plain record. -/
def Kd.flat {α : Type} (n : Nat) (f : α → List Value) (wf : α → Prop) (hl : ∀ x, (f x).length = n) (ho : ∀ x, (f x).all oneCell = true) : Kd α :=
  ⟨n, fun _ us x => us = f x ∧ wf x, fun h => by rw [h.1]; exact hl _, fun _ h => h, fun h => by rw [h.1]; exact ho _, fun _ us x F => (us = f x ∧ wf x) ∧ F = [], fun h => h.1, fun _ h => h, fun h => by simp [h.2]⟩

/-- A record with one slice in it. -/
def Kd.s1 {α β : Type} (a b : Nat) (pre post : α → List Value) (k : Kd β) (g : α → List β) (wf : α → Prop) (ha : ∀ x, (pre x).length = a ∧ (pre x).all oneCell = true) (hb : ∀ x, (post x).length = b ∧ (post x).all oneCell = true) : Kd α :=
  ⟨a + 1 + b, fun H us x => ∃ v, us = pre x ++ v :: post x ∧ k.S H v (g x) ∧ wf x,
   fun ⟨v, h, _, _⟩ => by rw [h, List.length_append, List.length_cons, (ha _).1, (hb _).1]; omega,
   fun p ⟨v, h, h', hw⟩ => ⟨v, h, h'.mono p, hw⟩,
   fun ⟨v, h, h', _⟩ => by rw [h, List.all_append, List.all_cons, (ha _).2, (hb _).2, h'.oc]; rfl,
   fun H us x F => ∃ v, us = pre x ++ v :: post x ∧ k.WS H v (g x) F ∧ wf x,
   fun ⟨v, h, h', hw⟩ => ⟨v, h, h'.S, hw⟩, fun p ⟨v, h, h', hw⟩ => ⟨v, h, h'.loc p, hw⟩, fun ⟨v, h, h', _⟩ => h'.lt⟩

/-! ### What is made anew -/

theorem rw_live : St.rw ≠ St.dead := by decide
theorem eq_prefix {H H' : AH} (p : H <+: H') {i : Nat} (h : i < H.length) : H'[i]? = H[i]? := (List.prefix_iff_getElem?.1 p i h).trans (List.getElem?_eq_getElem h).symm
theorem Kd.wgrow {α : Type} (k : Kd α) {H H' : AH} {us : List Value} {x : α} {F : List Nat} (p : H <+: H') (w : k.W H us x F) : k.W H' us x F := k.wloc (fun i hi => eq_prefix p (k.wlt w i hi)) w
theorem Kd.wupd {α : Type} (k : Kd α) {H H' : AH} {us : List Value} {x : α} {F : List Nat} {id : Nat} {B : Blk} (u : Upd H H' id B) (hn : ∀ i ∈ F, i ≠ id) (w : k.W H us x F) : k.W H' us x F := k.wloc (fun i hi => u.ne i (hn i hi)) w

/-- An answer all of whose blocks are new, and may be written. -/
def Fresh {α : Type} (k : Kd α) (H H' : AH) (us : List Value) (x : α) : Prop := H <+: H' ∧ ∃ F, k.W H' us x F ∧ F.Nodup ∧ ∀ i ∈ F, H.length ≤ i

/-- A block that is being filled, element by element. -/
structure Kd.Fill {α : Type} (k : Kd α) (e lo : Nat) (H : AH) (id n : Nat) (xs : List α) (F : List Nat) : Prop where
  blk : ∃ B, H[id]? = some B ∧ B.st = .rw ∧ B.esz = k.size ∧ B.el = e ∧ B.cells.length = n * k.size ∧ k.Ws H (B.cells.take (xs.length * k.size)) xs F
  nd : (id :: F).Nodup
  lo : ∀ i ∈ id :: F, lo ≤ i

theorem Kd.Fill.start {α : Type} {k : Kd α} {e lo id n : Nat} {H : AH} {z : List Value} (h : H[id]? = some ⟨e, k.size, (List.replicate n z).flatten, .rw⟩) (hz : z.length = k.size) (hl : lo ≤ id) : k.Fill e lo H id n [] [] :=
  ⟨⟨_, h, rfl, rfl, rfl, by simp [hz], by simp; exact .nil⟩, by simp, by simpa using hl⟩
theorem Kd.Fill.grow {α : Type} {k : Kd α} {e lo id n : Nat} {H H' : AH} {xs : List α} {F : List Nat} (p : H <+: H') (h : k.Fill e lo H id n xs F) : k.Fill e lo H' id n xs F := by
  obtain ⟨⟨B, h1, h2, h3, h4, h5, h6⟩, nd, hl⟩ := h
  exact ⟨⟨B, get_prefix p h1, h2, h3, h4, h5, h6.loc fun i hi => eq_prefix p (h6.lt i hi)⟩, nd, hl⟩
theorem Kd.Fill.upd {α : Type} {k : Kd α} {e lo id n : Nat} {H H' : AH} {xs : List α} {F : List Nat} {b : Nat} {C : Blk} (u : Upd H H' b C) (hb : b < lo) (h : k.Fill e lo H id n xs F) : k.Fill e lo H' id n xs F := by
  obtain ⟨⟨B, h1, h2, h3, h4, h5, h6⟩, nd, hl⟩ := h
  have ne : ∀ i ∈ id :: F, i ≠ b := fun i hi => by have := hl i hi; omega
  exact ⟨⟨B, by rw [u.ne id (ne id (by simp))]; exact h1, h2, h3, h4, h5, h6.loc fun i hi => u.ne i (ne i (by simp [hi]))⟩, nd, hl⟩
theorem Kd.Fill.done {α : Type} {k : Kd α} {e lo id n : Nat} {H : AH} {xs : List α} {F : List Nat} (h : k.Fill e lo H id n xs F) (hn : xs.length = n) (hlim : n ≤ lim) : k.WS H (.slice (some ⟨id, 0, none⟩) n n) xs (id :: F) := by
  obtain ⟨⟨B, h1, h2, h3, h4, h5, h6⟩, nd, hl⟩ := h
  subst hn
  exact .inr ⟨id, 0, xs.length, B, F, rfl, rfl, ⟨Nat.le_refl _, hlim⟩, h1, h2, h3, by omega, by simpa using h6⟩
theorem Kd.Fill.fresh {α : Type} {k : Kd α} {e id n : Nat} {H0 H : AH} {xs : List α} {F : List Nat} (h : k.Fill e H0.length H id n xs F) (p : H0 <+: H) (hn : xs.length = n) (hlim : n ≤ lim) : Fresh k.slice H0 H [.slice (some ⟨id, 0, none⟩) n n] xs :=
  ⟨p, id :: F, ⟨_, rfl, h.done hn hlim⟩, h.nd, h.lo⟩

theorem over_take {c : List Value} {o : Nat} {us : List Value} (h : o + us.length ≤ c.length) : (over c o us).take (o + us.length) = c.take o ++ us := by
  apply List.ext_getElem?
  intro i
  rw [List.getElem?_take]
  by_cases hi : i < o + us.length
  · rw [if_pos hi, over_get _ _ _ _ h]
    by_cases ho : o ≤ i
    · rw [if_pos ⟨ho, hi⟩, List.getElem?_append_right (by simp; omega)]
      simp only [List.length_take]
      congr 1; omega
    · rw [if_neg (by omega), List.getElem?_append_left (by simp; omega), List.getElem?_take, if_pos (by omega)]
  · rw [if_neg hi, List.getElem?_eq_none (by simp; omega)]

theorem Kd.Fill.put {α : Type} {k : Kd α} {e lo id n : Nat} {H H' : AH} {xs : List α} {F G : List Nat} {B : Blk} {u : List Value} {x : α} (h : k.Fill e lo H id n xs F) (hB : H[id]? = some B) (hx : xs.length < n)
    (hw : k.W H u x G) (hG : (id :: F ++ G).Nodup) (hlo : ∀ i ∈ G, lo ≤ i) (up : Upd H H' id { B with cells := over B.cells (0 + xs.length * k.size) u }) : k.Fill e lo H' id n (xs ++ [x]) (F ++ G) := by
  obtain ⟨⟨B', h1, h2, h3, h4, h5, h6⟩, nd, hl⟩ := h
  rw [hB] at h1; cases h1
  have hu := k.len (k.wr hw)
  have hle : xs.length * k.size + k.size ≤ n * k.size := by rw [← Nat.succ_mul]; exact Nat.mul_le_mul_right _ hx
  have ndi : id ∉ F ∧ id ∉ G := by
    have := hG
    simp at this; exact this.1
  refine ⟨⟨_, up.at_, h2, h3, h4, by simp only; rw [over_length]; exact h5, ?_⟩, by simpa using hG, ?_⟩
  · simp only [Nat.zero_add]
    rw [List.length_append, List.length_singleton, Nat.succ_mul, ← hu, over_take (by rw [hu, h5]; exact hle)]
    rw [hu]
    refine (h6.loc fun i hi => up.ne i ?_).append (Kd.Ws.one (k.wloc (fun i hi => up.ne i ?_) hw))
    · intro e; subst e; exact ndi.1 hi
    · intro e; subst e; exact ndi.2 hi
  · intro i hi
    simp at hi
    rcases hi with rfl | hi | hi
    · exact hl _ (by simp)
    · exact hl _ (by simp [hi])
    · exact hlo i hi

section
variable {P : Program} {ops : Array Oper} {K : GF → AH → Prop} {rest : List Oper} {sps : List Bool} {G : GF} {H : AH} {g : Bool} {dst : Option Nat} {ty : TypeId} {pos : String} {aft : Array Edge} {gd : Option (Nat × Bool)}

/-- A slice of zeros is made. -/
theorem RVs.makeS {t e size bytes : Nat} {x y : Operand} {n : Nat} {z : List Value} (hx : G.raw x = some (.int .i64 n)) (hy : G.raw y = some (.int .i64 n)) (ht : elemOf P t = some (e, size, bytes)) (he : elOk P e size bytes = true) (hz : zeroOf P e = some z)
    (hg : g = true) (hd : dstOk G ⟨dst, .makeSlice t x y, ty, pos, aft, gd⟩ = true) (hc : G.cond x = true ∧ G.cond y = true) (hb : n * bytes ≤ 70368744177664)
    (k : ∀ (id : Nat) (H' : AH), H <+: H' → H.length ≤ id → H'[id]? = some ⟨e, size, (List.replicate n z).flatten, .rw⟩ → VC P ops K rest sps.tail (G.put dst (true, .slice (some ⟨id, 0, none⟩) n n)) H') :
    RVs P ops K ⟨dst, .makeSlice t x y, ty, pos, aft, gd⟩ rest sps G H g := by
  have hl : (H ++ [(⟨e, size, (List.replicate n z).flatten, .rw⟩ : Blk)])[H.length]? = some ⟨e, size, (List.replicate n z).flatten, .rw⟩ := by
    rw [List.getElem?_append_right (Nat.le_refl _), Nat.sub_self]; rfl
  have := k H.length (H ++ [⟨e, size, (List.replicate n z).flatten, .rw⟩]) (List.prefix_append _ _) (Nat.le_refl _) hl
  exact RVs.makeSlice hx hy ht he hz hg hd hc (Int.natCast_nonneg n) (by rw [← Int.natCast_mul]; exact Int.ofNat_le.2 hb) this

/-- A record is put into a block that is being filled. -/
theorem RVs.storeFill {α : Type} {k : Kd α} {t e lo id n i : Nat} {xs : List α} {x : α} {F F' : List Nat} {a v : Operand} {us : Array Value} (hx : G.raw a = some (.pointer (some ⟨id, 0 + i * k.size, none⟩))) (hy : G.raw v = some (.agg us)) (ht : tyOf P t = some (k.size, true))
    (hg : g = true) (hs : sps.headD false = true) (hd : dstOk G ⟨dst, .store t a v, ty, pos, aft, gd⟩ = true) (hc : G.cond a = true ∧ G.cond v = true) (hF : k.Fill e lo H id n xs F) (hi : i = xs.length) (hn : xs.length < n)
    (hw : k.W H us.toList x F') (hnd : (id :: F ++ F').Nodup) (hlo : ∀ i ∈ F', lo ≤ i)
    (kk : ∀ (B : Blk) (H' : AH), Upd H H' id B → k.Fill e lo H' id n (xs ++ [x]) (F ++ F') → VC P ops K rest sps.tail (G.put dst (true, undef)) H') : RVs P ops K ⟨dst, .store t a v, ty, pos, aft, gd⟩ rest sps G H g := by
  subst hi
  obtain ⟨B, h1, h2, h3, h4, h5, h6⟩ := hF.blk
  have hu := k.len (k.wr hw)
  have hle : xs.length * k.size + k.size ≤ n * k.size := by rw [← Nat.succ_mul]; exact Nat.mul_le_mul_right _ hn
  refine RVs.storeN hx hy ht hg hs hd hc h1 h2 (by simpa using hu) (by omega) (k.oc (k.wr hw)) fun H' u => ?_
  exact kk _ H' u (hF.put h1 hn hw hnd hlo u)
/-- One cell is put into a block that is being filled. -/
theorem RVs.storeFill1 {α : Type} {k : Kd α} {t e lo id n i : Nat} {xs : List α} {x : α} {F F' : List Nat} {a v : Operand} {u : Value} (hx : G.raw a = some (.pointer (some ⟨id, 0 + i * k.size, none⟩))) (hy : G.raw v = some u) (ht : tyOf P t = some (1, false)) (hk : k.size = 1)
    (hg : g = true) (hs : sps.headD false = true) (hd : dstOk G ⟨dst, .store t a v, ty, pos, aft, gd⟩ = true) (hc : G.cond a = true ∧ G.cond v = true) (hF : k.Fill e lo H id n xs F) (hi : i = xs.length) (hn : xs.length < n)
    (hw : k.W H [u] x F') (hnd : (id :: F ++ F').Nodup) (hlo : ∀ i ∈ F', lo ≤ i)
    (kk : ∀ (B : Blk) (H' : AH), Upd H H' id B → k.Fill e lo H' id n (xs ++ [x]) (F ++ F') → VC P ops K rest sps.tail (G.put dst (true, undef)) H') : RVs P ops K ⟨dst, .store t a v, ty, pos, aft, gd⟩ rest sps G H g := by
  subst hi
  obtain ⟨B, h1, h2, h3, h4, h5, h6⟩ := hF.blk
  have hle : xs.length * k.size + k.size ≤ n * k.size := by rw [← Nat.succ_mul]; exact Nat.mul_le_mul_right _ hn
  have ho := k.oc (k.wr hw)
  refine RVs.store1 hx hy ht hg hs hd hc h1 h2 (by omega) (by simpa using ho) fun H' u' => ?_
  exact kk _ H' u' (hF.put h1 hn hw hnd hlo u')
end

end Go.Proofs.YtaccaelocddakaaDoor
