/- A part of the proof: no conditions. -/
import Derived.Test.YtaccaelocddakaaDoorAF
namespace Go.Proofs.YtaccaelocddakaaDoor
open Go Go.RowKit
set_option linter.unusedVariables false
set_option linter.unusedSectionVars false
variable [Tabs]

/-! ### One's own things in another order -/
theorem Hold.front {H : AH} {ps : List Pr} {Fs : List (List Nat)} (h : Hold H ps Fs) : ∀ {i : Nat} {p : Pr}, ps[i]? = some p → ∃ F Fs', p.A H F ∧ Hold H (ps.eraseIdx i) Fs' ∧ (F ++ Fs'.flatten).Perm Fs.flatten := by
  induction h with
  | nil => intro i p hi; simp at hi
  | cons h t ih =>
    rename_i p ps F Fs
    intro i q hi
    cases i with
    | zero => simp at hi; subst hi; exact ⟨F, Fs, h, t, List.Perm.refl _⟩
    | succ i =>
      simp at hi
      obtain ⟨F1, Fs1, a, b, c⟩ := ih hi
      refine ⟨F1, F :: Fs1, a, .cons h b, ?_⟩
      simp only [List.flatten_cons]
      refine (List.perm_append_comm_assoc F1 F Fs1.flatten).trans ?_
      exact List.Perm.append_left F c
theorem Sep.front {F0 : List Nat} {H0 H : AH} {ps : List Pr} {i : Nat} {p : Pr} (h : Sep F0 H0 H ps) (hi : ps[i]? = some p) : Sep F0 H0 H (p :: ps.eraseIdx i) := by
  obtain ⟨l, Fs, h1, h2, h3⟩ := h
  obtain ⟨F, Fs', a, b, c⟩ := h1.front hi
  refine ⟨l, F :: Fs', .cons a b, ?_, ?_⟩
  · simp only [List.flatten_cons]; exact c.nodup_iff.2 h2
  · intro j hj
    simp only [List.flatten_cons] at hj
    exact h3 j (c.mem_iff.1 hj)
/-- A slice of one's own is a datum. -/
theorem Sep.toV {α : Type} {k : Kd α} {e : Nat} {F0 : List Nat} {H0 H : AH} {ps : List Pr} {i : Nat} {v : Value} {xs : List α} (h : Sep F0 H0 H ps) (hi : ps[i]? = some (pOwn k e v xs)) : Sep F0 H0 H (ps.set i (pVal k.slice [v] xs)) := by
  obtain ⟨F, a1, a2, a3, a4⟩ := h.focus hi
  exact a4 H F (pVal k.slice [v] xs) Chg.refl ⟨v, rfl, pOwn_WS a1⟩ a2 fun j hj => .inl hj

/-- Where an element of a slice lies, whatever the heap. -/
def EPt {α : Type} (k : Kd α) (v : Value) (n i id j : Nat) : Prop := ∃ j0 c, v = .slice (some ⟨id, j0, none⟩) n c ∧ j = j0 + i * k.size ∧ i < n

section
variable {P : Program} {ops : Array Oper} {K : GF → AH → Prop} {rest : List Oper} {sps : List Bool} {G : GF} {H H0 : AH} {g : Bool} {dst : Option Nat} {ty : TypeId} {pos : String} {aft : Array Edge} {gd : Option (Nat × Bool)}

theorem RVs.indexE {α : Type} {k : Kd α} {xs : List α} {v : Value} {t e by_ i : Nat} {x ix : Operand} {kd : IntKind} (hx : G.raw x = some v) (hS : k.S H v xs) (hi : G.raw ix = some (.int kd (i : Int))) (ht : elemOf P t = some (e, k.size, by_))
    (hg : g = true) (hd : dstOk G ⟨dst, .indexAddr t x ix, ty, pos, aft, gd⟩ = true) (hc : G.cond x = true ∧ G.cond ix = true) (hlt : i < xs.length)
    (hh : ∀ (id j : Nat), EPt k v xs.length i id j → VC P ops K rest sps.tail (G.put dst (true, .pointer (some ⟨id, j, none⟩))) H) :
    RVs P ops K ⟨dst, .indexAddr t x ix, ty, pos, aft, gd⟩ rest sps G H g := by
  subst hg
  rcases hS with ⟨rfl, rfl⟩ | ⟨id, j0, c, B, rfl, h2, h3, h4, h5, h6, h7⟩
  · simp at hlt
  · refine RVs.indexAddr hx hi ht hd (fun _ => ⟨hc, by omega, by omega⟩) ?_
    have := hh id (j0 + i * k.size) ⟨j0, c, rfl, rfl, hlt⟩
    simpa using this

theorem storeE_core {α : Type} {k : Kd α} (hk : k.Flat) {xs : List α} {v : Value} {F : List Nat} {i id j f : Nat} {w : Value} {x0 y : α} (he : EPt k v xs.length i id j) (hW : k.WS H v xs F) (hx0 : xs[i]? = some x0) (hf : f < k.size) (hw : ∀ u, k.R H u x0 → k.R H (u.set f w) y) :
    ∃ B, H[id]? = some B ∧ B.st = .rw ∧ j + f < B.cells.length ∧ F = [id] ∧ ∀ H', Upd H H' id { B with cells := B.cells.set (j + f) w } → k.WS H' v (xs.set i y) F := by
  obtain ⟨j0', c', rfl, rfl, hlt⟩ := he
  rcases hW with ⟨hn, _⟩ | ⟨id2, j0, c, B, F', rfl, hv, h2, h3, h4, h5, h6, h7⟩
  · cases hn
  · cases hv
    have hF := hk.wsn h7
    subst hF
    have hle : i * k.size + k.size ≤ xs.length * k.size := by rw [← Nat.succ_mul]; exact Nat.mul_le_mul_right _ hlt
    have hr := h7.rs.take_get hx0
    rw [List.drop_take, List.take_take, List.drop_drop, Nat.min_eq_left (by omega)] at hr
    refine ⟨B, h3, h4, by omega, rfl, fun H' up => ?_⟩
    exact WP.put hk (i := i) ⟨⟨j0', c', rfl, h2, rfl, h6, h7.rs, rfl⟩, h3, h4, h5, rfl, hlt⟩ hf (hw _ hr) up

/-- One cell of an element of a slice of one's own is written. -/
theorem RVs.storeE {α : Type} {k : Kd α} (hk : k.Flat) {xs zs : List α} {v : Value} {t i id j f q : Nat} {w : Value} {x0 y : α} {a b : Operand} {ps : List Pr} {F0 : List Nat} (hs : Sep F0 H0 H ps) (hq : ps[q]? = some (pVal k.slice [v] xs)) (he : EPt k v xs.length i id j)
    (hx : G.raw a = some (.pointer (some ⟨id, j + f, none⟩))) (hy : G.raw b = some w) (ht : tyOf P t = some (1, false)) (hg : g = true) (hsp : sps.headD false = true) (hd : dstOk G ⟨dst, .store t a b, ty, pos, aft, gd⟩ = true) (hc : G.cond a = true ∧ G.cond b = true)
    (hx0 : xs[i]? = some x0) (hf : f < k.size) (hw : ∀ u, k.R H u x0 → k.R H (u.set f w) y) (ho : oneCell w = true) (hz : xs.set i y = zs)
    (kk : ∀ H', Sep F0 H0 H' (ps.set q (pVal k.slice [v] zs)) → VC P ops K rest sps.tail (G.put dst (true, undef)) H') : RVs P ops K ⟨dst, .store t a b, ty, pos, aft, gd⟩ rest sps G H g := by
  subst hz
  obtain ⟨F, a1, a2, a3, a4⟩ := hs.focus hq
  obtain ⟨B, b1, b2, b3, rfl, b5⟩ := storeE_core hk he (slW a1) hx0 hf hw
  refine RVs.store1 hx hy ht hg hsp hd hc b1 b2 b3 ho fun H' up => kk H' ?_
  exact a4 H' [id] (pVal k.slice [v] (xs.set i y)) (Chg.refl.upd up (by simp)) (Wsl (b5 H' up)) a2 fun j hj => .inl hj

theorem pOwn_of_set {α : Type} {k : Kd α} (hk : k.Flat) {e : Nat} {v : Value} {xs ys : List α} {H' : AH} {id j : Nat} {w : Value} {B : Blk} {F : List Nat} (h : (pOwn k e v xs).A H F) (hB : H[id]? = some B) (up : Upd H H' id { B with cells := B.cells.set j w }) (hF : F = [id]) (hW : k.WS H' v ys F) (hl : ys.length = xs.length) : (pOwn k e v ys).A H' F := by
  rcases h with ⟨h1, h2, h3⟩ | ⟨id', c, B', F', rfl, h2, h3, h4, h5, h6, h7, h8, h9⟩
  · rw [h3] at hF; cases hF
  · cases hF
    subst h2
    rw [hB] at h4; cases h4
    refine .inr ⟨id, c, _, [], rfl, by rw [hl], by rw [hl]; exact h3, up.at_, h5, h6, h7, by simpa using h8, ?_⟩
    rcases hW with ⟨q, _⟩ | ⟨id2, j0, c2, B2, F2, q1, q2, q3, q4, q5, q6, q7, q8⟩
    · cases q
    · obtain ⟨r1, r2, r3⟩ := Value.slice.inj q2
      cases r1
      rw [up.at_] at q4; cases q4
      obtain rfl : F2 = [] := by simpa using q1.symm
      simpa using q8
/-- The same, of a slice that may still grow. -/
theorem RVs.storeEO {α : Type} {k : Kd α} (hk : k.Flat) {xs zs : List α} {v : Value} {t e i id j f q : Nat} {w : Value} {x0 y : α} {a b : Operand} {ps : List Pr} {F0 : List Nat} (hs : Sep F0 H0 H ps) (hq : ps[q]? = some (pOwn k e v xs)) (he : EPt k v xs.length i id j)
    (hx : G.raw a = some (.pointer (some ⟨id, j + f, none⟩))) (hy : G.raw b = some w) (ht : tyOf P t = some (1, false)) (hg : g = true) (hsp : sps.headD false = true) (hd : dstOk G ⟨dst, .store t a b, ty, pos, aft, gd⟩ = true) (hc : G.cond a = true ∧ G.cond b = true)
    (hx0 : xs[i]? = some x0) (hf : f < k.size) (hw : ∀ u, k.R H u x0 → k.R H (u.set f w) y) (ho : oneCell w = true) (hz : xs.set i y = zs)
    (kk : ∀ H', Sep F0 H0 H' (ps.set q (pOwn k e v zs)) → VC P ops K rest sps.tail (G.put dst (true, undef)) H') : RVs P ops K ⟨dst, .store t a b, ty, pos, aft, gd⟩ rest sps G H g := by
  subst hz
  obtain ⟨F, a1, a2, a3, a4⟩ := hs.focus hq
  obtain ⟨B, b1, b2, b3, rfl, b5⟩ := storeE_core hk he (pOwn_WS a1) hx0 hf hw
  refine RVs.store1 hx hy ht hg hsp hd hc b1 b2 b3 ho fun H' up => kk H' ?_
  exact a4 H' [id] (pOwn k e v (xs.set i y)) (Chg.refl.upd up (by simp)) (pOwn_of_set hk a1 b1 up rfl (b5 H' up) (by simp)) a2 fun j hj => .inl hj

/-- A part of a slice: what it is wherever the slice still is. -/
theorem RVs.sliceF {α : Type} {k : Kd α} {xs : List α} {v : Value} {t e bytes : Nat} {x : Operand} {lo hi : Option Operand} {l h : Nat} (hx : G.raw x = some v) (hS : k.S H v xs) (ht : elemOf P t = some (e, k.size, bytes))
    (hl : match lo with | none => l = 0 | some y => ∃ kd, G.raw y = some (.int kd (l : Int))) (hh : match hi with | none => h = xs.length | some y => ∃ kd, G.raw y = some (.int kd (h : Int)))
    (hd : dstOk G ⟨dst, .slice t x lo hi none, ty, pos, aft, gd⟩ = true)
    (hg : g = true) (hc : G.cond x = true ∧ (∀ y, lo = some y → G.cond y = true) ∧ (∀ y, hi = some y → G.cond y = true)) (h1 : l ≤ h) (h2 : h ≤ xs.length)
    (kk : ∀ (a' : Option Addr) (c' : Nat), (∀ H', k.S H' v xs → k.S H' (.slice a' (h - l) c') ((xs.drop l).take (h - l))) → VC P ops K rest sps.tail (G.put dst (true, .slice a' (h - l) c')) H) :
    RVs P ops K ⟨dst, .slice t x lo hi none, ty, pos, aft, gd⟩ rest sps G H g := by
  subst hg
  have fin : ∀ (b : Option Addr) (cp : Nat), v = .slice b xs.length cp → xs.length ≤ cp → (∀ q, b = some q → ∃ B, H[q.block]? = some B ∧ B.esz = k.size) →
      (∀ H', k.S H' v xs → k.S H' (.slice (if (cp : Int) = (l : Int) then b else b.map (·.add ((l : Int).toNat * k.size))) (h - l) (cp - l)) ((xs.drop l).take (h - l))) →
      RVs P ops K ⟨dst, .slice t x lo hi none, ty, pos, aft, gd⟩ rest sps G H true := by
    intro b cp hv hcp hB hs
    subst hv
    have := RVs.slice (P := P) (ops := ops) (K := K) (rest := rest) (sps := sps) (dst := dst) (ty := ty) (pos := pos) (aft := aft) (gd := gd) (g := true) (lo := lo) (hi := hi) (mx := none) (l := (l : Int)) (h := (h : Int)) (m := (cp : Int)) hx ht
      (by cases lo with | none => simp only at hl ⊢; omega | some y => exact hl) (by cases hi with | none => simp only at hh ⊢; exact ⟨trivial, by omega⟩ | some y => exact hh) rfl hd rfl
      (fun _ => ⟨⟨hc.1, hc.2.1, hc.2.2, fun y hy => by cases hy⟩, hB, by omega, by omega, by omega, by omega⟩) ?_
    · exact this
    · have := kk _ _ hs
      rw [show ((h : Int)).toNat - ((l : Int)).toNat = h - l by omega, show ((cp : Int)).toNat - ((l : Int)).toNat = cp - l by omega]
      exact this
  rcases hS with ⟨rfl, rfl⟩ | ⟨id, j, c, B, rfl, h3, h4, h5, h6, h7, h8⟩
  · simp at h2
    subst h2
    obtain rfl : l = 0 := by omega
    exact fin none 0 rfl (Nat.le_refl _) (fun q hq => by cases hq) (fun H' _ => .inl ⟨by simp, by simp⟩)
  · refine fin (some ⟨id, j, none⟩) c rfl h3.1 (fun q hq => by cases hq; exact ⟨B, h4, h6⟩) (fun H' hS' => ?_)
    rcases hS' with ⟨hn, _⟩ | ⟨id', j', c', B', hv, g3, g4, g5, g6, g7, g8⟩
    · cases hn
    · cases hv
      have hsub := S_sub g3 g4 g5 g6 g7 g8 l h h1 h2 (c - l) (by omega)
      by_cases hcl : (c : Int) = (l : Int)
      · rw [if_pos hcl]
        have e0 : (xs.drop l).take (h - l) = [] := by rw [show h - l = 0 by omega]; simp
        rw [e0, show h - l = 0 by omega]
        refine .inr ⟨id, j, c - l, B', rfl, ⟨by simp, by simp⟩, g4, g5, g6, by simp; omega, by simp; exact .nil⟩
      · rw [if_neg hcl]
        simpa [Addr.add_eq] using hsub
end

/-! ### Marks, of any record -/
def marks {α : Type} (f : Nat → α) (n : Nat) : List α := (List.range n).map f
theorem marks_len' {α : Type} {f : Nat → α} {n : Nat} : (marks f n).length = n := by simp [marks]
theorem marks_setG {α : Type} {f : Nat → α} {xs : List α} {i : Nat} {y : α} (h : i < xs.length) (hy : y = f i) : (marks f i ++ xs.drop i).set i y = marks f (i + 1) ++ xs.drop (i + 1) := by
  subst hy
  rw [List.set_append_right _ _ (by rw [marks_len']; omega), marks_len', Nat.sub_self, List.drop_eq_getElem_cons h, List.set_cons_zero]
  simp [marks, List.range_succ]
theorem marks_mid {α : Type} {f : Nat → α} {xs : List α} {i : Nat} : (marks f i ++ xs.drop i)[i]? = xs[i]? := by
  rw [List.getElem?_append_right (by rw [marks_len']; omega), marks_len', Nat.sub_self, List.getElem?_drop, Nat.add_zero]
theorem marks_len2 {α : Type} {f : Nat → α} {xs : List α} {i : Nat} (h : i ≤ xs.length) : (marks f i ++ xs.drop i).length = xs.length := by simp [marks]; omega
theorem marks_get {α : Type} {f : Nat → α} {n i : Nat} {y : α} (h : (marks f n)[i]? = some y) : y = f i := by
  unfold marks at h
  rw [List.getElem?_map] at h
  simp only [Option.map_eq_some_iff] at h
  obtain ⟨j, h1, rfl⟩ := h
  rw [List.getElem?_eq_some_iff] at h1
  obtain ⟨_, h2⟩ := h1
  simp at h2; subst h2; rfl
theorem marks_all {α : Type} {f : Nat → α} {xs : List α} {i : Nat} (h : xs.length ≤ i) (h2 : i ≤ xs.length) : marks f i ++ xs.drop i = marks f xs.length := by
  rw [List.drop_of_length_le h, List.append_nil, show i = xs.length by omega]
end Go.Proofs.YtaccaelocddakaaDoor
