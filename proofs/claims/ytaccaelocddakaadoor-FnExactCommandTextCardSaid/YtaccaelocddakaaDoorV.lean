/- A part of the proof: no conditions. -/
import Derived.Test.YtaccaelocddakaaDoorU
namespace Go.Proofs.YtaccaelocddakaaDoor
open Go Go.RowKit
set_option linter.unusedVariables false
set_option linter.unusedSectionVars false
variable [Tabs]

/-! ### Slices that are written in place -/

/-- A kind whose data lead to no memory. -/
structure Kd.Flat {α : Type} (k : Kd α) : Prop where
  w : ∀ {H : AH} {us : List Value} {x : α}, k.R H us x → k.W H us x []
  wn : ∀ {H : AH} {us : List Value} {x : α} {F : List Nat}, k.W H us x F → F = []
  free : ∀ {H H' : AH} {us : List Value} {x : α}, k.R H us x → k.R H' us x
theorem Kd.flat_Flat {α : Type} {n : Nat} {f : α → List Value} {wf : α → Prop} {hl : ∀ x, (f x).length = n} {ho : ∀ x, (f x).all oneCell = true} : (Kd.flat n f wf hl ho).Flat := ⟨fun h => ⟨h, rfl⟩, fun h => h.2, fun h => h⟩
theorem str_Flat : Kd.str.Flat := ⟨fun h => ⟨h, rfl⟩, fun h => h.2, fun h => h⟩
theorem int_Flat {kd : IntKind} : (Kd.int kd).Flat := ⟨fun h => ⟨h, rfl⟩, fun h => h.2, fun h => h⟩

theorem Kd.Flat.ws {α : Type} {k : Kd α} (hk : k.Flat) {H H' : AH} {us : List Value} {xs : List α} (h : k.Rs H us xs) : k.Ws H' us xs [] := by
  induction h with
  | nil => exact .nil
  | cons h _ ih => have := Kd.Ws.cons (hk.w (hk.free (H' := H') h)) ih; simpa using this
theorem Kd.Flat.wsn {α : Type} {k : Kd α} (hk : k.Flat) {H : AH} {us : List Value} {xs : List α} {F : List Nat} (h : k.Ws H us xs F) : F = [] := by
  induction h with
  | nil => rfl
  | cons h _ ih => rw [hk.wn h, ih]; rfl

/-- What two heaps have in common outside of some blocks. -/
def Chg (H H' : AH) (F : List Nat) : Prop := H.length ≤ H'.length ∧ ∀ i, i < H.length → i ∉ F → H'[i]? = H[i]?
theorem Chg.refl {H : AH} {F : List Nat} : Chg H H F := ⟨Nat.le_refl _, fun _ _ _ => rfl⟩
theorem Chg.grow {H H1 H2 : AH} {F : List Nat} (c : Chg H H1 F) (p : H1 <+: H2) : Chg H H2 F :=
  ⟨Nat.le_trans c.1 p.length_le, fun i hi hn => by rw [eq_prefix p (by have := c.1; omega)]; exact c.2 i hi hn⟩
theorem Chg.upd {H H1 H2 : AH} {F : List Nat} {id : Nat} {B : Blk} (c : Chg H H1 F) (u : Upd H1 H2 id B) (h : id ∈ F) : Chg H H2 F :=
  ⟨by rw [u.len]; exact c.1, fun i hi hn => by rw [u.ne i (fun e => hn (e ▸ h))]; exact c.2 i hi hn⟩
theorem Chg.trans {H H1 H2 : AH} {F G : List Nat} (c : Chg H H1 F) (d : Chg H1 H2 G) (h : ∀ i ∈ G, i < H.length → i ∈ F) : Chg H H2 F :=
  ⟨Nat.le_trans c.1 d.1, fun i hi hn => by rw [d.2 i (by have := c.1; omega) (fun e => hn (h i e hi))]; exact c.2 i hi hn⟩
theorem Chg.prefix {H0 H H' : AH} {F : List Nat} (p : H0 <+: H) (c : Chg H H' F) (h : ∀ i ∈ F, H0.length ≤ i) : H0 <+: H' := by
  rw [List.prefix_iff_getElem?]
  intro i hi
  have := p.length_le
  rw [c.2 i (by omega) (fun e => by have := h i e; omega)]
  exact List.prefix_iff_getElem?.1 p i hi
theorem Chg.of_prefix {H H' : AH} {F : List Nat} (p : H <+: H') : Chg H H' F := ⟨p.length_le, fun i hi _ => eq_prefix p hi⟩

/-- Where an element of a slice lies that may be written. -/
structure WP {α : Type} (k : Kd α) (H : AH) (v : Value) (xs : List α) (F : List Nat) (i id j : Nat) (u : List Value) (B : Blk) : Prop where
  ws : ∃ j0 c, v = .slice (some ⟨id, j0, none⟩) xs.length c ∧ (xs.length ≤ c ∧ xs.length ≤ lim) ∧ j = j0 + i * k.size ∧ j0 + xs.length * k.size ≤ B.cells.length ∧ k.Rs H ((B.cells.drop j0).take (xs.length * k.size)) xs ∧ u = (B.cells.drop (j0 + i * k.size)).take k.size
  at_ : H[id]? = some B
  rw : B.st = .rw
  esz : B.esz = k.size
  f : F = [id]
  lt : i < xs.length

section
variable {P : Program} {ops : Array Oper} {K : GF → AH → Prop} {rest : List Oper} {sps : List Bool} {G : GF} {H : AH} {g : Bool} {dst : Option Nat} {ty : TypeId} {pos : String} {aft : Array Edge} {gd : Option (Nat × Bool)}

theorem RVs.indexW {α : Type} {k : Kd α} (hk : k.Flat) {xs : List α} {F : List Nat} {v : Value} {t e by_ i : Nat} {x ix : Operand} {kd : IntKind} (hx : G.raw x = some v) (hS : k.WS H v xs F) (hi : G.raw ix = some (.int kd (i : Int))) (ht : elemOf P t = some (e, k.size, by_))
    (hg : g = true) (hd : dstOk G ⟨dst, .indexAddr t x ix, ty, pos, aft, gd⟩ = true) (hc : G.cond x = true ∧ G.cond ix = true) (hlt : i < xs.length)
    (hh : ∀ (id j : Nat) (u : List Value) (B : Blk), WP k H v xs F i id j u B → k.R H u xs[i] → VC P ops K rest sps.tail (G.put dst (true, .pointer (some ⟨id, j, none⟩))) H) :
    RVs P ops K ⟨dst, .indexAddr t x ix, ty, pos, aft, gd⟩ rest sps G H g := by
  subst hg
  rcases hS with ⟨_, rfl, _⟩ | ⟨id, j0, c, B, F', rfl, rfl, h2, h3, h4, h5, h6, h7⟩
  · simp at hlt
  · have hF := hk.wsn h7
    subst hF
    have hget : xs[i]? = some xs[i] := List.getElem?_eq_getElem hlt
    have hle : i * k.size + k.size ≤ xs.length * k.size := by rw [← Nat.succ_mul]; exact Nat.mul_le_mul_right _ hlt
    have hr := h7.rs.take_get hget
    rw [List.drop_take, List.take_take, List.drop_drop, Nat.min_eq_left (by omega)] at hr
    refine RVs.indexAddr hx hi ht hd (fun _ => ⟨hc, by omega, by omega⟩) ?_
    have := hh id (j0 + i * k.size) _ B ⟨⟨j0, c, rfl, h2, rfl, h6, h7.rs, rfl⟩, h3, h4, h5, rfl, hlt⟩ hr
    simpa using this

theorem set_over1 (c : List Value) (p : Nat) (v : Value) : c.set p v = over c p [v] := rfl

theorem WP.put {α : Type} {k : Kd α} (hk : k.Flat) {xs : List α} {F : List Nat} {v : Value} {i id j f : Nat} {u : List Value} {B : Blk} {w : Value} {y : α} {H' : AH} (h : WP k H v xs F i id j u B) (hf : f < k.size) (hw : k.R H (u.set f w) y)
    (up : Upd H H' id { B with cells := B.cells.set (j + f) w }) : k.WS H' v (xs.set i y) F := by
  obtain ⟨⟨j0, c, rfl, h2, rfl, h6, h7, rfl⟩, h3, h4, h5, rfl, hlt⟩ := h
  have hle : i * k.size + k.size ≤ xs.length * k.size := by rw [← Nat.succ_mul]; exact Nat.mul_le_mul_right _ hlt
  refine .inr ⟨id, j0, c, _, [], rfl, by simp, by simpa using h2, up.at_, h4, h5, by simpa using h6, ?_⟩
  refine hk.ws (H := H) ?_
  have := h7.set hlt hw
  have e : List.take ((xs.set i y).length * k.size) (List.drop j0 (B.cells.set (j0 + i * k.size + f) w)) =
      List.take (i * k.size) (List.take (xs.length * k.size) (List.drop j0 B.cells)) ++ (List.take k.size (List.drop (j0 + i * k.size) B.cells)).set f w ++ List.drop (i * k.size + k.size) (List.take (xs.length * k.size) (List.drop j0 B.cells)) := by
    apply List.ext_getElem?
    intro q
    have hul : ((List.take k.size (List.drop (j0 + i * k.size) B.cells)).set f w).length = k.size := by simp; omega
    have htl : (List.take (i * k.size) (List.take (xs.length * k.size) (List.drop j0 B.cells))).length = i * k.size := by simp; omega
    simp only [List.length_set]
    rw [List.getElem?_take, List.getElem?_drop]
    rcases Nat.lt_or_ge q (i * k.size) with a | a
    · rw [List.append_assoc, List.getElem?_append_left (by omega), List.getElem?_take, if_pos a, List.getElem?_take, if_pos (by omega), if_pos (by omega), List.getElem?_drop, List.getElem?_set_ne (by omega)]
    · rcases Nat.lt_or_ge q (i * k.size + k.size) with b | b
      · rw [List.append_assoc, List.getElem?_append_right (by omega), List.getElem?_append_left (by omega), htl, if_pos (by omega)]
        by_cases hq : q = i * k.size + f
        · subst hq
          rw [show j0 + (i * k.size + f) = j0 + i * k.size + f by omega, Nat.add_sub_cancel_left, List.getElem?_set_self (by omega), List.getElem?_set_self (by simp; omega)]
        · rw [List.getElem?_set_ne (by omega), List.getElem?_set_ne (by omega), List.getElem?_take, if_pos (by omega), List.getElem?_drop]
          congr 1; omega
      · rw [List.getElem?_append_right (by simp; omega), List.getElem?_drop, List.getElem?_take, List.getElem?_drop, List.getElem?_set_ne (by omega)]
        simp only [List.length_append, hul, htl]
        rw [show i * k.size + k.size + (q - (i * k.size + k.size)) = q by omega]
  rw [e]; exact this

/-- One cell of an element is written. -/
theorem RVs.storeW {α : Type} {k : Kd α} (hk : k.Flat) {xs : List α} {F : List Nat} {v : Value} {t i id j f : Nat} {u : List Value} {B : Blk} {w : Value} {y : α} {a b : Operand} (hx : G.raw a = some (.pointer (some ⟨id, j + f, none⟩))) (hy : G.raw b = some w) (ht : tyOf P t = some (1, false))
    (hg : g = true) (hs : sps.headD false = true) (hd : dstOk G ⟨dst, .store t a b, ty, pos, aft, gd⟩ = true) (hc : G.cond a = true ∧ G.cond b = true) (h : WP k H v xs F i id j u B) (hf : f < k.size) (hw : k.R H (u.set f w) y) (ho : oneCell w = true)
    (kk : ∀ (H' : AH) (B' : Blk), Upd H H' id B' → k.WS H' v (xs.set i y) F → VC P ops K rest sps.tail (G.put dst (true, undef)) H') : RVs P ops K ⟨dst, .store t a b, ty, pos, aft, gd⟩ rest sps G H g := by
  have hj : j + f < B.cells.length := by
    obtain ⟨⟨j0, c, rfl, h2, rfl, h6, h7, rfl⟩, h3, h4, h5, rfl, hlt⟩ := h
    have hle : i * k.size + k.size ≤ xs.length * k.size := by rw [← Nat.succ_mul]; exact Nat.mul_le_mul_right _ hlt
    omega
  exact RVs.store1 hx hy ht hg hs hd hc h.at_ h.rw hj ho fun H' up => kk H' _ up (h.put hk hf hw up)

/-- A slice of its elements is made. -/
theorem RVs.buildS {t e n bytes len : Nat} {parts : Array (Nat × Operand)} {z cells : List Value} {us : List (Nat × Value)} (ht : elemOf P t = some (e, n, bytes)) (hz : zeroOf P e = some z)
    (hu : rawParts G.raw parts.toList = some us) (hf : putCells n (List.replicate len z).flatten us = some cells) (hzl : z.length = n) (hlim : len * n ≤ 2 ^ 24)
    (hg : g = true) (hd : dstOk G ⟨dst, .buildSlice t len parts, ty, pos, aft, gd⟩ = true) (hc : G.conds (parts.toList.map (·.2)) = true)
    (k : ∀ (id : Nat) (H' : AH), H <+: H' → H.length ≤ id → H'[id]? = some ⟨e, n, cells, .rw⟩ → VC P ops K rest sps.tail (G.put dst (true, .slice (some ⟨id, 0, none⟩) len len)) H') :
    RVs P ops K ⟨dst, .buildSlice t len parts, ty, pos, aft, gd⟩ rest sps G H g := by
  have hl : (H ++ [(⟨e, n, cells, .rw⟩ : Blk)])[H.length]? = some ⟨e, n, cells, .rw⟩ := by
    rw [List.getElem?_append_right (Nat.le_refl _), Nat.sub_self]; rfl
  exact RVs.buildSlice ht hz hu hf hzl hlim hg hd hc (k _ _ (List.prefix_append _ _) (Nat.le_refl _) hl)
end

/-! ### Marks -/
def digs (n : Nat) : List UInt8 := if n = 0 then [] else digs (n / 10) ++ [UInt8.ofNat (48 + n % 10)]
theorem digs_zero : digs 0 = [] := by rw [digs]; rfl
theorem digs_pos {n : Nat} (h : 0 < n) : digs n = digs (n / 10) ++ [UInt8.ofNat (48 + n % 10)] := by rw [digs, if_neg (by omega)]
theorem digs_len (n : Nat) : (digs n).length ≤ n / 10 + 1 := by
  induction n using Nat.strongRecOn with
  | _ n ih =>
    rcases Nat.eq_zero_or_pos n with rfl | h
    · simp [digs_zero]
    · rw [digs_pos h]
      have := ih (n / 10) (by omega)
      simp only [List.length_append, List.length_singleton]
      rcases Nat.lt_or_ge n 10 with g | g
      · rw [show n / 10 = 0 by omega, digs_zero]; simp
      · omega
def markT (k : Int) : List UInt8 := 109 :: (if k ≤ 0 then [48] else digs k.toNat)
/-- n marks from k on. -/
def marksT (k : Int) (n : Nat) : List (List UInt8) := (List.range n).map fun (i : Nat) => markT (k + (i : Int))
end Go.Proofs.YtaccaelocddakaaDoor
namespace Go.Proofs.YtaccaelocddakaaDoor
set_option linter.unusedVariables false
set_option linter.unusedSectionVars false
open Go Go.RowKit
variable [Tabs]
theorem markT_len (k : Int) (h : k ≤ lim) : (markT k).length ≤ 1000000000000000000 := by
  unfold lim at h
  have := digs_len k.toNat
  unfold markT; split
  · simp
  · simp only [List.length_cons]; omega
theorem marks_set {xs : List (List UInt8)} {k : Int} {i : Nat} (h : i < xs.length) : (marksT k i ++ xs.drop i).set i (markT (k + i)) = marksT k (i + 1) ++ xs.drop (i + 1) := by
  have hl : (marksT k i).length = i := by simp [marksT]
  rw [List.set_append_right _ _ (by omega), hl, Nat.sub_self, List.drop_eq_getElem_cons h, List.set_cons_zero]
  simp [marksT, List.range_succ]
theorem marks_len {xs : List (List UInt8)} {k : Int} {i : Nat} (h : i ≤ xs.length) : (marksT k i ++ xs.drop i).length = xs.length := by simp [marksT]; omega
theorem u8_digit {m : Nat} : IntKind.u8.wrap (IntKind.i64.wrap (48 + Int.tmod (m : Int) 10)) = ((UInt8.ofNat (48 + m % 10)).toNat : Int) := by
  have h1 : Int.tmod (m : Int) 10 = ((m % 10 : Nat) : Int) := rfl
  have h2 : m % 10 < 10 := Nat.mod_lt _ (by decide)
  rw [h1, UInt8.toNat_ofNat']
  generalize m % 10 = r at *
  rw [IntWalk.i64_in _ (by omega), Nat.mod_eq_of_lt (by omega)]
  have : ∀ r : Fin 10, IntKind.u8.wrap (48 + ((r.val : Nat) : Int)) = ((48 + r.val : Nat) : Int) := by decide
  exact this ⟨r, h2⟩
end Go.Proofs.YtaccaelocddakaaDoor
namespace Go.Proofs.YtaccaelocddakaaDoor
set_option linter.unusedVariables false
set_option linter.unusedSectionVars false
variable [Tabs]
def seenM (k : Int) (n : Nat) : List Seen := (List.range n).map fun (i : Nat) => ⟨k + 3 * (i : Int), k + 3 * (i : Int) + 1, k + 3 * (i : Int) + 2⟩
theorem seenM_set {xs : List Seen} {k : Int} {i : Nat} (h : i < xs.length) : (seenM k i ++ xs.drop i).set i ⟨k + 3 * (i : Int), k + 3 * (i : Int) + 1, k + 3 * (i : Int) + 2⟩ = seenM k (i + 1) ++ xs.drop (i + 1) := by
  have hl : (seenM k i).length = i := by simp [seenM]
  rw [List.set_append_right _ _ (by omega), hl, Nat.sub_self, List.drop_eq_getElem_cons h, List.set_cons_zero]
  simp [seenM, List.range_succ]
theorem seenM_len {xs : List Seen} {k : Int} {i : Nat} (h : i ≤ xs.length) : (seenM k i ++ xs.drop i).length = xs.length := by simp [seenM]; omega
theorem take_snoc {α : Type} {xs : List α} {i : Nat} {y : α} (h : xs[i]? = some y) : xs.take (i + 1) = xs.take i ++ [y] := by
  rw [List.take_add_one, h]; rfl
theorem marksT_get {k : Int} {n i : Nat} {y : List UInt8} (h : (marksT k n)[i]? = some y) : y = markT (k + i) := by
  unfold marksT at h
  rw [List.getElem?_map] at h
  simp only [Option.map_eq_some_iff] at h
  obtain ⟨j, h1, rfl⟩ := h
  rw [List.getElem?_eq_some_iff] at h1
  obtain ⟨_, h2⟩ := h1
  simp at h2; subst h2; rfl
end Go.Proofs.YtaccaelocddakaaDoor
