/- A part of the proof: no conditions. -/
import Derived.Test.YtaccaelocddakaaDoorM
namespace Go.Proofs.YtaccaelocddakaaDoor
open Go Go.RowKit
set_option linter.unusedVariables false
set_option linter.unusedSectionVars false
variable [Tabs]

/-! ### Further operations in a region -/
section
variable {P : Program} {ops : Array Oper} {K : GF → AH → Prop} {rest : List Oper} {sps : List Bool} {G : GF} {H : AH} {g : Bool} {dst : Option Nat} {ty : TypeId} {pos : String} {aft : Array Edge} {gd : Option (Nat × Bool)}

theorem RVs.pure {op : Op} {v : Value} (hd : dstOk G ⟨dst, op, ty, pos, aft, gd⟩ = true) (h : g = true → OPure P ⟨dst, op, ty, pos, aft, gd⟩ G.ev v) (k : VC P ops K rest sps.tail (G.put dst (g, v)) H) :
    RVs P ops K ⟨dst, op, ty, pos, aft, gd⟩ rest sps G H g :=
  ⟨v, H, Rg.pure hd h, k⟩

theorem RVs.makeSlice {t e size bytes : Nat} {x y : Operand} {n : Int} {z : List Value} (hx : G.raw x = some (.int .i64 n)) (hy : G.raw y = some (.int .i64 n)) (ht : elemOf P t = some (e, size, bytes)) (he : elOk P e size bytes = true) (hz : zeroOf P e = some z)
    (hg : g = true) (hd : dstOk G ⟨dst, .makeSlice t x y, ty, pos, aft, gd⟩ = true) (hc : G.cond x = true ∧ G.cond y = true) (h0 : 0 ≤ n) (hb : n * bytes ≤ 70368744177664)
    (k : VC P ops K rest sps.tail (G.put dst (true, .slice (some ⟨H.length, 0, none⟩) n.toNat n.toNat)) (H ++ [⟨e, size, (List.replicate n.toNat z).flatten, .rw⟩])) :
    RVs P ops K ⟨dst, .makeSlice t x y, ty, pos, aft, gd⟩ rest sps G H g := by
  subst hg
  obtain ⟨ti, h1, h2, h3, h4⟩ := elem_parts ht
  obtain ⟨tj, zv, z1, z2, z3, rfl⟩ := zero_parts hz
  exact ⟨_, _, ⟨fun _ => ⟨OEval.makeSlice rfl h1 (.of he) ⟨tj, z1, z2⟩ (raw_ev hx hc.1) (raw_ev hy hc.2) h0 hb, .inr (List.prefix_append _ _), fun hi => by cases hi⟩, (fun hf => by cases hf), dstOk_sound hd⟩, k⟩

theorem RVs.bytes_of {s d e : Nat} {x : Operand} {b : ByteArray} (hx : G.raw x = some (.string b)) (hs : P.underlying s = some .string) (hd' : P.underlying d = some (.slice e)) (he : P.underlying e = some (.int .u8))
    (hg : g = true) (hd : dstOk G ⟨dst, .convert s d x, ty, pos, aft, gd⟩ = true) (hc : G.cond x = true)
    (hni : inertOp (.convert s d x) = false)
    (k : VC P ops K rest sps.tail (G.put dst (true, .slice (some ⟨H.length, 0, none⟩) (bl b).length (bl b).length)) (H ++ [⟨e, 1, (bl b).map fun q => .int .u8 q.toNat, .rw⟩])) :
    RVs P ops K ⟨dst, .convert s d x, ty, pos, aft, gd⟩ rest sps G H g := by
  subst hg
  exact ⟨_, _, ⟨fun _ => ⟨OEval.bytes_of rfl hs hd' he (raw_ev hx hc), .inr (List.prefix_append _ _), fun hi => by rw [hni] at hi; cases hi⟩, (fun hf => by cases hf), dstOk_sound hd⟩, k⟩

theorem RVs.text_of {s d e : Nat} {x : Operand} {l : List UInt8} {b : Option Addr} {n cp : Nat} {cs : List Value} (hx : G.raw x = some (.slice b n cp)) (hs : P.underlying s = some (.slice e)) (hd' : P.underlying d = some .string) (he : P.underlying e = some (.int .u8))
    (hd : dstOk G ⟨dst, .convert s d x, ty, pos, aft, gd⟩ = true) (hni : inertOp (.convert s d x) = false)
    (hc : g = true → G.cond x = true ∧ Src H 1 (.slice b n cp) n cs ∧ cs = l.map fun q => .int .u8 q.toNat)
    (k : VC P ops K rest sps.tail (G.put dst (g, .string (bs l))) H) :
    RVs P ops K ⟨dst, .convert s d x, ty, pos, aft, gd⟩ rest sps G H g :=
  ⟨_, _, ⟨fun hg => ⟨OEval.text_of rfl hs hd' he (raw_ev hx (hc hg).1) (hc hg).2.1 (hc hg).2.2, .inr (List.prefix_refl _), fun hi => by rw [hni] at hi; cases hi⟩, fun _ => rfl, dstOk_sound hd⟩, k⟩

/-- A slice of its elements, each of which is told by its cells. -/
def putCells (n : Nat) : List Value → List (Nat × Value) → Option (List Value) := putParts (fun i => some (i * n, n))

theorem RVs.buildSlice {t e n bytes len : Nat} {parts : Array (Nat × Operand)} {z cells : List Value} {us : List (Nat × Value)} (ht : elemOf P t = some (e, n, bytes)) (hz : zeroOf P e = some z)
    (hu : rawParts G.raw parts.toList = some us) (hf : putCells n (List.replicate len z).flatten us = some cells) (hzl : z.length = n) (hlim : len * n ≤ 2 ^ 24)
    (hg : g = true) (hd : dstOk G ⟨dst, .buildSlice t len parts, ty, pos, aft, gd⟩ = true) (hc : G.conds (parts.toList.map (·.2)) = true)
    (k : VC P ops K rest sps.tail (G.put dst (true, .slice (some ⟨H.length, 0, none⟩) len len)) (H ++ [⟨e, n, cells, .rw⟩])) :
    RVs P ops K ⟨dst, .buildSlice t len parts, ty, pos, aft, gd⟩ rest sps G H g := by
  subst hg
  obtain ⟨ti, h1, h2, h3, h4⟩ := elem_parts ht
  obtain ⟨tj, zv, z1, z2, z3, rfl⟩ := zero_parts hz
  have hij : ti = tj := by rw [h2] at z1; cases z1; rfl
  subst hij
  have hp : ((Array.range (len * n)).map (fun i => (if len * n = 0 then #[] else zv.cells)[i % (if len * n = 0 then #[] else zv.cells).size]!)) = ((List.replicate len zv.cells.toList).flatten).toArray := by
    apply Array.toList_inj.1
    by_cases h0 : len * n = 0
    · have : (List.replicate len zv.cells.toList).flatten = [] := by
        apply List.eq_nil_of_length_eq_zero
        simp only [List.length_flatten, List.map_replicate, List.sum_replicate_nat, hzl]; exact h0
      rw [h0, this]; simp
    · simp only [if_neg h0]
      have hsz : zv.cells.size = n := by simpa using hzl
      have := zeros_flat (z := zv.cells) len
      rw [hsz] at this
      rw [hsz]; simpa using this
  have hfill := putParts_fill us _ cells hf
  have hlen : cells.length = len * n := by
    have gen : ∀ (us : List (Nat × Value)) (z cs : List Value), putCells n z us = some cs → cs.length = z.length := by
      intro us
      induction us with
      | nil => intro z cs h; simp [putCells, putParts] at h; subst h; rfl
      | cons p r ih =>
        intro z cs h
        obtain ⟨i, v⟩ := p
        simp only [putCells, putParts] at h
        split at h
        · have := ih _ _ h
          rw [this, over_length]
        · cases h
    rw [gen _ _ _ hf]
    simp only [List.length_flatten, List.map_replicate, List.sum_replicate_nat, hzl]
  refine ⟨_, _, ⟨fun _ => ⟨OEval.buildSlice (cells := cells.toArray) (us := us) rfl h1 ⟨ti, h2, z2, h3⟩ z3 hlim ?_ ?_ (by simpa using hlen), .inr (List.prefix_append _ _), fun hi => by cases hi⟩, (fun hf => by cases hf), dstOk_sound hd⟩, (by simpa using k)⟩
  · have hus := rawParts_map (raw := G.ev) parts.toList us ?_
    · exact hus
    · have gen : ∀ (ps : List (Nat × Operand)) (us : List (Nat × Value)), rawParts G.raw ps = some us → G.conds (ps.map (·.2)) = true → rawParts G.ev ps = some us := by
        intro ps
        induction ps with
        | nil => intro us h _; simpa [rawParts] using h
        | cons p ps ih =>
          intro us h hc
          simp only [List.map_cons, GF.conds, Bool.and_eq_true] at hc
          simp only [rawParts] at h ⊢
          split at h
          · rename_i v r q1 q2
            rw [raw_ev q1 hc.1, ih _ q2 hc.2]; exact h
          · cases h
      exact gen _ _ hu hc
  · rw [hp]; exact hfill

theorem RVs.slice_string {t : TypeId} {x : Operand} {lo hi : Option Operand} {s : ByteArray} {l h : Int} (hx : G.raw x = some (.string s)) (ht : P.underlying t = some .string)
    (hl : match lo with | none => l = 0 | some y => ∃ k, G.raw y = some (.int k l)) (hh : match hi with | none => h = (bl s).length | some y => ∃ k, G.raw y = some (.int k h))
    (hd : dstOk G ⟨dst, .slice t x lo hi none, ty, pos, aft, gd⟩ = true)
    (hc : g = true → (G.cond x = true ∧ (∀ y, lo = some y → G.cond y = true) ∧ (∀ y, hi = some y → G.cond y = true)) ∧ 0 ≤ l ∧ l ≤ h ∧ h ≤ (bl s).length)
    (k : VC P ops K rest sps.tail (G.put dst (g, .string (bs (((bl s).drop l.toNat).take (h.toNat - l.toNat))))) H) :
    RVs P ops K ⟨dst, .slice t x lo hi none, ty, pos, aft, gd⟩ rest sps G H g := by
  refine RVs.pure hd (fun hg => ?_) k
  obtain ⟨⟨c1, c2, c3⟩, h0, h1, h2⟩ := hc hg
  refine OPure.slice_string rfl ht (raw_ev hx c1) ?_ ?_ h0 h1 h2
  · cases lo with
    | none => exact hl
    | some y => obtain ⟨k, hk⟩ := hl; exact ⟨k, raw_ev hk (c2 y rfl)⟩
  · cases hi with
    | none => exact hh
    | some y => obtain ⟨k, hk⟩ := hh; exact ⟨k, raw_ev hk (c3 y rfl)⟩

theorem RVs.slice {t e size bytes : Nat} {x : Operand} {lo hi mx : Option Operand} {b : Option Addr} {n cp : Nat} {l h m : Int} (hx : G.raw x = some (.slice b n cp)) (ht : elemOf P t = some (e, size, bytes))
    (hl : match lo with | none => l = 0 | some y => ∃ k, G.raw y = some (.int k l)) (hh : match hi with | none => mx = none ∧ h = n | some y => ∃ k, G.raw y = some (.int k h)) (hm : match mx with | none => m = cp | some y => ∃ k, G.raw y = some (.int k m))
    (hd : dstOk G ⟨dst, .slice t x lo hi mx, ty, pos, aft, gd⟩ = true) (hni : inertOp (.slice t x lo hi mx) = false)
    (hc : g = true → (G.cond x = true ∧ (∀ y, lo = some y → G.cond y = true) ∧ (∀ y, hi = some y → G.cond y = true) ∧ (∀ y, mx = some y → G.cond y = true)) ∧ (∀ q, b = some q → ∃ B, H[q.block]? = some B ∧ B.esz = size) ∧ 0 ≤ l ∧ l ≤ h ∧ h ≤ m ∧ m ≤ cp)
    (k : VC P ops K rest sps.tail (G.put dst (g, .slice (if m = l then b else b.map (·.add (l.toNat * size))) (h.toNat - l.toNat) (m.toNat - l.toNat))) H) :
    RVs P ops K ⟨dst, .slice t x lo hi mx, ty, pos, aft, gd⟩ rest sps G H g := by
  obtain ⟨ti, h1, h2, h3, h4⟩ := elem_parts ht
  refine ⟨_, H, ⟨fun hg => ?_, fun _ => rfl, dstOk_sound hd⟩, k⟩
  obtain ⟨⟨c1, c2, c3, c4⟩, hB, r0, r1, r2, r3⟩ := hc hg
  refine ⟨OEval.slice rfl h1 ⟨ti, h2, h3⟩ (raw_ev hx c1) hB ?_ ?_ ?_ r0 r1 r2 r3, .inr (List.prefix_refl _), fun hi => by rw [hni] at hi; cases hi⟩
  · cases lo with
    | none => exact hl
    | some y => obtain ⟨k, hk⟩ := hl; exact ⟨k, raw_ev hk (c2 y rfl)⟩
  · cases hi with
    | none => exact hh
    | some y => obtain ⟨k, hk⟩ := hh; exact ⟨k, raw_ev hk (c3 y rfl)⟩
  · cases mx with
    | none => exact hm
    | some y => obtain ⟨k, hk⟩ := hm; exact ⟨k, raw_ev hk (c4 y rfl)⟩

/-- An operation that does something to memory: always done, its order kept. -/
theorem RVs.step {op : Op} {v : Value} {H' : AH} (hg : g = true) (hs : sps.headD false = true ∨ H <+: H') (hd : dstOk G ⟨dst, op, ty, pos, aft, gd⟩ = true) (hni : inertOp op = false) (h : OEval P ⟨dst, op, ty, pos, aft, gd⟩ G.ev H v H')
    (k : VC P ops K rest sps.tail (G.put dst (true, v)) H') : RVs P ops K ⟨dst, op, ty, pos, aft, gd⟩ rest sps G H g := by
  subst hg
  exact ⟨v, H', ⟨fun _ => ⟨h, hs, fun hi => by rw [hni] at hi; cases hi⟩, (fun hf => by cases hf), dstOk_sound hd⟩, k⟩

theorem RVs.append_zero {t u e size bytes : Nat} {x y : Operand} {b : Option Addr} {n cp : Nat} {yv : Value} {cs : List Value} {d : TypeDesc} (hx : G.raw x = some (.slice b n cp)) (hy : G.raw y = some yv) (ht : elemOf P t = some (e, size, bytes)) (he : elOk P e size bytes = true)
    (hu : P.underlying u = some d) (hdd : (∃ e2, d = .slice e2) ∨ d = .string) (hg : g = true) (hd : dstOk G ⟨dst, .call ⟨.builtin .append, #[x, y], #[t, u]⟩, ty, pos, aft, gd⟩ = true) (hc : G.cond x = true ∧ G.cond y = true)
    (hs : Src H size yv 0 cs) (k : VC P ops K rest sps.tail (G.put dst (true, .slice b n cp)) H) : RVs P ops K ⟨dst, .call ⟨.builtin .append, #[x, y], #[t, u]⟩, ty, pos, aft, gd⟩ rest sps G H g := by
  obtain ⟨ti, h1, h2, h3, h4⟩ := elem_parts ht
  exact RVs.step hg (.inr (List.prefix_refl _)) hd rfl (OEval.append_zero rfl rfl rfl rfl h1 hu hdd (.of he) (raw_ev hx hc.1) (raw_ev hy hc.2) hs) k

theorem RVs.append_grow {t u e size bytes : Nat} {x y : Operand} {b : Option Addr} {n cp m : Nat} {yv : Value} {cs os : List Value} {d : TypeDesc} (hx : G.raw x = some (.slice b n cp)) (hy : G.raw y = some yv) (ht : elemOf P t = some (e, size, bytes)) (he : elOk P e size bytes = true)
    (hu : P.underlying u = some d) (hdd : (∃ e2, d = .slice e2) ∨ d = .string) (hg : g = true) (hsp : sps.headD false = true ∨ b = none) (hd : dstOk G ⟨dst, .call ⟨.builtin .append, #[x, y], #[t, u]⟩, ty, pos, aft, gd⟩ = true) (hc : G.cond x = true ∧ G.cond y = true)
    (hs : Src H size yv m cs) (hb : Src H size (.slice b n cp) n os) (hrw : ∀ q, b = some q → ∃ B, H[q.block]? = some B ∧ B.st = .rw ∧ B.el = e ∧ B.esz = size) (hoc : cs.all oneCell = true) (hroom : cp < n + m) (hsmall : (n + m) * bytes ≤ 70368744177664)
    (k : VC P ops K rest sps.tail (G.put dst (true, .slice (some ⟨H.length, 0, none⟩) (n + m) (n + m))) (grown H b ⟨e, size, os ++ cs, .rw⟩)) : RVs P ops K ⟨dst, .call ⟨.builtin .append, #[x, y], #[t, u]⟩, ty, pos, aft, gd⟩ rest sps G H g := by
  obtain ⟨ti, h1, h2, h3, h4⟩ := elem_parts ht
  refine RVs.step hg ?_ hd rfl (OEval.append_grow rfl rfl rfl rfl h1 hu hdd (.of he) (raw_ev hx hc.1) (raw_ev hy hc.2) hs hb hrw hoc hroom hsmall) k
  rcases hsp with h | rfl
  · exact .inl h
  · exact .inr (by unfold grown; exact List.prefix_append _ _)

theorem RVs.append_in {t u e size bytes : Nat} {x y : Operand} {id j n cp m : Nat} {B : Blk} {yv : Value} {cs : List Value} {d : TypeDesc} (hx : G.raw x = some (.slice (some ⟨id, j, none⟩) n cp)) (hy : G.raw y = some yv) (ht : elemOf P t = some (e, size, bytes)) (he : elOk P e size bytes = true)
    (hu : P.underlying u = some d) (hdd : (∃ e2, d = .slice e2) ∨ d = .string) (hg : g = true) (hsp : sps.headD false = true) (hd : dstOk G ⟨dst, .call ⟨.builtin .append, #[x, y], #[t, u]⟩, ty, pos, aft, gd⟩ = true) (hc : G.cond x = true ∧ G.cond y = true)
    (hs : Src H size yv m cs) (hB : H[id]? = some B) (hst : B.st = .rw) (hle : j + n * size + m * size ≤ B.cells.length) (hoc : cs.all oneCell = true) (hroom : n + m ≤ cp) (hpos : 0 < cp)
    (k : VC P ops K rest sps.tail (G.put dst (true, .slice (some ⟨id, j, none⟩) (n + m) cp)) (H.set id { B with cells := over B.cells (j + n * size) cs })) : RVs P ops K ⟨dst, .call ⟨.builtin .append, #[x, y], #[t, u]⟩, ty, pos, aft, gd⟩ rest sps G H g := by
  obtain ⟨ti, h1, h2, h3, h4⟩ := elem_parts ht
  exact RVs.step hg (.inl hsp) hd rfl (OEval.append_in rfl rfl rfl rfl h1 hu hdd (.of he) (raw_ev hx hc.1) (raw_ev hy hc.2) hs hB hst hle hoc hroom hpos) k

theorem RVs.copy {t u e size bytes : Nat} {x y : Operand} {id j n cp m : Nat} {B : Blk} {yv : Value} {cs : List Value} (hx : G.raw x = some (.slice (some ⟨id, j, none⟩) n cp)) (hy : G.raw y = some yv) (ht : elemOf P t = some (e, size, bytes))
    (hg : g = true) (hsp : sps.headD false = true) (hd : dstOk G ⟨dst, .call ⟨.builtin .copy, #[x, y], #[t, u]⟩, ty, pos, aft, gd⟩ = true) (hc : G.cond x = true ∧ G.cond y = true)
    (hs : Src H size yv m cs) (hB : H[id]? = some B) (hst : B.st = .rw) (hle : j + n * size ≤ B.cells.length) (hoc : cs.all oneCell = true) (hpos : 0 < cp)
    (k : VC P ops K rest sps.tail (G.put dst (true, .int .i64 (min m n : Nat))) (H.set id { B with cells := over B.cells j (cs.take (min m n * size)) })) : RVs P ops K ⟨dst, .call ⟨.builtin .copy, #[x, y], #[t, u]⟩, ty, pos, aft, gd⟩ rest sps G H g := by
  obtain ⟨ti, h1, h2, h3, h4⟩ := elem_parts ht
  exact RVs.step hg (.inl hsp) hd rfl (OEval.copy rfl rfl rfl rfl h1 ⟨ti, h2, h3⟩ (raw_ev hx hc.1) (raw_ev hy hc.2) hs hB hst hle hoc hpos) k

theorem RVs.clear {t e size bytes : Nat} {x : Operand} {id j n cp : Nat} {B : Blk} {z : List Value} (hx : G.raw x = some (.slice (some ⟨id, j, none⟩) n cp)) (ht : elemOf P t = some (e, size, bytes)) (he : elOk P e size bytes = true) (hz : zeroOf P e = some z)
    (hg : g = true) (hsp : sps.headD false = true) (hd : dstOk G ⟨dst, .call ⟨.builtin .clear, #[x], #[t]⟩, ty, pos, aft, gd⟩ = true) (hc : G.cond x = true) (hB : H[id]? = some B) (hst : B.st = .rw) (hle : j + n * size ≤ B.cells.length)
    (k : VC P ops K rest sps.tail (G.put dst (true, .tuple #[])) (H.set id { B with cells := over B.cells j (List.replicate n z).flatten })) : RVs P ops K ⟨dst, .call ⟨.builtin .clear, #[x], #[t]⟩, ty, pos, aft, gd⟩ rest sps G H g := by
  obtain ⟨ti, h1, h2, h3, h4⟩ := elem_parts ht
  obtain ⟨tj, zv, z1, z2, z3, rfl⟩ := zero_parts hz
  exact RVs.step hg (.inl hsp) hd rfl (OEval.clear rfl rfl rfl rfl h1 (.of he) ⟨tj, z1, z2⟩ (raw_ev hx hc) hB hst hle) k

theorem RVs.makeFunc {fn : Fn} {fs cs : Array Operand} {us vs : List Value} (hu : raws G.raw fs.toList = some us) (hv : raws G.raw cs.toList = some vs) (hd : dstOk G ⟨dst, .makeFunc fn fs cs, ty, pos, aft, gd⟩ = true)
    (hc : g = true → G.conds fs.toList = true ∧ G.conds cs.toList = true) (k : VC P ops K rest sps.tail (G.put dst (g, .func fn us.toArray vs.toArray)) H) : RVs P ops K ⟨dst, .makeFunc fn fs cs, ty, pos, aft, gd⟩ rest sps G H g :=
  RVs.pure hd (fun hg => OPure.makeFunc rfl (raws_ev _ _ hu (hc hg).1) (raws_ev _ _ hv (hc hg).2)) k

end
end Go.Proofs.YtaccaelocddakaaDoor
