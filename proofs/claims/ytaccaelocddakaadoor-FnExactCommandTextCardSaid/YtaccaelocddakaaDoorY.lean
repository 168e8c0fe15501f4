/- A part of the proof: no conditions. -/
import Derived.Test.YtaccaelocddakaaDoorX
namespace Go.Proofs.YtaccaelocddakaaDoor
open Go Go.RowKit
set_option linter.unusedVariables false
set_option linter.unusedSectionVars false
variable [Tabs]

theorem u8_fig {r : Nat} (h : r < 10) : IntKind.u8.wrap (IntKind.i64.wrap (48 + (r : Int))) = ((UInt8.ofNat (48 + r)).toNat : Int) := by
  rw [UInt8.toNat_ofNat', IntWalk.i64_in _ (by omega), Nat.mod_eq_of_lt (by omega)]
  have : ∀ r : Fin 10, IntKind.u8.wrap (48 + ((r.val : Nat) : Int)) = ((48 + r.val : Nat) : Int) := by decide
  exact this ⟨r, h⟩

theorem fresh_build {α : Type} {k : Kd α} (hk : k.Flat) {H H' : AH} {b e n : Nat} {cells : List Value} {xs : List α} (p : H <+: H') (hb : H.length ≤ b) (h : H'[b]? = some ⟨e, k.size, cells, .rw⟩) (hr : k.Rs H' cells xs) (hn : xs.length = n) (hl : n ≤ lim) :
    Fresh k.slice H H' [.slice (some ⟨b, 0, none⟩) n n] xs := by
  subst hn
  refine ⟨p, [b], ⟨_, rfl, .inr ⟨b, 0, xs.length, _, [], rfl, rfl, ⟨Nat.le_refl _, hl⟩, h, rfl, rfl, ?_, ?_⟩⟩, by simp, by simpa using hb⟩
  · simp only; rw [hr.len]; omega
  · simp only [List.drop_zero]
    rw [← hr.len, List.take_length]
    exact hk.ws hr
theorem fresh_nil {α : Type} {k : Kd α} {H H' : AH} (p : H <+: H') : Fresh k.slice H H' [.slice none 0 0] [] := ⟨p, [], ⟨_, rfl, .inl ⟨rfl, rfl, rfl⟩⟩, by simp, by simp⟩
theorem strs_Rs {H : AH} : ∀ (xs : List (List UInt8)), (∀ x ∈ xs, x.length ≤ lim) → Kd.str.Rs H (xs.map fun l => .string (bs l)) xs
  | [], _ => .nil
  | x :: xs, h => .cons (u := [.string (bs x)]) ⟨rfl, h x (by simp)⟩ (strs_Rs xs fun y hy => h y (by simp [hy]))
theorem digs_lim {n : Nat} (h : n ≤ lim) : (digs n).length ≤ 1000000000000000000 := by
  unfold lim at h
  have := digs_len n
  omega
theorem decL_lim {n : Int} (h0 : 0 ≤ n) (h : n ≤ lim) : (decL n).length ≤ lim := by
  have hd := digs_lim (n := n.natAbs) (by omega)
  unfold lim at *
  unfold decL
  split
  · simp
  · rw [if_neg (by omega)]; omega

section
variable {P : Program} {ops : Array Oper} {K : GF → AH → Prop} {rest : List Oper} {sps : List Bool} {G : GF} {H : AH} {g : Bool} {dst : Option Nat} {ty : TypeId} {pos : String} {aft : Array Edge} {gd : Option (Nat × Bool)}
/-- A slice of one's own grows. -/
theorem RVs.appendG {t u e e2 size bytes : Nat} {x y : Operand} {bw n m : Nat} {B : Blk} {yv : Value} {cs : List Value} (hx : G.raw x = some (.slice (some ⟨bw, 0, none⟩) n n)) (hy : G.raw y = some yv) (ht : elemOf P t = some (e, size, bytes)) (he : elOk P e size bytes = true)
    (hu : P.underlying u = some (.slice e2)) (hg : g = true) (hsp : sps.headD false = true) (hd : dstOk G ⟨dst, .call ⟨.builtin .append, #[x, y], #[t, u]⟩, ty, pos, aft, gd⟩ = true) (hc : G.cond x = true ∧ G.cond y = true)
    (hs : Src H size yv m cs) (hB : H[bw]? = some B) (hrw : B.st = .rw) (hel : B.el = e) (hes : B.esz = size) (hlen : B.cells.length = n * size) (hoc : cs.all oneCell = true) (hm : 0 < m) (hsmall : (n + m) * bytes ≤ 70368744177664)
    (k : ∀ (id : Nat) (H' : AH), Chg H H' [bw] → H.length ≤ id → H'[id]? = some ⟨e, size, B.cells ++ cs, .rw⟩ → VC P ops K rest sps.tail (G.put dst (true, .slice (some ⟨id, 0, none⟩) (n + m) (n + m))) H') :
    RVs P ops K ⟨dst, .call ⟨.builtin .append, #[x, y], #[t, u]⟩, ty, pos, aft, gd⟩ rest sps G H g := by
  have hb : Src H size (.slice (some ⟨bw, 0, none⟩) n n) n ((B.cells.drop 0).take (n * size)) := .sl hB (by rw [hrw]; decide) (by omega)
  have e1 : (B.cells.drop 0).take (n * size) = B.cells := by rw [List.drop_zero, ← hlen, List.take_length]
  rw [e1] at hb
  refine RVs.append_grow hx hy ht he hu (.inl ⟨_, rfl⟩) hg (.inl hsp) hd hc hs hb (fun q hq => by cases hq; exact ⟨B, hB, hrw, hel, hes⟩) hoc (by omega) hsmall ?_
  have hgr : grown H (some ⟨bw, 0, none⟩) ⟨e, size, B.cells ++ cs, .rw⟩ = H.set bw (kill B) ++ [⟨e, size, B.cells ++ cs, .rw⟩] := by unfold grown; simp only [hB]
  rw [hgr]
  refine k _ _ ⟨by simp, fun i hi hn => ?_⟩ (Nat.le_refl _) ?_
  · rw [List.getElem?_append_left (by simpa using hi), List.getElem?_set_ne (by simp at hn; omega)]
  · rw [List.getElem?_append_right (by simp)]; simp
end
end Go.Proofs.YtaccaelocddakaaDoor
namespace Go.Proofs.YtaccaelocddakaaDoor
set_option linter.unusedVariables false
set_option linter.unusedSectionVars false
open Go Go.RowKit
variable [Tabs]
theorem slW {α : Type} {k : Kd α} {H : AH} {v : Value} {xs : List α} {F : List Nat} (h : k.slice.W H [v] xs F) : k.WS H v xs F := by
  obtain ⟨v', h1, h2⟩ := h
  cases h1; exact h2
theorem Wsl {α : Type} {k : Kd α} {H : AH} {v : Value} {xs : List α} {F : List Nat} (h : k.WS H v xs F) : k.slice.W H [v] xs F := ⟨v, rfl, h⟩
theorem szCache_n {x : Cache} (h : ¬ szCacheL x 1048576 < 0) : x.seens.length ≤ 1048576 := by
  unfold szCacheL at h
  split at h
  · exact absurd (by decide) h
  · have := szl_pos h; omega
theorem cacheWords_len (x : Cache) : (cacheWords x).length ≤ 4 := by
  unfold cacheWords; split
  · split <;> simp
  · simp
theorem oc4 {α : Type} {k : Kd α} {H : AH} {v : Value} {xs : List α} {F : List Nat} (h : k.slice.W H [v] xs F) (a b c : Value) (ha : oneCell a = true) (hb : oneCell b = true) (hc : oneCell c = true) : List.all [a, b, c, v] oneCell = true := by
  have := (slW h).S.oc
  simp only [List.all_cons, List.all_nil, ha, hb, hc, this]; rfl
end Go.Proofs.YtaccaelocddakaaDoor
