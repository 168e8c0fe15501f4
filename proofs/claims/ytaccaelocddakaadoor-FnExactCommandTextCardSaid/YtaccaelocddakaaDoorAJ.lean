/- Strings that a library makes, in the words of the walks: a new block as an answer; the text of a slice of bytes; the parts of a text between blanks. -/
import Derived.Test.YtaccaelocddakaaDoorAF
import Derived.Test.YtaccaelocddakaaDoorAI
import Derived.Lib.SplitLaws
import Derived.Lib.IndexBytes
namespace Go.Proofs.YtaccaelocddakaaDoor
open Go Go.RowKit
set_option linter.unusedVariables false
set_option linter.unusedSectionVars false
/-- What stands in the length of Index's short strings. -/
class MLen where
  m : Int
  vs : List Value
  h : vs[0]? = some (.int .i64 m)
section
variable [Tabs]
/-- A contract of the library: plain arguments; a new block of plain cells is the answer. -/
theorem AEval.of_alloc {P : Program} {k : FuncId} {args : List Value} {H : AH} {cs : List Value} {el : TypeId} (hp : ∀ u ∈ args, PlainV u) (hc : cs.all plainCell = true)
    (h : ∀ w : World, (∀ g vs, Tabs.vals g = some vs → ∃ c el fr, w.heap[g]? = some (.cells c el fr) ∧ c.toList = vs) → Calls P k args.toArray w fun e w' => e = .returned (.slice (some ⟨w.heap.size, 0, none⟩) cs.length cs.length) ∧ w' = w.alloc (.cells cs.toArray el)) :
    AEval P k args H (.slice (some ⟨H.length, 0, none⟩) cs.length cs.length) (H ++ [⟨el, 1, cs, .rw⟩]) := by
  refine ⟨by simp, fun ψ w args' hw ha hn => ?_⟩
  have : args' = args.toArray := by apply Array.toList_inj.1; rw [ha.plain_eq hp]
  subst this
  refine (h w fun g vs hg => (hw.fixed g vs hg).1).mono ?_
  rintro e w' ⟨rfl, rfl⟩
  have hno := hn H.length (Nat.le_refl _) (by simp)
  have st := Step.alloc (w' := w.alloc (.cells cs.toArray el)) hw hno (c := cs.toArray) (el := el) (fr := (0, 0)) (esz := 1) (cs := cs) rfl rfl rfl rfl (by simp) (by intro k _; simp) (fun i v hv => ⟨v, by simpa using hv, .refl_plain (List.all_eq_true.1 hc v (List.mem_of_getElem? hv))⟩)
  exact ⟨_, _, rfl, VR.of_newrow (lim := cs.toArray.size) (esz := 1) Emb.put_self (Nat.le_refl _) (Nat.le_refl _) (by simp), st⟩
/-- A contract of the library: plain arguments, two plain answers, nothing done to old memory. -/
theorem AEval.of_pair {P : Program} {k : FuncId} {args : List Value} {H : AH} {u v : Value} (hp : ∀ u ∈ args, PlainV u) (hu : PlainV u) (hv : PlainV v)
    (h : ∀ w, (∀ g vs, Tabs.vals g = some vs → ∃ c el fr, w.heap[g]? = some (.cells c el fr) ∧ c.toList = vs) → Calls P k args.toArray w fun e w' => e = .returned (.tuple #[u, v]) ∧ Below w.heap.size w w') : AEval P k args H (.tuple #[u, v]) H := by
  refine ⟨Nat.le_refl _, fun ψ w args' hw ha _ => ?_⟩
  have : args' = args.toArray := by apply Array.toList_inj.1; rw [ha.plain_eq hp]
  subst this
  refine (h w fun g vs hg => (hw.fixed g vs hg).1).mono ?_
  rintro e w' ⟨rfl, hb⟩
  exact ⟨_, ψ, rfl, .tuple (.cons (.of_plain hu) (.cons (.of_plain hv) .nil)), .below hw hb⟩
end
def b2i (l : List UInt8) : List Int := l.map fun q => (q.toNat : Int)
@[simp] theorem b2i_len (l : List UInt8) : (b2i l).length = l.length := List.length_map ..
theorem b2i_app (a b : List UInt8) : b2i (a ++ b) = b2i a ++ b2i b := List.map_append ..
theorem int_Rs {k : IntKind} {H : AH} {cs : List Value} {xs : List Int} (h : (Kd.int k).Rs H cs xs) : cs = xs.map fun n => .int k n := by
  induction h with
  | nil => rfl
  | cons h t ih => obtain rfl := h; rw [ih]; rfl
section
variable [Tabs]
variable {P : Program} {ops : Array Oper} {K : GF → AH → Prop} {rest : List Oper} {sps : List Bool} {G : GF} {H : AH} {g : Bool} {dst : Option Nat} {ty : TypeId} {pos : String} {aft : Array Edge} {gd : Option (Nat × Bool)}
/-- The text of a slice of bytes. -/
theorem RVs.text_S {s d e : Nat} {x : Operand} {l : List UInt8} {v : Value} (hx : G.raw x = some v) (hs : P.underlying s = some (.slice e)) (hd' : P.underlying d = some .string) (he : P.underlying e = some (.int .u8))
    (hd : dstOk G ⟨dst, .convert s d x, ty, pos, aft, gd⟩ = true) (hni : inertOp (.convert s d x) = false)
    (hS : kByte.S H v (b2i l)) (hc : g = true → G.cond x = true)
    (k : VC P ops K rest sps.tail (G.put dst (g, .string (bs l))) H) :
    RVs P ops K ⟨dst, .convert s d x, ty, pos, aft, gd⟩ rest sps G H g := by
  obtain ⟨a, c, rfl, _⟩ := hS.form
  obtain ⟨cs, src, rs⟩ := hS.src
  refine RVs.text_of hx hs hd' he hd hni (fun hg => ⟨hc hg, src, ?_⟩) k
  rw [int_Rs rs]; unfold b2i; rw [List.map_map]; rfl
end

/-! ### Bytes of a text -/
section
variable [Tabs]
theorem bAt {s : List UInt8} {i : Nat} (h : i < s.length) : (bl (bs s)).getD ((i : Int)).toNat 0 = s[i] := by rw [Int.toNat_natCast, bl_bs, List.getD_eq_getElem?_getD, List.getElem?_eq_getElem h]; rfl
theorem bAti {s : List UInt8} {i : Nat} (h : i < s.length) : byteAt (bs s) (i : Int) = (s[i].toNat : Int) := by unfold byteAt; rw [bAt h]
theorem byt_step {p : UInt8 → Bool} {l : List UInt8} {i : Nat} (h : (l.take i).all p = true) (hi : i < l.length) (hp : p l[i] = true) : (l.take (i + 1)).all p = true := by
  rw [take_snoc (List.getElem?_eq_getElem hi), List.all_append, h]; simp [hp]
theorem byt_bad {p : UInt8 → Bool} {l : List UInt8} {i : Nat} (hi : i < l.length) (hp : p l[i] = false) : l.all p = false := by
  rw [Bool.eq_false_iff]
  intro h
  rw [List.all_eq_true] at h
  have := h l[i] (List.getElem_mem hi)
  rw [hp] at this; cases this
theorem byt_end {p : UInt8 → Bool} {l : List UInt8} {i : Nat} (h : (l.take i).all p = true) (hi : l.length ≤ i) : l.all p = true := by
  rwa [List.take_of_length_le hi] at h
theorem plainW_bad {l : List UInt8} {i : Nat} (hi : i < l.length) (hp : plainB l[i] = false) : plainW l = false := by unfold plainW; rw [byt_bad hi hp]; rfl
theorem plainW_end {l : List UInt8} {i : Nat} (h : (l.take i).all plainB = true) (hi : l.length ≤ i) : decide ((1 : Int) ≤ l.length ∧ (l.length : Int) ≤ 60) = plainW l := by
  unfold plainW; rw [byt_end h hi, Bool.true_and]; exact decide_eq_decide.2 (by omega)

end

/-! ### The parts between blanks, as a library cuts them -/
theorem splitK_cons_ne {c : UInt8} {l : List UInt8} (hc : c ≠ 32) : ∀ k, Lib.splitK [32] 0 k (c :: l) = match Lib.splitK [32] 0 k l with
    | [] => [[c]]
    | w :: ws => (c :: w) :: ws
  | 0 => rfl
  | k + 1 => by
    have e : Lib.index (c :: l) [32] = if Lib.index l [32] == -1 then -1 else Lib.index l [32] + 1 := by
      rw [Lib.index, show ([32] : List UInt8).isPrefixOf (c :: l) = false by simp [List.isPrefixOf, Ne.symm hc]]; rfl
    rw [Lib.splitK, Lib.splitK, e]
    have ge := Lib.index_ge l [32]
    by_cases h : Lib.index l [32] = -1
    · rw [if_pos (beq_iff_eq.2 h), if_pos (beq_iff_eq.2 h)]; rfl
    · rw [if_neg (fun x => h (beq_iff_eq.1 x)), if_neg (fun x => by have := beq_iff_eq.1 x; omega)]
      obtain ⟨j, hj⟩ : ∃ j : Nat, Lib.index l [32] = j := ⟨(Lib.index l [32]).toNat, by omega⟩
      rw [hj, if_neg (fun x => by have := beq_iff_eq.1 x; omega)]
      show _ = (c :: List.take _ l) :: _
      rw [show ((j : Int) + 1).toNat = j + 1 by omega, show ((j : Int)).toNat = j by omega]
      rfl
theorem splitK_cons_eq (l : List UInt8) (k : Nat) : Lib.splitK [32] 0 (k + 1) (32 :: l) = [] :: Lib.splitK [32] 0 k l := by
  rw [Lib.splitK, Lib.index]; rfl
theorem splitK_splitB : ∀ (l : List UInt8) (k : Nat), k = l.count 32 → Lib.splitK [32] 0 k l = splitB l
  | [], k, h => by subst h; rfl
  | c :: r, k, h => by
    rw [splitB]
    by_cases hc : c = 32
    · subst hc
      rw [List.count_cons_self] at h
      subst h
      rw [splitK_cons_eq, splitK_splitB r _ rfl, if_pos (show (32 : UInt8).toNat = 32 from rfl)]
    · rw [List.count_cons_of_ne (by simpa using hc)] at h
      rw [splitK_cons_ne hc, splitK_splitB r k h, if_neg (fun x : c.toNat = 32 => hc (UInt8.toNat_inj.1 x))]
      cases splitB r <;> rfl
theorem splitB_lib (s : List UInt8) : (Lib.splitB (bs [32]) 0 (Lib.countB (bs s) (bs [32])) (bs s)).map (fun b => b.data.toList) = splitB s := by
  rw [Lib.splitB_data]
  have e : ∀ l : List UInt8, (bs l).data.toList = l := fun l => by simp [bs]
  rw [e, e]
  refine splitK_splitB s _ ?_
  show Lib.count (bs s).data.toList (bs [32]).data.toList = _
  rw [e, e, Lib.count_one]
theorem splitB_cells (s : List UInt8) : (Lib.splitB (bs [32]) 0 (Lib.countB (bs s) (bs [32])) (bs s)).map Value.string = (splitB s).map fun l => Value.string (bs l) := by
  rw [← splitB_lib s, List.map_map]
  congr 1
theorem splitB_count (s : List UInt8) : (splitB s).length = Lib.countB (bs s) (bs [32]) + 1 := by
  rw [← splitB_lib s, List.length_map, Lib.splitB_all _ (by decide) 0 _ _ rfl]
theorem splitB_len : ∀ s : List UInt8, (splitB s).length ≤ s.length + 1
  | [] => Nat.le_refl _
  | c :: r => by
    have := splitB_len r
    rw [splitB]
    split
    · simp; omega
    · split
      · simp
      · rename_i h; rw [h] at this; simp at *; omega
theorem splitB_lens : ∀ (s w : List UInt8), w ∈ splitB s → w.length ≤ s.length
  | [], w, h => by simp [splitB] at h; subst h; simp
  | c :: r, w, h => by
    rw [splitB] at h
    split at h
    · rcases List.mem_cons.1 h with rfl | h
      · simp
      · have := splitB_lens r w h; simp; omega
    · split at h
      · simp at h; subst h; simp
      · rename_i w2 ws hh
        rcases List.mem_cons.1 h with rfl | h
        · have := splitB_lens r w2 (by rw [hh]; simp); simp; omega
        · have := splitB_lens r w (by rw [hh]; simp [h]); simp; omega
end Go.Proofs.YtaccaelocddakaaDoor
