/-
  Definitions, plain: names, terminals, faults.
-/
import Derived.Test.YtkfeccbahpmadaaRendP
set_option linter.unusedVariables false
set_option linter.unusedSimpArgs false
set_option linter.unusedSectionVars false
namespace Go.Proofs.Ytkfeccbahpmadaa
open Go.RowKit

/-! ### Names and terminals of an expression, in order -/
mutual
def atE : Expr → List Expr
  | .mk o n l => (if o = 1 ∨ o = 2 then [.mk o n l] else []) ++ atL l
def atL : List Expr → List Expr
  | [] => []
  | y :: l => atE y ++ atL l
end
theorem atE_eq (x : Expr) : atE x = (if x.op = 1 ∨ x.op = 2 then [x] else []) ++ atL x.l := by cases x; rw [atE]; rfl
theorem atL_append : ∀ (a b : List Expr), atL (a ++ b) = atL a ++ atL b
  | [], b => rfl
  | x :: a, b => by simp only [List.cons_append, atL, atL_append a b, List.append_assoc]
theorem atL_take {l : List Expr} {i : Nat} (h : i < l.length) : atL (l.take (i + 1)) = atL (l.take i) ++ atE l[i] := by
  rw [List.take_succ_eq_append_getElem h, atL_append]; simp [atL]
mutual
theorem atE_len : ∀ (x : Expr), (atE x).length ≤ esz x
  | .mk o n l => by
    have := atL_len l
    rw [atE, esz, List.length_append]
    split <;> simp <;> omega
theorem atL_len : ∀ (l : List Expr), (atL l).length ≤ eszs l
  | [] => by simp [atL]
  | y :: l => by
    have h1 := atE_len y
    have h2 := atL_len l
    rw [atL, eszs, List.length_append]; omega
end
mutual
theorem atE_op : ∀ (x y : Expr), y ∈ atE x → y.op = 1 ∨ y.op = 2
  | .mk o n l, y, h => by
    rw [atE] at h
    rcases List.mem_append.1 h with h | h
    · split at h
      · rename_i ho
        rw [List.mem_singleton] at h; subst h; exact ho
      · simp at h
    · exact atL_op l y h
theorem atL_op : ∀ (l : List Expr) (y : Expr), y ∈ atL l → y.op = 1 ∨ y.op = 2
  | [], y, h => by simp [atL] at h
  | x :: l, y, h => by
    rw [atL] at h
    rcases List.mem_append.1 h with h | h
    · exact atE_op x y h
    · exact atL_op l y h
end
/-- The names of a kind. -/
def nmd (op : Int) (x : Expr) : List ByteArray := ((atE x).filter fun y => decide (y.op = op)).map Expr.name
def nmds (op : Int) (l : List Expr) : List ByteArray := ((atL l).filter fun y => decide (y.op = op)).map Expr.name
theorem nmd_eq {op : Int} (h : op = 1 ∨ op = 2) (x : Expr) : nmd op x = (if x.op = op then [x.name] else []) ++ nmds op x.l := by
  unfold nmd nmds
  rw [atE_eq, List.filter_append, List.map_append]
  congr 1
  by_cases e : x.op = op
  · rw [if_pos (by omega), if_pos e]; simp [e]
  · rw [if_neg e]
    split
    · simp [e]
    · rfl
theorem nmds_take {op : Int} {l : List Expr} {i : Nat} (h : i < l.length) : nmds op (l.take (i + 1)) = nmds op (l.take i) ++ nmd op l[i] := by
  unfold nmds nmd
  rw [atL_take h, List.filter_append, List.map_append]
theorem nmd_len (op : Int) (x : Expr) : (nmd op x).length ≤ esz x := by
  unfold nmd
  rw [List.length_map]
  exact Nat.le_trans (List.length_filter_le _ _) (atE_len x)
theorem nmds_len (op : Int) (l : List Expr) : (nmds op l).length ≤ eszs l := by
  unfold nmds
  rw [List.length_map]
  exact Nat.le_trans (List.length_filter_le _ _) (atL_len l)
/-! ### Terminals, each once -/
def inB (s : ByteArray) : List ByteArray → Bool
  | [] => false
  | x :: l => decide (s = x) || inB s l
theorem inB_iff (s : ByteArray) : ∀ (l : List ByteArray), inB s l = true ↔ s ∈ l
  | [] => by simp [inB]
  | x :: l => by rw [inB, Bool.or_eq_true, decide_eq_true_eq, inB_iff s l, List.mem_cons]
instance decInB (s : ByteArray) (l : List ByteArray) : Decidable (s ∈ l) := decidable_of_iff (inB s l = true) (inB_iff s l)
def addT (out : List ByteArray) (s : ByteArray) : List ByteArray := if s ∈ out then out else out ++ [s]
def addTs (out : List ByteArray) (l : List ByteArray) : List ByteArray := l.foldl addT out
theorem addTs_append (out a b : List ByteArray) : addTs out (a ++ b) = addTs (addTs out a) b := by unfold addTs; rw [List.foldl_append]
theorem addT_len (out : List ByteArray) (s : ByteArray) : (addT out s).length ≤ out.length + 1 := by unfold addT; split <;> simp
theorem addTs_len : ∀ (l out : List ByteArray), (addTs out l).length ≤ out.length + l.length
  | [], out => by simp [addTs]
  | s :: l, out => by
    have h1 := addTs_len l (addT out s)
    have h2 := addT_len out s
    show (addTs (addT out s) l).length ≤ _
    simp only [List.length_cons]; omega
theorem addT_mem {out : List ByteArray} {s x : ByteArray} : x ∈ addT out s ↔ x ∈ out ∨ x = s := by
  unfold addT
  split
  · rename_i h
    constructor
    · exact .inl
    · rintro (h1 | rfl)
      · exact h1
      · exact h
  · simp
theorem addTs_mem {x : ByteArray} : ∀ {l out : List ByteArray}, x ∈ addTs out l ↔ x ∈ out ∨ x ∈ l
  | [], out => by simp [addTs]
  | s :: l, out => by
    show x ∈ addTs (addT out s) l ↔ _
    rw [addTs_mem (l := l), addT_mem, List.mem_cons, or_assoc]
theorem addT_nodup {out : List ByteArray} {s : ByteArray} (h : out.Nodup) : (addT out s).Nodup := by
  unfold addT
  split
  · exact h
  · rename_i hs
    rw [List.nodup_append]
    exact ⟨h, by simp, fun a ha b hb => by rw [List.mem_singleton] at hb; subst hb; exact fun e => hs (e ▸ ha)⟩
theorem addTs_nodup : ∀ {l out : List ByteArray}, out.Nodup → (addTs out l).Nodup
  | [], _, h => h
  | s :: l, out, h => addTs_nodup (l := l) (addT_nodup (s := s) h)
def trms (l : List Dfn) : List ByteArray := addTs [] (l.flatMap fun d => nmd 1 d.e)
theorem trms_take {l : List Dfn} {i : Nat} (h : i < l.length) : trms (l.take (i + 1)) = addTs (trms (l.take i)) (nmd 1 l[i].e) := by
  unfold trms
  rw [List.take_succ_eq_append_getElem h, List.flatMap_append, addTs_append]
  simp
theorem trms_mem {l : List Dfn} {x : ByteArray} : x ∈ trms l ↔ ∃ d ∈ l, x ∈ nmd 1 d.e := by
  unfold trms
  rw [addTs_mem, List.mem_flatMap]
  simp
theorem trms_nodup (l : List Dfn) : (trms l).Nodup := addTs_nodup (by simp)
theorem trms_len (l : List Dfn) : (trms l).length ≤ (l.map fun d => esz d.e).sum := by
  have h1 := addTs_len (l.flatMap fun d => nmd 1 d.e) []
  have h2 : (l.flatMap fun d => nmd 1 d.e).length ≤ (l.map fun d => esz d.e).sum := by
    induction l with
    | nil => simp
    | cons d l ih =>
      have h3 := addTs_len (l.flatMap fun d => nmd 1 d.e) []
      have := ih h3
      have := nmd_len 1 d.e
      simp only [List.flatMap_cons, List.length_append, List.map_cons, List.sum_cons]; omega
  unfold trms
  simp only [List.length_nil] at h1
  omega
def nms (l : List Dfn) : List ByteArray := l.map Dfn.name
/-! ### Check -/
def twiceAt (l : List ByteArray) (i : Nat) : Bool := decide (l.getD i ⟨#[]⟩ ∈ l.take i)
def unkn (names : List ByteArray) (d : Dfn) : Bool := (nmd 2 d.e).any fun s => !decide (s ∈ names)
def dfl : Dfn := ⟨⟨#[]⟩, 0, default⟩
def defsF (l : List Dfn) : Fault :=
  if (renF l).code = 0 then
    match (List.range l.length).find? (twiceAt (nms l)) with
    | some i => ⟨7, i⟩
    | none =>
      match (List.range l.length).find? (fun i => unkn (nms l) (l.getD i dfl)) with
      | some i => ⟨8, i⟩
      | none => if 16 < (trms l).length then ⟨6, -1⟩ else ⟨0, 0⟩
  else renF l
end Go.Proofs.Ytkfeccbahpmadaa
