/-
  Render, plain: parts, open brackets, faults, and the text of expressions.
-/
import Derived.Test.YtkfeccbahpmadaaExprD
set_option linter.unusedVariables false
set_option linter.unusedSimpArgs false
set_option linter.unusedSectionVars false
namespace Go.Proofs.Ytkfeccbahpmadaa
open Go.RowKit

/-! ### Brackets -/
def brkO (o p : Int) : Bool := (decide (o = 3) && (decide (p = 4) || decide (p = 3))) || (decide (o = 4) && decide (p = 4))
abbrev b1 (b : Bool) : Nat := bif b then 1 else 0

/-! ### Parts -/
def ownP (o : Int) (n : Nat) : Nat := if o = 3 then 0 else if o = 4 then n - 1 else 1
mutual
def prt : Expr → Nat
  | .mk o _ l => ownP o l.length + prts o l
def prts (o : Int) : List Expr → Nat
  | [] => 0
  | y :: l => prt y + b1 (brkO o y.op) + prts o l
end
mutual
def pgE : Expr → Int → Int
  | .mk o _ l, k => pgL o l (k - (ownP o l.length : Nat))
def pgL (o : Int) : List Expr → Int → Int
  | [], k => k
  | y :: l, k => if k < 0 then k else pgL o l (pgE y (k - (b1 (brkO o y.op) : Nat)))
end
theorem prt_eq (x : Expr) : prt x = ownP x.op x.l.length + prts x.op x.l := by cases x; rw [prt]; rfl
theorem pgE_eq (x : Expr) (k : Int) : pgE x k = pgL x.op x.l (k - (ownP x.op x.l.length : Nat)) := by cases x; rw [pgE]; rfl
mutual
theorem pgE_le : ∀ (x : Expr) (k : Int), pgE x k ≤ k ∧ k - (3 * esz x - 2 : Nat) ≤ pgE x k
  | .mk o n l, k => by
    have h := pgL_le o l (k - (ownP o l.length : Nat))
    have hl := eszs_len l
    rw [pgE, esz]
    have h1 : ownP o l.length ≤ l.length + 1 := by unfold ownP; split; omega; split <;> omega
    have h2 : ownP o l.length ≤ 1 ∨ ownP o l.length ≤ l.length := by unfold ownP; split; omega; split <;> omega
    omega
theorem pgL_le (o : Int) : ∀ (l : List Expr) (k : Int), pgL o l k ≤ k ∧ k - (3 * eszs l - l.length : Nat) ≤ pgL o l k
  | [], k => by simp [pgL, eszs]
  | y :: l, k => by
    have hp := esz_pos y
    have hl := eszs_len l
    rw [pgL, eszs, List.length_cons]
    split
    · omega
    · have h1 := pgE_le y (k - (b1 (brkO o y.op) : Nat))
      have h2 := pgL_le o l (pgE y (k - (b1 (brkO o y.op) : Nat)))
      have h3 : b1 (brkO o y.op) ≤ 1 := by cases brkO o y.op <;> simp [b1]
      omega
end
mutual
theorem pgE_spec : ∀ (x : Expr) (k : Int), ((prt x : Int) ≤ k → pgE x k = k - prt x) ∧ (k < (prt x : Int) → pgE x k < 0)
  | .mk o n l, k => by
    have h := pgL_spec o l (k - (ownP o l.length : Nat))
    rw [pgE, prt]
    constructor
    · intro hk; rw [h.1 (by omega)]; omega
    · intro hk
      exact h.2 (by omega)
theorem pgL_spec (o : Int) : ∀ (l : List Expr) (k : Int), ((prts o l : Int) ≤ k → pgL o l k = k - prts o l) ∧ (k < (prts o l : Int) → pgL o l k < 0)
  | [], k => by
    refine ⟨fun h => by simp [pgL, prts], fun h => ?_⟩
    simp only [prts] at h
    simp only [pgL]; omega
  | y :: l, k => by
    have h1 := pgE_spec y (k - (b1 (brkO o y.op) : Nat))
    have h2 := pgL_spec o l (pgE y (k - (b1 (brkO o y.op) : Nat)))
    have h3 := (pgL_le o l (pgE y (k - (b1 (brkO o y.op) : Nat)))).1
    rw [pgL, prts]
    by_cases hk : k < 0
    · rw [if_pos hk]
      exact ⟨fun h => by omega, fun _ => hk⟩
    · rw [if_neg hk]
      constructor
      · intro h
        rw [h1.1 (by omega)] at h2 h3 ⊢
        rw [h2.1 (by omega)]; omega
      · intro h
        by_cases hy : (prt y : Int) ≤ k - (b1 (brkO o y.op) : Nat)
        · rw [h1.1 hy] at h2 ⊢
          exact h2.2 (by omega)
        · have := h1.2 (by omega)
          omega
end
theorem pgE_neg (x : Expr) (k : Int) : pgE x k < 0 ↔ k < (prt x : Int) := by
  have h := pgE_spec x k
  constructor
  · intro h1
    by_cases hk : k < (prt x : Int)
    · exact hk
    · have := h.1 (by omega); omega
  · exact h.2
/-! ### Open brackets -/
def opB (o p : Int) : Bool := decide (5 ≤ o) || brkO o p
mutual
def opn : Expr → Nat
  | .mk o _ l => opns o l
def opns (o : Int) : List Expr → Nat
  | [] => 0
  | y :: l => max (opn y + b1 (opB o y.op)) (opns o l)
end
mutual
def dpE : Expr → Int → Int
  | .mk o _ l, k => dpL o k l k
def dpL (o k : Int) : List Expr → Int → Int
  | [], m => m
  | y :: l, m => if k - (b1 (opB o y.op) : Nat) < 0 then k - (b1 (opB o y.op) : Nat) else dpL o k l (min m (dpE y (k - (b1 (opB o y.op) : Nat))))
end
theorem opn_eq (x : Expr) : opn x = opns x.op x.l := by cases x; rw [opn]; rfl
theorem dpE_eq (x : Expr) (k : Int) : dpE x k = dpL x.op k x.l k := by cases x; rw [dpE]; rfl
theorem opns_snoc (o : Int) : ∀ (l : List Expr) (y : Expr), opns o (l ++ [y]) = max (opns o l) (opn y + b1 (opB o y.op))
  | [], y => by simp [opns]
  | x :: l, y => by rw [List.cons_append, opns, opns, opns_snoc o l y]; omega
theorem opns_take {o : Int} {l : List Expr} {i : Nat} (h : i < l.length) : opns o (l.take (i + 1)) = max (opns o (l.take i)) (opn l[i] + b1 (opB o l[i].op)) := by
  rw [List.take_succ_eq_append_getElem h, opns_snoc]
theorem opns_mem {o : Int} {y : Expr} : ∀ {l : List Expr}, y ∈ l → opn y + b1 (opB o y.op) ≤ opns o l
  | x :: l, h => by
    rw [opns]
    rcases List.mem_cons.1 h with rfl | h
    · omega
    · have := opns_mem (o := o) h; omega
mutual
theorem opn_lt : ∀ (x : Expr), opn x < esz x
  | .mk o _ l => by have := opns_le o l; rw [opn, esz]; omega
theorem opns_le (o : Int) : ∀ (l : List Expr), opns o l ≤ eszs l
  | [] => by simp [opns]
  | y :: l => by
    have h1 := opn_lt y
    have h2 := opns_le o l
    have h3 : b1 (opB o y.op) ≤ 1 := by cases opB o y.op <;> simp [b1]
    rw [opns, eszs]; omega
end
mutual
theorem dpE_le : ∀ (x : Expr) (k : Int), 0 ≤ k → -1 ≤ dpE x k ∧ dpE x k ≤ k
  | .mk o _ l, k, h => by
    rw [dpE]
    have := dpL_le o k h l k (by omega) (by omega)
    omega
theorem dpL_le (o k : Int) (h : 0 ≤ k) : ∀ (l : List Expr) (m : Int), -1 ≤ m → m ≤ k → -1 ≤ dpL o k l m ∧ dpL o k l m ≤ m ∨ (-1 ≤ dpL o k l m ∧ dpL o k l m ≤ k)
  | [], m, h1, h2 => by simp only [dpL]; omega
  | y :: l, m, h1, h2 => by
    have h3 : b1 (opB o y.op) ≤ 1 := by cases opB o y.op <;> simp [b1]
    rw [dpL]
    split
    · omega
    · rename_i hk
      have h4 := dpE_le y (k - (b1 (opB o y.op) : Nat)) (by omega)
      have h5 := dpL_le o k h l (min m (dpE y (k - (b1 (opB o y.op) : Nat)))) (by omega) (by omega)
      omega
end
mutual
theorem dpE_spec : ∀ (x : Expr) (k : Int), 0 ≤ k → (dpE x k < 0 ↔ k < (opn x : Int))
  | .mk o _ l, k, h => by
    rw [dpE, opn]
    have := dpL_spec o k h l k (Int.le_refl k)
    omega
theorem dpL_spec (o k : Int) (h : 0 ≤ k) : ∀ (l : List Expr) (m : Int), m ≤ k → (dpL o k l m < 0 ↔ m < 0 ∨ k < (opns o l : Int))
  | [], m, hm => by
    simp only [dpL, opns]
    omega
  | y :: l, m, hm => by
    have h3 : b1 (opB o y.op) ≤ 1 := by cases opB o y.op <;> simp [b1]
    rw [dpL, opns]
    split
    · omega
    · rename_i hk
      have h4 := dpE_spec y (k - (b1 (opB o y.op) : Nat)) (by omega)
      have h5 := dpL_spec o k h l (min m (dpE y (k - (b1 (opB o y.op) : Nat)))) (by omega)
      omega
end
/-! ### Faults -/
def fOk (o : Int) (n : ByteArray) (len : Nat) : Bool :=
  if o = 1 ∨ o = 2 then decide (len = 0) else if o = 3 then decide (len ≠ 1) && decide (n = ⟨#[]⟩) else if o = 4 then decide (2 ≤ len) && decide (n = ⟨#[]⟩)
    else if 5 ≤ o ∧ o ≤ 7 then decide (len = 1) && decide (n = ⟨#[]⟩) else false
def fNm (o : Int) (n : ByteArray) : Bool := if o = 2 then Old.nameB n else if o = 1 then Old.termB n else true
mutual
def xF : Expr → Int
  | .mk o n l => if fOk o n l.length = false then 3 else if fNm o n = false then 2 else xFs l
def xFs : List Expr → Int
  | [] => 0
  | y :: l => if xF y = 0 then xFs l else xF y
end
theorem xF_eq (x : Expr) : xF x = if fOk x.op x.name x.l.length = false then 3 else if fNm x.op x.name = false then 2 else xFs x.l := by cases x; rw [xF]; rfl
mutual
theorem xF_in : ∀ (x : Expr), 0 ≤ xF x ∧ xF x ≤ 3
  | .mk o n l => by
    have := xFs_in l
    rw [xF]; split
    · omega
    · split <;> omega
theorem xFs_in : ∀ (l : List Expr), 0 ≤ xFs l ∧ xFs l ≤ 3
  | [] => by simp [xFs]
  | y :: l => by
    have h1 := xF_in y
    have h2 := xFs_in l
    rw [xFs]; split <;> omega
end
theorem xFs_zero {l : List Expr} (h : xFs l = 0) : ∀ x ∈ l, xF x = 0 := by
  induction l with
  | nil => intro x hx; simp at hx
  | cons y l ih =>
    rw [xFs] at h
    split at h
    · rename_i h0
      intro x hx
      rcases List.mem_cons.1 hx with rfl | hx
      · exact h0
      · exact ih h x hx
    · rename_i h0; exact absurd h h0
theorem xF_zero {x : Expr} (h : xF x = 0) : fOk x.op x.name x.l.length = true ∧ fNm x.op x.name = true ∧ ∀ y ∈ x.l, xF y = 0 := by
  rw [xF_eq] at h
  split at h
  · cases h
  · rename_i h1
    split at h
    · cases h
    · rename_i h2
      exact ⟨by simpa using h1, by simpa using h2, xFs_zero h⟩
/-! ### Texts -/
def bs (l : List UInt8) : ByteArray := ⟨l.toArray⟩
def tailB (sep : ByteArray) : List ByteArray → ByteArray
  | [] => bs []
  | x :: r => (sep ++ x) ++ tailB sep r
def joinB (sep : ByteArray) : List ByteArray → ByteArray
  | [] => bs []
  | x :: r => x ++ tailB sep r
theorem bs_nil (x : ByteArray) : bs [] ++ x = x := by ext1; simp [bs]
theorem nil_bs (x : ByteArray) : x ++ bs [] = x := by ext1; simp [bs]
theorem tailB_snoc (sep : ByteArray) : ∀ (l : List ByteArray) (x : ByteArray), tailB sep (l ++ [x]) = (tailB sep l ++ sep) ++ x
  | [], x => by simp only [List.nil_append, tailB, nil_bs, bs_nil]
  | y :: l, x => by simp only [List.cons_append, tailB, tailB_snoc sep l x, ByteArray.append_assoc]
theorem joinB_snoc (sep : ByteArray) (l : List ByteArray) (x : ByteArray) (h : l ≠ []) : joinB sep (l ++ [x]) = (joinB sep l ++ sep) ++ x := by
  cases l with
  | nil => exact absurd rfl h
  | cons y l => simp only [List.cons_append, joinB, tailB_snoc, ByteArray.append_assoc]
def wrB (b : Bool) (s : ByteArray) : ByteArray := bif b then (bs [40] ++ s) ++ bs [41] else s
def btw (o : Int) : ByteArray := if o = 4 then bs [32, 124, 32] else bs [32]
def bgn (o : Int) : ByteArray := if o = 5 then bs [91] else if o = 6 then bs [123] else if o = 7 then bs [60] else bs []
def nd (o : Int) : ByteArray := if o = 5 then bs [93] else if o = 6 then bs [125] else if o = 7 then bs [62] else bs []
mutual
def txE : Expr → ByteArray
  | .mk o n l => if o = 1 then (bs [34] ++ n) ++ bs [34] else if o = 2 then n else (bgn o ++ joinB (btw o) (its o l)) ++ nd o
def its (o : Int) : List Expr → List ByteArray
  | [] => []
  | y :: l => wrB (brkO o y.op) (txE y) :: its o l
end
theorem txE_eq (x : Expr) : txE x = if x.op = 1 then (bs [34] ++ x.name) ++ bs [34] else if x.op = 2 then x.name else (bgn x.op ++ joinB (btw x.op) (its x.op x.l)) ++ nd x.op := by cases x; rw [txE]; rfl
theorem its_map (o : Int) : ∀ l : List Expr, its o l = l.map fun y => wrB (brkO o y.op) (txE y)
  | [] => rfl
  | y :: l => by rw [its, its_map o l]; rfl
theorem its_take {o : Int} {l : List Expr} {i : Nat} (h : i < l.length) : its o (l.take (i + 1)) = its o (l.take i) ++ [wrB (brkO o l[i].op) (txE l[i])] := by
  rw [its_map, its_map, List.take_succ_eq_append_getElem h, List.map_append]; rfl
theorem bs_size (l : List UInt8) : (bs l).size = l.length := by simp [bs, ByteArray.size]
theorem tailB_size (sep : ByteArray) : ∀ l : List ByteArray, (tailB sep l).size = (l.map fun x => sep.size + x.size).sum
  | [] => rfl
  | x :: l => by simp only [tailB, ByteArray.size_append, tailB_size sep l, List.map_cons, List.sum_cons]
theorem joinB_size (sep : ByteArray) (l : List ByteArray) : (joinB sep l).size ≤ (l.map fun x => sep.size + x.size).sum := by
  cases l with
  | nil => exact Nat.le_refl _
  | cons x l => simp only [joinB, ByteArray.size_append, tailB_size, List.map_cons, List.sum_cons]; omega
theorem name_le {n : ByteArray} (h : Old.nameB n = true) : n.size ≤ 12 := (of_decide_eq_true h : Old.NameP n).2.1
theorem term_le {n : ByteArray} (h : Old.termB n = true) : n.size ≤ 12 := (of_decide_eq_true h : Old.TermP n).2.1
mutual
theorem txE_size : ∀ (x : Expr), xF x = 0 → (txE x).size + 5 ≤ 20 * esz x
  | .mk o n l, h => by
    obtain ⟨h1, h2, h3⟩ := xF_zero h
    simp only [Expr.op, Expr.name, Expr.l] at h1 h2 h3
    rw [txE, esz]
    split
    · rename_i e
      subst e
      have := term_le (n := n) h2
      simp only [ByteArray.size_append, bs_size, List.length_cons, List.length_nil]; omega
    · split
      · rename_i e
        subst e
        have := name_le (n := n) h2
        omega
      · have hj := joinB_size (btw o) (its o l)
        have hi := its_size o l h3
        have hb : (bgn o).size ≤ 1 := by unfold bgn; split; decide; split; decide; split <;> decide
        have hn : (nd o).size ≤ 1 := by unfold nd; split; decide; split; decide; split <;> decide
        simp only [ByteArray.size_append]; omega
theorem its_size (o : Int) : ∀ (l : List Expr), (∀ y ∈ l, xF y = 0) → ((its o l).map fun x => (btw o).size + x.size).sum ≤ 20 * eszs l
  | [], _ => by simp [its]
  | y :: l, h => by
    have h1 := txE_size y (h y (by simp))
    have h2 := its_size o l (fun z hz => h z (by simp [hz]))
    have hb : (btw o).size ≤ 3 := by unfold btw; split <;> decide
    have hw : (wrB (brkO o y.op) (txE y)).size ≤ (txE y).size + 2 := by
      unfold wrB
      cases brkO o y.op with
      | true => simp only [cond_true, ByteArray.size_append, bs_size, List.length_cons, List.length_nil]; omega
      | false => simp
    simp only [its, List.map_cons, List.sum_cons, eszs]; omega
end
def dfnT (d : Dfn) : ByteArray := ((d.name ++ bs [32, 61, 32]) ++ txE d.e) ++ bs [59, 10]
def txT : List Dfn → ByteArray
  | [] => bs []
  | d :: l => dfnT d ++ txT l
theorem txT_snoc : ∀ (l : List Dfn) (d : Dfn), txT (l ++ [d]) = txT l ++ dfnT d
  | [], d => by simp only [List.nil_append, txT, bs_nil, nil_bs]
  | e :: l, d => by simp only [List.cons_append, txT, txT_snoc l d, ByteArray.append_assoc]
theorem txT_take {l : List Dfn} {i : Nat} (h : i < l.length) : txT (l.take (i + 1)) = txT (l.take i) ++ dfnT l[i] := by
  rw [List.take_succ_eq_append_getElem h, txT_snoc]
/-! ### Check -/
def defF (d : Dfn) : Int := if Old.nameB d.name = false then 2 else if 60 < prt d.e then 6 else if 40 < opn d.e then 5 else xF d.e
def renF (l : List Dfn) : Fault :=
  if l.length = 0 then ⟨8, -1⟩ else if 16 < l.length then ⟨6, -1⟩ else
    match (List.range l.length).find? (fun i => !decide (defF (l.getD i ⟨⟨#[]⟩, 0, default⟩) = 0)) with
    | some i => ⟨defF (l.getD i ⟨⟨#[]⟩, 0, default⟩), i⟩
    | none => if 6000 < (txT l).size then ⟨6, -1⟩ else ⟨0, 0⟩
end Go.Proofs.Ytkfeccbahpmadaa
