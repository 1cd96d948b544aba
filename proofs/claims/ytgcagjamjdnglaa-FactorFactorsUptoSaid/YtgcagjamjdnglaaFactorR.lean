/-
  Factors, plain: what comes of it is a step, no two rules of a nonterminal begin alike, and made once more it is the same.
-/
import Derived.Test.YtgcagjamjdnglaaFactorQ
set_option linter.unusedVariables false
set_option linter.unusedSimpArgs false
set_option linter.unusedSectionVars false
namespace Go.Proofs.Ytgcagjamjdnglaa
open Go.RowKit

def ruleAt (g : Gram) (r : Int) : Rule := g.rules.getD r.toNat ⟨0, []⟩
def worksAt (g : Gram) (v : Nat) : List Work := (by_ g v).map fun r => ⟨(ruleAt g r).right, nodeF r (kids (ruleAt g r).right).length⟩
def startW (g : Gram) : List (List Work) := (List.range g.vars.toNat).map (worksAt g)
theorem byR_at {v x : Int} : ∀ {rs : List Rule} {i : Nat}, x ∈ byR rs v i → ∃ j, ∃ h : j < rs.length, x = ((i + j : Nat) : Int) ∧ rs[j].left = v
  | [], i, h => by simp [byR] at h
  | r :: rs, i, h => by
    rw [byR] at h
    have next : x ∈ byR rs v (i + 1) → ∃ j, ∃ h : j < (r :: rs).length, x = ((i + j : Nat) : Int) ∧ (r :: rs)[j].left = v := fun h => by
      obtain ⟨j, h1, h2, h3⟩ := byR_at h
      exact ⟨j + 1, by simp; omega, by rw [h2]; congr 1; omega, by simpa using h3⟩
    split at h
    · rename_i e
      rcases List.mem_cons.1 h with rfl | h
      · exact ⟨0, by simp, by simp, e⟩
      · exact next h
    · exact next h
theorem by_at {g : Gram} {v : Nat} {r : Int} (h : r ∈ by_ g v) : ∃ j, ∃ hj : j < g.rules.length, r = (j : Int) ∧ g.rules[j].left = (v : Int) ∧ ruleAt g r = g.rules[j] := by
  obtain ⟨j, h1, h2, h3⟩ := byR_at h
  rw [Nat.zero_add] at h2
  refine ⟨j, h1, h2, h3, ?_⟩
  rw [ruleAt, h2]
  simp only [Int.toNat_natCast]
  rw [List.getD_eq_getElem?_getD, List.getElem?_eq_getElem h1]; rfl
theorem startW_length (g : Gram) : (startW g).length = g.vars.toNat := by simp [startW]
theorem startW_get {g : Gram} {v : Nat} (h : v < g.vars.toNat) : (startW g).getD v [] = worksAt g v := by
  rw [List.getD_eq_getElem?_getD, startW, List.getElem?_map, List.getElem?_range h]; rfl
theorem startW_out {g : Gram} {v : Nat} (h : ¬ v < g.vars.toNat) : (startW g).getD v [] = [] := by
  rw [List.getD_eq_getElem?_getD, List.getElem?_eq_none (by rw [startW_length]; omega)]; rfl
theorem start_inv {g : Gram} (hg : g.ok) : FInv g (startW g) 0 := by
  have h1 := hg.vars1
  have h2 := hg.vars
  have hplain : ∀ v, v < g.vars.toNat → ∀ w ∈ worksAt g v, Plain g (gapAt g v) w ∧ ∀ s ∈ w.right, -g.terms ≤ s ∧ s < ((startW g).length : Int) := by
    intro v hv w hw
    obtain ⟨r, hr, rfl⟩ := List.mem_map.1 hw
    obtain ⟨j, hj, rfl, _, e⟩ := by_at hr
    have hgap : gapAt g v = false := decide_eq_false (by omega)
    rw [hgap]
    dsimp only
    rw [e, startW_length]
    have hmem := List.getElem_mem hj
    exact ⟨⟨j, hj, rfl, hg.right _ hmem⟩, fun s hs => ⟨hg.lo _ hmem s hs, by have := hg.hi _ hmem s hs; omega⟩⟩
  refine ⟨by rw [startW_length]; omega, by rw [startW_length]; omega, ?_, ?_, fun u hu => by omega⟩
  · intro l hl w hw
    obtain ⟨v, hv, rfl⟩ := List.mem_map.1 hl
    obtain ⟨p, q⟩ := hplain v (List.mem_range.1 hv) w hw
    exact WOk.plain q p
  · intro u _
    by_cases hu : u < g.vars.toNat
    · rw [startW_get hu]
      refine List.Pairwise.imp_of_mem (R := fun _ _ => True) (fun ha hb _ => .inl ⟨(hplain u hu _ ha).1, (hplain u hu _ hb).1⟩) ?_
      exact List.pairwise_of_forall (fun _ _ => trivial)
    · rw [startW_out hu]; exact List.Pairwise.nil

/-! ### The rules of it -/
def finL (v : Nat) : List Work → List Rule → List (List Frag) → Option (List Rule × List (List Frag))
  | [], R, F => some (R, F)
  | w :: r, R, F => if R.length = 160 ∨ 10 < w.right.length then none else finL v r (R ++ [⟨(v : Int), w.right⟩]) (F ++ [w.l])
def finW : List (List Work) → Nat → List Rule → List (List Frag) → Except Nat (List Rule × List (List Frag))
  | [], _, R, F => .ok (R, F)
  | l :: r, v, R, F => match finL v l R F with
    | none => .error v
    | some x => finW r (v + 1) x.1 x.2
def rulesF : List (List Work) → Nat → List Rule
  | [], _ => []
  | l :: r, v => l.map (fun w => (⟨(v : Int), w.right⟩ : Rule)) ++ rulesF r (v + 1)
def fragsF : List (List Work) → List (List Frag)
  | [] => []
  | l :: r => l.map (·.l) ++ fragsF r
theorem finL_some {v : Nat} : ∀ {l : List Work} {R : List Rule} {F : List (List Frag)} {x : List Rule × List (List Frag)}, finL v l R F = some x → R.length ≤ 160 →
    x.1 = R ++ l.map (fun w => (⟨(v : Int), w.right⟩ : Rule)) ∧ x.2 = F ++ l.map (·.l) ∧ x.1.length ≤ 160 ∧ ∀ w ∈ l, w.right.length ≤ 10
  | [], R, F, x, h, hR => by
    rw [finL] at h; cases h
    exact ⟨by simp, by simp, hR, by simp⟩
  | w :: r, R, F, x, h, hR => by
    rw [finL] at h
    split at h
    · cases h
    · rename_i hn
      obtain ⟨h1, h2, h3, h4⟩ := finL_some h (by simp; omega)
      refine ⟨by rw [h1]; simp, by rw [h2]; simp, h3, fun y hy => ?_⟩
      rcases List.mem_cons.1 hy with rfl | hy
      · omega
      · exact h4 y hy
theorem finW_ok : ∀ {all : List (List Work)} {v : Nat} {R : List Rule} {F : List (List Frag)} {x : List Rule × List (List Frag)}, finW all v R F = .ok x → R.length ≤ 160 →
    x.1 = R ++ rulesF all v ∧ x.2 = F ++ fragsF all ∧ x.1.length ≤ 160 ∧ ∀ l ∈ all, ∀ w ∈ l, w.right.length ≤ 10
  | [], v, R, F, x, h, hR => by
    rw [finW] at h; cases h
    exact ⟨by simp [rulesF], by simp [fragsF], hR, by simp⟩
  | l :: r, v, R, F, x, h, hR => by
    rw [finW] at h
    cases hc : finL v l R F with
    | none => rw [hc] at h; cases h
    | some y =>
      rw [hc] at h
      obtain ⟨h1, h2, h3, h4⟩ := finL_some hc hR
      obtain ⟨k1, k2, k3, k4⟩ := finW_ok h h3
      refine ⟨by rw [k1, h1, rulesF]; simp, by rw [k2, h2, fragsF]; simp, k3, fun y hy => ?_⟩
      rcases List.mem_cons.1 hy with rfl | hy
      · exact h4
      · exact k4 y hy
theorem finL_of {v : Nat} : ∀ {l : List Work} {R : List Rule} {F : List (List Frag)}, R.length + l.length ≤ 160 → (∀ w ∈ l, w.right.length ≤ 10) → finL v l R F = some (R ++ l.map (fun w => (⟨(v : Int), w.right⟩ : Rule)), F ++ l.map (·.l))
  | [], R, F, _, _ => by simp [finL]
  | w :: r, R, F, h1, h2 => by
    have hw := h2 w (by simp)
    simp only [List.length_cons] at h1
    rw [finL, if_neg (by omega), finL_of (by simp; omega) (fun y hy => h2 y (by simp [hy]))]
    simp
theorem finW_of : ∀ {all : List (List Work)} {v : Nat} {R : List Rule} {F : List (List Frag)}, R.length + (rulesF all v).length ≤ 160 → (∀ l ∈ all, ∀ w ∈ l, w.right.length ≤ 10) → finW all v R F = .ok (R ++ rulesF all v, F ++ fragsF all)
  | [], v, R, F, _, _ => by simp [finW, rulesF, fragsF]
  | l :: r, v, R, F, h1, h2 => by
    simp only [rulesF, List.length_append, List.length_map] at h1
    rw [finW, finL_of (by omega) (h2 l (by simp))]
    dsimp only
    rw [finW_of (by simp; omega) (fun y hy => h2 y (by simp [hy]))]
    simp [rulesF, fragsF]
def factorEnd (g : Gram) (r : Except Nat (List (List Work))) : Step × Fault := match r with
  | .error v => (zeroStep, ⟨6, (v : Nat)⟩)
  | .ok z => match finW z 0 [] [] with
    | .error v => (zeroStep, ⟨6, (v : Nat)⟩)
    | .ok x => (⟨⟨(z.length : Nat), g.terms, g.start, x.1⟩, x.2, []⟩, ⟨0, 0⟩)
def factorS (g : Gram) (r : Except Nat (List (List Work))) : Step × Fault := if (gramFault g).code = 0 then factorEnd g r else (zeroStep, gramFault g)

/-! ### Rights alone matter -/
def rightsW (l : List Work) : List (List Int) := l.map (·.right)
theorem mates_rights {a : List Int} : ∀ {l l' : List Work} {k : Nat}, rightsW l = rightsW l' → mates a l k = mates a l' k
  | [], [], _, _ => rfl
  | x :: l, y :: l', k, h => by
    simp only [rightsW, List.map_cons, List.cons.injEq] at h
    rw [mates, mates, h.1, mates_rights (l := l) (l' := l') h.2]
theorem groupW_rights : ∀ {l l' : List Work} {k : Nat}, rightsW l = rightsW l' → groupW l k = groupW l' k
  | [], [], _, _ => rfl
  | x :: l, y :: l', k, h => by
    simp only [rightsW, List.map_cons, List.cons.injEq] at h
    rw [groupW, groupW, h.1, mates_rights (l := l) (l' := l') h.2, groupW_rights (l := l) (l' := l') h.2]
theorem rulesF_rights : ∀ {a b : List (List Work)} {v : Nat}, a.map rightsW = b.map rightsW → rulesF a v = rulesF b v
  | [], [], _, _ => rfl
  | x :: a, y :: b, v, h => by
    simp only [List.map_cons, List.cons.injEq] at h
    have e : x.map (fun w => (⟨(v : Int), w.right⟩ : Rule)) = y.map (fun w => (⟨(v : Int), w.right⟩ : Rule)) := by
      have := congrArg (List.map (fun r => (⟨(v : Int), r⟩ : Rule))) h.1
      simpa [rightsW, Function.comp_def] using this
    rw [rulesF, rulesF, e, rulesF_rights (a := a) (b := b) h.2]
theorem rulesF_left : ∀ {all : List (List Work)} {v : Nat} {r : Rule}, r ∈ rulesF all v → (v : Int) ≤ r.left ∧ r.left < ((v + all.length : Nat) : Int) ∧ ∃ w ∈ all.getD (r.left.toNat - v) [], r.right = w.right
  | [], v, r, h => by simp [rulesF] at h
  | l :: a, v, r, h => by
    rw [rulesF] at h
    rcases List.mem_append.1 h with h | h
    · obtain ⟨w, hw, rfl⟩ := List.mem_map.1 h
      dsimp only
      refine ⟨Int.le_refl _, by simp; omega, w, ?_, rfl⟩
      simpa using hw
    · obtain ⟨h1, h2, w, h3, h4⟩ := rulesF_left h
      refine ⟨by omega, by simp only [List.length_cons]; omega, w, ?_, h4⟩
      rw [show r.left.toNat - v = (r.left.toNat - (v + 1)) + 1 by omega]
      simpa using h3
theorem rulesF_pair : ∀ {all : List (List Work)} {v : Nat}, (∀ l ∈ all, groupW l 0 = []) → (rulesF all v).Pairwise (fun a b => a.left = b.left → alikeH a.right b.right = false)
  | [], v, _ => by simp [rulesF]
  | l :: a, v, h => by
    rw [rulesF, List.pairwise_append]
    refine ⟨?_, rulesF_pair (fun x hx => h x (by simp [hx])), fun x hx y hy e => ?_⟩
    · rw [List.pairwise_map]
      have hl := h l (by simp)
      have : ∀ (l : List Work) (i : Nat), groupW l i = [] → l.Pairwise (fun a b => alikeH a.right b.right = false) := by
        intro l
        induction l with
        | nil => intro i _; exact List.Pairwise.nil
        | cons x r ih =>
          intro i hi
          rw [groupW] at hi
          split at hi
          · rename_i hm
            refine List.pairwise_cons.2 ⟨fun y hy => ?_, ih _ hi⟩
            obtain ⟨j, hj, rfl⟩ := List.getElem_of_mem hy
            exact mates_nil hm hj
          · cases hi
      have hq := this l 0 hl
      rw [List.pairwise_iff_getElem] at hq ⊢
      exact fun i j hi hj hij _ => hq i j hi hj hij
    · obtain ⟨w, hw, rfl⟩ := List.mem_map.1 hx
      have := (rulesF_left hy).1
      dsimp only at e
      omega
theorem by_rights : ∀ (rs pre : List Rule) (v : Int), (byR rs v pre.length).map (fun x => ((pre ++ rs).getD x.toNat ⟨0, []⟩).right) = (rs.filter (fun r => decide (r.left = v))).map (·.right)
  | [], pre, v => by simp [byR]
  | r :: rs, pre, v => by
    have ih := by_rights rs (pre ++ [r]) v
    simp only [List.append_assoc, List.singleton_append, List.length_append, List.length_cons, List.length_nil, Nat.zero_add] at ih
    rw [byR]
    by_cases e : r.left = v
    · rw [if_pos e, List.map_cons, ih, List.filter_cons_of_pos (by simpa using e), List.map_cons]
      congr 1
      simp
    · rw [if_neg e, ih, List.filter_cons_of_neg (by simpa using e)]
theorem rulesF_filter : ∀ (all : List (List Work)) (v u : Nat), ((rulesF all v).filter (fun r => decide (r.left = ((v + u : Nat) : Int)))).map (·.right) = rightsW (all.getD u [])
  | [], v, u => by simp [rulesF, rightsW]
  | l :: a, v, 0 => by
    rw [rulesF, List.filter_append, List.map_append]
    have h1 : (l.map (fun w => (⟨(v : Int), w.right⟩ : Rule))).filter (fun r => decide (r.left = ((v + 0 : Nat) : Int))) = l.map (fun w => (⟨(v : Int), w.right⟩ : Rule)) := by
      rw [List.filter_eq_self]; intro r hr
      obtain ⟨w, _, rfl⟩ := List.mem_map.1 hr
      simp
    have h2 : (rulesF a (v + 1)).filter (fun r => decide (r.left = ((v + 0 : Nat) : Int))) = [] := by
      rw [List.filter_eq_nil_iff]; intro r hr
      have := (rulesF_left hr).1
      simp; omega
    rw [h1, h2]
    simp [rightsW, Function.comp_def]
  | l :: a, v, u + 1 => by
    rw [rulesF, List.filter_append, List.map_append]
    have h1 : (l.map (fun w => (⟨(v : Int), w.right⟩ : Rule))).filter (fun r => decide (r.left = ((v + (u + 1) : Nat) : Int))) = [] := by
      rw [List.filter_eq_nil_iff]; intro r hr
      obtain ⟨w, _, rfl⟩ := List.mem_map.1 hr
      simp; omega
    rw [h1, show v + (u + 1) = v + 1 + u by omega]
    have := rulesF_filter a (v + 1) u
    simpa using this

/-! ### It is a step -/
section
variable {g : Gram} {z : List (List Work)} {x : List Rule × List (List Frag)}
def outG (g : Gram) (z : List (List Work)) (x : List Rule × List (List Frag)) : Gram := ⟨(z.length : Nat), g.terms, g.start, x.1⟩
theorem parts_of : ∀ {all : List (List Work)} {v : Nat}, (∀ l ∈ all, ∀ w ∈ l, partFault g w.l w.right = 0) → PartsOk g (fragsF all) (rulesF all v)
  | [], v, _ => .nil
  | l :: a, v, h => by
    rw [fragsF, rulesF]
    refine All2.append ?_ (parts_of (fun y hy => h y (by simp [hy])))
    have hl := h l (by simp)
    clear h
    induction l with
    | nil => exact .nil
    | cons w r ih => exact .cons (hl w (by simp)) (ih (fun y hy => hl y (by simp [hy])))
theorem out_ok (hg : g.ok) (h : FInv g z z.length) (hx : finW z 0 [] [] = .ok x) : (outG g z x).ok := by
  obtain ⟨h1, h2, h3, h4⟩ := finW_ok hx (by simp)
  rw [List.nil_append] at h1 h2
  have a1 := h.len
  have a2 := h.vars
  have a3 := hg.vars1
  have a4 := hg.start
  have hm : ∀ r ∈ x.1, 0 ≤ r.left ∧ r.left < (z.length : Int) ∧ r.right.length ≤ 10 ∧ ∀ s ∈ r.right, -g.terms ≤ s ∧ s < (z.length : Int) := fun r hr => by
    rw [h1] at hr
    obtain ⟨b1, b2, w, b3, b4⟩ := rulesF_left hr
    have hl := getD_memW b3
    rw [b4]
    refine ⟨by omega, by omega, h4 _ hl w b3, (h.ok _ hl w b3).sym⟩
  exact ⟨by show (1 : Int) ≤ (z.length : Int); omega, by show (z.length : Int) ≤ 64; omega, hg.terms0, hg.terms, hg.start0, by show g.start < (z.length : Int); omega, h3, fun r hr => (hm r hr).2.2.1, fun r hr => (hm r hr).1, fun r hr => (hm r hr).2.1, fun r hr s hs => ((hm r hr).2.2.2 s hs).1, fun r hr s hs => ((hm r hr).2.2.2 s hs).2⟩
theorem out_step (hg : g.ok) (h : FInv g z z.length) (hx : finW z 0 [] [] = .ok x) : stepFault g ⟨outG g z x, x.2, []⟩ = ⟨0, 0⟩ := by
  obtain ⟨h1, h2, h3, h4⟩ := finW_ok hx (by simp)
  rw [List.nil_append] at h1 h2
  refine step_ok hg (out_ok hg h hx) rfl ?_
  show PartsOk g x.2 x.1
  rw [h1, h2]
  exact parts_of (fun l hl w hw => (h.ok l hl w hw).part)
theorem out_slim (h : FInv g z z.length) (hx : finW z 0 [] [] = .ok x) : x.2.length ≤ 160 ∧ ∀ l ∈ x.2, fszs l ≤ 100 := by
  obtain ⟨h1, h2, h3, h4⟩ := finW_ok hx (by simp)
  rw [List.nil_append] at h1 h2
  have hl : ∀ (all : List (List Work)) (v : Nat), (fragsF all).length = (rulesF all v).length := by
    intro all
    induction all with
    | nil => intro v; rfl
    | cons l a ih => intro v; simp [fragsF, rulesF, ih (v + 1)]
  refine ⟨by rw [h2, hl z 0, ← h1]; exact h3, fun f hf => ?_⟩
  rw [h2] at hf
  have : ∀ (all : List (List Work)), f ∈ fragsF all → ∃ l ∈ all, ∃ w ∈ l, f = w.l := by
    intro all
    induction all with
    | nil => intro h; simp [fragsF] at h
    | cons l a ih =>
      intro h
      rcases List.mem_append.1 h with h | h
      · obtain ⟨w, hw, rfl⟩ := List.mem_map.1 h
        exact ⟨l, by simp, w, hw, rfl⟩
      · obtain ⟨l', h1, w, h2, h3⟩ := ih h
        exact ⟨l', by simp [h1], w, h2, h3⟩
  obtain ⟨l, hl, w, hw, rfl⟩ := this z hf
  exact (h.ok l hl w hw).slim
theorem out_groups (h : FInv g z z.length) : ∀ l ∈ z, groupW l 0 = [] := fun l hl => by
  obtain ⟨u, hu, rfl⟩ := List.getElem_of_mem hl
  have := h.none u hu
  rwa [List.getD_eq_getElem?_getD, List.getElem?_eq_getElem hu] at this
theorem out_apart (h : FInv g z z.length) (hx : finW z 0 [] [] = .ok x) : x.1.Pairwise (fun a b => a.left = b.left → alikeH a.right b.right = false) := by
  obtain ⟨h1, _⟩ := finW_ok hx (by simp)
  rw [h1, List.nil_append]
  exact rulesF_pair (out_groups h)
theorem out_again (hg : g.ok) (h : FInv g z z.length) (hx : finW z 0 [] [] = .ok x) :
    Fac (outG g z x).vars.toNat (startW (outG g z x)) 0 (.ok (startW (outG g z x))) ∧ ∃ F, factorS (outG g z x) (.ok (startW (outG g z x))) = (⟨outG g z x, F, []⟩, ⟨0, 0⟩) := by
  obtain ⟨h1, h2, h3, h4⟩ := finW_ok hx (by simp)
  rw [List.nil_append] at h1 h2
  have hv : (outG g z x).vars.toNat = z.length := rfl
  have hrg : ∀ v, v < z.length → rightsW (worksAt (outG g z x) v) = rightsW (z.getD v []) := fun v hv => by
    have e := by_rights (outG g z x).rules [] (v : Int)
    simp only [List.nil_append, List.length_nil] at e
    have e2 := rulesF_filter z 0 v
    rw [Nat.zero_add] at e2
    rw [← e2, ← h1]
    refine Eq.trans ?_ e
    simp [rightsW, worksAt, ruleAt, by_, Function.comp_def]
  have hall : (startW (outG g z x)).map rightsW = z.map rightsW := by
    apply List.ext_getElem
    · simp [startW_length, hv]
    · intro i h5 h6
      simp only [List.length_map] at h5 h6
      rw [List.getElem_map, List.getElem_map]
      have e1 := startW_get (g := outG g z x) (v := i) (by rw [hv]; exact h6)
      rw [List.getD_eq_getElem?_getD, List.getElem?_eq_getElem h5] at e1
      have e2 := hrg i h6
      rw [List.getD_eq_getElem?_getD, List.getElem?_eq_getElem h6] at e2
      simp only [Option.getD_some] at e1 e2
      rw [e1, e2]
  have hgr : ∀ v, v < z.length → groupW ((startW (outG g z x)).getD v []) 0 = [] := fun v hv' => by
    rw [startW_get (by rw [hv]; exact hv'), groupW_rights (hrg v hv')]
    exact h.none v hv'
  have hlen : (startW (outG g z x)).length = z.length := by rw [startW_length, hv]
  have hR : rulesF (startW (outG g z x)) 0 = x.1 := by rw [rulesF_rights hall, h1]
  have hfin := finW_of (all := startW (outG g z x)) (v := 0) (R := []) (F := []) (by rw [hR]; simpa using h3) (fun l hl w hw => by
    obtain ⟨v, hv1, rfl⟩ := List.mem_map.1 hl
    have hv2 : v < z.length := List.mem_range.1 hv1
    have hw2 : w.right ∈ rightsW (z.getD v []) := by rw [← hrg v hv2]; exact List.mem_map.2 ⟨w, hw, rfl⟩
    obtain ⟨y, hy, e⟩ := List.mem_map.1 hw2
    rw [← e]; exact h4 _ (getD_memW hy) y hy)
  constructor
  · have : ∀ k v, v + k = z.length → Fac (outG g z x).vars.toNat (startW (outG g z x)) v (.ok (startW (outG g z x))) := by
      intro k
      induction k with
      | zero => intro v hv; exact .done (by omega)
      | succ k ih => intro v hv; exact .next (by omega) (hgr v (by omega)) (ih (v + 1) (by omega))
    exact this z.length 0 (by omega)
  · refine ⟨fragsF (startW (outG g z x)), ?_⟩
    rw [factorS, if_pos (by rw [(out_ok hg h hx).fault])]
    simp only [factorEnd, hfin, List.nil_append, hR, hlen]
    rfl
end
end Go.Proofs.Ytgcagjamjdnglaa
