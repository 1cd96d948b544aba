/-
  Sim: rows within rows that are the call's own: what they become, and how an inner one is taken out for a while and put back. Sim: the operations on rows of rows. Sim: maps from triples of numbers to numbers. Sim: a cell of an object, read as something else. Sim: a call that leaves every object as it was: it stands beside what only reads. Sim: ways that come together again: the rest is walked once. Chart, the program: Plus, Times, within, empty. Chart, the program: row, first. Chart, the program: row; the map's keys. Chart, the program: Of. Chart, the reference: Sum, Product, ways. Chart, the reference: ways. Chart, the reference: rows of rows of noughts. Chart, the reference: CountsOf. Chart, the reference: Of, Rule, Split. Chart, the program: gram.Own, Of, Rule, Split, Count, of whatever numbers. Chart: New; ChartFault. Chart: New, where there is a chart.
-/
import Derived.Test.YticnpbopelgmiaaS5
import Derived.MapKept
import Derived.Test.YticnpbopelgmiaaQChartP
import Derived.Test.YticnpbopelgmiaaQGramC
import Derived.Test.YticnpbopelgmiaaF2
import Derived.Test.YticnpbopelgmiaaQFactsK
set_option linter.unusedVariables false
set_option linter.unusedSimpArgs false
set_option linter.unusedSectionVars false
namespace Go.Proofs.Yticnpbopelgmiaa
open Go.RowKit

theorem NE.Reps.split {E : Env} {h : Hp} {M : Bars} {w : World} : ∀ {xs ys : List NE} {f : List Nat} {us : List Value}, NE.Reps E h M w (xs ++ ys) f us → ∃ f1 f2 u1 u2, f = f1 ++ f2 ∧ us = u1 ++ u2 ∧ NE.Reps E h M w xs f1 u1 ∧ NE.Reps E h M w ys f2 u2
  | [], _, f, us, r => ⟨[], f, [], us, rfl, rfl, by simp [NE.Reps], r⟩
  | .tr t :: xs, _, _, _, r => by
    simp only [NE.Reps, List.cons_append] at r
    obtain ⟨f1, f2, u, vs, rfl, rfl, r1, r2⟩ := r
    obtain ⟨g1, g2, u1, u2, rfl, rfl, q1, q2⟩ := NE.Reps.split r2
    exact ⟨f1 ++ g1, g2, u :: u1, u2, by simp, by simp, by simp only [NE.Reps]; exact ⟨f1, g1, u, u1, rfl, rfl, r1, q1⟩, q2⟩
  | .ref k n :: xs, _, _, _, r => by
    simp only [NE.Reps, List.cons_append] at r
    obtain ⟨u, vs, rfl, r1, r2⟩ := r
    obtain ⟨g1, g2, u1, u2, rfl, rfl, q1, q2⟩ := NE.Reps.split r2
    exact ⟨g1, g2, u :: u1, u2, rfl, by simp, by simp only [NE.Reps]; exact ⟨u, u1, rfl, r1, q1⟩, q2⟩
theorem NE.Reps.append {E : Env} {h : Hp} {M : Bars} {w : World} : ∀ {xs ys : List NE} {f1 f2 : List Nat} {u1 u2 : List Value}, NE.Reps E h M w xs f1 u1 → NE.Reps E h M w ys f2 u2 → NE.Reps E h M w (xs ++ ys) (f1 ++ f2) (u1 ++ u2)
  | [], _, _, _, _, _, r, q => by simp only [NE.Reps] at r; obtain ⟨rfl, rfl⟩ := r; simpa using q
  | .tr t :: xs, _, _, _, _, _, r, q => by
    simp only [NE.Reps, List.cons_append] at r ⊢
    obtain ⟨g1, g2, u, vs, rfl, rfl, r1, r2⟩ := r
    exact ⟨g1, _, u, _, by simp only [List.append_assoc], rfl, r1, NE.Reps.append r2 q⟩
  | .ref k n :: xs, _, _, _, _, _, r, q => by
    simp only [NE.Reps, List.cons_append] at r ⊢
    obtain ⟨u, vs, rfl, r1, r2⟩ := r
    exact ⟨u, _, rfl, r1, NE.Reps.append r2 q⟩
theorem NE.Reps.trs {E : Env} {h : Hp} {M : Bars} {w : World} : ∀ {ts : List Tr} {f : List Nat} {us : List Value}, NE.Reps E h M w (ts.map .tr) f us ↔ Tr.Reps M w ts f us
  | [], _, _ => by simp [NE.Reps, Tr.Reps]
  | t :: ts, _, _ => by simp only [List.map_cons, NE.Reps, Tr.Reps, NE.Reps.trs (ts := ts)]
theorem NE.Reps.one {E : Env} {h : Hp} {M : Bars} {w : World} : ∀ {xs : List NE} {f : List Nat} {us : List Value}, NE.Reps E h M w xs f us → ∀ u ∈ us, u.oneCell' = true
  | [], _, _, r => by simp only [NE.Reps] at r; obtain ⟨_, rfl⟩ := r; simp
  | .tr t :: xs, _, _, r => by
    simp only [NE.Reps] at r
    obtain ⟨f1, f2, u, vs, rfl, rfl, r1, r2⟩ := r
    intro x hx
    rcases List.mem_cons.1 hx with rfl | hx
    · exact r1.one
    · exact NE.Reps.one r2 x hx
  | .ref k n :: xs, _, _, r => by
    simp only [NE.Reps] at r
    obtain ⟨u, vs, rfl, r1, r2⟩ := r
    intro x hx
    rcases List.mem_cons.1 hx with rfl | hx
    · simp only [V.Rep] at r1; obtain ⟨_, _, _, h0, _⟩ := r1; exact h0
    · exact NE.Reps.one r2 x hx
section
variable {G : Ctx} {E : Env} {fr : Fr} {h : Hp} {a : Act} {w : World}
/-- An object that may be a part of a row of rows, as such a part. -/
inductive IsTr : Ob → Tr → Nat → Prop
  | row {e : TypeId} {sz n : Nat} {xs : List D} (hn : xs.length = n) : IsTr (.row e sz xs) (.row e sz xs) n
  | nest {e : TypeId} {A : List Tr} {n : Nat} (hn : A.length = n) : IsTr (.nest e A [] []) (.node e A) n
theorem IsTr.ver {ob : Ob} {t : Tr} {n k : Nat} {h : Hp} (i : IsTr ob t n) (hk : hget h k = some ob) : verAny h k n := by
  cases i with
  | row hn => exact .inl ⟨_, _, _, hk, hn⟩
  | nest hn => exact .inr (.inr (.inr ⟨_, _, _, _, hk, by simpa using hn⟩))
def obFp (E : Env) (k : Nat) : Ob → List Nat
  | .row .. => (obOf (E.row k)).toList
  | .nest .. => (obOf (E.row k)).toList ++ E.fp k
  | _ => []
theorem IsTr.blk {ob : Ob} {t : Tr} {n k : Nat} (i : IsTr ob t n) (hk : hget h k = some ob) (b : Nat) : b ∈ obFp E k ob ↔ blkOf E h k b := by
  cases i <;> simp [blkOf, hk, obFp]
theorem IsTr.rep {ob : Ob} {t : Tr} {n k : Nat} {M : Bars} (i : IsTr ob t n) (hr : ObRep E h M w k ob) : Tr.Rep M w t (obFp E k ob) (E.row k) ∧ (obFp E k ob).Nodup := by
  cases i with
  | row hn =>
    simp only [ObRep] at hr
    simp only [Tr.Rep, obFp]
    exact ⟨⟨hr, trivial⟩, by cases obOf (E.row k) <;> simp⟩
  | @nest e A n hn =>
    simp only [ObRep, nes, List.map_nil, List.append_nil] at hr
    obtain ⟨us, r1, r2, r3⟩ := hr
    simp only [Tr.Rep, obFp]
    exact ⟨⟨us, E.fp k, r1, NE.Reps.trs.1 r2, rfl⟩, r3⟩
end
section
variable {P : Program} {n : Nat} {Q : Exit → Fr → Hp → Prop} {fr : Fr} {h : Hp}
end
end Go.Proofs.Yticnpbopelgmiaa
namespace Go.Proofs.Yticnpbopelgmiaa
open Go.RowKit

section
variable {G : Ctx} {E : Env} {fr : Fr} {h : Hp} {a : Act} {w : World}
/-- A row's slice as a datum: what lies in it given as data. -/
theorem RowAt.rep {M M' : Bars} {w : World} {e sz : Nat} {v : Value} {xs ds : List D} (hr : RowAt M w e sz v xs) (hlen : ds.length = xs.length) (hsz : ∀ x ∈ ds, x.size = sz) (hds : ∀ us, D.Reps M w xs us → D.Reps M' w ds us) (hm : ∀ b, obOf v = some b → ¬ M' false b) :
    D.Rep M' w (.sl false sz ds) [v] := by
  simp only [D.Rep]
  obtain ⟨ad, cap, h1, h2, h3⟩ := hr.shape
  by_cases hne : xs = []
  · subst hne
    have : ds = [] := List.eq_nil_of_length_eq_zero hlen
    subst this
    exact ⟨ad, cap, [], by rw [h1], h2, h3, by simp, by simp [D.Reps], by simp⟩
  · obtain ⟨g, off, cap', us, k1, k2, k3, k4, k5, k6⟩ := hr.cells hne
    rw [h1] at k1
    simp only [Value.slice.injEq] at k1
    obtain ⟨rfl, _, rfl⟩ := k1
    exact ⟨_, cap, us, by rw [h1, hlen], by omega, h3, hsz, hds us k3, fun _ => ⟨g, off, rfl, hm g k2, k5, k6⟩⟩
end
section
variable {P : Program} {n : Nat} {Q : Exit → Fr → Hp → Prop} {fr : Fr} {h : Hp}
end
section
variable {P : Program} {n : Nat} {dr : Bool} {ops : Array Oper} {rest : List Oper} {log : List Rec} {K : Exit → Fr → Hp → Prop} {fr : Fr} {h : Hp}
variable {d : Nat} {ty : TypeId} {pos : String} {after : Array Edge} {g : Option (Nat × Bool)}
variable (T : TT P)
end
end Go.Proofs.Yticnpbopelgmiaa
namespace Go.Proofs.Yticnpbopelgmiaa
open Go.RowKit

/-- What the program says of the map's types. -/
structure KeyRun (P : Program) (mt kt et : TypeId) : Prop where
  hm : P.underlying mt = some (.map kt et)
  chk : ∀ (em : Bool) (k : Int × Int × Int) (w : World), (Instr.checkKey em 10000 kt (spK k)).run P w = .ok () w
  now : ∃ ds, P.underlying kt = some ds ∧ ∀ k k' : Int × Int × Int, Instr.sameNow ds (spK k) (spK k') = none
  eq : ∀ (k k' : Int × Int × Int) (w : World), (Op.equal kt (spK k) (spK k')).run P w = .ok (decide (k = k')) w
  zero : ∀ w : World, (zeroValue et).run P w = .ok (.int .i64 0) w
section
variable {P : Program} {mt kt et : TypeId} (R : KeyRun P mt kt et)
include R
omit R in
end
section
variable {G : Ctx} {E : Env} {fr : Fr} {h : Hp} {a : Act} {w : World}
end
section
variable {P : Program} {n : Nat} {Q : Exit → Fr → Hp → Prop} {fr : Fr} {h : Hp}
end
section
variable {P : Program} {n : Nat} {dr : Bool} {ops : Array Oper} {rest : List Oper} {log : List Rec} {K : Exit → Fr → Hp → Prop} {fr : Fr} {h : Hp}
variable {d : Nat} {ty : TypeId} {pos : String} {after : Array Edge} {g : Option (Nat × Bool)}
end
end Go.Proofs.Yticnpbopelgmiaa
namespace Go.Proofs.Yticnpbopelgmiaa
open Go.RowKit
section
variable {G : Ctx} {E : Env} {fr : Fr} {h : Hp} {a : Act} {w : World}
end
section
variable {P : Program} {n : Nat} {Q : Exit → Fr → Hp → Prop} {fr : Fr} {h : Hp}
/-- Some state says the same of memory, and meets K. -/
def now (K : Fr → Hp → Prop) (fr : Fr) (h : Hp) : Prop := ∀ (G : Ctx) (E : Env) (a : Act) (w : World), Conc G E fr h a w → ∃ E' fr' h', K fr' h' ∧ Conc G E' fr' h' a w
end
end Go.Proofs.Yticnpbopelgmiaa
namespace Go.Proofs.Yticnpbopelgmiaa
open Go.RowKit
section
variable {P : Program} {n : Nat} {dr : Bool} {ops : Array Oper} {rest : List Oper} {log : List Rec} {K : Exit → Fr → Hp → Prop} {fr : Fr} {h : Hp}
variable {ty : TypeId} {pos : String} {after : Array Edge} {g : Option (Nat × Bool)}
end
section
end
end Go.Proofs.Yticnpbopelgmiaa
namespace Go.Proofs.Yticnpbopelgmiaa
open Go.RowKit

section
variable {P : Program} {n : Nat} {Q : Exit → Fr → Hp → Prop} {fr : Fr} {h : Hp}
end
end Go.Proofs.Yticnpbopelgmiaa
namespace Go.Proofs.Yticnpbopelgmiaa
open Go.RowKit
set_option maxRecDepth 100000
-- SimX

abbrev manyC : Nat := 4611686018427387904
end Go.Proofs.Yticnpbopelgmiaa
namespace Go.Proofs.Yticnpbopelgmiaa
open Go.RowKit
set_option maxRecDepth 100000
-- SimX

section
variable {g : Gram} {w : List Int} {N : Cube} {j : Nat} {Q : List Int → Nat → Prop}
end
end Go.Proofs.Yticnpbopelgmiaa
namespace Go.Proofs.Yticnpbopelgmiaa
open Go.RowKit
set_option maxRecDepth 100000
-- SimX

section
variable {g : Gram} {w : List Int} {N : Cube} {j : Nat} {Q : List Int → Nat → Prop}
end
end Go.Proofs.Yticnpbopelgmiaa
namespace Go.Proofs.Yticnpbopelgmiaa
open Go.RowKit
set_option maxRecDepth 100000
-- SimX

end Go.Proofs.Yticnpbopelgmiaa
namespace Go.Proofs.Yticnpbopelgmiaa
open Go.RowKit
set_option maxRecDepth 100000
-- SimX

end Go.Proofs.Yticnpbopelgmiaa
namespace Go.Proofs.Yticnpbopelgmiaa
open Go.RowKit
set_option maxRecDepth 100000
-- SimX

/-! ### One symbol more, step by step -/
section
variable {M : Nat} {N : Cube} {w : List Int} {i j : Nat} {a : Nat → Nat} {s : Int}
end
end Go.Proofs.Yticnpbopelgmiaa
namespace Go.Proofs.Yticnpbopelgmiaa
open Go.RowKit
set_option maxRecDepth 100000
-- SimX

end Go.Proofs.Yticnpbopelgmiaa
namespace Go.Proofs.Yticnpbopelgmiaa
open Go.RowKit
set_option maxRecDepth 100000
-- SimX

section
variable {g : Gram} {w : List Int} {M : Nat} {N : Cube}
end
end Go.Proofs.Yticnpbopelgmiaa
namespace Go.Proofs.Yticnpbopelgmiaa
open Go.RowKit
set_option maxRecDepth 100000
-- SimX

end Go.Proofs.Yticnpbopelgmiaa
namespace Go.Proofs.Yticnpbopelgmiaa
open Go.RowKit
set_option maxRecDepth 100000
-- SimX

section
variable {g : Gram} {w : List Int}
end
end Go.Proofs.Yticnpbopelgmiaa
namespace Go.Proofs.Yticnpbopelgmiaa
open Go.RowKit
set_option maxRecDepth 100000
-- SimX

section
variable {P : Program} {n : Nat} {Q : Exit → Fr → Hp → Prop} {fr : Fr} {h : Hp}
end
/-- The first that is no terminal. -/
def wBad (t : Int) : List Int → Nat → Option Nat
  | [], _ => none
  | x :: r, i => if x < 0 ∨ t ≤ x then some i else wBad t r (i + 1)
/-- What New says. -/
def chF (g : Gram) (w : List Int) : Fault := if (gramFault g).code = 0 then (if 12 < w.length then ⟨15, -1⟩ else match wBad g.terms w 0 with
    | some i => ⟨15, (i : Int)⟩
    | none => if cycL g = [] then ⟨0, 0⟩ else ⟨10, -1⟩) else gramFault g
/-- Where there is a chart. -/
structure ChOk (g : Gram) (w : List Int) : Prop where
  ok : g.ok
  cyc : cycL g = []
  len : w.length ≤ 12
  syms : ∀ x ∈ w, 0 ≤ x ∧ x < g.terms
theorem ChOk.small {g : Gram} {w : List Int} (h : ChOk g w) : w.length ≤ 100000 ∧ ∀ x ∈ w, 0 ≤ x ∧ x ≤ 1000000 := ⟨by have := h.len; omega, fun x hx => by have := h.syms x hx; have := h.ok.terms; omega⟩
end Go.Proofs.Yticnpbopelgmiaa
namespace Go.Proofs.Yticnpbopelgmiaa
open Go.RowKit
set_option maxRecDepth 100000
-- SimX

end Go.Proofs.Yticnpbopelgmiaa
