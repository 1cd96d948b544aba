/-
  Sim: TurnMakes returns true. What every statement ends with, over Sim: from a law's contract (it returned true) to its row; how arguments are read as data.
-/
import Derived.Test.YticnpbopelgmiaaQFactorF
import Derived.Test.YticnpbopelgmiaaTurnH
import Derived.Test.YticnpbopelgmiaaFrC
import Derived.Test.YticnpbopelgmiaaS5
import Derived.Test.YticnpbopelgmiaaS3
import Derived.Test.YticnpbopelgmiaaRows
import Derived.OpenShut
import Derived.ShutString
import Derived.JoinedCond
import Derived.Carry
import Derived.Deep.Slices
set_option linter.unusedVariables false
set_option linter.unusedSimpArgs false
set_option linter.unusedSectionVars false
namespace Go.Proofs.Yticnpbopelgmiaa
open Go.RowKit
set_option maxRecDepth 100000
-- SimX

set_option maxHeartbeats 4000000 in
theorem turnMakes_sim {g : Gram} (hl : g.rules.length ≤ 100000000) (hr : ∀ r ∈ g.rules, r.right.length ≤ 100000000) :
    ACalls Try.prog 5 [.d (gramD false g)] [] (B true) [] := by
  refine ACalls.intro (n := 49) Try.func5 rfl rfl (by simp) (by rfl) ?_
  simp only [argFr]
  have hf : g.fit := ⟨hl, hr⟩
  have hsf := turnS_fit g
  have hst := @turnS_step g
  have hm := turnMake_sim hf
  have ho := turnOf_sim (t := false) hf
  generalize turnS g = s at *
  have s0 := sameGram_sim (t := false) (u := false) hf hf
  rw [decide_eq_true rfl] at s0
  have q2 : decide (s.2 = s.2) = true := by simp
  repeat (first | refine wk ?_ | refine s_field (hr := ?_))
  refine s_call [] (hA := turnBegun_sim) (hr := ?_)
  repeat (first | refine wk ?_ | refine s_field (hr := ?_))
  refine s_call [] (hA := greatGram_sim hl hr) (hr := ?_)
  cases h1 : greatG g with
  | true => repeat (first | refine wk ?_ | refine s_field (hr := ?_)); exact fin
  | false =>
  repeat (first | refine wk ?_ | refine s_field (hr := ?_))
  refine s_call [] (hA := ownGram_sim hf) (hr := ?_)
  repeat (first | refine wk ?_ | refine s_field (hr := ?_))
  refine s_callf [] (hA := hm) (hr := ?_)
  repeat (first | refine wk ?_ | refine s_field (hr := ?_))
  refine s_callf [] (hA := ho) (hr := ?_)
  by_cases h0 : s.2.code = 0
  · have hsf2 := stepFault_sim (t := false) (u := false) hf hsf
    rw [hst h0] at hsf2
    repeat (first | refine wk ?_ | refine s_field (hr := ?_))
    refine s_call [] (hA := sameStep_sim (t := false) (u := false) hsf) (hr := ?_)
    repeat (first | refine wk ?_ | refine s_field (hr := ?_))
    refine s_callf [] (hA := s0) (hr := ?_)
    repeat (first | refine wk ?_ | refine s_field (hr := ?_))
    refine s_call [] (hA := hsf2) (hr := ?_)
    repeat (first | refine wk ?_ | refine s_field (hr := ?_))
    exact fin
  · repeat (first | refine wk ?_ | refine s_field (hr := ?_))
    refine s_call [] (hA := sameStep_sim (t := false) (u := false) hsf) (hr := ?_)
    repeat (first | refine wk ?_ | refine s_field (hr := ?_))
    refine s_callf [] (hA := s0) (hr := ?_)
    repeat (first | refine wk ?_ | refine s_field (hr := ?_))
    exact fin
end Go.Proofs.Yticnpbopelgmiaa
namespace Go.Proofs.Yticnpbopelgmiaa
open Go.ChangeShapes Go.WideShapes Go.ChangeAt Go.RowKit
open Go.Deep (open_slice)

theorem Ext.below {w w' : World} (h : Ext NoB w w') : Below w.heap.size w w' :=
  ⟨h.os, h.tape, h.output, h.size, fun k hk => h.block k hk (fun x => x)⟩
theorem Try.laidOut : laidOutB Try.prog = true := by kernel_rfl
theorem Try.ownKnob : ownKnob Try.prog.godebug = none := by kernel_rfl

theorem trodAll_stays {H : Type} {enc : TypeId × Value → H} {P : Program} (hl : laidOutB P = true) {W W' : World} (hE : Ext NoB W W') :
    ∀ {ts : List TypeId} {vs : List Value} {ds : List (DataW H)} {ps : List MemPlace}, (∀ t ∈ ts, P.readableRec t = true ∧ t < P.types.size) →
      DataW.TrodAll enc P W 0 (fun _ => true) true ts vs ds ps → (∀ x ∈ ps, x.block < W.heap.size) → DataW.TrodAll enc P W' 0 (fun b => decide (b < W.heap.size)) true ts vs ds ps
  | [], vs, ds, ps, _, h, _ => by
    obtain ⟨rfl, rfl, rfl⟩ := trodAll_nil h
    exact trodAll_mk0
  | t :: ts, vs, ds, ps, ht, h, hp => by
    obtain ⟨v, vs', d, ds', p, q, rfl, rfl, rfl, h1, h2⟩ := trodAll_cons h
    refine ⟨p, q, ?_, trodAll_stays hl hE (fun t' ht' => ht t' (by simp [ht'])) h2 (fun x hx => hp x (by simp [hx])), rfl⟩
    exact Below.trod hl (ht t (by simp)).1 (ht t (by simp)).2 h1 hE.below (fun x hx => hp x (by simp [hx]))

theorem post_law {H : Type} {enc : TypeId × Value → H} {P : Program} {f : Func} {s : ChangeSpec} {W W' : World} {args : Array Value} {ds gs : List (DataW H)} {before : List MemPlace}
    (hl : laidOutB P = true) (ht : ∀ t ∈ f.params.toList, P.readableRec t = true ∧ t < P.types.size) (tb : TypeId) (hf : f.resultTypes = #[tb]) (hb : P.underlying tb = some .bool)
    (hW : DataW.Whole enc P f.params.toList s.vars false W args.toList ds gs before) (hv : s.vars = []) (hs : s.fn H (ds ++ gs) = { results := [.lit (.bool true)], args := ds }) (hE : Ext NoB W W') :
    s.post enc P f false true false false W args (.bool true) W' := by
  have hW' := hW
  obtain ⟨p, q, hA, hV, rfl, hfz, hnd⟩ := hW
  rw [hv] at hV
  obtain ⟨rfl, rfl⟩ := trodVars_none hV
  have hlt := hW'.lt
  refine ⟨ds, [], p ++ [], [], p, [], hW', ?_, ?_, ?_, hE.below.frame _, fun h => by cases h⟩
  · rw [hs, hf]
    exact trodAll_cons_mk (p := []) (p' := []) (shut_bool hb true) trodAll_mk0
  · rw [hs]
    exact trodAll_stays hl hE ht hA (fun x hx => hlt x (by simp [hx]))
  · rw [hs, hv]
    exact rfl

/-! ### From a contract to a call -/
/-- No block is barred. -/
def M0 : Bars := fun _ _ => False
theorem bars_nil (E : Env) : bars E [] M0 = M0 := by
  funext t b
  simp [bars, Live, blkOf, hget, M0]
def RepsV (w : World) : List D → List Value → Prop
  | [], us => us = []
  | d :: ds, us => ∃ u r, us = u :: r ∧ d.RepV M0 w u ∧ RepsV w ds r
theorem RepsV.reps {E : Env} {w : World} : ∀ {ds : List D} {us : List Value}, RepsV w ds us → V.Reps E [] M0 w (ds.map V.d) us
  | [], _, h => by simpa [RepsV, V.Reps] using h
  | d :: ds, _, h => by
    obtain ⟨u, r, rfl, h1, h2⟩ := h
    simp only [List.map_cons, V.Reps, V.Rep]
    exact ⟨u, r, rfl, h1, h2.reps⟩
theorem keyss_d : ∀ (ds : List D), V.keyss (ds.map V.d) = []
  | [] => rfl
  | d :: ds => by simp [V.keyss, V.keys, keyss_d ds]
theorem ACalls.law {P : Program} {f : FuncId} {ds : List D} (hc : ACalls P f (ds.map V.d) [] (B true) []) {w : World} {us : List Value} (hr : RepsV w ds us) :
    Calls P f us.toArray w fun e w' => e = .returned (.bool true) ∧ Ext NoB w w' := by
  have E : Env := ⟨fun _ => 0, fun _ => undef, fun _ => []⟩
  refine (hc.run E w us M0 ⟨by simp [hget], by simp [blkOf, hget], by simp [hget]⟩ (by rw [bars_nil]; exact hr.reps) (by rw [keyss_d]; simp) (by simp [M0]) (by simp [M0])).mono ?_
  rintro e w' ⟨E', u, rfl, _, h2, _, h3, _⟩
  simp only [V.Rep, D.RepV, D.Rep, List.cons.injEq, and_true] at h2
  exact ⟨by rw [h2.1], h3.mono (fun x hx => by obtain ⟨k, hk⟩ := hx; simp [blkOf, hget] at hk)⟩

/-! ### How arguments are read -/
section
variable {H : Type}
theorem bulk_pos (d : DataW H) : 1 ≤ Rows.uptoBulk d := by
  cases d with
  | lit l => cases l <;> simp [Rows.uptoBulk]
  | _ => simp [Rows.uptoBulk]
theorem bulk_len : ∀ (ds : List (DataW H)), ds.length ≤ Rows.uptoBulkAll ds
  | [] => by simp
  | d :: r => by have := bulk_pos d; have := bulk_len r; simp only [List.length_cons, Rows.uptoBulkAll]; omega
theorem bulk_mem : ∀ {ds : List (DataW H)} {d : DataW H}, d ∈ ds → Rows.uptoBulk d ≤ Rows.uptoBulkAll ds
  | [], _, h => by cases h
  | x :: r, d, h => by
    simp only [Rows.uptoBulkAll]
    rcases List.mem_cons.1 h with rfl | h
    · omega
    · have := bulk_mem h; omega
end

/-- What reads as data of type t is an element of α, by f; Φ bounds its sizes by the bulk. -/
def Rd (P : Program) (t : TypeId) {α : Type} (f : α → D) (Φ : α → Nat → Prop) : Prop :=
  ∀ (H : Type) (enc : TypeId × Value → H) (w : World) (held : Bool) (n : Nat) (cs : List Value) (y : DataW H × List MemPlace), DataW.trod enc P w 0 (fun _ => true) held n t cs = some y → ∃ r : α, (f r).Rep M0 w cs ∧ Φ r (Rows.uptoBulk y.1)
/-- As Rd, for no more than so much fuel. -/
def RdN (P : Program) (N : Nat) (t : TypeId) {α : Type} (f : α → D) (Φ : α → Nat → Prop) : Prop :=
  ∀ (H : Type) (enc : TypeId × Value → H) (w : World) (held : Bool) (n : Nat) (cs : List Value) (y : DataW H × List MemPlace), n < N → DataW.trod enc P w 0 (fun _ => true) held n t cs = some y → ∃ r : α, (f r).Rep M0 w cs ∧ Φ r (Rows.uptoBulk y.1)
theorem Rd.n {P : Program} {t : TypeId} {α : Type} {f : α → D} {Φ : α → Nat → Prop} (h : Rd P t f Φ) (N : Nat) : RdN P N t f Φ :=
  fun H enc w held n cs y _ hy => h H enc w held n cs y hy
theorem rd_int {P : Program} {t : TypeId} {k : IntKind} (hu : P.underlying t = some (.int k)) : Rd P t (fun n : Int => .raw (.int k n)) (fun _ _ => True) := fun H enc w held n cs y h => by
  obtain ⟨n, rfl, rfl, _⟩ := DataW.trod_int hu h
  exact ⟨n, by simp [D.Rep, Value.oneCell'], trivial⟩
theorem reps_of {w : World} {α : Type} {f : α → D} {sz : Nat} (hfs : ∀ r, (f r).size = sz) (b off : Nat) : ∀ (n : Nat) (g : Nat → α) (C : Nat → List Value), (∀ i, i < n → (f (g i)).Rep M0 w (C i) ∧ ∀ j, j < sz → w.cell? ⟨b, off + (i * sz + j), none⟩ = (C i)[j]?) →
    ∃ es, D.Reps M0 w (((List.range n).map g).map f) es ∧ ∀ j, j < es.length → w.cell? ⟨b, off + j, none⟩ = es[j]?
  | 0, _, _, _ => ⟨[], by simp [D.Reps], by simp⟩
  | n + 1, g, C, h => by
    obtain ⟨es, h1, h2⟩ := reps_of hfs b off n g C (fun i hi => h i (by omega))
    obtain ⟨k1, k3⟩ := h n (by omega)
    have hl : es.length = n * sz := by
      have := D.Reps.length h1
      rw [D.sizes_eq (sz := sz) (by intro x hx; obtain ⟨r, _, rfl⟩ := List.mem_map.1 hx; exact hfs r)] at this
      simpa using this
    have hc : (C n).length = sz := (D.Rep.length k1).trans (hfs _)
    refine ⟨es ++ C n, ?_, fun j hj => ?_⟩
    · rw [List.range_succ, List.map_append, List.map_append]
      exact D.Reps.append h1 (by simpa using D.Reps.single.2 k1)
    · rw [List.length_append] at hj
      by_cases hjl : j < es.length
      · rw [List.getElem?_append_left hjl]; exact h2 j hjl
      · rw [List.getElem?_append_right (by omega), ← k3 (j - es.length) (by omega), hl]
        congr 2
        omega
def ListΦ {α : Type} (Φ : α → Nat → Prop) (rs : List α) (N : Nat) : Prop := rs.length ≤ N ∧ ∀ r ∈ rs, Φ r N
theorem slice_core {P : Program} {N : Nat} {t e : TypeId} {sz : Nat} {α : Type} [Inhabited α] {f : α → D} {Φ : α → Nat → Prop} (ht : P.underlying t = some (.slice e)) (hc : P.cellsOf e = sz) (hsz : 0 < sz) (hfs : ∀ r, (f r).size = sz)
    (he : RdN P N e f Φ) {H : Type} {enc : TypeId × Value → H} {w : World} {held : Bool} {n : Nat} {cs : List Value} {x : DataW H × List MemPlace} (hn : n < N + 1) (h : DataW.trod enc P w 0 (fun _ => true) held n t cs = some x) :
    ∃ (rs : List α) (els rest : List (DataW H)), (D.sl false sz (rs.map f)).Rep M0 w cs ∧ Rows.uptoBulkAll els ≤ Rows.uptoBulk x.1 - 1 ∧ rs.length = els.length ∧ ∀ i (h1 : i < rs.length) (h2 : i < els.length), Φ rs[i] (Rows.uptoBulk els[i]) := by
  rcases DataW.trod_slice ht h with ⟨rfl, rfl⟩ | ⟨a, len, cap, elems, rest, n', hn', rfl, rfl, _, hl, hm, hlen, hel, _, _⟩
  · refine ⟨[], [], [], ?_, by simp [Rows.uptoBulkAll], rfl, by simp⟩
    simp only [D.Rep]
    exact ⟨none, 0, [], by simp, by simp, by simp [maxLen], by simp, by simp [D.Reps], by simp⟩
  · have hex : ∀ i, ∃ r : α × List Value, ∀ (hi : i < len), (f r.1).Rep M0 w r.2 ∧ Φ r.1 (Rows.uptoBulk (elems[i]'(by omega)).1) ∧ w.cells? 0 (a.add (i * P.cellsOf e)) (P.cellsOf e) = some r.2 := fun i => by
      by_cases hi : i < len
      · have hb := hel i hi
        rw [List.getElem?_eq_getElem (by omega)] at hb
        obtain ⟨cs', h1, h2⟩ := Option.bind_eq_some_iff.1 hb
        obtain ⟨r, h3, h4⟩ := he H enc w held n' cs' _ (by omega) h2
        exact ⟨(r, cs'), fun _ => ⟨h3, h4, h1⟩⟩
      · exact ⟨(default, []), fun h => absurd h hi⟩
    obtain ⟨G, hG⟩ := Classical.axiomOfChoice hex
    rw [hc] at hG
    have hb : 0 < len → ∃ b off, a = ⟨b, off, none⟩ ∧ b < w.heap.size := fun h0 => by
      obtain ⟨_, _, h3⟩ := hG 0 h0
      have hlt := World.cells?_block h3 hsz
      obtain ⟨_, h5, h6⟩ := World.cells?_some h3
      have h7 := h6 0 hsz
      obtain ⟨b, off, spot⟩ := a
      have h8 : ∃ u, (G 0).2[0]? = some u := ⟨_, List.getElem?_eq_getElem (by omega)⟩
      obtain ⟨u, hu⟩ := h8
      rw [hu] at h7
      have hspot : spot = none := by simpa [Addr.add] using World.cell?_spot h7
      subst hspot
      exact ⟨b, off, rfl, by simpa [Addr.add] using hlt⟩
    refine ⟨(List.range len).map fun i => (G i).1, elems.map (·.1), [], ?_, ?_, by simp [hlen], ?_⟩
    · rcases Nat.eq_zero_or_pos len with rfl | h0
      · simp only [D.Rep]
        exact ⟨some a, cap, [], by simp, by simp, hm, by simp, by simp [D.Reps], by simp⟩
      · obtain ⟨b, off, rfl, hbs⟩ := hb h0
        obtain ⟨es, h1, h2⟩ := reps_of (f := f) hfs b off len (fun i => (G i).1) (fun i => (G i).2) (fun i hi => by
          obtain ⟨g1, _, g3⟩ := hG i hi
          obtain ⟨_, g5, g6⟩ := World.cells?_some g3
          refine ⟨g1, fun j hj => ?_⟩
          rw [← g6 j hj]
          congr 1
          simp only [Addr.add]
          split <;> split <;> simp_all <;> omega)
        simp only [D.Rep]
        refine ⟨some ⟨b, off, none⟩, cap, es, by simp, by simpa using hl, hm, ?_, h1, fun _ => ⟨b, off, rfl, by simp [M0], hbs, h2⟩⟩
        intro x hx
        obtain ⟨r, _, rfl⟩ := List.mem_map.1 hx
        exact hfs r
    · simp only [Rows.uptoBulk]; omega
    · intro i h1 h2
      have hi : i < len := by simpa using h1
      have := (hG i hi).2.1
      simpa using this
theorem rd_sliceN {P : Program} {N : Nat} {t e : TypeId} {sz : Nat} {α : Type} [Inhabited α] {f : α → D} {Φ : α → Nat → Prop} (ht : P.underlying t = some (.slice e)) (hc : P.cellsOf e = sz) (hsz : 0 < sz) (hfs : ∀ r, (f r).size = sz) (hΦ : ∀ r m n, Φ r m → m ≤ n → Φ r n)
    (he : RdN P N e f Φ) : RdN P (N + 1) t (fun rs : List α => .sl false sz (rs.map f)) (ListΦ Φ) := by
  intro H enc w held n cs x hn h
  obtain ⟨rs, els, _, h1, h2, h3, h4⟩ := slice_core ht hc hsz hfs he hn h
  refine ⟨rs, h1, ?_, fun r hr => ?_⟩
  · have := bulk_len els; have := bulk_pos x.1; omega
  · obtain ⟨i, hi, rfl⟩ := List.getElem_of_mem hr
    have := bulk_mem (ds := els) (d := els[i]'(by omega)) (List.getElem_mem _)
    exact hΦ _ _ _ (h4 i hi (by omega)) (by omega)
theorem rd_slice {P : Program} {t e : TypeId} {sz : Nat} {α : Type} [Inhabited α] {f : α → D} {Φ : α → Nat → Prop} (ht : P.underlying t = some (.slice e)) (hc : P.cellsOf e = sz) (hsz : 0 < sz) (hfs : ∀ r, (f r).size = sz) (hΦ : ∀ r m n, Φ r m → m ≤ n → Φ r n)
    (he : Rd P e f Φ) : Rd P t (fun rs : List α => .sl false sz (rs.map f)) (ListΦ Φ) :=
  fun H enc w held n cs y h => rd_sliceN ht hc hsz hfs hΦ (he.n n) H enc w held n cs y (Nat.lt_succ_self _) h
theorem dreps_cons {w : World} {d : D} {ds : List D} {c r : List Value} (h1 : d.Rep M0 w c) (h2 : D.Reps M0 w ds r) : D.Reps M0 w (d :: ds) (c ++ r) := by
  simp only [D.Reps]; exact ⟨c, r, rfl, h1, h2⟩
theorem dreps_nil {w : World} : D.Reps M0 w [] [] := by simp [D.Reps]
/-- An argument that is a struct. -/
theorem arg_agg {P : Program} {t : TypeId} {fs : Array Field} {α : Type} {f : α → List D} {Φ : α → Nat → Prop} (hu : P.underlying t = some (.struct fs)) (hr : Rd P t (fun a => .agg (f a)) Φ) {H : Type} {enc : TypeId × Value → H} {w : World} {base : Nat} {v : Value} {d : DataW H} {p : List MemPlace}
    (hval : Value.okWide P w .any base t v) (h : DataW.Trod enc P w 0 (fun _ => true) true t v d p) : ∃ r : α, (D.agg (f r)).RepV M0 w v ∧ Φ r (Rows.uptoBulk d) := by
  unfold Value.okWide at hval
  rw [hu] at hval
  obtain ⟨cs, rfl, _⟩ := hval
  obtain ⟨fuel, h⟩ := h
  obtain ⟨r, h1, h2⟩ := hr H enc w true fuel _ _ h
  refine ⟨r, ⟨cs.toList, by simp, ?_⟩, h2⟩
  simpa [Value.cells, D.Rep] using h1
end Go.Proofs.Yticnpbopelgmiaa
