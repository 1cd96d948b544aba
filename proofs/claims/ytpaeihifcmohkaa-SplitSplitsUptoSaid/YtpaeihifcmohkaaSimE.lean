/-
  Sim: contracts of calls (ACalls), how one is come by (entry, results), what may be read as something else (Co), freezing, nil as a row of the call's own.
-/
import Derived.Test.YtpaeihifcmohkaaSimD
set_option linter.unusedVariables false
set_option linter.unusedSimpArgs false
namespace Go.Proofs.Ytpaeihifcmohkaa
open Go.RowKit

/-! ### Read as something else -/
def Co (h : Hp) (v v' : V) : Prop := ∀ (E : Env) (o : Bars) (w : World) (u : Value), HRep E h o w → (∀ b, o true b → o false b) → V.Rep E h (bars E h o) w v u → V.Rep E h (bars E h o) w v' u
def Cos (h : Hp) : List V → List V → Prop
  | [], [] => True
  | v :: vs, v' :: vs' => Co h v v' ∧ Cos h vs vs'
  | _, _ => False
section
variable {h : Hp}
theorem Co.refl (v : V) : Co h v v := fun _ _ _ _ _ _ r => r
theorem Co.trans {a b c : V} (h1 : Co h a b) (h2 : Co h b c) : Co h a c := fun E o w u H s r => h2 E o w u H s (h1 E o w u H s r)
theorem Cos.reps : ∀ {vs vs' : List V}, Cos h vs vs' → ∀ {E : Env} {o : Bars} {w : World} {us : List Value}, HRep E h o w → (∀ b, o true b → o false b) → V.Reps E h (bars E h o) w vs us → V.Reps E h (bars E h o) w vs' us
  | [], [], _, _, _, _, _, _, _, r => r
  | v :: vs, v' :: vs', hc, E, o, w, us, H, s, r => by
    simp only [Cos] at hc
    simp only [V.Reps] at r ⊢
    obtain ⟨x, y, h1, h2, h3⟩ := r
    exact ⟨x, y, h1, hc.1 E o w x H s h2, Cos.reps hc.2 H s h3⟩
  | [], _ :: _, hc, _, _, _, _, _, _, _ => by simp [Cos] at hc
  | _ :: _, [], hc, _, _, _, _, _, _, _ => by simp [Cos] at hc
theorem Cos.refl : ∀ (vs : List V), Cos h vs vs
  | [] => trivial
  | v :: vs => ⟨Co.refl v, Cos.refl vs⟩
theorem Co.tup {vs vs' : List V} (hc : Cos h vs vs') : Co h (.tup vs) (.tup vs') := fun E o w u H s r => by
  simp only [V.Rep] at r ⊢
  obtain ⟨us, h1, h2⟩ := r
  exact ⟨us, h1, hc.reps H s h2⟩
theorem Co.aggs {vs vs' : List V} (hc : Cos h vs vs') : Co h (.agg vs) (.agg vs') := fun E o w u H s r => by
  simp only [V.Rep] at r ⊢
  obtain ⟨us, h1, h2, h3⟩ := r
  exact ⟨us, h1, hc.reps H s h2, h3⟩
theorem reps_d {E : Env} {M : Bars} {w : World} : ∀ {xs : List D} {us : List Value}, V.Reps E h M w (xs.map V.d) us → (∀ x ∈ us, x.oneCell' = true) → D.Reps M w xs us
  | [], _, r, _ => by simp only [List.map_nil, V.Reps] at r; simp only [D.Reps]; exact r
  | x :: xs, _, r, h1 => by
    simp only [List.map_cons, V.Reps] at r
    obtain ⟨u, y, rfl, h2, h3⟩ := r
    simp only [D.Reps]
    refine ⟨[u], y, rfl, ?_, reps_d h3 (fun z hz => h1 z (by simp [hz]))⟩
    simp only [V.Rep] at h2
    cases x with
    | agg fs => obtain ⟨us, rfl, _⟩ := h2; have := h1 (.agg us.toArray) (by simp); simp [Value.oneCell'] at this
    | raw v => exact h2
    | sl t sz es => exact h2
theorem Co.agg {cs : List V} {xs : List D} (hc : Cos h cs (xs.map V.d)) : Co h (.agg cs) (.d (.agg xs)) := fun E o w u H s r => by
  simp only [V.Rep] at r ⊢
  obtain ⟨us, h1, h2, h3⟩ := r
  exact ⟨us, h1, reps_d (hc.reps H s h2) h3⟩
theorem Co.nil (t : Bool) (sz : Nat) : Co h (.d (.raw (.slice none 0 0))) (.d (.sl t sz [])) := fun E o w u _ _ r => by
  simp only [V.Rep, D.RepV, D.Rep, List.cons.injEq, and_true] at r ⊢
  obtain ⟨rfl, _⟩ := r
  exact ⟨none, 0, [], by simp, by simp, by simp [maxLen], by simp, by simp [D.Reps], by simp⟩
theorem Co.froz {k n sz : Nat} {xs : List D} (hk : hget h k = some (.froz sz xs)) (hn : n = xs.length) : Co h (.own k n) (.d (.sl false sz xs)) := fun E o w u H _ r => by
  simp only [V.Rep] at r ⊢
  obtain ⟨m, h1, h2, _, h3⟩ := r
  have hm : m = n := verAny_one h1 (.inr (.inl ⟨sz, xs, hk, hn.symm⟩))
  rw [h3 hm.symm]
  exact H.obs k _ hk
theorem Co.full (t : Bool) (sz : Nat) (es : List D) : Co h (.full t sz es) (.d (.sl t sz es)) := fun _ _ _ _ _ _ r => by
  simp only [V.Rep] at r ⊢; exact r.1
theorem Co.view (x : D) : Co h (.d x) (.d x.view) := fun E o w u _ s r => by
  have hM : ∀ k, bars E h o true k → bars E h o false k := fun k hk => by
    rcases hk with hk | hk
    · exact .inl hk
    · exact .inr (s k hk)
  simp only [V.Rep] at r ⊢
  cases x with
  | raw v => exact r
  | sl t sz es => exact D.Rep.view (d := .sl t sz es) hM r
  | agg fs => obtain ⟨us, h1, h2⟩ := r; exact ⟨us, h1, h2.view hM⟩
end

/-! ### Contracts -/
/-- Called with args, the objects h being as they are: the call returns r, and the objects are h' then. Numbers of objects that are handed in: from 1000 on. -/
def FnOk (P : Program) (f : FuncId) : Prop := ∃ fn, P.funcs[f]? = some fn ∧ (fn.name == "runtime.NumGoroutine") = false ∧ fn.body.isNone = false
structure ACalls (P : Program) (f : FuncId) (args : List V) (h : Hp) (r : V) (h' : Hp) : Prop where
  ok : FnOk P f
  run : ∀ (E : Env) (w : World) (us : List Value) (o : Bars), HRep E h o w → V.Reps E h (bars E h o) w args us → (∀ k ∈ V.keyss args, (hget h k).isSome = true) →
    (∀ t b, o t b → b < w.heap.size ∧ ¬ Live E h b) → (∀ b, o true b → o false b) →
    Calls P f us.toArray w fun e w' => ∃ E' u, e = .returned u ∧ HRep E' h' o w' ∧ V.Rep E' h' (bars E' h' o) w' r u ∧ (∀ k ∈ r.keys, (hget h' k).isSome = true) ∧ Ext (Live E h) w w' ∧
      Hist E h E' h' ∧ (∀ k b, blkOf E' h' k = some b → Live E h b ∨ w.heap.size ≤ b)

inductive ResIs (P : Program) (fr : Fr) (h : Hp) : ResultVar → V → Prop
  | tmp (t : Tmp) : ResIs P fr h (.tmp t) (fget fr t)
  | agg (t : Tmp) (ty k bt : Nat) (cs : List V) (ds : TypeDesc) (hp : fget fr t = .ptr k 0) (hk : hget h k = some (.box bt cs)) (hu : P.underlying ty = some ds) (hd : ds.isRow = true) (hi : (P.info? ty).map (·.size) = some cs.length) : ResIs P fr h (.cell t ty) (.agg cs)
  | one (t : Tmp) (ty k bt : Nat) (c : V) (ds : TypeDesc) (hp : fget fr t = .ptr k 0) (hk : hget h k = some (.box bt [c])) (hu : P.underlying ty = some ds) (hd : ds.isRow = false) : ResIs P fr h (.cell t ty) c
def Results (P : Program) (fr : Fr) (h : Hp) : List ResultVar → List V → Prop
  | [], [] => True
  | r :: rs, v :: vs => ResIs P fr h r v ∧ Results P fr h rs vs
  | _, _ => False
def resV : List V → V
  | [v] => v
  | vs => .tup vs

theorem run_loadVar_one {P : Program} (w : World) (ty : TypeId) (a : Addr) (ds : TypeDesc) (u : Value) (hu : P.underlying ty = some ds) (hd : ds.isRow = false) (hc : w.cell? a = some u) : (loadVar ty a).run P w = .ok u w := by
  have hagg : (isAgg ty).run P w = .ok false w := by
    unfold isAgg
    rw [Sem.run_bind, run_underlying hu w]
    cases ds <;> simp_all [TypeDesc.isRow]
  simp [loadVar, Sem.run_bind, hagg, hc]

section
variable {P : Program} {G : Ctx} {E : Env} {fr : Fr} {h : Hp} {a : Act} {w : World}
def runRes (tmps : Array Value) : ResultVar → Sem Value := fun
    | .tmp t => pure (tmps.getD t undef)
    | .cell a t => do loadVar t (← asAddr (tmps.getD a undef))
theorem ResIs.run (C : Conc G E fr h a w) {rv : ResultVar} {v : V} (hr : ResIs P fr h rv v) : ∃ u, (runRes a.tmps rv).run P w = .ok u w ∧ V.Rep E h (bars E h G.o) w v u ∧ ∀ k ∈ v.keys, (hget h k).isSome = true := by
  cases hr with
  | tmp t => exact ⟨_, rfl, C.frame t, C.closed t⟩
  | agg t ty k bt cs ds hp hk hu hd hi =>
    have hf := C.frame t
    rw [hp] at hf
    simp only [V.Rep] at hf
    obtain ⟨us, g1, g2, g3⟩ := C.heap.obs k _ hk
    have hl := g2.length
    refine ⟨.agg us.toArray, ?_, ?_, ?_⟩
    · have := run_loadVar_row (P := P) w (E.blk k) bt ty us.toArray (0, 0) ds g1 hu (by cases ds <;> simp_all [TypeDesc.isRow]) (by simpa [hl] using hi)
      simp [runRes, hf, asAddr, this]
    · simp only [V.Rep]; exact ⟨us, rfl, g2, g3⟩
    · simpa [V.keys, Ob.keys] using C.heap.closed k _ hk
  | one t ty k bt c ds hp hk hu hd =>
    have hf := C.frame t
    rw [hp] at hf
    simp only [V.Rep] at hf
    obtain ⟨us, g1, g2, g3⟩ := C.heap.obs k _ hk
    simp only [V.Reps] at g2
    obtain ⟨u, y, rfl, g4, rfl⟩ := g2
    refine ⟨u, ?_, g4, ?_⟩
    · have := run_loadVar_one (P := P) w ty ⟨E.blk k, 0, none⟩ ds u hu hd (by rw [cell_of_row w _ 0 _ bt _ g1]; simp)
      simp [runRes, hf, asAddr, this]
    · simpa [V.keys, Ob.keys, V.keyss] using C.heap.closed k _ hk
theorem Results.run (C : Conc G E fr h a w) : ∀ {rs : List ResultVar} {vs : List V}, Results P fr h rs vs → ∃ us : List Value, (rs.mapM (runRes a.tmps)).run P w = .ok us w ∧ V.Reps E h (bars E h G.o) w vs us ∧ ∀ k ∈ V.keyss vs, (hget h k).isSome = true
  | [], [], _ => ⟨[], by simp, by simp [V.Reps], by simp [V.keyss]⟩
  | r :: rs, v :: vs, hr => by
    simp only [Results] at hr
    obtain ⟨u, h1, h2, h3⟩ := hr.1.run C
    obtain ⟨us, k1, k2, k3⟩ := Results.run C hr.2
    refine ⟨u :: us, ?_, ?_, ?_⟩
    · simp [List.mapM_cons, h1, k1]
    · simp only [V.Reps]; exact ⟨u, us, rfl, h2, k2⟩
    · simp only [V.keyss, List.mem_append]
      rintro k (hk | hk)
      · exact h3 k hk
      · exact k3 k hk
  | [], _ :: _, hr => by simp [Results] at hr
  | _ :: _, [], hr => by simp [Results] at hr
theorem results_run (C : Conc G E fr h a w) {fn : Func} {rs : List ResultVar} {vs : List V} (he : fn.results.toList = rs) (hr : Results P fr h rs vs) :
    ∃ u, (results fn a.tmps).run P w = .ok u w ∧ V.Rep E h (bars E h G.o) w (resV vs) u ∧ ∀ k ∈ (resV vs).keys, (hget h k).isSome = true := by
  obtain ⟨us, h1, h2, h3⟩ := hr.run C
  have e : fn.results = rs.toArray := by rw [← he]
  have hl := h2.length
  have hrun : (results fn a.tmps).run P w = .ok (if hh : us.toArray.size = 1 then us.toArray[0] else .tuple us.toArray) w := by
    have : (rs.toArray.mapM (runRes a.tmps)).run P w = .ok us.toArray w := by
      rw [List.mapM_toArray]; simp [h1]
    have e2 : results fn a.tmps = (rs.toArray.mapM (runRes a.tmps)) >>= fun vs => pure (if hh : vs.size = 1 then vs[0] else .tuple vs) := by
      unfold results
      rw [e]
      have : ∀ (f g : ResultVar → Sem Value), (∀ x, f x = g x) → Array.mapM f rs.toArray = Array.mapM g rs.toArray := fun f g hfg => by rw [funext hfg]
      rw [this _ (runRes a.tmps) (fun x => by cases x <;> rfl)]
    rw [e2, Sem.run_bind, this]
    simp
  refine ⟨_, hrun, ?_, ?_⟩
  · match vs, us, hl, h2 with
    | [v], [u], _, h2 =>
      simp only [V.Reps] at h2
      obtain ⟨x, y, hxy, h4, _⟩ := h2
      simp only [List.cons.injEq] at hxy
      simpa [resV, hxy.1] using h4
    | [], [], _, h2 => simp only [resV, V.Rep]; exact ⟨[], by simp, h2⟩
    | v :: v' :: vs, u :: u' :: us, _, h2 =>
      simp only [resV, V.Rep]
      exact ⟨_, by simp, h2⟩
  · match vs, h3 with
    | [v], h3 => simpa [resV, V.keyss] using h3
    | [], h3 => simpa [resV, V.keys] using h3
    | v :: v' :: vs, h3 => simpa [resV, V.keys] using h3
end

def Fin (P : Program) (fn : Func) (r : V) (h' : Hp) : Exit → Fr → Hp → Prop
  | .normal, fr, h | .ret, fr, h => ∃ vs, Results P fr h fn.results.toList vs ∧ Co h (resV vs) r ∧ HLe h h' ∧ (r.inside h' && hpIn h' h') = true
  | _, _, _ => False
def argFr : Nat → List V → Fr
  | _, [] => []
  | i, v :: vs => (i, v) :: argFr (i + 1) vs
def allHigh : Hp → Bool
  | [] => true
  | (k, _) :: r => Nat.ble 1000 k && allHigh r
theorem allHigh_spec : ∀ {h : Hp}, allHigh h = true → ∀ k, (hget h k).isSome = true → 1000 ≤ k
  | [], _, k, hk => by simp [hget] at hk
  | (j, o) :: r, ha, k, hk => by
    simp only [allHigh, Bool.and_eq_true] at ha
    simp only [hget] at hk
    cases hb : Nat.beq j k with
    | true => have := Nat.eq_of_beq_eq_true hb; subst this; exact Nat.le_of_ble_eq_true ha.1
    | false => rw [hb] at hk; exact allHigh_spec ha.2 k hk
theorem argFr_get {E : Env} {h : Hp} {M : Bars} {w : World} : ∀ {vs : List V} {us : List Value}, V.Reps E h M w vs us → ∀ (i j : Nat), V.Rep E h M w (fget (argFr i vs) j) (if i ≤ j then us.getD (j - i) undef else undef)
  | [], us, _, i, j => by simp [argFr, fget, V.Rep]
  | v :: vs, us, r, i, j => by
    simp only [V.Reps] at r
    obtain ⟨u, y, rfl, h2, h3⟩ := r
    simp only [argFr]
    by_cases e : i = j
    · subst e; rw [fget_same]; simpa using h2
    · rw [fget_other _ _ e]
      have := argFr_get h3 (i + 1) j
      by_cases hle : i + 1 ≤ j
      · rw [if_pos hle] at this
        rw [if_pos (by omega)]
        have e2 : j - i = (j - (i + 1)) + 1 := by omega
        rw [e2]; simpa using this
      · have hfg : ∀ (vs : List V) (i : Nat), j < i → fget (argFr i vs) j = .junk := by
          intro vs
          induction vs with
          | nil => intro i _; rfl
          | cons v vs ih => intro i hi; simp only [argFr]; rw [fget_other _ _ (by omega)]; exact ih (i + 1) (by omega)
        rw [hfg vs (i + 1) (by omega)]
        simp [V.Rep]
theorem argFr_keys : ∀ (vs : List V) (i j : Nat), ∀ k ∈ (fget (argFr i vs) j).keys, k ∈ V.keyss vs
  | [], i, j => by simp [argFr, fget, V.keys]
  | v :: vs, i, j => by
    simp only [argFr]
    intro k hk
    by_cases e : i = j
    · subst e; rw [fget_same] at hk; simp [V.keyss, hk]
    · rw [fget_other _ _ e] at hk
      simp [V.keyss, argFr_keys vs (i + 1) j k hk]

/-- A function's contract, from the walk through its body. -/
theorem ACalls.intro {P : Program} {f : FuncId} {fn : Func} {c : Code} {n : Nat} {args : List V} {h : Hp} {r : V} {h' : Hp} (hf : P.funcs[f]? = some fn) (hb : fn.body = some c) (hn : fn.ntmps = n) (ha : args.length ≤ n) (hnm : (fn.name == "runtime.NumGoroutine") = false)
    (hw : aw P n c (Fin P fn r h') (argFr 0 args) h) : ACalls P f args h r h' := by
  refine ⟨⟨fn, hf, hnm, by rw [hb]; rfl⟩, ?_⟩
  intro E w us o H hr hk ho hs
  refine calls_of_wp hf hb ?_
  have hl := hr.length
  let G : Ctx := ⟨n, w, Live E h, E, h, o⟩
  have C : Conc G E (argFr 0 args) h { tmps := us.toArray ++ Array.replicate (fn.ntmps - us.toArray.size) undef, defers := [] } w := by
    refine ⟨by simp [G, hn]; omega, rfl, fun i => ?_, H, fun i k hi => hk k (argFr_keys args 0 i k hi), Ext.refl _ _, fun k b hb => .inl ⟨k, hb⟩, fun k hk hsm => ⟨hsm, rfl, fun m hm => ⟨m, hm, Nat.le_refl _, fun _ => rfl⟩, fun sz n hv => ⟨n, hv⟩⟩, ho, hs⟩
    have := argFr_get hr 0 i
    rw [if_pos (Nat.zero_le _), Nat.sub_zero] at this
    have e : (us.toArray ++ Array.replicate (fn.ntmps - us.toArray.size) undef).getD i undef = us.getD i undef := by
      simp only [Array.getD_eq_getD_getElem?, List.getD_eq_getElem?_getD]
      rw [Array.getElem?_append]
      simp only [List.size_toArray, List.getElem?_toArray, Array.getElem?_replicate]
      by_cases h1 : i < us.length
      · rw [if_pos h1]
      · rw [if_neg h1, List.getElem?_eq_none (by omega)]
        split <;> rfl
    show V.Rep E h (bars E h o) w _ ((us.toArray ++ Array.replicate (fn.ntmps - us.toArray.size) undef).getD i undef)
    rw [e]; exact this
  refine wp_mono (hw G E _ w rfl C) fun e a w' ⟨E', fr', g, hq, C'⟩ => ?_
  have fin : (∃ vs, Results P fr' g fn.results.toList vs ∧ Co g (resV vs) r ∧ HLe g h' ∧ (r.inside h' && hpIn h' h') = true) → a.defers = [] ∧ ∃ v, (results fn a.tmps).run P w' = .ok v w' ∧
      ∃ E' u, Ending.returned v = .returned u ∧ HRep E' h' o w' ∧ V.Rep E' h' (bars E' h' o) w' r u ∧ (∀ k ∈ r.keys, (hget h' k).isSome = true) ∧ Ext (Live E h) w w' ∧ Hist E h E' h' ∧ (∀ k b, blkOf E' h' k = some b → Live E h b ∨ w.heap.size ≤ b) := by
    rintro ⟨vs, k1, k2, k3, k4⟩
    simp only [Bool.and_eq_true] at k4
    obtain ⟨u, q1, q2, q3⟩ := results_run C' rfl k1
    refine ⟨C'.defers, u, q1, E', u, rfl, C'.heap.sub k3 k4.2, ?_, V.inside_spec k4.1, C'.ext, fun k hk hsm => ?_, fun k b hb => C'.fresh k b (k3.blkOf hb)⟩
    · have hkr : ∀ k ∈ r.keys, (hget h' k).isSome = true := V.inside_spec k4.1
      exact V.Rep.move (HLe.trans k3) (fun k hk => k3.isSome (hkr k hk)) hkr (k2 E' o w' u C'.heap hs q2)
    · obtain ⟨g0, g1, g2, g3⟩ := C'.keep k hk (k3.isSome hsm)
      refine ⟨g0, g1, fun m hm => ?_, fun sz n hv => g3 sz n (k3.verRow hv)⟩
      obtain ⟨m', l1, l2, l3⟩ := g2 m hm
      exact ⟨m', k3.verAny hsm l1, l2, l3⟩
  cases e with
  | normal => exact fin hq
  | ret => exact fin hq
  | exit id => exact hq
  | goto l => exact hq
  | panic ch => exact hq.elim
  | outgrown => exact hq.elim
/-- The result, read as something else. -/
theorem ACalls.co {P : Program} {f : FuncId} {args : List V} {h : Hp} {r r' : V} {h' : Hp} (hc : ACalls P f args h r h') (hco : Co h' r r') (hi : r'.inside h' = true) : ACalls P f args h r' h' := by
  refine ⟨hc.1, ?_⟩
  intro E w us o H hr hk ho hs
  refine (hc.2 E w us o H hr hk ho hs).mono fun e w' ⟨E', u, h1, h2, h3, h4, h5, h6, h7⟩ => ?_
  exact ⟨E', u, h1, h2, hco E' o w' u h2 hs h3, V.inside_spec hi, h5, h6, h7⟩

/-! ### Ghost steps -/
section
variable {P : Program} {n : Nat} {G : Ctx} {E : Env} {fr : Fr} {h : Hp} {a : Act} {w : World} {Q : Exit → Fr → Hp → Prop}
/-- A slot is read as something else. -/
theorem Conc.re (C : Conc G E fr h a w) (i : Nat) {v : V} (hv : Co h (fget fr i) v) (hk : v.inside h = true) : Conc G E ((i, v) :: fr) h a w := by
  refine ⟨C.size, C.defers, fun j => ?_, C.heap, fun j => ?_, C.ext, C.fresh, C.keep, C.outer, C.sub⟩
  · by_cases e : i = j
    · subst e; rw [fget_same]; exact hv E G.o w _ C.heap C.sub (C.frame i)
    · rw [fget_other _ _ e]; exact C.frame j
  · by_cases e : i = j
    · subst e; rw [fget_same]; exact V.inside_spec hk
    · rw [fget_other _ _ e]; exact C.closed j
theorem aw_re {c : Code} (i : Nat) {v : V} (hv : Co h (fget fr i) v) (hk : v.inside h = true) (hc : aw P n c Q ((i, v) :: fr) h) : aw P n c Q fr h :=
  fun G E a w hn C => hc G E a w hn (C.re i hv hk)
/-- From now on only read: a row of the call's own becomes data. -/
theorem Upd.froz {k e sz : Nat} {xs : List D} (hk : hget h k = some (.row e sz xs)) : Upd E h w k (.froz sz xs) E w :=
  ⟨fun _ _ => rfl, fun _ _ => rfl, fun _ => rfl, (fun hn => by rw [hk] at hn; cases hn),
    fun m hm => ⟨m, .inr (.inl ⟨sz, xs, hget_same _ _ _, (by
      rcases hm with ⟨e', sz', xs', h1, h2⟩ | ⟨sz', xs', h1, h2⟩ | h1
      · rw [hk] at h1; cases h1; exact h2
      · rw [hk] at h1; cases h1
      · rw [hk] at h1; cases h1)⟩), Nat.le_refl _, fun _ => rfl⟩,
    (fun _ sz' n' hv => by obtain ⟨e', xs', h1, _⟩ := hv; rw [hget_same] at h1; cases h1),
    Ext.refl _ _, (fun b hb => by unfold blkOf at hb; rw [hget_same] at hb; cases hb)⟩
theorem Conc.froz (C : Conc G E fr h a w) {k e sz : Nat} {xs : List D} (hk : hget h k = some (.row e sz xs)) : Conc G E fr ((k, .froz sz xs) :: h) a w := by
  have U := Upd.froz (E := E) (w := w) hk
  refine C.upd U ?_ (by simp [Ob.keys])
  have hr := C.heap.obs k _ hk
  simp only [ObRep] at hr ⊢
  have hr' := hr
  simp only [D.Rep]
  obtain ⟨ad, cap, h1, h2, h3⟩ := hr.shape
  by_cases hne : xs = []
  · subst hne
    exact ⟨ad, cap, [], by simp [h1], h2, h3, by simp, by simp [D.Reps], by simp⟩
  · obtain ⟨g, off, cap', us, k1, k2, k3, k4, k5, k6⟩ := hr'.cells hne
    rw [h1] at k1
    simp only [Value.slice.injEq] at k1
    obtain ⟨rfl, _, rfl⟩ := k1
    have hgl : blkOf E h k = some g := by simp [blkOf, hk, k2]
    refine ⟨_, cap, us, by rw [h1], h2, h3, hr'.1, k3.carry (U.carry G.o), fun _ => ⟨g, off, rfl, ?_, k5, k6⟩⟩
    rintro (⟨j, hj⟩ | ho)
    · by_cases e : j = k
      · subst e; unfold blkOf at hj; rw [hget_same] at hj; cases hj
      · rw [U.blkOf_other e] at hj
        exact e (C.heap.apart j k g hj hgl)
    · obtain ⟨o1, o2⟩ := C.outer _ _ ho
      rcases C.fresh k g hgl with f1 | f1
      · exact o2 f1
      · omega
theorem aw_froz {c : Code} (k : Nat) {e sz : Nat} {xs : List D} (hk : hget h k = some (.row e sz xs)) (hc : aw P n c Q fr ((k, .froz sz xs) :: h)) : aw P n c Q fr h :=
  fun G E a w hn C => hc G E a w hn (C.froz hk)
/-- A new row of the call's own, that has no room yet. -/
theorem Conc.nilRow (C : Conc G E fr h a w) {k : Nat} (e sz : Nat) (hk : hget h k = none) (hlow : k < 1000) :
    ∃ E', Conc G E' fr ((k, .row e sz []) :: h) a w ∧ E'.row k = .slice none 0 0 := by
  refine ⟨⟨E.blk, fun j => if j = k then .slice none 0 0 else E.row j⟩, ?_, by simp⟩
  refine C.upd ⟨fun _ _ => rfl, fun j hj => by simp [hj], fun _ => rfl, fun _ => hlow, fun m hm => ?_, (fun hs => by rw [hk] at hs; cases hs), Ext.refl _ _, fun b hb => ?_⟩ ?_ (by simp [Ob.keys])
  · exfalso
    rcases hm with ⟨_, _, _, h1, _⟩ | ⟨_, _, h1, _⟩ | h1 <;> rw [hk] at h1 <;> cases h1
  · unfold blkOf at hb; rw [hget_same] at hb; simp [obOf] at hb
  · simp only [ObRep, RowAt]
    exact ⟨by simp, .inl ⟨none, by simp⟩⟩
/-- nil in a slot: a row of the call's own. -/
theorem aw_nil {c : Code} (i k e sz : Nat) (hi : fget fr i = .d (.raw (.slice none 0 0))) (hk : hget h k = none) (hlow : Nat.blt k 1000 = true) (hc : aw P n c Q ((i, .own k 0) :: fr) ((k, .row e sz []) :: h)) : aw P n c Q fr h := by
  intro G E a w hn C
  obtain ⟨E', C', hE⟩ := C.nilRow (k := k) e sz hk (by simpa [Nat.blt_eq] using hlow)
  refine hc G E' a w hn ⟨C'.size, C'.defers, fun j => ?_, C'.heap, fun j => ?_, C'.ext, C'.fresh, C'.keep, C'.outer, C'.sub⟩
  · by_cases e : i = j
    · subst e
      rw [fget_same]
      have hf := C'.frame i
      rw [hi] at hf
      simp only [V.Rep, D.RepV, D.Rep, List.cons.injEq, and_true] at hf
      simp only [V.Rep]
      exact ⟨0, .inl ⟨_, _, [], hget_same _ _ _, rfl⟩, Nat.le_refl _, by rw [hf.1]; exact hf.2, fun _ => by rw [hE]; exact hf.1⟩
    · rw [fget_other _ _ e]; exact C'.frame j
  · by_cases e : i = j
    · subst e; rw [fget_same]; intro q hq; simp [V.keys] at hq; subst hq; rw [hget_same]; rfl
    · rw [fget_other _ _ e]; exact C'.closed j
/-- nil in a cell of an object: a row of the call's own. -/
theorem aw_nilCell {c : Code} (b j k e sz : Nat) {ty : TypeId} {cs : List V} (hb : hget h b = some (.box ty cs)) (hj : cs[j]? = some (.d (.raw (.slice none 0 0)))) (hk : hget h k = none) (hlow : Nat.blt k 1000 = true)
    (hc : aw P n c Q fr ((b, .box ty (cs.set j (.own k 0))) :: (k, .row e sz []) :: h)) : aw P n c Q fr h := by
  intro G E a w hn C
  obtain ⟨E', C', hE⟩ := C.nilRow (k := k) e sz hk (by simpa [Nat.blt_eq] using hlow)
  have hbk : b ≠ k := by rintro rfl; rw [hk] at hb; cases hb
  have hb' : hget ((k, Ob.row e sz []) :: h) b = some (.box ty cs) := by rw [hget_other _ _ (Ne.symm hbk)]; exact hb
  obtain ⟨us, g1, g2, g3⟩ := C'.heap.obs b _ hb'
  have U : Upd E' ((k, .row e sz []) :: h) w b (.box ty (cs.set j (.own k 0))) E' w :=
    ⟨fun _ _ => rfl, fun _ _ => rfl, fun _ => rfl, (fun hn => by rw [hb'] at hn; cases hn),
      (fun m hm => by exfalso; rcases hm with ⟨_, _, _, h1, _⟩ | ⟨_, _, h1, _⟩ | h1 <;> rw [hb'] at h1 <;> cases h1),
      (fun _ sz n hv => by exfalso; obtain ⟨_, _, h1, _⟩ := hv; rw [hget_same] at h1; cases h1),
      Ext.refl _ _, (fun x hx => .inl (by unfold blkOf at hx ⊢; rw [hget_same] at hx; rw [hb']; exact hx))⟩
  refine hc G E' a w hn (C'.upd U ?_ ?_)
  · refine ⟨us, g1, ?_, g3⟩
    obtain ⟨u, hu, hur⟩ := g2.get hj
    simp only [V.Rep, D.RepV, D.Rep, List.cons.injEq, and_true] at hur
    have hcl := C'.heap.closed b _ hb'
    have g2' := g2.move (U.trans G.o) (by simpa [Ob.keys] using hcl) (fun i hi => U.mono i (hcl i (by simpa [Ob.keys] using hi)))
    have := g2'.set (i := j) (v := .own k 0) (u := u) (by
      simp only [V.Rep]
      exact ⟨0, .inl ⟨e, sz, [], by rw [hget_other _ _ hbk, hget_same], rfl⟩, Nat.le_refl _, by rw [hur.1]; exact hur.2, fun _ => by rw [hE]; exact hur.1⟩)
    have e : us.set j u = us := by
      apply List.ext_getElem?
      intro i
      rw [List.getElem?_set]
      split
      · rename_i e; subst e; rw [hu]; split <;> simp_all
      · rfl
    rwa [e] at this
  · intro i hi
    simp only [Ob.keys] at hi
    obtain ⟨v, hv, hi⟩ := V.keyss_mem.1 hi
    rcases List.mem_or_eq_of_mem_set hv with hv | rfl
    · exact U.mono i (C'.heap.closed b _ hb' i (by simp only [Ob.keys]; exact V.keyss_mem.2 ⟨v, hv, hi⟩))
    · simp [V.keys] at hi; subst hi; rw [hget_other _ _ hbk, hget_same]; rfl
end
end Go.Proofs.Ytpaeihifcmohkaa
