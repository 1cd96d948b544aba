/-
  Sim: what the walk uses beside the rules: how a way goes on, elements of mapped lists, tests that are decided.
-/
import Derived.Test.YtpaeihifcmohkaaSimN
set_option linter.unusedVariables false
set_option linter.unusedSimpArgs false
namespace Go.Proofs.Ytpaeihifcmohkaa
open Go.RowKit

section
variable {P : Program} {n : Nat} {Q : Exit → Fr → Hp → Prop} {K : Fr → Hp → Prop} {fr : Fr} {h : Hp}
theorem andThen_n (hk : K fr h) : andThen K Q .normal fr h := hk
theorem andThen_e {id : Nat} (hq : Q (.exit id) fr h) : andThen K Q (.exit id) fr h := hq
theorem andThen_r (hq : Q .ret fr h) : andThen K Q .ret fr h := hq
theorem inBlock_n {id : Nat} (hq : Q .normal fr h) : inBlock id Q .normal fr h := hq
theorem inBlock_r {id : Nat} (hq : Q .ret fr h) : inBlock id Q .ret fr h := hq
theorem inBlock_e {id : Nat} (hq : Q .normal fr h) : inBlock id Q (.exit id) fr h := by
  simp only [inBlock, Nat.beq_refl]; exact hq
theorem inBlock_o {id id' : Nat} (hne : Nat.beq id' id = false) (hq : Q (.exit id') fr h) : inBlock id Q (.exit id') fr h := by
  simp only [inBlock, hne]; exact hq
theorem aw_reg {id : Nat} {l : List Oper} {dr : Bool} (hm : P.follows .mixedOrders = true) (hd : dops P n dr l.toArray l [] (Q .normal) fr h) : aw P n (.region id l.toArray dr) Q fr h :=
  aw_region hm hd
theorem aw_condT {c : Operand} {x y : Code} {t : Bool} (hc : oev fr c = B t) (ht : t = true) (hx : aw P n x Q fr h) : aw P n (.cond c x y) Q fr h :=
  aw_cond hc (fun _ => hx) (fun e => by rw [ht] at e; cases e)
theorem aw_condF {c : Operand} {x y : Code} {t : Bool} (hc : oev fr c = B t) (ht : t = false) (hx : aw P n y Q fr h) : aw P n (.cond c x y) Q fr h :=
  aw_cond hc (fun e => by rw [ht] at e; cases e) (fun _ => hx)
theorem oevs_nil : oevs fr [] [] := trivial
theorem oevs_cons {x : Operand} {v : V} {xs : List Operand} {vs : List V} (h1 : oev fr x = v) (h2 : oevs fr xs vs) : oevs fr (x :: xs) (v :: vs) := ⟨h1, h2⟩
theorem gOk_none {ops : Array Oper} : gOk ops fr none := trivial
theorem gOk_some {ops : Array Oper} {j s : Nat} {want b : Bool} (hs : (ops[j]?).bind (·.dst) = some s) (hf : fget fr s = B b) (hb : b = want) : gOk ops fr (some (j, want)) := by
  unfold gOk
  simp only [hs]
  rw [hf, hb]
theorem IsElt.mapE {α : Type} {t : Bool} {sz i off : Nat} {xs : List α} {f : α → D} (hi : i < xs.length) : IsElt h (.eptr t sz (xs.map f) i off) (f xs[i]) off [] := .e (by simp [hi])
theorem IsElt.mapO {α : Type} {k m sz i off : Nat} {e : TypeId} {xs : List α} {f : α → D} (hk : hget h k = some (.row e sz (xs.map f))) (hm : (xs.map f).length = m) (hi : i < xs.length) : IsElt h (.optr k m i off) (f xs[i]) off [(k, some (.row e sz (xs.map f)))] := .o hk hm (by simp [hi])
theorem LinkH.nil {φ : List (Nat × Nat)} : LinkH h φ [] := trivial
theorem LinkH.cons {φ : List (Nat × Nat)} {k : Nat} {o : Ob} {r : Hp} (h1 : hget h (renK φ k) = some (o.ren φ)) (h2 : LinkH h φ r) : LinkH h φ ((k, o) :: r) := ⟨h1, h2⟩
theorem d_split {dr : Bool} {ops : Array Oper} {rest : List Oper} {log : List Rec} {dst : Option Tmp} {op : Op} {ty : TypeId} {pos : String} {after : Array Edge} {j s : Nat} {want b : Bool} (_ : (ops[j]?).bind (·.dst) = some s) (_ : fget fr s = B b)
    (h1 : b = want → dops P n dr ops (⟨dst, op, ty, pos, after, some (j, want)⟩ :: rest) log K fr h) (h2 : b = !want → dops P n dr ops (⟨dst, op, ty, pos, after, some (j, want)⟩ :: rest) log K fr h) : dops P n dr ops (⟨dst, op, ty, pos, after, some (j, want)⟩ :: rest) log K fr h := by
  cases b <;> cases want <;> first | exact h1 rfl | exact h2 rfl
/-- A loop: what holds of slots and objects at each round's head, by a variable x. -/
theorem aw_loopL {X : Type} {c : Code} (Inv : X → Prop) (F : X → Fr) (H : X → Hp) (μ : X → Nat) (x0 : X) (hi : Inv x0) (hf : FLe fr (F x0)) (hh : HLe h (H x0)) (hin : (frIn (H x0) (F x0) && hpIn (H x0) (H x0)) = true)
    (round : ∀ x, Inv x → aw P n c (andThen (fun fr h => ∃ x', Inv x' ∧ μ x' < μ x ∧ FLe fr (F x') ∧ HLe h (H x') ∧ (frIn (H x') (F x') && hpIn (H x') (H x')) = true) Q) (F x) (H x)) : aw P n (.loop c) Q fr h := by
  refine aw_weak (F x0) (H x0) hf hh hin (aw_loop (fun x fr h => Inv x ∧ fr = F x ∧ h = H x) μ x0 ⟨hi, rfl, rfl⟩ ?_)
  rintro x fr' h' ⟨hx, rfl, rfl⟩
  intro G E a w hn C
  refine wp_mono (round x hx G E a w hn C) fun e a' w' ⟨E', fr', h', hq, C'⟩ => ?_
  cases e with
  | normal =>
    obtain ⟨x', h1, h2, h3, h4, h5⟩ := hq
    exact ⟨E', F x', H x', ⟨x', ⟨h1, rfl, rfl⟩, h2⟩, C'.weak h3 h4 h5⟩
  | _ => exact ⟨E', fr', h', hq, C'⟩
theorem Fin.mk {fn : Func} {r : V} {h' : Hp} (vs : List V) (h1 : Results P fr h fn.results.toList vs) (h2 : Co h (resV vs) r) (h3 : HLe h h') (h4 : (r.inside h' && hpIn h' h') = true) : Fin P fn r h' .ret fr h := ⟨vs, h1, h2, h3, h4⟩
theorem Fin.mkn {fn : Func} {r : V} {h' : Hp} (vs : List V) (h1 : Results P fr h fn.results.toList vs) (h2 : Co h (resV vs) r) (h3 : HLe h h') (h4 : (r.inside h' && hpIn h' h') = true) : Fin P fn r h' .normal fr h := ⟨vs, h1, h2, h3, h4⟩
theorem Fin.r0 {fn : Func} {h' : Hp} (e : fn.results.toList = []) (h3 : HLe h h') (h4 : hpIn h' h' = true) : Fin P fn (.tup []) h' .ret fr h := ⟨[], by rw [e]; trivial, Co.refl _, h3, by simp [V.inside, V.insides, h4]⟩
theorem Fin.n0 {fn : Func} {h' : Hp} (e : fn.results.toList = []) (h3 : HLe h h') (h4 : hpIn h' h' = true) : Fin P fn (.tup []) h' .normal fr h := ⟨[], by rw [e]; trivial, Co.refl _, h3, by simp [V.inside, V.insides, h4]⟩
theorem Fin.r1 {fn : Func} {r v : V} {h' : Hp} {rv : ResultVar} (e : fn.results.toList = [rv]) (h1 : ResIs P fr h rv v) (h2 : Co h v r) (h3 : HLe h h') (h4 : (r.inside h' && hpIn h' h') = true) : Fin P fn r h' .ret fr h := ⟨[v], by rw [e]; exact ⟨h1, trivial⟩, h2, h3, h4⟩
theorem Fin.r2 {fn : Func} {r v1 v2 : V} {h' : Hp} {rv1 rv2 : ResultVar} (e : fn.results.toList = [rv1, rv2]) (h1 : ResIs P fr h rv1 v1) (h1' : ResIs P fr h rv2 v2) (h2 : Co h (.tup [v1, v2]) r) (h3 : HLe h h') (h4 : (r.inside h' && hpIn h' h') = true) : Fin P fn r h' .ret fr h := ⟨[v1, v2], by rw [e]; exact ⟨h1, h1', trivial⟩, h2, h3, h4⟩
theorem ResIs.of_tmp {t : Tmp} {v : V} (e : fget fr t = v) : ResIs P fr h (.tmp t) v := e ▸ ResIs.tmp t
theorem ResIs.aggT (T : TT P) {t ty k bt : Nat} {cs : List V} {y : Ty} (hp : fget fr t = .ptr k 0) (hk : hget h k = some (.box bt cs)) (ht : T.rows[ty]? = some y) (hrow : y.row = true) (hm : y.size = cs.length) : ResIs P fr h (.cell t ty) (.agg cs) := by
  obtain ⟨i, ds, h1, h2, h3, _, h5, _⟩ := tyOf_spec (T.at ht)
  exact .agg t ty k bt cs ds hp hk h2 (by rw [h5]; exact hrow) (by rw [h1]; simp [h3, hm])
theorem ResIs.oneT (T : TT P) {t ty k bt : Nat} {c : V} {y : Ty} (hp : fget fr t = .ptr k 0) (hk : hget h k = some (.box bt [c])) (ht : T.rows[ty]? = some y) (hrow : y.row = false) : ResIs P fr h (.cell t ty) c := by
  obtain ⟨i, ds, h1, h2, _, _, h5, _⟩ := tyOf_spec (T.at ht)
  exact .one t ty k bt c ds hp hk h2 (by rw [h5]; exact hrow)
theorem cos_d : ∀ (xs : List D), Cos h (xs.map V.d) (xs.map V.d) := fun xs => Cos.refl _
/-- One result, a struct of a variable: as a datum. -/
theorem Fin.rA (T : TT P) {fn : Func} {x : D} {h' : Hp} {t ty k bt : Nat} {cs : List V} {xs : List D} {y : Ty} (e : fn.results.toList = [.cell t ty]) (hp : fget fr t = .ptr k 0) (hk : hget h k = some (.box bt cs)) (hcs : cs = xs.map V.d) (ht : T.rows[ty]? = some y) (hrow : y.row = true) (hm : y.size = cs.length) (hD : x = .agg xs)
    (h3 : HLe h h') (h4 : hpIn h' h' = true) : Fin P fn (.d x) h' .ret fr h := by
  subst hD
  exact Fin.r1 e (.aggT T hp hk ht hrow hm) (Co.agg (by rw [hcs]; exact cos_d xs)) h3 (by simp [V.inside, h4])
theorem Fin.rC (T : TT P) {fn : Func} {x : D} {h' : Hp} {t ty k bt : Nat} {cs : List V} {xs : List D} {y : Ty} (e : fn.results.toList = [.cell t ty]) (hp : fget fr t = .ptr k 0) (hk : hget h k = some (.box bt cs)) (hcs : Cos h cs (xs.map V.d)) (ht : T.rows[ty]? = some y) (hrow : y.row = true) (hm : y.size = cs.length) (hD : x = .agg xs)
    (h3 : HLe h h') (h4 : hpIn h' h' = true) : Fin P fn (.d x) h' .ret fr h := by
  subst hD
  exact Fin.r1 e (.aggT T hp hk ht hrow hm) (Co.agg hcs) h3 (by simp [V.inside, h4])
theorem Fin.norm {fn : Func} {r : V} {h' : Hp} (hf : Fin P fn r h' .ret fr h) : Fin P fn r h' .normal fr h := hf
theorem own_eq {i k m m' : Nat} (hf : fget fr i = .own k m) (e : m = m') : VLe (fget fr i) (.own k m') := VLe.of (e ▸ hf)
theorem row_eq {k e sz : Nat} {xs ys : List D} (hk : hget h k = some (.row e sz xs)) (hx : xs = ys) : HElt h k (.row e sz ys) := HElt.of (hx ▸ hk)
theorem row_le {k e sz : Nat} {xs ys : List D} (hk : hget h k = some (.row e sz xs)) (hx : DLes xs ys) : HElt h k (.row e sz ys) := ⟨_, hk, .row hx⟩
theorem co_own {k m m' : Nat} (e : m = m') : Co h (.own k m) (.own k m') := e ▸ Co.refl _
end
theorem views_map {α : Type} {f g : α → D} (hf : ∀ x, (f x).view = g x) (xs : List α) : D.views (xs.map f) = xs.map g := by
  rw [D.views_map, List.map_map]; exact List.map_congr_left (fun x _ => hf x)
def iD (x : Int) : D := .raw (.int .i64 x)
def bD (b : Bool) : D := .raw (.bool b)
def sD (s : ByteArray) : D := .raw (.string s)
theorem views_ints (xs : List Int) : D.views (xs.map iD) = xs.map iD := views_map (fun _ => rfl) xs
theorem views_bools (xs : List Bool) : D.views (xs.map bD) = xs.map bD := views_map (fun _ => rfl) xs
theorem views_strs (xs : List ByteArray) : D.views (xs.map sD) = xs.map sD := views_map (fun _ => rfl) xs
theorem cleans_map {α : Type} {f : α → D} (hf : ∀ x, (f x).clean) : ∀ (xs : List α), D.cleans (xs.map f)
  | [] => trivial
  | x :: xs => ⟨hf x, cleans_map hf xs⟩
theorem iD_clean (x : Int) : (iD x).clean := trivial
abbrev ints (t : Bool) (xs : List Int) : D := .sl t 1 (xs.map iD)
end Go.Proofs.Ytpaeihifcmohkaa
