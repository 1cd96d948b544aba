/-
  Render, plain: there and back. Sim: RenderBack, RenderApart return true.
-/
import Derived.Test.YtkfeccbahpmadaaRnI
import Derived.Test.YtkfeccbahpmadaaDefsF
import Derived.Test.YtkfeccbahpmadaaSynS
import Derived.Test.YtkfeccbahpmadaaRnG
set_option linter.unusedVariables false
set_option linter.unusedSimpArgs false
set_option linter.unusedSectionVars false
namespace Go.Proofs.Ytkfeccbahpmadaa
open Go.RowKit
open Old (kt)

def nE (d : Dfn) : ByteArray × Expr := (d.name, d.e)
def pcD (d : Dfn) : List Pce := .t 1 d.name :: .b 32 :: sg 61 :: .b 32 :: (pcE d.e ++ [sg 59, .b 10])
def pcAll (l : List Dfn) : List Pce := l.flatMap pcD
def tkD' (d : Dfn) : List (Int × ByteArray) := (1, d.name) :: sT 61 :: (tkE d.e ++ [sT 59])
theorem pcD_B (d : Dfn) : pcsB (pcD d) = dfnT d := by
  unfold pcD dfnT
  rw [cons_B, cons_B, cons_B, cons_B, pcsB_append, cons_B, one_B, pc_1, sg_B, sg_B, pcE_B]
  show d.name ++ (bs [32] ++ (bs [61] ++ (bs [32] ++ (txE d.e ++ (bs [59] ++ bs [10]))))) = _
  have e1 : bs [32, 61, 32] = bs [32] ++ (bs [61] ++ bs [32]) := by decide
  have e2 : bs [59, 10] = bs [59] ++ bs [10] := by decide
  rw [e1, e2]
  simp only [ByteArray.append_assoc]
theorem pcAll_B : ∀ (l : List Dfn), pcsB (pcAll l) = txT l
  | [] => rfl
  | d :: l => by
    show pcsB (pcD d ++ pcAll l) = _
    rw [pcsB_append, pcD_B, pcAll_B l]; rfl
theorem tk_D (d : Dfn) : toksOf (pcD d) = tkD' d := by
  unfold pcD tkD'
  simp only [toksOf, sg, toksOf_append, tk_E]
  rfl
theorem tk_All : ∀ (l : List Dfn), toksOf (pcAll l) = l.flatMap tkD'
  | [] => rfl
  | d :: l => by
    show toksOf (pcD d ++ pcAll l) = _
    rw [toksOf_append, tk_D, tk_All l]; rfl
theorem sep_All : ∀ (l : List Dfn), sepOk (pcAll l)
  | [] => trivial
  | d :: l => by
    have ih := sep_All l
    have h := sep_E d.e (sg 59 :: .b 10 :: pcAll l) ⟨fun h => absurd h (by decide), ih⟩ (show (3 : Int) ≠ 1 by decide)
    have e : pcAll (d :: l) = .t 1 d.name :: .b 32 :: sg 61 :: .b 32 :: (pcE d.e ++ (sg 59 :: .b 10 :: pcAll l)) := by
      show pcD d ++ pcAll l = _
      unfold pcD; simp
    rw [e]
    exact ⟨fun _ => trivial, fun h => absurd h (by decide), h⟩
theorem good_All {l : List Dfn} (h : ∀ d ∈ l, defF d = 0) : ∀ p ∈ pcAll l, PGood p := by
  intro p hp
  obtain ⟨d, hd, hp⟩ := List.mem_flatMap.1 hp
  obtain ⟨h1, _, _, h4⟩ := defF_zero (h d hd)
  unfold pcD at hp
  simp only [List.mem_cons, List.mem_append, List.not_mem_nil, or_false] at hp
  rcases hp with rfl | rfl | rfl | rfl | hp | rfl | rfl
  · exact good_name h1
  · exact .inl rfl
  · exact good_sg (by decide)
  · exact .inl rfl
  · exact pcE_good _ h4 p hp
  · exact good_sg (by decide)
  · exact .inr rfl
theorem want_at {fin : Int} {t : Tk} {r : List Tk} {o p : Int} {c : UInt8} (h1 : t.kind = 3) (h2 : t.text = sgn c) : PS.want fin ⟨t :: r, o, p⟩ (sgn c) = .ok ⟨r, o, p⟩ := by
  unfold PS.want
  rw [sign_cons', decide_eq_true h1, decide_eq_true h2]
  rfl
theorem defR_ok {d : Dfn} (hd : defF d = 0) {fin : Int} {n : Nat} {T1 T2 : List Tk} {p : Int} (h1 : T1.map kt = tkD' d) (h2 : 5 * T1.length ≤ n) :
    ∃ a, pDef fin n ⟨T1 ++ T2, 0, p⟩ = .ok (⟨d.name, a, d.e⟩, ⟨T2, 0, (prt d.e : Int)⟩) := by
  obtain ⟨q1, q2, q3, q4⟩ := defF_zero hd
  obtain ⟨t, R, rfl, k1, k2, k3⟩ := map_cons' h1
  obtain ⟨te, R, rfl, k4, k5, k6⟩ := map_cons' k3
  obtain ⟨A, B, rfl, k7, k8⟩ := map_split k6
  obtain ⟨ts, rfl, k9, k10⟩ := map_one k8
  simp only [List.length_cons, List.length_append, List.length_nil] at h2
  have hA := RA_all _ d.e (Nat.lt_succ_self _) q4 fin n A (ts :: T2) 0 0 k7 ⟨ts, T2, rfl, k9, by simp [k10]⟩ (by omega) (by omega) (by omega)
  refine ⟨t.at_, ?_⟩
  have e : t :: te :: (A ++ [ts]) ++ T2 = t :: te :: (A ++ ts :: T2) := by simp
  rw [e]
  unfold pDef
  dsimp only [PS.next]
  rw [if_pos k1, List.tail_cons, want_at k4 k5]
  dsimp only
  rw [hA]
  dsimp only
  rw [want_at k9 k10]
  dsimp only
  rw [k2]
  simp
theorem defsR_ok : ∀ (l : List Dfn) (fin : Int) (n : Nat) (T : List Tk) (p : Int) (acc : List Dfn), (∀ d ∈ l, defF d = 0) → T.map kt = l.flatMap tkD' → acc.length + l.length ≤ 16 → 0 < acc.length + l.length → l.length < n →
    ∃ l', pDefs fin n ⟨T, 0, p⟩ acc = .ok (acc ++ l') ∧ l'.map nE = l.map nE
  | [], fin, n, T, p, acc, _, h1, _, h3, h4 => by
    obtain ⟨m, rfl⟩ : ∃ m, n = m + 1 := ⟨n - 1, by omega⟩
    have e : T = [] := List.map_eq_nil_iff.1 h1
    subst e
    simp only [List.length_nil] at h3
    refine ⟨[], ?_, rfl⟩
    rw [pDefs, if_neg (by simp; intro h; subst h; simp at h3), List.append_nil]
  | d :: l, fin, n, T, p, acc, hl, h1, h2, h3, h4 => by
    obtain ⟨m, rfl⟩ : ∃ m, n = m + 1 := ⟨n - 1, by omega⟩
    rw [List.flatMap_cons] at h1
    obtain ⟨A, B, rfl, k1, k2⟩ := map_split h1
    simp only [List.length_cons] at h2 h3 h4
    have hlen : 0 < A.length := by
      have := congrArg List.length k1
      rw [List.length_map] at this
      rw [this]; simp [tkD']
    obtain ⟨a, hd⟩ := defR_ok (hl d (by simp)) (fin := fin) (n := 5 * (A ++ B).length + 8) (T1 := A) (T2 := B) (p := p) k1 (by rw [List.length_append]; omega)
    obtain ⟨l', q1, q2⟩ := defsR_ok l fin m B (prt d.e) (acc ++ [⟨d.name, a, d.e⟩]) (fun x hx => hl x (by simp [hx])) k2 (by rw [List.length_append, List.length_singleton]; omega) (by rw [List.length_append, List.length_singleton]; omega) (by omega)
    refine ⟨⟨d.name, a, d.e⟩ :: l', ?_, by rw [List.map_cons, List.map_cons, q2]; rfl⟩
    rw [pDefs, if_pos (.inl (by show 0 < (A ++ B).length; rw [List.length_append]; omega)), if_neg (by omega), hd]
    dsimp only
    rw [q1, List.append_assoc]; rfl
theorem flat_len : ∀ l : List Dfn, l.length ≤ (l.flatMap tkD').length
  | [] => Nat.le_refl _
  | d :: l => by
    have := flat_len l
    have h2 : 1 ≤ (tkD' d).length := by simp [tkD']
    rw [List.flatMap_cons, List.length_append, List.length_cons]; omega
theorem back_ok {l : List Dfn} (h : (renF l).code = 0) : ∃ l', parseS (txT l) = (l', ⟨0, 0⟩) ∧ l'.map nE = l.map nE := by
  obtain ⟨_, h1, h2, h3, h4⟩ := renF_good h
  have hall : ∀ d ∈ l, defF d = 0 := fun d hd => by obtain ⟨j, hj, rfl⟩ := List.getElem_of_mem hd; exact h3 j hj
  obtain ⟨T, e1, e2⟩ := scanR_text (sep_All l) (good_All hall) (by rw [pcAll_B]; exact h4)
  rw [pcAll_B] at e1
  rw [tk_All] at e2
  have hT : l.length ≤ T.length := by
    have := congrArg List.length e2
    rw [List.length_map] at this
    rw [this]; exact flat_len l
  obtain ⟨l', q1, q2⟩ := defsR_ok l (txT l).size (T.length + 2) T 0 [] hall e2 (by simp; omega) (by simp; omega) (by omega)
  have hp : parseToks (txT l).size T = .ok l' := q1
  refine ⟨l', ?_, q2⟩
  exact parseS_ok (by rw [e1]) (by rw [e1]; exact hp)
/-! ### What is the same -/
mutual
theorem eqE_eq' : ∀ (x y : Expr), eqE x y = true → x = y
  | .mk o n l, .mk o' n' l', h => by
    rw [eqE, Bool.and_eq_true, Bool.and_eq_true, decide_eq_true_eq, decide_eq_true_eq] at h
    rw [h.1, h.2.1, eqEs_eq' l l' h.2.2]
theorem eqEs_eq' : ∀ (x y : List Expr), eqEs x y = true → x = y
  | [], [], _ => rfl
  | [], _ :: _, h => by simp [eqEs] at h
  | _ :: _, [], h => by simp [eqEs] at h
  | x :: l, y :: l', h => by
    rw [eqEs, Bool.and_eq_true] at h
    rw [eqE_eq' x y h.1, eqEs_eq' l l' h.2]
end
theorem eqD_iff {x y : Dfn} : eqD false x y = true ↔ nE x = nE y := by
  unfold eqD nE
  rw [Bool.and_eq_true, decide_eq_true_eq, Prod.mk.injEq]
  constructor
  · rintro ⟨h1, h2⟩
    exact ⟨h1, eqE_eq' _ _ (by simpa using h2)⟩
  · rintro ⟨h1, h2⟩
    refine ⟨h1, ?_⟩
    rw [h2, eqE_refl]; rfl
theorem same_iff : ∀ (a b : List Dfn), sameT false a b = true ↔ a.map nE = b.map nE
  | [], [] => by simp [sameT]
  | [], _ :: _ => by simp [sameT]
  | _ :: _, [] => by simp [sameT]
  | x :: a, y :: b => by
    rw [sameT, Bool.and_eq_true, same_iff a b, eqD_iff, List.map_cons, List.map_cons, List.cons.injEq]
theorem txT_nE : ∀ (a b : List Dfn), a.map nE = b.map nE → txT a = txT b
  | [], [], _ => rfl
  | [], _ :: _, h => by simp at h
  | _ :: _, [], h => by simp at h
  | x :: a, y :: b, h => by
    simp only [List.map_cons, List.cons.injEq, nE, Prod.mk.injEq] at h
    rw [txT, txT, txT_nE a b h.2]
    unfold dfnT
    rw [h.1.1, h.1.2]
theorem mem_nE {a b : List Dfn} (h : a.map nE = b.map nE) {d : Dfn} (hd : d ∈ a) : ∃ e ∈ b, e.name = d.name ∧ e.e = d.e := by
  have h1 : nE d ∈ b.map nE := h ▸ List.mem_map_of_mem hd
  obtain ⟨e, he, h2⟩ := List.mem_map.1 h1
  simp only [nE, Prod.mk.injEq] at h2
  exact ⟨e, he, h2⟩
theorem renF_nE {a b : List Dfn} (h : a.map nE = b.map nE) (h0 : (renF b).code = 0) : (renF a).code = 0 := by
  rw [renF_iff] at h0 ⊢
  obtain ⟨h1, h2, h3, h4⟩ := h0
  have hl := congrArg List.length h
  rw [List.length_map, List.length_map] at hl
  refine ⟨by omega, by omega, fun d hd => ?_, by rw [txT_nE a b h]; exact h4⟩
  obtain ⟨e, he, q1, q2⟩ := mem_nE h hd
  have := h3 e he
  unfold defF at this ⊢
  rw [q1, q2] at this
  exact this
theorem fit_nE {a b : List Dfn} (h : a.map nE = b.map nE) (hb : ChkFit b) : ChkFit a := by
  have hl := congrArg List.length h
  rw [List.length_map, List.length_map] at hl
  refine ⟨by have := hb.len; omega, fun d hd => ?_, fun d hd => ?_, fun d hd => ?_⟩ <;> obtain ⟨e, he, q1, q2⟩ := mem_nE h hd
  · rw [← q2]; exact hb.ex e he
  · rw [← q1]; exact hb.nm e he
  · rw [← q2]; exact hb.lng e he
end Go.Proofs.Ytkfeccbahpmadaa
namespace Go.Proofs.Ytkfeccbahpmadaa
open Go.RowKit
set_option maxRecDepth 100000
-- SimX

theorem ChkFit.text {l : List Dfn} (h : ChkFit l) : TextFit l := ⟨h.len, fun d hd => by have := h.ex d hd; omega⟩
set_option maxHeartbeats 4000000 in
theorem renderBack_sim {t : Bool} {l : List Dfn} (hf : TextFit l) : ACalls Try.prog 9 [.d (textD t l)] [] (B true) [] := by
  refine ACalls.intro (n := 50) Try.func9 rfl rfl (by simp) (by rfl) ?_
  simp only [argFr]
  have hg := greatText_sim (t := t) hf
  cases h : greatT l with
  | true =>
    rw [h] at hg
    repeat (first | refine wk ?_ | refine s_field (hr := ?_))
    refine s_call [] (hA := renderBegun_sim) (hr := ?_)
    repeat (first | refine wk ?_ | refine s_field (hr := ?_))
    refine s_call [] (hA := hg) (hr := ?_)
    repeat (first | refine wk ?_ | refine s_field (hr := ?_))
    exact fin
  | false =>
    rw [h] at hg
    obtain ⟨hc, _⟩ := great_fit h
    have h1 := print_sim (t := t) hc
    by_cases h0 : (renF l).code = 0
    rotate_left
    · rw [show printT l = bs [] by unfold printT; rw [if_neg h0]] at h1
      generalize renF l = rf at *
      have e2 : decide (bs [] = bs []) = true := by simp
      repeat (first | refine wk ?_ | refine s_field (hr := ?_))
      refine s_call [] (hA := renderBegun_sim) (hr := ?_)
      repeat (first | refine wk ?_ | refine s_field (hr := ?_))
      refine s_call [] (hA := hg) (hr := ?_)
      repeat (first | refine wk ?_ | refine s_field (hr := ?_))
      refine s_call [] (hA := h1) (hr := ?_)
      repeat (first | refine wk ?_ | refine s_field (hr := ?_))
      exact fin
    obtain ⟨l', b1, b2⟩ := back_ok h0
    obtain ⟨g1, _, _, _, g5⟩ := renF_good h0
    have hp := parse_sim (txT l) (by unfold maxLen; omega)
    unfold prR at hp
    rw [b1] at hp
    dsimp only at hp
    have hc' := fit_nE b2 hc
    have h0' := renF_nE b2 h0
    have h2 := print_sim (t := false) hc'
    rw [show printT l = txT l by unfold printT; rw [if_pos h0], g1] at h1
    rw [show printT l' = txT l by unfold printT; rw [if_pos h0', txT_nE _ _ b2], (renF_good h0').1] at h2
    have h3 := same_sim (t := t) (u := false) hf hc'.text
    rw [(same_iff l l').2 b2.symm] at h3
    have e2 : decide (txT l = txT l) = true := by simp
    clear b1 b2 g1 g5 h0 h0' hc hc'
    generalize txT l = T at *
    (repeat (first | refine wkz ?_ | refine s_field (hr := ?_)))
    refine s_call [] (hA := renderBegun_sim) (hr := ?_)
    (repeat (first | refine wkz ?_ | refine s_field (hr := ?_)))
    refine s_call [] (hA := hg) (hr := ?_)
    (repeat (first | refine wkz ?_ | refine s_field (hr := ?_)))
    refine s_call [] (hA := h1) (hr := ?_)
    (repeat (first | refine wkz ?_ | refine s_field (hr := ?_)))
    refine s_call [] (hA := hp) (hr := ?_)
    (repeat (first | refine wkz ?_ | refine s_field (hr := ?_)))
    refine s_call [] (hA := h3) (hr := ?_)
    (repeat (first | refine wkz ?_ | refine s_field (hr := ?_)))
    refine s_call [] (hA := h2) (hr := ?_)
    (repeat (first | refine wkz ?_ | refine s_field (hr := ?_)))
    exact fin
set_option maxHeartbeats 4000000 in
theorem renderApart_sim {t u : Bool} {a b : List Dfn} (ha : TextFit a) (hb : TextFit b) : ACalls Try.prog 10 [.d (textD t a), .d (textD u b)] [] (B true) [] := by
  refine ACalls.intro (n := 44) Try.func10 rfl rfl (by simp) (by rfl) ?_
  simp only [argFr]
  have hga := greatText_sim (t := t) ha
  have hgb := greatText_sim (t := u) hb
  cases h : greatT a with
  | true =>
    rw [h] at hga
    (repeat (first | refine wkz ?_ | refine s_field (hr := ?_)))
    refine s_call [] (hA := renderBegun_sim) (hr := ?_)
    (repeat (first | refine wkz ?_ | refine s_field (hr := ?_)))
    refine s_call [] (hA := hga) (hr := ?_)
    (repeat (first | refine wkz ?_ | refine s_field (hr := ?_)))
    exact fin
  | false =>
    rw [h] at hga
    cases h2 : greatT b with
    | true =>
      rw [h2] at hgb
      (repeat (first | refine wkz ?_ | refine s_field (hr := ?_)))
      refine s_call [] (hA := renderBegun_sim) (hr := ?_)
      (repeat (first | refine wkz ?_ | refine s_field (hr := ?_)))
      refine s_call [] (hA := hga) (hr := ?_)
      (repeat (first | refine wkz ?_ | refine s_field (hr := ?_)))
      refine s_call [] (hA := hgb) (hr := ?_)
      (repeat (first | refine wkz ?_ | refine s_field (hr := ?_)))
      exact fin
    | false =>
      rw [h2] at hgb
      obtain ⟨hca, _⟩ := great_fit h
      obtain ⟨hcb, _⟩ := great_fit h2
      have pa := print_sim (t := t) hca
      have pb := print_sim (t := u) hcb
      have hs := same_sim (t := t) (u := u) ha hb
      by_cases ra : (renF a).code = 0
      rotate_left
      · generalize renF a = fa at *
        generalize renF b = fb at *
        generalize printT a = sa at *
        generalize printT b = sb at *
        (repeat (first | refine wkz ?_ | refine s_field (hr := ?_)))
        refine s_call [] (hA := renderBegun_sim) (hr := ?_)
        (repeat (first | refine wkz ?_ | refine s_field (hr := ?_)))
        refine s_call [] (hA := hga) (hr := ?_)
        (repeat (first | refine wkz ?_ | refine s_field (hr := ?_)))
        refine s_call [] (hA := hgb) (hr := ?_)
        (repeat (first | refine wkz ?_ | refine s_field (hr := ?_)))
        refine s_call [] (hA := pa) (hr := ?_)
        (repeat (first | refine wkz ?_ | refine s_field (hr := ?_)))
        refine s_call [] (hA := pb) (hr := ?_)
        (repeat (first | refine wkz ?_ | refine s_field (hr := ?_)))
        exact fin
      by_cases rb : (renF b).code = 0
      rotate_left
      · generalize renF a = fa at *
        generalize renF b = fb at *
        generalize printT a = sa at *
        generalize printT b = sb at *
        (repeat (first | refine wkz ?_ | refine s_field (hr := ?_)))
        refine s_call [] (hA := renderBegun_sim) (hr := ?_)
        (repeat (first | refine wkz ?_ | refine s_field (hr := ?_)))
        refine s_call [] (hA := hga) (hr := ?_)
        (repeat (first | refine wkz ?_ | refine s_field (hr := ?_)))
        refine s_call [] (hA := hgb) (hr := ?_)
        (repeat (first | refine wkz ?_ | refine s_field (hr := ?_)))
        refine s_call [] (hA := pa) (hr := ?_)
        (repeat (first | refine wkz ?_ | refine s_field (hr := ?_)))
        refine s_call [] (hA := pb) (hr := ?_)
        (repeat (first | refine wkz ?_ | refine s_field (hr := ?_)))
        exact fin
      have key : (decide (printT a = printT b) == sameT false a b) = true := by
        rw [show printT a = txT a by unfold printT; rw [if_pos ra], show printT b = txT b by unfold printT; rw [if_pos rb]]
        obtain ⟨a', p1, p2⟩ := back_ok ra
        obtain ⟨b', q1, q2⟩ := back_ok rb
        by_cases e : txT a = txT b
        · rw [decide_eq_true e]
          rw [e, q1] at p1
          have e2 : b' = a' := congrArg Prod.fst p1
          have : sameT false a b = true := (same_iff a b).2 (by rw [← p2, ← q2, e2])
          rw [this]; rfl
        · rw [decide_eq_false e]
          have : sameT false a b = false := by
            cases hq : sameT false a b with
            | false => rfl
            | true => exact absurd (txT_nE _ _ ((same_iff a b).1 hq)) e
          rw [this]; rfl
      generalize renF a = fa at *
      generalize renF b = fb at *
      generalize printT a = sa at *
      generalize printT b = sb at *
      generalize sameT false a b = sm at *
      (repeat (first | refine wkz ?_ | refine s_field (hr := ?_)))
      refine s_call [] (hA := renderBegun_sim) (hr := ?_)
      (repeat (first | refine wkz ?_ | refine s_field (hr := ?_)))
      refine s_call [] (hA := hga) (hr := ?_)
      (repeat (first | refine wkz ?_ | refine s_field (hr := ?_)))
      refine s_call [] (hA := hgb) (hr := ?_)
      (repeat (first | refine wkz ?_ | refine s_field (hr := ?_)))
      refine s_call [] (hA := pa) (hr := ?_)
      (repeat (first | refine wkz ?_ | refine s_field (hr := ?_)))
      refine s_call [] (hA := pb) (hr := ?_)
      (repeat (first | refine wkz ?_ | refine s_field (hr := ?_)))
      refine s_call [] (hA := hs) (hr := ?_)
      (repeat (first | refine wkz ?_ | refine s_field (hr := ?_)))
      exact Fin.norm (Fin.r1 rfl (.of_tmp rfl) (co_b key) trivial rfl)
end Go.Proofs.Ytkfeccbahpmadaa
