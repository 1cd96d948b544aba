/-
  Lists of numbers and rules as data; SameInts, slices.Equal, slices.Clone, Kids, KidsOf, By, RulesOf.
-/
import Derived.Test.YtpaeihifcmohkaaBase
import Derived.Test.YtpaeihifcmohkaaRows
import Derived.WalkSpells
import Derived.WalkLawsBesides
import Derived.Outline
import Derived.Lib.Hide
import Derived.Deep.QuietTactic
import Derived.BigQuiet
import Derived.Deep.RegionLaw
namespace Go.Proofs.Ytpaeihifcmohkaa
open Go.RowKit

/-! ### Data -/
def nums (xs : List Int) : List D := xs.map (D.int .i64)
abbrev Nums (M : List Nat) (w : World) (v : Value) (xs : List Int) : Prop := Sl M w 1 v (nums xs)
abbrev OwnN (B : Nat) (M : List Nat) (w : World) (v : Value) (xs : List Int) : Prop := Own B M w 3 1 v (nums xs)
@[simp] theorem nums_length (xs : List Int) : (nums xs).length = xs.length := by simp [nums]
theorem nums_append (xs ys : List Int) : nums (xs ++ ys) = nums xs ++ nums ys := by simp [nums]
theorem nums_flat (xs : List Int) : D.flats (nums xs) = true := D.flats_map _ (fun _ => rfl) xs
theorem Nums.at {M : List Nat} {w : World} {a : Option Addr} {n cap : Nat} {xs : List Int} (h : Nums M w (.slice a n cap) xs) (hne : 0 < xs.length) :
    ∃ b off, a = some ⟨b, off, none⟩ ∧ b ∉ M ∧ b < w.heap.size ∧ ∀ i (hi : i < xs.length), w.cell? ⟨b, off + i, none⟩ = some (.int .i64 xs[i]) := by
  have hn : n = xs.length := by
    obtain ⟨a', cap', h', _⟩ := h.shape
    simp at h'
    exact h'.2.1
  exact Sl.plain (f := D.int .i64) (g := Value.int .i64) (fun M w x c => by simp [D.Rep]) h (by omega)
theorem Nums.shape {M : List Nat} {w : World} {v : Value} {xs : List Int} (h : Nums M w v xs) : ∃ a cap, v = .slice a xs.length cap ∧ xs.length ≤ cap ∧ cap ≤ maxLen := by
  simpa using Sl.shape h
theorem Try.infoInt : (Try.prog.info? 3).map (fun i => (i.zero, i.size, i.bytes)) = some (some (.int .i64 0), 1, 8) := by kernel_rfl

structure Rule where
  left : Int
  right : List Int
deriving DecidableEq
structure Gram where
  vars : Int
  terms : Int
  start : Int
  rules : List Rule
deriving DecidableEq
def Rule.d (r : Rule) : D := .agg [.int .i64 r.left, .slice 1 (nums r.right)]
abbrev Rules (M : List Nat) (w : World) (v : Value) (rs : List Rule) : Prop := Sl M w 2 v (rs.map Rule.d)
/-- No more than so many rules, and symbols in each. -/
def Gram.le (g : Gram) (n : Nat) : Prop := g.rules.length ≤ n ∧ ∀ r ∈ g.rules, r.right.length ≤ n

theorem Rule.rep {M : List Nat} {w : World} {r : Rule} {c : List Value} : r.d.Rep M w c ↔ ∃ rv, c = [.int .i64 r.left, rv] ∧ Nums M w rv r.right := by
  simp only [Rule.d, D.Rep, D.Reps]
  constructor
  · rintro ⟨c1, r1, rfl, rfl, c2, r2, rfl, h, rfl⟩
    obtain ⟨a, cap, es, rfl, h'⟩ := h
    exact ⟨.slice a (nums r.right).length cap, rfl, by simp only [Nums, Sl, D.Rep]; exact ⟨a, cap, es, rfl, h'⟩⟩
  · rintro ⟨rv, rfl, h⟩
    exact ⟨[.int .i64 r.left], [rv], rfl, rfl, [rv], [], rfl, by simpa only [Nums, Sl, D.Rep] using h, rfl⟩
theorem Rules.at {M : List Nat} {w : World} {a : Option Addr} {n cap : Nat} {rs : List Rule} (h : Rules M w (.slice a n cap) rs) (hne : 0 < rs.length) :
    ∃ b off, a = some ⟨b, off, none⟩ ∧ b ∉ M ∧ b < w.heap.size ∧ ∀ i (hi : i < rs.length), ∃ ra rc, w.cell? ⟨b, off + i * 2, none⟩ = some (.int .i64 rs[i].left) ∧ w.cell? ⟨b, off + i * 2 + 1, none⟩ = some (.slice ra rs[i].right.length rc) ∧ Nums M w (.slice ra rs[i].right.length rc) rs[i].right := by
  have hn : n = rs.length := by
    obtain ⟨a', cap', h', _⟩ := h.shape
    simp at h'
    exact h'.2.1
  obtain ⟨b, off, h1, h2, h3, h4⟩ := Sl.at h (by omega)
  refine ⟨b, off, h1, h2, h3, fun i hi => ?_⟩
  obtain ⟨c, g1, _, g3⟩ := h4 i (by simpa using hi)
  simp only [List.getElem_map] at g1
  obtain ⟨rv, rfl, hr⟩ := Rule.rep.1 g1
  obtain ⟨ra, rc, rfl, _⟩ := Nums.shape hr
  exact ⟨ra, rc, by simpa using g3 0 (by omega), by simpa [Nat.add_assoc] using g3 1 (by omega), hr⟩
theorem Rules.shape {M : List Nat} {w : World} {v : Value} {rs : List Rule} (h : Rules M w v rs) : ∃ a cap, v = .slice a rs.length cap ∧ rs.length ≤ cap ∧ cap ≤ maxLen := by
  simpa using Sl.shape h

/-! ### append to numbers -/
theorem wpList_app_num {w W : World} {ops : Array Oper} {rest : List Oper} {o : Oper} {a : Act} {Q : Exit → Act → World → Prop} (hgd : o.guard = none) (s x : Operand)
    (ho : o.op = .call { callee := .builtin .append, args := #[s, x], argTypes := #[40, 40] })
    (B : Nat) (M : List Nat) (v : Value) (xs : List Int) (n : Int) (nb : Nat) (hs : a.eval s = v) (hy : a.eval x = .slice (some ⟨nb, 0, none⟩) 1 1) (hE : Ext [] w W) (hb : Blk W nb #[.int .i64 n] 3) (hnb : w.heap.size ≤ nb)
    (hown : OwnN B M w v xs) (hM : ∀ k ∈ M, k < w.heap.size) (hn : xs.length ≤ 1000000000) (hB : B ≤ w.heap.size)
    (h : ∀ a' n' c' w', OwnN B M w' (.slice a' n' c') (xs ++ [n]) → Ext (ob v) w w' → wpList Try.prog ops Q rest (a.put o.dst (.slice a' n' c')) w') :
    wpList Try.prog ops Q (o :: rest) a W := by
  refine wpList_append1 hgd s x 40 ho B M 3 1 8 _ Try.underlying40 Try.infoInt rfl (by decide) v (nums xs) (.int .i64 n) _ nb hs hy hE hb hnb hown (by simp [D.Rep]) rfl hM (by simp; omega) (by decide) hB ?_
  intro a' n' c' w' _ h1 h2
  exact h a' n' c' w' (by simpa [OwnN, nums] using h1) h2

/-! ### SameInts, slices.Equal -/
theorem eq_of_prefix {xs ys : List Int} (hl : xs.length = ys.length) (h : ∀ j (hx : j < xs.length) (hy : j < ys.length), xs[j] = ys[j]) : xs = ys := List.ext_getElem hl h
theorem ret_bool' {a b : Bool} (h : a = b) : Ending.returned (.bool a) = Ending.returned (.bool b) := by rw [h]

set_option maxRecDepth 100000 in
theorem sameInts_any (M : List Nat) (u v : Value) (xs ys : List Int) (w : World) (hu : Nums M w u xs) (hv : Nums M w v ys) (hlx : xs.length ≤ 100000000) (hly : ys.length ≤ 100000000) :
    Calls Try.prog 31 #[u, v] w fun e w' => e = .returned (.bool (decide (xs = ys))) ∧ ∃ n, w' = w.drewN n := by
  obtain ⟨a, cap, rfl, hc, hcm⟩ := Nums.shape hu
  obtain ⟨a', cap', rfl, hc', hcm'⟩ := Nums.shape hv
  by_cases hne : xs.length = ys.length
  · have Hne := Lib.hid hne
    have hneb : ((xs.length : Int) != ys.length) = false := by simp [hne]
    clear hne
    go_enter Try.func31, Try.ntmps31
    go_wp2_with fail
    go_loopw [5] (fun iv wr => ∃ (k n : Nat), iv = .int .i64 k ∧ k ≤ xs.length ∧ wr = w.drewN n ∧ ∀ j (hx : j < xs.length) (hy : j < ys.length), j < k → xs[j] = ys[j]) (fun iv _ => xs.length - (intOf iv).toNat)
    case atStart => exact ⟨0, 0, rfl, Nat.zero_le _, rfl, by omega⟩
    case round =>
      obtain ⟨k, n, rfl, hk, rfl, hp⟩ := hrel
      have Hp := Lib.hid hp
      clear hp
      by_cases hlt : k < xs.length
      · have hlt' : k < ys.length := by have := Hne.out; omega
        obtain ⟨b, off, rfl, _, _, hb⟩ := Nums.at hu (by omega)
        obtain ⟨b', off', rfl, _, _, hb'⟩ := Nums.at hv (by omega)
        have c0 := hb k hlt
        have d0 := hb' k hlt'
        have Hno : Hid (xs[k] ≠ ys[k] → false = decide (xs = ys)) := Lib.hid (fun h => by symm; rw [decide_eq_false_iff_not]; rintro rfl; exact h rfl)
        have Hyes : Hid (xs[k] = ys[k] → ∀ j (hx : j < xs.length) (hy : j < ys.length), j < k + 1 → xs[j] = ys[j]) := Lib.hid (fun h j hx hy hj => by
          by_cases hjk : j < k
          · exact Hp.out j hx hy hjk
          · obtain rfl : j = k := by omega
            exact h)
        generalize xs[k] = x at c0 Hno Hyes
        generalize ys[k] = y at d0 Hno Hyes
        clear hb hb' hu hv
        have e0 : (0 : Int) ≤ (k : Int) := by omega
        have e1 : (k : Int) < (xs.length : Int) := by omega
        have e2 : (k : Int) < (ys.length : Int) := by omega
        by_cases hxy : x = y
        · subst hxy
          go_wp2_with fail
          go_quiet (fail)
          go_wp2_with fail
          go_roundw
          case rel => exact ⟨k + 1, _, by go_num, by omega, rfl, Hyes.out (by first | rfl | trivial)⟩
          case measure => simp [intOf]; omega
        · have hxy' : (x != y) = true := by simpa using hxy
          have Hn := Lib.hid (Hno.out hxy)
          clear hxy
          go_wp2_with fail
          go_quiet (fail)
          go_wp2_with fail
          go_ret
          exact ⟨ret_bool' Hn.out, _, by rw [World.drewN_drewN]⟩
      · have Ht : Hid (true = decide (xs = ys)) := Lib.hid (by symm; rw [decide_eq_true_iff]; exact eq_of_prefix Hne.out fun j hx hy => Hp.out j hx hy (by omega))
        go_wp2_with fail
        go_ret
        exact ⟨ret_bool' Ht.out, _, rfl⟩
  · have hneb : ((xs.length : Int) != ys.length) = true := by rw [bne_iff_ne]; omega
    have Hn : Hid (false = decide (xs = ys)) := Lib.hid (by symm; rw [decide_eq_false_iff_not]; rintro rfl; exact hne rfl)
    clear hne hu hv
    go_enter Try.func31, Try.ntmps31
    go_wp2_with fail
    go_ret
    exact ⟨ret_bool' Hn.out, 0, rfl⟩
set_option maxRecDepth 100000 in
theorem slicesEqual_any (M : List Nat) (u v : Value) (xs ys : List Int) (w : World) (hu : Nums M w u xs) (hv : Nums M w v ys) (hlx : xs.length ≤ 100000000) (hly : ys.length ≤ 100000000) :
    Calls Try.prog 84 #[u, v] w fun e w' => e = .returned (.bool (decide (xs = ys))) ∧ ∃ n, w' = w.drewN n := by
  obtain ⟨a, cap, rfl, hc, hcm⟩ := Nums.shape hu
  obtain ⟨a', cap', rfl, hc', hcm'⟩ := Nums.shape hv
  by_cases hne : xs.length = ys.length
  · have Hne := Lib.hid hne
    have hneb : ((xs.length : Int) != ys.length) = false := by simp [hne]
    clear hne
    go_enter Try.func84, Try.ntmps84
    go_wp2_with fail
    go_loopw [5, 13] (fun _ iv wr => ∃ (k n : Nat), iv = .int .i64 k ∧ k ≤ xs.length ∧ wr = w.drewN n ∧ ∀ j (hx : j < xs.length) (hy : j < ys.length), j < k → xs[j] = ys[j]) (fun _ iv _ => xs.length - (intOf iv).toNat)
    case atStart => exact ⟨0, 0, rfl, Nat.zero_le _, rfl, by omega⟩
    case round =>
      obtain ⟨k, n, rfl, hk, rfl, hp⟩ := hrel
      have Hp := Lib.hid hp
      clear hp
      by_cases hlt : k < xs.length
      · have hlt' : k < ys.length := by have := Hne.out; omega
        obtain ⟨b, off, rfl, _, _, hb⟩ := Nums.at hu (by omega)
        obtain ⟨b', off', rfl, _, _, hb'⟩ := Nums.at hv (by omega)
        have c0 := hb k hlt
        have d0 := hb' k hlt'
        have Hno : Hid (xs[k] ≠ ys[k] → false = decide (xs = ys)) := Lib.hid (fun h => by symm; rw [decide_eq_false_iff_not]; rintro rfl; exact h rfl)
        have Hyes : Hid (xs[k] = ys[k] → ∀ j (hx : j < xs.length) (hy : j < ys.length), j < k + 1 → xs[j] = ys[j]) := Lib.hid (fun h j hx hy hj => by
          by_cases hjk : j < k
          · exact Hp.out j hx hy hjk
          · obtain rfl : j = k := by omega
            exact h)
        generalize xs[k] = x at c0 Hno Hyes
        generalize ys[k] = y at d0 Hno Hyes
        clear hb hb' hu hv
        have e0 : (0 : Int) ≤ (k : Int) := by omega
        have e1 : (k : Int) < (xs.length : Int) := by omega
        have e2 : (k : Int) < (ys.length : Int) := by omega
        by_cases hxy : x = y
        · subst hxy
          go_wp2_with fail
          go_quiet (fail)
          go_wp2_with fail
          go_roundw
          case rel => exact ⟨k + 1, _, by go_num, by omega, rfl, Hyes.out (by first | rfl | trivial)⟩
          case measure => simp [intOf]; omega
        · have hxy' : (x != y) = true := by simpa using hxy
          have Hn := Lib.hid (Hno.out hxy)
          clear hxy
          go_wp2_with fail
          go_quiet (fail)
          go_wp2_with fail
          go_ret
          exact ⟨ret_bool' Hn.out, _, by rw [World.drewN_drewN]⟩
      · have Ht : Hid (true = decide (xs = ys)) := Lib.hid (by symm; rw [decide_eq_true_iff]; exact eq_of_prefix Hne.out fun j hx hy => Hp.out j hx hy (by omega))
        go_wp2_with fail
        go_ret
        exact ⟨ret_bool' Ht.out, _, rfl⟩
  · have hneb : ((xs.length : Int) != ys.length) = true := by rw [bne_iff_ne]; omega
    have Hn : Hid (false = decide (xs = ys)) := Lib.hid (by symm; rw [decide_eq_false_iff_not]; rintro rfl; exact hne rfl)
    clear hne hu hv
    go_enter Try.func84, Try.ntmps84
    go_wp2_with fail
    go_ret
    exact ⟨ret_bool' Hn.out, 0, rfl⟩

/-! ### slices.Clone -/
theorem Sl.nil_of_none {M : List Nat} {w : World} {sz n cap : Nat} {xs : List D} (h : Sl M w sz (.slice none n cap) xs) : xs = [] := by
  apply Classical.byContradiction
  intro hne
  simp only [Sl, D.Rep] at h
  obtain ⟨a, c, es, he, _, _, _, _, h5⟩ := h
  obtain ⟨b, off, rfl, _⟩ := h5 hne
  simp at he

theorem clone_any (M : List Nat) (v : Value) (xs : List Int) (w : World) (hv : Nums M w v xs) (hl : xs.length ≤ 100000000) (hM : ∀ k ∈ M, k < w.heap.size) :
    Calls Try.prog 85 #[v] w fun e w' => ∃ v', e = .returned v' ∧ OwnN w.heap.size M w' v' xs ∧ Ext [] w w' := by
  obtain ⟨a, cap, rfl, hc, hcm⟩ := Nums.shape hv
  have heq := @Lib.run_eql_slice_nil Try.prog
  cases a with
  | none =>
    have hx := Sl.nil_of_none hv
    have hx' : xs = [] := by simpa [nums] using hx
    subst hx'
    clear hv hx hM
    go_enter Try.func85, Try.ntmps85
    go_wp2_with fail
    go_ret
    exact ⟨_, rfl, Own.nil _ _ _ _ _ _, Ext.refl _ _⟩
  | some ad =>
    have Hv := Lib.hid hv
    have HM := Lib.hid hM
    clear hv hM hcm
    go_enter Try.func85, Try.ntmps85
    go_wp2_with (at_builtin; refine wpList_append rfl _ _ 40 rfl w.heap.size M 3 1 8 _ Try.underlying40 Try.infoInt rfl (by decide) (.slice (some ⟨w.heap.size, 0, none⟩) 0 0) (.slice (some ad) xs.length cap) [] (nums xs) rfl rfl (Own.nil _ _ _ _ _ _) (Sl.ext0 (Hv.out.bar (M' := ob (.slice (some ⟨w.heap.size, 0, none⟩) 0 0) ++ M) (by simp only [ob, if_true, List.nil_append]; intro k hk _; exact hk)) (Ext.new w _)) ?_ ?_ ?_ ?_ ?_)
    · intro k hk; have := HM.out k hk; simp; omega
    · simp; omega
    · simp [maxLen]; omega
    · simp
    intro a' n' c' w' _ hO hE
    have HO := Lib.hid hO
    have HE := Lib.hid ((Ext.new w _).trans hE (by simp [ob]))
    clear hO hE
    go_wp2_with fail
    go_ret
    exact ⟨_, rfl, by simpa using HO.out, HE.out⟩
end Go.Proofs.Ytpaeihifcmohkaa
