/-
  Kids, KidsOf, By, RulesOf.
-/
import Derived.Test.YtpaeihifcmohkaaGram1
namespace Go.Proofs.Ytpaeihifcmohkaa
open Go.RowKit

def kids (xs : List Int) : List Int := xs.filter (fun x => decide (0 ≤ x))
theorem kids_snoc (xs : List Int) (k : Nat) (h : k < xs.length) : kids (xs.take (k + 1)) = kids (xs.take k) ++ kids [xs[k]] := by
  rw [List.take_succ_eq_append_getElem h]; simp only [kids, List.filter_append]
theorem kids_pos {x : Int} (h : 0 ≤ x) : kids [x] = [x] := by simp [kids, h]
theorem kids_neg {x : Int} (h : x < 0) : kids [x] = [] := by simp [kids]; omega
theorem kids_len (xs : List Int) : (kids xs).length ≤ xs.length := List.length_filter_le _ _

theorem kidsOf_any (M : List Nat) (v : Value) (xs : List Int) (w : World) (hv : Nums M w v xs) (hl : xs.length ≤ 100000000) (hM : ∀ k ∈ M, k < w.heap.size) :
    Calls Try.prog 35 #[v] w fun e w' => ∃ v', e = .returned v' ∧ OwnN w.heap.size M w' v' (kids xs) ∧ Ext [] w w' := by
  obtain ⟨a, cap, rfl, hc, hcm⟩ := Nums.shape hv
  go_enter Try.func35, Try.ntmps35
  go_wp2_with fail
  go_loopw [3, 4] (fun v i wr => ∃ k : Nat, k ≤ xs.length ∧ i = .int .i64 k ∧ OwnN w.heap.size M wr v (kids (xs.take k)) ∧ Ext [] w wr) (fun _ i _ => xs.length - (intOf i).toNat)
  case atStart => exact ⟨0, Nat.zero_le _, rfl, Own.nil _ _ _ _ _ _, Ext.refl _ _⟩
  case round =>
    obtain ⟨k, hk, rfl, hown, hE⟩ := hrel
    have Hown := Lib.hid hown
    have HE := Lib.hid hE
    have HM := Lib.hid (fun j hj => Nat.lt_of_lt_of_le (hM j hj) hE.size)
    have HEx : Hid (∀ x ∈ ob u3, x < w.heap.size → x ∈ ([] : List Nat)) := Lib.hid (fun x hx hl => by have := (hown.block _ hx).1; omega)
    have Hlen : Hid ((kids (xs.take k)).length ≤ 1000000000) := Lib.hid (by have := kids_len (xs.take k); rw [List.length_take] at this; omega)
    by_cases hlt : k < xs.length
    · obtain ⟨b, off, rfl, hbM, hbs, hcell⟩ := Nums.at hv (by omega)
      have hck := (hE.cell (p := ⟨b, off + k, none⟩) hbs (by simp)).trans (hcell k hlt)
      have Hst := Lib.hid (kids_snoc xs k hlt)
      generalize xs[k] = x at hck Hst
      clear hcell hown hE hv hM hbM hcm
      by_cases hx : 0 ≤ x
      · have Hst' := Lib.hid (Hst.out.trans (by rw [kids_pos hx]))
        go_wp2_with (at_builtin; refine wpList_app_num rfl _ _ rfl w.heap.size M u3 (kids (xs.take k)) x _ rfl rfl (Ext.new _ _) (Blk.new _ _ _) (Nat.le_refl _) Hown.out HM.out Hlen.out HE.out.size ?_)
        intro a' n' c' w' hO hE
        have HO := Lib.hid hO
        have HE' := Lib.hid (HE.out.trans hE HEx.out)
        clear hO hE
        go_wp2_with fail
        go_roundw
        case rel => exact ⟨k + 1, by omega, by go_num, by rw [Hst'.out]; exact HO.out, HE'.out⟩
        case measure => simp [intOf]; omega
      · have hx' : x < 0 := by omega
        have Hst' := Lib.hid (Hst.out.trans (by rw [kids_neg hx', List.append_nil]))
        clear hx
        go_wp2_with fail
        go_roundw
        case rel => exact ⟨k + 1, by omega, by go_num, by rw [Hst'.out]; exact Hown.out, HE.out⟩
        case measure => simp [intOf]; omega
    · have hks : k = xs.length := by omega
      have Hfin := Lib.hid (show OwnN w.heap.size M wr u3 (kids xs) by rw [hks, List.take_length] at hown; exact hown)
      clear hown hE hv hM hcm hks
      go_wp2_with fail
      go_ret
      exact ⟨_, rfl, Hfin.out, HE.out⟩

theorem kids_any (M : List Nat) (l : Int) (v : Value) (xs : List Int) (w : World) (hv : Nums M w v xs) (hl : xs.length ≤ 100000000) (hM : ∀ k ∈ M, k < w.heap.size) :
    Calls Try.prog 34 #[.agg #[.int .i64 l, v]] w fun e w' => ∃ v', e = .returned v' ∧ OwnN w.heap.size M w' v' (kids xs) ∧ Ext [] w w' := by
  obtain ⟨a, cap, rfl, hc, hcm⟩ := Nums.shape hv
  go_enter Try.func34, Try.ntmps34
  go_wp2_with fail
  go_loopw [3, 5, 9] (fun v _ i wr => ∃ k : Nat, k ≤ xs.length ∧ i = .int .i64 k ∧ OwnN w.heap.size M wr v (kids (xs.take k)) ∧ Ext [] w wr) (fun _ _ i _ => xs.length - (intOf i).toNat)
  case atStart => exact ⟨0, Nat.zero_le _, rfl, Own.nil _ _ _ _ _ _, Ext.new _ _⟩
  case round =>
    obtain ⟨k, hk, rfl, hown, hE⟩ := hrel
    have Hown := Lib.hid hown
    have HE := Lib.hid hE
    have HM := Lib.hid (fun j hj => Nat.lt_of_lt_of_le (hM j hj) hE.size)
    have HEx : Hid (∀ x ∈ ob u3, x < w.heap.size → x ∈ ([] : List Nat)) := Lib.hid (fun x hx hl => by have := (hown.block _ hx).1; omega)
    have Hlen : Hid ((kids (xs.take k)).length ≤ 1000000000) := Lib.hid (by have := kids_len (xs.take k); rw [List.length_take] at this; omega)
    by_cases hlt : k < xs.length
    · obtain ⟨b, off, rfl, hbM, hbs, hcell⟩ := Nums.at hv (by omega)
      have hck := (hE.cell (p := ⟨b, off + k, none⟩) hbs (by simp)).trans (hcell k hlt)
      have Hst := Lib.hid (kids_snoc xs k hlt)
      generalize xs[k] = x at hck Hst
      clear hcell hown hE hv hM hbM hcm
      by_cases hx : 0 ≤ x
      · have Hst' := Lib.hid (Hst.out.trans (by rw [kids_pos hx]))
        go_wp2_with (at_builtin; refine wpList_app_num rfl _ _ rfl w.heap.size M u3 (kids (xs.take k)) x _ rfl rfl (Ext.new _ _) (Blk.new _ _ _) (Nat.le_refl _) Hown.out HM.out Hlen.out HE.out.size ?_)
        intro a' n' c' w' hO hE
        have HO := Lib.hid hO
        have HE' := Lib.hid (HE.out.trans hE HEx.out)
        clear hO hE
        go_wp2_with fail
        go_roundw
        case rel => exact ⟨k + 1, by omega, by go_num, by rw [Hst'.out]; exact HO.out, HE'.out⟩
        case measure => simp [intOf]; omega
      · have hx' : x < 0 := by omega
        have Hst' := Lib.hid (Hst.out.trans (by rw [kids_neg hx', List.append_nil]))
        clear hx
        go_wp2_with fail
        go_roundw
        case rel => exact ⟨k + 1, by omega, by go_num, by rw [Hst'.out]; exact Hown.out, HE.out⟩
        case measure => simp [intOf]; omega
    · have hks : k = xs.length := by omega
      have Hfin := Lib.hid (show OwnN w.heap.size M wr u3 (kids xs) by rw [hks, List.take_length] at hown; exact hown)
      clear hown hE hv hM hcm hks
      go_wp2_with fail
      go_ret
      exact ⟨_, rfl, Hfin.out, HE.out⟩

def rulesOf (rs : List Rule) (v : Int) (i : Nat) : List Int := match rs with
  | [] => []
  | r :: rs => if r.left = v then (i : Int) :: rulesOf rs v (i + 1) else rulesOf rs v (i + 1)
theorem rulesOf_append (rs qs : List Rule) (v : Int) (i : Nat) : rulesOf (rs ++ qs) v i = rulesOf rs v i ++ rulesOf qs v (i + rs.length) := by
  induction rs generalizing i with
  | nil => simp [rulesOf]
  | cons r rs ih =>
    simp only [List.cons_append, rulesOf, ih, List.length_cons]
    rw [show i + 1 + rs.length = i + (rs.length + 1) from by omega]
    split <;> simp
theorem rulesOf_len (rs : List Rule) (v : Int) (i : Nat) : (rulesOf rs v i).length ≤ rs.length := by
  induction rs generalizing i with
  | nil => simp [rulesOf]
  | cons r rs ih =>
    simp only [rulesOf]
    have := ih (i + 1)
    split <;> simp <;> omega
theorem rulesOf_snoc (rs : List Rule) (v : Int) (k : Nat) (h : k < rs.length) : rulesOf (rs.take (k + 1)) v 0 = rulesOf (rs.take k) v 0 ++ (if rs[k].left = v then [(k : Int)] else []) := by
  rw [List.take_succ_eq_append_getElem h, rulesOf_append]
  simp [rulesOf, Nat.min_eq_left (Nat.le_of_lt h)]

/-- A grammar's value. -/
abbrev GramC (g : Gram) (rv : Value) : Array Value := #[.int .i64 g.vars, .int .i64 g.terms, .int .i64 g.start, rv]
theorem GramC.cells {w : World} {b : Nat} {g : Gram} {rv : Value} {t : TypeId} (h : Blk w b (GramC g rv) t) :
    w.cell? ⟨b, 0, none⟩ = some (.int .i64 g.vars) ∧ w.cell? ⟨b, 1, none⟩ = some (.int .i64 g.terms) ∧ w.cell? ⟨b, 2, none⟩ = some (.int .i64 g.start) ∧ w.cell? ⟨b, 3, none⟩ = some rv :=
  ⟨(h.cell 0).trans (by simp), (h.cell 1).trans (by simp), (h.cell 2).trans (by simp), (h.cell 3).trans (by simp)⟩

theorem rulesOf_any (M : List Nat) (g : Gram) (rv : Value) (v : Int) (w : World) (hv : Rules M w rv g.rules) (hl : g.rules.length ≤ 100000000) (hM : ∀ k ∈ M, k < w.heap.size) :
    Calls Try.prog 33 #[.agg (GramC g rv), .int .i64 v] w fun e w' => ∃ v', e = .returned v' ∧ OwnN w.heap.size M w' v' (rulesOf g.rules v 0) ∧ Ext [] w w' := by
  obtain ⟨a, cap, rfl, hc, hcm⟩ := Rules.shape hv
  generalize g.rules = rs at hv hl hc ⊢
  go_enter Try.func33, Try.ntmps33
  go_wp2_with fail
  go_loopw [5, 6] (fun u i wr => ∃ k : Nat, k ≤ rs.length ∧ i = .int .i64 k ∧ OwnN (w.heap.size + 1) M wr u (rulesOf (rs.take k) v 0) ∧ Ext [] w wr ∧ Blk wr w.heap.size (GramC g (.slice a rs.length cap)) 34) (fun _ i _ => rs.length - (intOf i).toNat)
  case atStart => exact ⟨0, Nat.zero_le _, rfl, Own.nil _ _ _ _ _ _, Ext.new _ _, Blk.new _ _ _⟩
  case round =>
    obtain ⟨k, hk, rfl, hown, hE, hB⟩ := hrel
    obtain ⟨g0, g1, g2, g3⟩ := GramC.cells hB
    have hblt := hB.lt
    have Hown := Lib.hid hown
    have HE := Lib.hid hE
    have HB := Lib.hid hB
    have HM := Lib.hid (fun j hj => Nat.lt_of_lt_of_le (hM j hj) hE.size)
    have HEx : Hid (∀ x ∈ ob u5, x < w.heap.size → x ∈ ([] : List Nat)) := Lib.hid (fun x hx hl => by have := (hown.block _ hx).1; omega)
    have HBx : Hid (w.heap.size ∉ ob u5) := Lib.hid (fun hx => by have := (hown.block _ hx).1; omega)
    have Hlen : Hid ((rulesOf (rs.take k) v 0).length ≤ 1000000000) := Lib.hid (by have := rulesOf_len (rs.take k) v 0; rw [List.length_take] at this; omega)
    clear hB
    by_cases hlt : k < rs.length
    · obtain ⟨b, off, rfl, hbM, hbs, hcell⟩ := Rules.at hv (by omega)
      obtain ⟨ra, rc, hc0, hc1, _⟩ := hcell k hlt
      have hck := (hE.cell (p := ⟨b, off + k * 2, none⟩) hbs (by simp)).trans hc0
      have hck1 := (hE.cell (p := ⟨b, off + k * 2 + 1, none⟩) hbs (by simp)).trans hc1
      have Hst := Lib.hid (rulesOf_snoc rs v k hlt)
      generalize rs[k].right.length = rn at hck1 hc1
      generalize rs[k].left = x at hck hc0 Hst
      have hbs' : b < wr.heap.size := Nat.lt_of_lt_of_le hbs hE.size
      clear hcell hown hE hv hM hbM hcm hc0 hc1
      by_cases hx : x = v
      · subst hx
        have Hst' := Lib.hid (Hst.out.trans (by rw [if_pos rfl]))
        go_wp2_with (at_builtin; refine wpList_app_num rfl _ _ rfl (w.heap.size + 1) M u5 (rulesOf (rs.take k) x 0) k _ rfl rfl (Ext.new _ _) (Blk.new _ _ _) (Nat.le_refl _) Hown.out HM.out Hlen.out (by omega) ?_)
        intro a' n' c' w' hO hE
        have HO := Lib.hid hO
        have HE' := Lib.hid (HE.out.trans hE HEx.out)
        have HB' := Lib.hid (Blk.ext HB.out hE HBx.out)
        clear hO hE
        go_wp2_with fail
        go_roundw
        case rel => exact ⟨k + 1, by omega, by go_num, by rw [Hst'.out]; exact HO.out, HE'.out, HB'.out⟩
        case measure => simp [intOf]; omega
      · have hx' : (x == v) = false := by simpa using hx
        have Hst' := Lib.hid (Hst.out.trans (by rw [if_neg hx, List.append_nil]))
        clear hx
        go_wp2_with fail
        go_roundw
        case rel => exact ⟨k + 1, by omega, by go_num, by rw [Hst'.out]; exact Hown.out, HE.out, HB.out⟩
        case measure => simp [intOf]; omega
    · have hks : k = rs.length := by omega
      have Hfin := Lib.hid (show OwnN w.heap.size M wr u5 (rulesOf rs v 0) by rw [hks, List.take_length] at hown; exact hown.bar (fun _ h _ => h) (by omega))
      clear hown hE hv hM hcm hks
      go_wp2_with fail
      go_ret
      exact ⟨_, rfl, Hfin.out, HE.out⟩

theorem by_any (M : List Nat) (g : Gram) (rv : Value) (v : Int) (w : World) (hv : Rules M w rv g.rules) (hl : g.rules.length ≤ 100000000) (hM : ∀ k ∈ M, k < w.heap.size) :
    Calls Try.prog 32 #[.agg (GramC g rv), .int .i64 v] w fun e w' => ∃ v', e = .returned v' ∧ OwnN w.heap.size M w' v' (rulesOf g.rules v 0) ∧ Ext [] w w' := by
  obtain ⟨a, cap, rfl, hc, hcm⟩ := Rules.shape hv
  generalize g.rules = rs at hv hl hc ⊢
  go_enter Try.func32, Try.ntmps32
  go_wp2_with fail
  go_loopw [5, 6, 11] (fun u _ i wr => ∃ k : Nat, k ≤ rs.length ∧ i = .int .i64 k ∧ OwnN (w.heap.size + 1) M wr u (rulesOf (rs.take k) v 0) ∧ Ext [] w wr ∧ Blk wr w.heap.size (GramC g (.slice a rs.length cap)) 34) (fun _ _ i _ => rs.length - (intOf i).toNat)
  case atStart => exact ⟨0, Nat.zero_le _, rfl, Own.nil _ _ _ _ _ _, Ext.new _ _, Blk.new _ _ _⟩
  case round =>
    obtain ⟨k, hk, rfl, hown, hE, hB⟩ := hrel
    obtain ⟨g0, g1, g2, g3⟩ := GramC.cells hB
    have hblt := hB.lt
    have Hown := Lib.hid hown
    have HE := Lib.hid hE
    have HB := Lib.hid hB
    have HM := Lib.hid (fun j hj => Nat.lt_of_lt_of_le (hM j hj) hE.size)
    have HEx : Hid (∀ x ∈ ob u5, x < w.heap.size → x ∈ ([] : List Nat)) := Lib.hid (fun x hx hl => by have := (hown.block _ hx).1; omega)
    have HBx : Hid (w.heap.size ∉ ob u5) := Lib.hid (fun hx => by have := (hown.block _ hx).1; omega)
    have Hlen : Hid ((rulesOf (rs.take k) v 0).length ≤ 1000000000) := Lib.hid (by have := rulesOf_len (rs.take k) v 0; rw [List.length_take] at this; omega)
    clear hB
    by_cases hlt : k < rs.length
    · obtain ⟨b, off, rfl, hbM, hbs, hcell⟩ := Rules.at hv (by omega)
      obtain ⟨ra, rc, hc0, hc1, _⟩ := hcell k hlt
      have hck := (hE.cell (p := ⟨b, off + k * 2, none⟩) hbs (by simp)).trans hc0
      have hck1 := (hE.cell (p := ⟨b, off + k * 2 + 1, none⟩) hbs (by simp)).trans hc1
      have Hst := Lib.hid (rulesOf_snoc rs v k hlt)
      generalize rs[k].right.length = rn at hck1 hc1
      generalize rs[k].left = x at hck hc0 Hst
      have hbs' : b < wr.heap.size := Nat.lt_of_lt_of_le hbs hE.size
      clear hcell hown hE hv hM hbM hcm hc0 hc1
      by_cases hx : x = v
      · subst hx
        have Hst' := Lib.hid (Hst.out.trans (by rw [if_pos rfl]))
        go_wp2_with (at_builtin; refine wpList_app_num rfl _ _ rfl (w.heap.size + 1) M u5 (rulesOf (rs.take k) x 0) k _ rfl rfl (by exact (Ext.new wr _).alloc _) (by exact newBlk _ _ _ _ (by simp)) (by simp) Hown.out HM.out Hlen.out (by omega) ?_)
        intro a' n' c' w' hO hE
        have HO := Lib.hid hO
        have HE' := Lib.hid (HE.out.trans hE HEx.out)
        have HB' := Lib.hid (Blk.ext HB.out hE HBx.out)
        clear hO hE
        go_wp2_with fail
        go_roundw
        case rel => exact ⟨k + 1, by omega, by go_num, by rw [Hst'.out]; exact HO.out, HE'.out, HB'.out⟩
        case measure => simp [intOf]; omega
      · have hx' : (x == v) = false := by simpa using hx
        have Hst' := Lib.hid (Hst.out.trans (by rw [if_neg hx, List.append_nil]))
        clear hx
        go_wp2_with fail
        go_roundw
        case rel => exact ⟨k + 1, by omega, by go_num, by rw [Hst'.out]; exact Hown.out.ext0 (Ext.new _ _), HE.out.alloc _, HB.out.alloc _⟩
        case measure => simp [intOf]; omega
    · have hks : k = rs.length := by omega
      have Hfin := Lib.hid (show OwnN w.heap.size M wr u5 (rulesOf rs v 0) by rw [hks, List.take_length] at hown; exact hown.bar (fun _ h _ => h) (by omega))
      clear hown hE hv hM hcm hks
      go_wp2_with fail
      go_ret
      exact ⟨_, rfl, Hfin.out, HE.out⟩
end Go.Proofs.Ytpaeihifcmohkaa
