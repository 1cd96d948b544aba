/-
  Tokens: tokenBegun returns true.
-/
import Derived.Test.YtpaeihifcmohkaaTokBackP
import Derived.Test.YtpaeihifcmohkaaTokBr
import Derived.Test.YtpaeihifcmohkaaSimW
import Derived.KernelRfl
namespace Go.Proofs.Ytpaeihifcmohkaa
open Go.RowKit
set_option maxRecDepth 100000

def src0 : ByteArray := ⟨#[83, 32, 61, 32, 34, 97, 34, 32, 35, 32, 120]⟩
theorem scan_src0 : Old.scanR src0 = ([⟨1, 0, ⟨#[83]⟩⟩, ⟨3, 2, ⟨#[61]⟩⟩, ⟨2, 4, ⟨#[97]⟩⟩], 0, 0) := by kernel_rfl
theorem scan0_sim : ACalls Try.prog 16 [Str ⟨#[83, 32, 61, 32, 34, 97, 34, 32, 35, 32, 120]⟩] [] (.tup [.d (tksD [⟨1, 0, ⟨#[83]⟩⟩, ⟨3, 2, ⟨#[61]⟩⟩, ⟨2, 4, ⟨#[97]⟩⟩]), .d (.agg [iD 0, iD 0])]) [] := by
  have h := scan_sim src0 (by decide)
  rw [scan_src0] at h
  exact h
theorem nameA_sim : ACalls Try.prog 19 [Str ⟨#[83, 49]⟩] [] (B true) [] := by
  have h := name_sim ⟨#[83, 49]⟩ (by decide)
  rwa [show Old.nameB ⟨#[83, 49]⟩ = true by decide] at h
theorem nameB_sim : ACalls Try.prog 19 [Str ⟨#[49]⟩] [] (B false) [] := by
  have h := name_sim ⟨#[49]⟩ (by decide)
  rwa [show Old.nameB ⟨#[49]⟩ = false by decide] at h
theorem termA_sim : ACalls Try.prog 21 [Str ⟨#[43, 32, 45]⟩] [] (B true) [] := by
  have h := term_sim ⟨#[43, 32, 45]⟩ (by decide)
  rwa [show Old.termB ⟨#[43, 32, 45]⟩ = true by decide] at h
theorem tokenBegun_sim : ACalls Try.prog 15 [] [] (B true) [] := by
  refine ACalls.intro (n := 39) Try.func15 rfl rfl (by simp) (by rfl) ?_
  simp only [argFr]
  repeat (first | refine wk ?_)
  refine s_call [] (hA := scan0_sim) (hr := ?_)
  repeat (first | refine wk ?_)
  refine s_call [] (hA := nameA_sim) (hr := ?_)
  repeat (first | refine wk ?_)
  refine s_call [] (hA := nameB_sim) (hr := ?_)
  repeat (first | refine wk ?_)
  refine s_call [] (hA := termA_sim) (hr := ?_)
  repeat (first | refine wk ?_)
  exact fin
end Go.Proofs.Ytpaeihifcmohkaa
