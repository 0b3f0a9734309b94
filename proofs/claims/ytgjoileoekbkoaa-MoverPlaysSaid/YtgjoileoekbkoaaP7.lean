/-
  The contracts of the mover's functions, as calls.
-/
import Derived.Test.YtgjoileoekbkoaaP2
import Derived.Test.YtgjoileoekbkoaaP3
import Derived.Test.YtgjoileoekbkoaaP4
import Derived.Test.YtgjoileoekbkoaaP5
import Derived.Test.YtgjoileoekbkoaaP6
set_option linter.unusedVariables false
namespace Go.Proofs.Ytgjoileoekbkoaa
open Go Go.SX

theorem enter_of {P : Program} {g : FuncId} {fn : Func} {c : Code} (hf : P.funcs[g]? = some fn) (hn : (fn.name == "runtime.NumGoroutine") = false) (hb : fn.body = some c) (args : Array Value) (w : World) : (callFunc g args).run P w = .ok (.enter g args) w := by
  have hn' : ¬ fn.name = "runtime.NumGoroutine" := by simpa using hn
  simp [callFunc, go_sem, hf, hb, hn']

theorem noFs {P : Program} : ∀ (g : FuncId) (S : FT), (fun _ => none : FuncId → Option FT) g = some S → FnOk P g S ∧ ∀ args w, (callFunc g args).run P w = .ok (.enter g args) w := fun _ _ h => nomatch h
theorem noIt {P : Program} : ∀ (g : FuncId) (I : Yd → Nat → List SV → SState → (SState → Prop) → Prop), (fun _ => none : FuncId → Option (Yd → Nat → List SV → SState → (SState → Prop) → Prop)) g = some I → ItOk P g I ∧ ∀ args w, (callFunc g args).run P w = .ok (.enter g args) w := fun _ _ h => nomatch h
theorem lk_one {α : Type _} {k : Nat} {v : α} {g : Nat} {I : α} (h : lk [(k, v)] g = some I) : g = k ∧ I = v := by
  rw [lk_cons] at h
  split at h
  · rename_i e; cases h; exact ⟨e.symm, rfl⟩
  · simp [lk] at h
theorem F22 : OkF 22 (fnS knowS) := ⟨(FSpec.ok_of_sx Try.func22 b22 mixed knowS Γ22 (by kernel_rfl) rfl tyL_ok eqL_ok (noFs) rfl noIt (fun _ => rfl) knowS_g).fn, (enter_of Try.func22 (by kernel_rfl) b22)⟩
theorem F27 : OkF 27 (inl Γ27 c27 r27) := ⟨fnOk_inl Try.func27 b27 mixed Γ27 (by kernel_rfl) tyL_ok eqL_ok (noFs) noIt, (enter_of Try.func27 (by kernel_rfl) b27)⟩
theorem F26 : OkF 26 (fnS nextS) := ⟨(FSpec.ok_of_sx Try.func26 b26 mixed nextS Γ26 (by kernel_rfl) rfl tyL_ok eqL_ok (allFs_get ⟨F27, trivial⟩) rfl noIt (fun _ => rfl) nextS_g).fn, (enter_of Try.func26 (by kernel_rfl) b26)⟩
theorem F20 : OkF 20 (fnS rknowS) := ⟨(FSpec.ok_of_sx Try.func20 b20 mixed rknowS Γ20 (by kernel_rfl) rfl tyL_ok eqL_ok (noFs) rfl noIt (fun _ => rfl) rknowS_g).fn, (enter_of Try.func20 (by kernel_rfl) b20)⟩
theorem F23 : OkF 23 (fnS hearS) := ⟨(FSpec.ok_of_sx Try.func23 b23 mixed hearS Γ23 (by kernel_rfl) rfl tyL_ok eqL_ok (noFs) rfl noIt (fun _ => rfl) hearS_g).fn, (enter_of Try.func23 (by kernel_rfl) b23)⟩
theorem F15 : OkF 15 (fnS hasS) := ⟨(FSpec.ok_of_sx Try.func15 b15 mixed hasS Γ15 (by kernel_rfl) rfl tyL_ok eqL_ok (noFs) rfl noIt (fun _ => rfl) hasS_g).fn, (enter_of Try.func15 (by kernel_rfl) b15)⟩
theorem F16 : OkF 16 (fnS rcountS) := ⟨(FSpec.ok_of_sx Try.func16 b16 mixed rcountS Γ16 (by kernel_rfl) rfl tyL_ok eqL_ok (noFs) rfl noIt (fun _ => rfl) rcountS_g).fn, (enter_of Try.func16 (by kernel_rfl) b16)⟩
theorem F21 : OkF 21 (inl Γ21 c21 r21) := ⟨fnOk_inl Try.func21 b21 mixed Γ21 (by kernel_rfl) tyL_ok eqL_ok (noFs) noIt, (enter_of Try.func21 (by kernel_rfl) b21)⟩
theorem F8 : OkF 8 (fnS sameS) := ⟨(FSpec.ok_of_sx Try.func8 b8 mixed sameS Γ8 (by kernel_rfl) rfl tyL_ok eqL_ok (allFs_get ⟨F21, trivial⟩) rfl noIt (fun _ => rfl) sameS_g).fn, (enter_of Try.func8 (by kernel_rfl) b8)⟩
theorem F19 : OkF 19 (inl Γ19 c19 r19) := ⟨fnOk_inl Try.func19 b19 mixed Γ19 (by kernel_rfl) tyL_ok eqL_ok (noFs) noIt, (enter_of Try.func19 (by kernel_rfl) b19)⟩
theorem F25 : ItOk Try.prog 25 (itOf Γ25 c25) ∧ ∀ args w, (callFunc 25 args).run Try.prog w = .ok (.enter 25 args) w := ⟨itOk_of_sx Try.func25 b25 mixed (by kernel_rfl) Γ25 (by kernel_rfl) tyL_ok eqL_ok (allFs_get ⟨F22, F26, trivial⟩) noIt, (enter_of Try.func25 (by kernel_rfl) b25)⟩
theorem F5 : OkF 5 (fnS asksS) := ⟨(FSpec.ok_of_sx Try.func5 b5 mixed asksS Γ5 (by kernel_rfl) rfl tyL_ok eqL_ok (allFs_get ⟨F19, trivial⟩) rfl (fun g I h => by obtain ⟨rfl, rfl⟩ := lk_one h; exact F25) (fun _ => rfl) asksS_g).fn, (enter_of Try.func5 (by kernel_rfl) b5)⟩
theorem F12 : OkF 12 (fnS toldS) := ⟨(FSpec.ok_of_sx Try.func12 b12 mixed toldS Γ12 (by kernel_rfl) rfl tyL_ok eqL_ok (allFs_get ⟨F22, F23, trivial⟩) rfl noIt (fun _ => rfl) toldS_g).fn, (enter_of Try.func12 (by kernel_rfl) b12)⟩
theorem F7 : OkF 7 (fnS rasksS) := ⟨(FSpec.ok_of_sx Try.func7 b7 mixed rasksS Γ7 (by kernel_rfl) rfl tyL_ok eqL_ok (allFs_get ⟨F20, trivial⟩) rfl noIt (fun _ => rfl) rasksS_g).fn, (enter_of Try.func7 (by kernel_rfl) b7)⟩
theorem F24 : OkF 24 (inl Γ24 c24 r24) := ⟨fnOk_inl Try.func24 b24 mixed Γ24 (by kernel_rfl) tyL_ok eqL_ok (noFs) noIt, (enter_of Try.func24 (by kernel_rfl) b24)⟩
theorem K14 : rtoldT.ok Try.prog 14 := FSpec.ok_of_sxX Try.func14 b14 mixed rtoldT Γ14 (fun _ => by kernel_rfl) (fun _ => rfl) (fun _ => tyL_ok) (fun _ => eqL_ok) (fun _ => allFs_get ⟨F20, F24, trivial⟩) (fun _ => rfl) (fun _ => noIt) (fun _ => rfl) rtoldT_g
theorem F14 : OkF 14 (fnS rtoldT) := ⟨K14.fn, (enter_of Try.func14 (by kernel_rfl) b14)⟩
theorem F10 : OkF 10 (fnS spoilS) := ⟨(FSpec.ok_of_sx Try.func10 b10 mixed spoilS Γ10 (by kernel_rfl) rfl tyL_ok eqL_ok (noFs) rfl noIt (fun _ => rfl) spoilS_g).fn, (enter_of Try.func10 (by kernel_rfl) b10)⟩
theorem F4 : OkF 4 (inl Γ4 c4 r4) := ⟨fnOk_inl Try.func4 b4 mixed Γ4 (by kernel_rfl) tyL_ok eqL_ok (noFs) noIt, (enter_of Try.func4 (by kernel_rfl) b4)⟩
theorem F17 : OkF 17 (inl Γ17 c17 r17) := ⟨fnOk_inl Try.func17 b17 mixed Γ17 (by kernel_rfl) tyL_ok eqL_ok (noFs) noIt, (enter_of Try.func17 (by kernel_rfl) b17)⟩
theorem F18 : OkF 18 (fnS knownS) := ⟨(FSpec.ok_of_sx Try.func18 b18 mixed knownS Γ18 (by kernel_rfl) rfl tyL_ok eqL_ok (allFs_get ⟨F4, F5, F12, F15, F17, trivial⟩) rfl noIt (fun _ => rfl) knownS_g).fn, (enter_of Try.func18 (by kernel_rfl) b18)⟩
theorem F6 : OkF 6 (inl Γ6 c6 r6) := ⟨fnOk_inl Try.func6 b6 mixed Γ6 (by kernel_rfl) tyL_ok eqL_ok (noFs) noIt, (enter_of Try.func6 (by kernel_rfl) b6)⟩
theorem F9 : OkF 9 (inl Γ9 c9 r9) := ⟨fnOk_inl Try.func9 b9 mixed Γ9 (by kernel_rfl) tyL_ok eqL_ok (noFs) noIt, (enter_of Try.func9 (by kernel_rfl) b9)⟩
theorem F11 : OkF 11 (inl Γ11 c11 r11) := ⟨fnOk_inl Try.func11 b11 mixed Γ11 (by kernel_rfl) tyL_ok eqL_ok (noFs) noIt, (enter_of Try.func11 (by kernel_rfl) b11)⟩
theorem F13 : OkF 13 (inl Γ13 c13 r13) := ⟨fnOk_inl Try.func13 b13 mixed Γ13 (by kernel_rfl) tyL_ok eqL_ok (noFs) noIt, (enter_of Try.func13 (by kernel_rfl) b13)⟩
theorem K3 : lawS.ok Try.prog 3 := FSpec.ok_of_sxX Try.func3 b3 mixed lawS Γ3 (fun _ => by kernel_rfl) (fun _ => rfl) (fun _ => tyL_ok) (fun _ => eqL_ok) (fun _ => allFs_get ⟨F4, F5, F6, F7, F8, F9, F10, F11, F12, F13, F14, F15, F16, F17, F18, trivial⟩) (fun _ => rfl) (fun _ => noIt) (fun _ => rfl) lawS_g
theorem F3 : OkF 3 (fnS lawS) := ⟨K3.fn, (enter_of Try.func3 (by kernel_rfl) b3)⟩
end Go.Proofs.Ytgjoileoekbkoaa
