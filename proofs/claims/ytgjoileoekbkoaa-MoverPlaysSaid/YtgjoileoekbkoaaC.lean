/-
  The bodies; written by gencode.py.
-/
import Derived.Test.YtgjoileoekbkoaaTy
import Derived.Test.YtgjoileoekbkoaaDr
namespace Go.Proofs.Ytgjoileoekbkoaa
open Go Go.SX

abbrev bodyOf (f : Func) : Code := match f.body with
  | some c => c
  | none => .skip
/-- What is asked of a function for its contract. -/
def goalS (Γ : Env) (c : Code) (S : FSpec) (rs : List ResultVar) : Prop := ∀ x, S.pp x → sxC Γ c (initS S x) (retK S Γ.ty rs x)
/-- The same, where what is noted of its loops leans on what it is handed. -/
def goalX (c : Code) (S : FSpec) (rs : List ResultVar) (Γ : S.X → Env) : Prop := ∀ x, S.pp x → sxC (Γ x) c (initS S x) (retK S (Γ x).ty rs x)
abbrev Γ0 : Env := { N := 0, F := 0, ty := lk tyL, eq := lk eqL, fs := fun _ => none, lp := fun _ => none, ct := fun _ _ => none, ur := fun _ => 0, dr := fun _ => none, yd := none, it := fun _ => none }
theorem mixed : Try.prog.follows .mixedOrders = true := by kernel_rfl
abbrev OkF (g : FuncId) (I : FT) : Prop := FnOk Try.prog g I ∧ ∀ args w, (callFunc g args).run Try.prog w = .ok (.enter g args) w

noncomputable def c3 : Code := bodyOf Try.f3
noncomputable def r3 : List ResultVar := Try.f3.results.toList
theorem b3 : Try.f3.body = some c3 := by kernel_rfl
noncomputable def c4 : Code := bodyOf Try.f4
noncomputable def r4 : List ResultVar := Try.f4.results.toList
theorem b4 : Try.f4.body = some c4 := by kernel_rfl
noncomputable def c5 : Code := bodyOf Try.f5
noncomputable def r5 : List ResultVar := Try.f5.results.toList
theorem b5 : Try.f5.body = some c5 := by kernel_rfl
noncomputable def c6 : Code := bodyOf Try.f6
noncomputable def r6 : List ResultVar := Try.f6.results.toList
theorem b6 : Try.f6.body = some c6 := by kernel_rfl
noncomputable def c7 : Code := bodyOf Try.f7
noncomputable def r7 : List ResultVar := Try.f7.results.toList
theorem b7 : Try.f7.body = some c7 := by kernel_rfl
noncomputable def c8 : Code := bodyOf Try.f8
noncomputable def r8 : List ResultVar := Try.f8.results.toList
theorem b8 : Try.f8.body = some c8 := by kernel_rfl
noncomputable def c9 : Code := bodyOf Try.f9
noncomputable def r9 : List ResultVar := Try.f9.results.toList
theorem b9 : Try.f9.body = some c9 := by kernel_rfl
noncomputable def c10 : Code := bodyOf Try.f10
noncomputable def r10 : List ResultVar := Try.f10.results.toList
theorem b10 : Try.f10.body = some c10 := by kernel_rfl
noncomputable def c11 : Code := bodyOf Try.f11
noncomputable def r11 : List ResultVar := Try.f11.results.toList
theorem b11 : Try.f11.body = some c11 := by kernel_rfl
noncomputable def c12 : Code := bodyOf Try.f12
noncomputable def r12 : List ResultVar := Try.f12.results.toList
theorem b12 : Try.f12.body = some c12 := by kernel_rfl
noncomputable def c13 : Code := bodyOf Try.f13
noncomputable def r13 : List ResultVar := Try.f13.results.toList
theorem b13 : Try.f13.body = some c13 := by kernel_rfl
noncomputable def c14 : Code := bodyOf Try.f14
noncomputable def r14 : List ResultVar := Try.f14.results.toList
theorem b14 : Try.f14.body = some c14 := by kernel_rfl
noncomputable def c15 : Code := bodyOf Try.f15
noncomputable def r15 : List ResultVar := Try.f15.results.toList
theorem b15 : Try.f15.body = some c15 := by kernel_rfl
noncomputable def c16 : Code := bodyOf Try.f16
noncomputable def r16 : List ResultVar := Try.f16.results.toList
theorem b16 : Try.f16.body = some c16 := by kernel_rfl
noncomputable def c17 : Code := bodyOf Try.f17
noncomputable def r17 : List ResultVar := Try.f17.results.toList
theorem b17 : Try.f17.body = some c17 := by kernel_rfl
noncomputable def c18 : Code := bodyOf Try.f18
noncomputable def r18 : List ResultVar := Try.f18.results.toList
theorem b18 : Try.f18.body = some c18 := by kernel_rfl
noncomputable def c19 : Code := bodyOf Try.f19
noncomputable def r19 : List ResultVar := Try.f19.results.toList
theorem b19 : Try.f19.body = some c19 := by kernel_rfl
noncomputable def c20 : Code := bodyOf Try.f20
noncomputable def r20 : List ResultVar := Try.f20.results.toList
theorem b20 : Try.f20.body = some c20 := by kernel_rfl
noncomputable def c21 : Code := bodyOf Try.f21
noncomputable def r21 : List ResultVar := Try.f21.results.toList
theorem b21 : Try.f21.body = some c21 := by kernel_rfl
noncomputable def c22 : Code := bodyOf Try.f22
noncomputable def r22 : List ResultVar := Try.f22.results.toList
theorem b22 : Try.f22.body = some c22 := by kernel_rfl
noncomputable def c23 : Code := bodyOf Try.f23
noncomputable def r23 : List ResultVar := Try.f23.results.toList
theorem b23 : Try.f23.body = some c23 := by kernel_rfl
noncomputable def c24 : Code := bodyOf Try.f24
noncomputable def r24 : List ResultVar := Try.f24.results.toList
theorem b24 : Try.f24.body = some c24 := by kernel_rfl
noncomputable def c25 : Code := bodyOf Try.f25
noncomputable def r25 : List ResultVar := Try.f25.results.toList
theorem b25 : Try.f25.body = some c25 := by kernel_rfl
noncomputable def c26 : Code := bodyOf Try.f26
noncomputable def r26 : List ResultVar := Try.f26.results.toList
theorem b26 : Try.f26.body = some c26 := by kernel_rfl
noncomputable def c27 : Code := bodyOf Try.f27
noncomputable def r27 : List ResultVar := Try.f27.results.toList
theorem b27 : Try.f27.body = some c27 := by kernel_rfl
end Go.Proofs.Ytgjoileoekbkoaa
