/-
  The functions of this seat as plain Lean functions, and that the program computes them: the second part. No condition.
-/
import Derived.Test.YtdaafnncfkibkaaGreatN37
import Derived.Test.YtdaafnncfkibkaaGreatm3X
import Derived.Test.YtdaafnncfkibkaaGreatProg
import Derived.KernelRfl
import Derived.Test.YtdaafnncfkibkaaGreatm3Qa
namespace Go.Proofs.YtdaafnncfkibkaaGreat
open Go.Abs
set_option linter.unusedVariables false
set_option maxRecDepth 100000
def spec_l24Fits (x : (D_Project × (D_Plan × (Int × D_Step)))) (c : Unit) : (Option (Bool × Unit)) :=
  ((((spec_l24Copy (x.2.1, ()) ()).bind fun v0 => (some v0.1)) : (Option D_Plan)).bind fun v1 => ((((getI v1.1.1 x.2.2.1).bind fun v2 => (some ())) : (Option Unit)).bind fun v3 => ((((((getI v1.1.1 x.2.2.1).bind fun v4 => (some v4)) : (Option Int)).bind fun v5 => (some x.2.2.2.2.1)) : (Option Int)).bind fun v6 => ((((getI v1.1.2.1 x.2.2.1).bind fun v7 => (some ())) : (Option Unit)).bind fun v8 => ((((((getI v1.1.2.1 x.2.2.1).bind fun v9 => (some v9)) : (Option Int)).bind fun v10 => (some x.2.2.2.1)) : (Option Int)).bind fun v11 => ((((spec_SetAdd (v1.2.1, (x.2.2.1, ())) ()).bind fun v12 => (some v12.1)) : (Option (List Int))).bind fun v13 => ((((spec_l09End (x.1, (((setI v1.1.1 x.2.2.1 (fun v14 => v6)), ((setI v1.1.2.1 x.2.2.1 (fun v15 => v11)), v1.1.2.2)), (x.2.2.1, ()))) ()).bind fun v16 => (some v16.1)) : (Option Int)).bind fun v17 => (((if (leZ v17 x.1.1) then ((((spec_l24Links (x.1, ((((setI v1.1.1 x.2.2.1 (fun v18 => v6)), ((setI v1.1.2.1 x.2.2.1 (fun v19 => v11)), v1.1.2.2)), (v13, v1.2.2)), (x.2.2.1, ()))) ()).bind fun v20 => (some v20.1)) : (Option Bool)).bind fun v21 => (((if v21 then ((((spec_l24Room (x.1, ((((setI v1.1.1 x.2.2.1 (fun v22 => v6)), ((setI v1.1.2.1 x.2.2.1 (fun v23 => v11)), v1.1.2.2)), (v13, v1.2.2)), (x.2.2.1, ()))) ()).bind fun v24 => (some v24.1)) : (Option Bool)).bind fun v25 => (((if v25 then ((((spec_l24Stocks (x.1, ((((setI v1.1.1 x.2.2.1 (fun v26 => v6)), ((setI v1.1.2.1 x.2.2.1 (fun v27 => v11)), v1.1.2.2)), (v13, v1.2.2)), ())) ()).bind fun v28 => (some v28.1)) : (Option Bool)).bind fun v29 => (some (v29, ()))) else (some (false, ()))) : (Option (Bool × Unit))).bind fun v30 => (some (v30.1, ())))) else (some (false, ()))) : (Option (Bool × Unit))).bind fun v31 => (some (v31.1, ())))) else (some (false, ()))) : (Option (Bool × Unit))).bind fun v32 => (some (v32.1, ()))))))))))
def H_46 : Hd := ⟨[y_1, y_5, .int .i64, .int .i64, .int .i64], [], none, .p, .bool, .p, [(599999, .p), (500011, (.u (.s (.s (.u .p) (.s (.u .p) .p)) (.s .p .p))))]⟩
def T_46 : FSig := sg_ H_46 spec_l24Fits
theorem E_46 : fnOf tys [(21, T_21), (22, T_22), (73, T_73), (74, T_74), (75, T_75), (76, T_76)] Tryz.f46 H_46 = T_46 := by kernel_rfl
theorem K_46 : SigOk Tryz.prog 46 T_46 := k_o E_46 ⟨K_21, K_22, K_73, K_74, K_75, K_76, trivial⟩ Tryz.func46
def spec_PlanFits (x : (D_Project × (D_Plan × (Int × D_Step)))) (c : Unit) : (Option (Bool × Unit)) :=
  ((((spec_l24Ok (x.1, (x.2.1, (x.2.2.1, (x.2.2.2.1, ())))) ()).bind fun v0 => (some v0.1)) : (Option Bool)).bind fun v1 => (((if v1 then ((((spec_l01In (x.2.2.2.2.1, (0, (60, ()))) ()).bind fun v2 => (some v2.1)) : (Option Bool)).bind fun v3 => (((if v3 then ((((spec_l24Fits x ()).bind fun v4 => (some v4.1)) : (Option Bool)).bind fun v5 => (some (v5, ()))) else (some (false, ()))) : (Option (Bool × Unit))).bind fun v6 => (some (v6.1, ())))) else (some (false, ()))) : (Option (Bool × Unit))).bind fun v7 => (some (v7.1, ()))))
def H_20 : Hd := ⟨[y_1, y_5, .int .i64, .int .i64, .int .i64], [], none, .p, .bool, .p, []⟩
def T_20 : FSig := sg_ H_20 spec_PlanFits
theorem E_20 : fnOf tys [(44, T_44), (45, T_45), (46, T_46)] Tryz.f20 H_20 = T_20 := by kernel_rfl
theorem K_20 : SigOk Tryz.prog 20 T_20 := k_o E_20 ⟨K_44, K_45, K_46, trivial⟩ Tryz.func20
def spec_PlanAdd (x : (D_Project × (D_Plan × (Int × D_Step)))) (c : Unit) : (Option ((D_Plan × (Bool × Unit)) × Unit)) :=
  ((((spec_PlanFits x ()).bind fun v0 => (some v0.1)) : (Option Bool)).bind fun v1 => (if (notB v1) then (some (((([], ([], ())), ([], ())), (false, ())), ())) else ((((spec_l24Copy (x.2.1, ()) ()).bind fun v2 => (some v2.1)) : (Option D_Plan)).bind fun v3 => ((((getI v3.1.1 x.2.2.1).bind fun v4 => (some ())) : (Option Unit)).bind fun v5 => ((((((getI v3.1.1 x.2.2.1).bind fun v6 => (some v6)) : (Option Int)).bind fun v7 => (some x.2.2.2.2.1)) : (Option Int)).bind fun v8 => ((((getI v3.1.2.1 x.2.2.1).bind fun v9 => (some ())) : (Option Unit)).bind fun v10 => ((((((getI v3.1.2.1 x.2.2.1).bind fun v11 => (some v11)) : (Option Int)).bind fun v12 => (some x.2.2.2.1)) : (Option Int)).bind fun v13 => ((((spec_SetAdd (v3.2.1, (x.2.2.1, ())) ()).bind fun v14 => (some v14.1)) : (Option (List Int))).bind fun v15 => (some (((((setI v3.1.1 x.2.2.1 (fun v16 => v8)), ((setI v3.1.2.1 x.2.2.1 (fun v17 => v13)), v3.1.2.2)), (v15, v3.2.2)), (true, ())), ()))))))))))
def H_6 : Hd := ⟨[y_1, y_5, .int .i64, .int .i64, .int .i64], [], none, .p, .tup [y_5, .bool], .p, [(799999, .p), (700012, (.u (.s (.s (.u .p) (.s (.u .p) .p)) (.s .p .p))))]⟩
def T_6 : FSig := sg_ H_6 spec_PlanAdd
theorem E_6 : fnOf tys [(20, T_20), (21, T_21), (22, T_22)] Tryz.f6 H_6 = T_6 := by kernel_rfl
theorem K_6 : SigOk Tryz.prog 6 T_6 := k_o E_6 ⟨K_20, K_21, K_22, trivial⟩ Tryz.func6
def laws_toIntS_L0 : D_Mode → Option (Out D_Mode ((Bool × D_Mode) ⊕ Empty) ((List Int) × Unit)) :=
  (fun v1 => (if (ltZ v1.1 (lenI v1.2.1)) then ((getI v1.2.1 v1.1).bind fun v2 => ((((getI v1.2.2.1 v1.1).bind fun v3 => (some ())) : (Option Unit)).bind fun v4 => ((((((getI v1.2.2.1 v1.1).bind fun v5 => (some v5)) : (Option Int)).bind fun v6 => (some v2)) : (Option Int)).bind fun v7 => (some (Out.norm ((addZ .i64 v1.1 1), (v1.2.1, ((setI v1.2.2.1 v1.1 (fun v8 => v7)), ())))))))) else (some (Out.exit (Sum.inl ((ltZ v1.1 (lenI v1.2.1)), v1))))))
def laws_toIntS (x : ((List Int) × Unit)) (c : Unit) : (Option ((List Int) × Unit)) :=
  (((if (eqZ (lenI x.1) (lenI x.1)) then (zerosI (lenI x.1) 0) else none) : (Option (List Int))).bind fun v0 => ((loopN (A := D_Mode) big laws_toIntS_L0 (0, (x.1, (v0, ())))).bind fun v9 => (match v9 with | Out.norm v10 => none | Out.exit v11 => (match ((match v11 with | Sum.inl v14 => (Sum.inl (v14.2.2.2.1, ())) | Sum.inr v15 => (Empty.elim v15)) : (((List Int) × Unit) ⊕ Empty)) with | Sum.inl v12 => (some (v12.1, ())) | Sum.inr v13 => none) | Out.ret v16 => (some v16))))
def H_26 : Hd := ⟨[.sl 3 (.int .i64)], [], none, .p, .sl 3 (.int .i64), (Ty.all (.sl 3 (.int .i64))), []⟩
def T_26 : FSig := sg_ H_26 laws_toIntS
theorem E_26 : fnOf tys [] Tryz.f26 H_26 = T_26 := by kernel_rfl
theorem K_26 : SigOk Tryz.prog 26 T_26 := k_o E_26 trivial Tryz.func26
def laws_toMode (x : (D_Mode × Unit)) (c : Unit) : (Option (D_Mode × Unit)) :=
  ((((laws_toIntS (x.1.2.1, ()) ()).bind fun v0 => (some v0.1)) : (Option (List Int))).bind fun v1 => ((((laws_toIntS (x.1.2.2.1, ()) ()).bind fun v2 => (some v2.1)) : (Option (List Int))).bind fun v3 => (some ((x.1.1, (v1, (v3, ()))), ()))))
def H_106 : Hd := ⟨[y_6], [], none, .p, y_6, (Ty.all (y_6)), []⟩
def T_106 : FSig := sg_ H_106 laws_toMode
theorem E_106 : fnOf tys [(26, T_26)] Tryz.f106 H_106 = T_106 := by kernel_rfl
theorem K_106 : SigOk Tryz.prog 106 T_106 := k_o E_106 ⟨K_26, trivial⟩ Tryz.func106
abbrev s_laws_toModeS_L0 : Type := (Int × ((List D_Mode) × ((List D_Mode) × Unit)))
def laws_toModeS_L0 : s_laws_toModeS_L0 → Option (Out s_laws_toModeS_L0 ((Bool × s_laws_toModeS_L0) ⊕ Empty) ((List D_Mode) × Unit)) :=
  (fun v1 => (if (ltZ v1.1 (lenI v1.2.1)) then ((getI v1.2.1 v1.1).bind fun v2 => ((((laws_toMode (v2, ()) ()).bind fun v3 => (some v3.1)) : (Option D_Mode)).bind fun v4 => ((((getI v1.2.2.1 v1.1).bind fun v5 => (some ())) : (Option Unit)).bind fun v6 => ((((((getI v1.2.2.1 v1.1).bind fun v7 => (some v7)) : (Option D_Mode)).bind fun v8 => (some v4)) : (Option D_Mode)).bind fun v9 => (some (Out.norm ((addZ .i64 v1.1 1), (v1.2.1, ((setI v1.2.2.1 v1.1 (fun v10 => v9)), ()))))))))) else (some (Out.exit (Sum.inl ((ltZ v1.1 (lenI v1.2.1)), v1))))))
def laws_toModeS (x : ((List D_Mode) × Unit)) (c : Unit) : (Option ((List D_Mode) × Unit)) :=
  (((if (eqZ (lenI x.1) (lenI x.1)) then (zerosI (lenI x.1) (0, ([], ([], ())))) else none) : (Option (List D_Mode))).bind fun v0 => ((loopN (A := s_laws_toModeS_L0) big laws_toModeS_L0 (0, (x.1, (v0, ())))).bind fun v11 => (match v11 with | Out.norm v12 => none | Out.exit v13 => (match ((match v13 with | Sum.inl v16 => (Sum.inl (v16.2.2.2.1, ())) | Sum.inr v17 => (Empty.elim v17)) : (((List D_Mode) × Unit) ⊕ Empty)) with | Sum.inl v14 => (some (v14.1, ())) | Sum.inr v15 => none) | Out.ret v18 => (some v18))))
def H_77 : Hd := ⟨[.sl 132 (y_6)], [], none, .p, .sl 102 (y_6), (Ty.all (.sl 102 (y_6))), []⟩
def T_77 : FSig := sg_ H_77 laws_toModeS
theorem E_77 : fnOf tys [(106, T_106)] Tryz.f77 H_77 = T_77 := by kernel_rfl
theorem K_77 : SigOk Tryz.prog 77 T_77 := k_o E_77 ⟨K_106, trivial⟩ Tryz.func77
def laws_toActivity (x : (D_Activity × Unit)) (c : Unit) : (Option (D_Activity × Unit)) :=
  ((((laws_toModeS (x.1.2.2.1, ()) ()).bind fun v0 => (some v0.1)) : (Option (List D_Mode))).bind fun v1 => (some ((x.1.1, (x.1.2.1, (v1, ()))), ())))
def H_50 : Hd := ⟨[y_2], [], none, .p, y_3, (Ty.all (y_3)), []⟩
def T_50 : FSig := sg_ H_50 laws_toActivity
theorem E_50 : fnOf tys [(77, T_77)] Tryz.f50 H_50 = T_50 := by kernel_rfl
theorem K_50 : SigOk Tryz.prog 50 T_50 := k_o E_50 ⟨K_77, trivial⟩ Tryz.func50
abbrev s_laws_toActivityS_L0 : Type := (Int × ((List D_Activity) × ((List D_Activity) × Unit)))
def laws_toActivityS_L0 : s_laws_toActivityS_L0 → Option (Out s_laws_toActivityS_L0 ((Bool × s_laws_toActivityS_L0) ⊕ Empty) ((List D_Activity) × Unit)) :=
  (fun v1 => (if (ltZ v1.1 (lenI v1.2.1)) then ((getI v1.2.1 v1.1).bind fun v2 => ((((laws_toActivity (v2, ()) ()).bind fun v3 => (some v3.1)) : (Option D_Activity)).bind fun v4 => ((((getI v1.2.2.1 v1.1).bind fun v5 => (some ())) : (Option Unit)).bind fun v6 => ((((((getI v1.2.2.1 v1.1).bind fun v7 => (some v7)) : (Option D_Activity)).bind fun v8 => (some v4)) : (Option D_Activity)).bind fun v9 => (some (Out.norm ((addZ .i64 v1.1 1), (v1.2.1, ((setI v1.2.2.1 v1.1 (fun v10 => v9)), ()))))))))) else (some (Out.exit (Sum.inl ((ltZ v1.1 (lenI v1.2.1)), v1))))))
def laws_toActivityS (x : ((List D_Activity) × Unit)) (c : Unit) : (Option ((List D_Activity) × Unit)) :=
  (((if (eqZ (lenI x.1) (lenI x.1)) then (zerosI (lenI x.1) ([], (0, ([], ())))) else none) : (Option (List D_Activity))).bind fun v0 => ((loopN (A := s_laws_toActivityS_L0) big laws_toActivityS_L0 (0, (x.1, (v0, ())))).bind fun v11 => (match v11 with | Out.norm v12 => none | Out.exit v13 => (match ((match v13 with | Sum.inl v16 => (Sum.inl (v16.2.2.2.1, ())) | Sum.inr v17 => (Empty.elim v17)) : (((List D_Activity) × Unit) ⊕ Empty)) with | Sum.inl v14 => (some (v14.1, ())) | Sum.inr v15 => none) | Out.ret v18 => (some v18))))
def H_23 : Hd := ⟨[.sl 77 (y_2)], [], none, .p, .sl 88 (y_3), (Ty.all (.sl 88 (y_3))), []⟩
def T_23 : FSig := sg_ H_23 laws_toActivityS
theorem E_23 : fnOf tys [(50, T_50)] Tryz.f23 H_23 = T_23 := by kernel_rfl
theorem K_23 : SigOk Tryz.prog 23 T_23 := k_o E_23 ⟨K_50, trivial⟩ Tryz.func23
def laws_toLink (x : (D_Link × Unit)) (c : Unit) : (Option (D_Link × Unit)) :=
  (some (x.1, ()))
def H_51 : Hd := ⟨[y_7], [], none, .p, y_7, .p, []⟩
def T_51 : FSig := sg_ H_51 laws_toLink
theorem E_51 : fnOf tys [] Tryz.f51 H_51 = T_51 := by kernel_rfl
theorem K_51 : SigOk Tryz.prog 51 T_51 := k_o E_51 trivial Tryz.func51
abbrev s_laws_toLinkS_L0 : Type := (Int × ((List D_Link) × ((List D_Link) × Unit)))
def laws_toLinkS_L0 : s_laws_toLinkS_L0 → Option (Out s_laws_toLinkS_L0 ((Bool × s_laws_toLinkS_L0) ⊕ Empty) ((List D_Link) × Unit)) :=
  (fun v1 => (if (ltZ v1.1 (lenI v1.2.1)) then ((getI v1.2.1 v1.1).bind fun v2 => ((((laws_toLink (v2, ()) ()).bind fun v3 => (some v3.1)) : (Option D_Link)).bind fun v4 => ((((getI v1.2.2.1 v1.1).bind fun v5 => (some ())) : (Option Unit)).bind fun v6 => ((((((getI v1.2.2.1 v1.1).bind fun v7 => (some v7)) : (Option D_Link)).bind fun v8 => (some v4)) : (Option D_Link)).bind fun v9 => (some (Out.norm ((addZ .i64 v1.1 1), (v1.2.1, ((setI v1.2.2.1 v1.1 (fun v10 => v9)), ()))))))))) else (some (Out.exit (Sum.inl ((ltZ v1.1 (lenI v1.2.1)), v1))))))
def laws_toLinkS (x : ((List D_Link) × Unit)) (c : Unit) : (Option ((List D_Link) × Unit)) :=
  (((if (eqZ (lenI x.1) (lenI x.1)) then (zerosI (lenI x.1) (0, (0, (false, (0, ()))))) else none) : (Option (List D_Link))).bind fun v0 => ((loopN (A := s_laws_toLinkS_L0) big laws_toLinkS_L0 (0, (x.1, (v0, ())))).bind fun v11 => (match v11 with | Out.norm v12 => none | Out.exit v13 => (match ((match v13 with | Sum.inl v16 => (Sum.inl (v16.2.2.2.1, ())) | Sum.inr v17 => (Empty.elim v17)) : (((List D_Link) × Unit) ⊕ Empty)) with | Sum.inl v14 => (some (v14.1, ())) | Sum.inr v15 => none) | Out.ret v18 => (some v18))))
def H_24 : Hd := ⟨[.sl 93 (y_7)], [], none, .p, .sl 91 (y_7), (Ty.all (.sl 91 (y_7))), []⟩
def T_24 : FSig := sg_ H_24 laws_toLinkS
theorem E_24 : fnOf tys [(51, T_51)] Tryz.f24 H_24 = T_24 := by kernel_rfl
theorem K_24 : SigOk Tryz.prog 24 T_24 := k_o E_24 ⟨K_51, trivial⟩ Tryz.func24
def laws_toStep (x : (D_Step × Unit)) (c : Unit) : (Option (D_Step × Unit)) :=
  (some (x.1, ()))
def H_107 : Hd := ⟨[.st [.int .i64, .int .i64]], [], none, .p, .st [.int .i64, .int .i64], .p, []⟩
def T_107 : FSig := sg_ H_107 laws_toStep
theorem E_107 : fnOf tys [] Tryz.f107 H_107 = T_107 := by kernel_rfl
theorem K_107 : SigOk Tryz.prog 107 T_107 := k_o E_107 trivial Tryz.func107
abbrev s_laws_toStepS_L0 : Type := (Int × ((List D_Step) × ((List D_Step) × Unit)))
def laws_toStepS_L0 : s_laws_toStepS_L0 → Option (Out s_laws_toStepS_L0 ((Bool × s_laws_toStepS_L0) ⊕ Empty) ((List D_Step) × Unit)) :=
  (fun v1 => (if (ltZ v1.1 (lenI v1.2.1)) then ((getI v1.2.1 v1.1).bind fun v2 => ((((laws_toStep (v2, ()) ()).bind fun v3 => (some v3.1)) : (Option D_Step)).bind fun v4 => ((((getI v1.2.2.1 v1.1).bind fun v5 => (some ())) : (Option Unit)).bind fun v6 => ((((((getI v1.2.2.1 v1.1).bind fun v7 => (some v7)) : (Option D_Step)).bind fun v8 => (some v4)) : (Option D_Step)).bind fun v9 => (some (Out.norm ((addZ .i64 v1.1 1), (v1.2.1, ((setI v1.2.2.1 v1.1 (fun v10 => v9)), ()))))))))) else (some (Out.exit (Sum.inl ((ltZ v1.1 (lenI v1.2.1)), v1))))))
def laws_toStepS (x : ((List D_Step) × Unit)) (c : Unit) : (Option ((List D_Step) × Unit)) :=
  (((if (eqZ (lenI x.1) (lenI x.1)) then (zerosI (lenI x.1) (0, (0, ()))) else none) : (Option (List D_Step))).bind fun v0 => ((loopN (A := s_laws_toStepS_L0) big laws_toStepS_L0 (0, (x.1, (v0, ())))).bind fun v11 => (match v11 with | Out.norm v12 => none | Out.exit v13 => (match ((match v13 with | Sum.inl v16 => (Sum.inl (v16.2.2.2.1, ())) | Sum.inr v17 => (Empty.elim v17)) : (((List D_Step) × Unit) ⊕ Empty)) with | Sum.inl v14 => (some (v14.1, ())) | Sum.inr v15 => none) | Out.ret v18 => (some v18))))
def H_78 : Hd := ⟨[.sl 139 (.st [.int .i64, .int .i64])], [], none, .p, .sl 130 (.st [.int .i64, .int .i64]), (Ty.all (.sl 130 (.st [.int .i64, .int .i64]))), []⟩
def T_78 : FSig := sg_ H_78 laws_toStepS
theorem E_78 : fnOf tys [(107, T_107)] Tryz.f78 H_78 = T_78 := by kernel_rfl
theorem K_78 : SigOk Tryz.prog 78 T_78 := k_o E_78 ⟨K_107, trivial⟩ Tryz.func78
abbrev s_laws_toIntSS_L0 : Type := (Int × ((List (List Int)) × ((List (List Int)) × Unit)))
def laws_toIntSS_L0 : s_laws_toIntSS_L0 → Option (Out s_laws_toIntSS_L0 ((Bool × s_laws_toIntSS_L0) ⊕ Empty) ((List (List Int)) × Unit)) :=
  (fun v1 => (if (ltZ v1.1 (lenI v1.2.1)) then ((getI v1.2.1 v1.1).bind fun v2 => ((((laws_toIntS (v2, ()) ()).bind fun v3 => (some v3.1)) : (Option (List Int))).bind fun v4 => ((((getI v1.2.2.1 v1.1).bind fun v5 => (some ())) : (Option Unit)).bind fun v6 => ((((((getI v1.2.2.1 v1.1).bind fun v7 => (some v7)) : (Option (List Int))).bind fun v8 => (some v4)) : (Option (List Int))).bind fun v9 => (some (Out.norm ((addZ .i64 v1.1 1), (v1.2.1, ((setI v1.2.2.1 v1.1 (fun v10 => v9)), ()))))))))) else (some (Out.exit (Sum.inl ((ltZ v1.1 (lenI v1.2.1)), v1))))))
def laws_toIntSS (x : ((List (List Int)) × Unit)) (c : Unit) : (Option ((List (List Int)) × Unit)) :=
  (((if (eqZ (lenI x.1) (lenI x.1)) then (zerosI (lenI x.1) []) else none) : (Option (List (List Int)))).bind fun v0 => ((loopN (A := s_laws_toIntSS_L0) big laws_toIntSS_L0 (0, (x.1, (v0, ())))).bind fun v11 => (match v11 with | Out.norm v12 => none | Out.exit v13 => (match ((match v13 with | Sum.inl v16 => (Sum.inl (v16.2.2.2.1, ())) | Sum.inr v17 => (Empty.elim v17)) : (((List (List Int)) × Unit) ⊕ Empty)) with | Sum.inl v14 => (some (v14.1, ())) | Sum.inr v15 => none) | Out.ret v18 => (some v18))))
def H_79 : Hd := ⟨[.sl 25 (.sl 3 (.int .i64))], [], none, .p, .sl 25 (.sl 3 (.int .i64)), (Ty.all (.sl 25 (.sl 3 (.int .i64)))), []⟩
def T_79 : FSig := sg_ H_79 laws_toIntSS
theorem E_79 : fnOf tys [(26, T_26)] Tryz.f79 H_79 = T_79 := by kernel_rfl
theorem K_79 : SigOk Tryz.prog 79 T_79 := k_o E_79 ⟨K_26, trivial⟩ Tryz.func79
def laws_toResource (x : (D_Resource × Unit)) (c : Unit) : (Option (D_Resource × Unit)) :=
  ((((laws_toStepS (x.1.1, ()) ()).bind fun v0 => (some v0.1)) : (Option (List D_Step))).bind fun v1 => ((((laws_toIntSS (x.1.2.1, ()) ()).bind fun v2 => (some v2.1)) : (Option (List (List Int)))).bind fun v3 => (some ((v1, (v3, ())), ()))))
def H_52 : Hd := ⟨[.st [.sl 139 (.st [.int .i64, .int .i64]), .sl 25 (.sl 3 (.int .i64))]], [], none, .p, y_4, (Ty.all (y_4)), []⟩
def T_52 : FSig := sg_ H_52 laws_toResource
theorem E_52 : fnOf tys [(78, T_78), (79, T_79)] Tryz.f52 H_52 = T_52 := by kernel_rfl
theorem K_52 : SigOk Tryz.prog 52 T_52 := k_o E_52 ⟨K_78, K_79, trivial⟩ Tryz.func52
abbrev s_laws_toResourceS_L0 : Type := (Int × ((List D_Resource) × ((List D_Resource) × Unit)))
def laws_toResourceS_L0 : s_laws_toResourceS_L0 → Option (Out s_laws_toResourceS_L0 ((Bool × s_laws_toResourceS_L0) ⊕ Empty) ((List D_Resource) × Unit)) :=
  (fun v1 => (if (ltZ v1.1 (lenI v1.2.1)) then ((getI v1.2.1 v1.1).bind fun v2 => ((((laws_toResource (v2, ()) ()).bind fun v3 => (some v3.1)) : (Option D_Resource)).bind fun v4 => ((((getI v1.2.2.1 v1.1).bind fun v5 => (some ())) : (Option Unit)).bind fun v6 => ((((((getI v1.2.2.1 v1.1).bind fun v7 => (some v7)) : (Option D_Resource)).bind fun v8 => (some v4)) : (Option D_Resource)).bind fun v9 => (some (Out.norm ((addZ .i64 v1.1 1), (v1.2.1, ((setI v1.2.2.1 v1.1 (fun v10 => v9)), ()))))))))) else (some (Out.exit (Sum.inl ((ltZ v1.1 (lenI v1.2.1)), v1))))))
def laws_toResourceS (x : ((List D_Resource) × Unit)) (c : Unit) : (Option ((List D_Resource) × Unit)) :=
  (((if (eqZ (lenI x.1) (lenI x.1)) then (zerosI (lenI x.1) ([], ([], ()))) else none) : (Option (List D_Resource))).bind fun v0 => ((loopN (A := s_laws_toResourceS_L0) big laws_toResourceS_L0 (0, (x.1, (v0, ())))).bind fun v11 => (match v11 with | Out.norm v12 => none | Out.exit v13 => (match ((match v13 with | Sum.inl v16 => (Sum.inl (v16.2.2.2.1, ())) | Sum.inr v17 => (Empty.elim v17)) : (((List D_Resource) × Unit) ⊕ Empty)) with | Sum.inl v14 => (some (v14.1, ())) | Sum.inr v15 => none) | Out.ret v18 => (some v18))))
def H_25 : Hd := ⟨[.sl 82 (.st [.sl 139 (.st [.int .i64, .int .i64]), .sl 25 (.sl 3 (.int .i64))])], [], none, .p, .sl 96 (y_4), (Ty.all (.sl 96 (y_4))), []⟩
def T_25 : FSig := sg_ H_25 laws_toResourceS
theorem E_25 : fnOf tys [(52, T_52)] Tryz.f25 H_25 = T_25 := by kernel_rfl
theorem K_25 : SigOk Tryz.prog 25 T_25 := k_o E_25 ⟨K_52, trivial⟩ Tryz.func25
def laws_toProject (x : (D_Project × Unit)) (c : Unit) : (Option (D_Project × Unit)) :=
  ((((laws_toActivityS (x.1.2.1, ()) ()).bind fun v0 => (some v0.1)) : (Option (List D_Activity))).bind fun v1 => ((((laws_toLinkS (x.1.2.2.1, ()) ()).bind fun v2 => (some v2.1)) : (Option (List D_Link))).bind fun v3 => ((((laws_toResourceS (x.1.2.2.2.1, ()) ()).bind fun v4 => (some v4.1)) : (Option (List D_Resource))).bind fun v5 => ((((laws_toIntS (x.1.2.2.2.2.1, ()) ()).bind fun v6 => (some v6.1)) : (Option (List Int))).bind fun v7 => (some ((x.1.1, (v1, (v3, (v5, (v7, ()))))), ()))))))
def H_7 : Hd := ⟨[y_0], [], none, .p, y_1, (Ty.all (y_1)), []⟩
def T_7 : FSig := sg_ H_7 laws_toProject
theorem E_7 : fnOf tys [(23, T_23), (24, T_24), (25, T_25), (26, T_26)] Tryz.f7 H_7 = T_7 := by kernel_rfl
theorem K_7 : SigOk Tryz.prog 7 T_7 := k_o E_7 ⟨K_23, K_24, K_25, K_26, trivial⟩ Tryz.func7
def laws_toSchedule (x : (D_Schedule × Unit)) (c : Unit) : (Option (D_Schedule × Unit)) :=
  ((((laws_toIntS (x.1.1, ()) ()).bind fun v0 => (some v0.1)) : (Option (List Int))).bind fun v1 => ((((laws_toIntS (x.1.2.1, ()) ()).bind fun v2 => (some v2.1)) : (Option (List Int))).bind fun v3 => (some ((v1, (v3, ())), ()))))
def H_27 : Hd := ⟨[y_8], [], none, .p, y_8, (Ty.all (y_8)), []⟩
def T_27 : FSig := sg_ H_27 laws_toSchedule
theorem E_27 : fnOf tys [(26, T_26)] Tryz.f27 H_27 = T_27 := by kernel_rfl
theorem K_27 : SigOk Tryz.prog 27 T_27 := k_o E_27 ⟨K_26, trivial⟩ Tryz.func27
def laws_toPlan (x : (D_Plan × Unit)) (c : Unit) : (Option (D_Plan × Unit)) :=
  ((((laws_toSchedule (x.1.1, ()) ()).bind fun v0 => (some v0.1)) : (Option D_Schedule)).bind fun v1 => ((((laws_toIntS (x.1.2.1, ()) ()).bind fun v2 => (some v2.1)) : (Option (List Int))).bind fun v3 => (some ((v1, (v3, ())), ()))))
def H_8 : Hd := ⟨[y_5], [], none, .p, y_5, (Ty.all (y_5)), []⟩
def T_8 : FSig := sg_ H_8 laws_toPlan
theorem E_8 : fnOf tys [(26, T_26), (27, T_27)] Tryz.f8 H_8 = T_8 := by kernel_rfl
theorem K_8 : SigOk Tryz.prog 8 T_8 := k_o E_8 ⟨K_26, K_27, trivial⟩ Tryz.func8
def slices_Clone_int_int (x : ((List Int) × Unit)) (c : Unit) : (Option ((List Int) × Unit)) :=
  ((addI [] x.1).bind fun v0 => (some (v0, ())))
def H_91 : Hd := ⟨[.sl 3 (.int .i64)], [], none, .p, .sl 3 (.int .i64), (Ty.all (.sl 3 (.int .i64))), []⟩
def T_91 : FSig := sg_ H_91 slices_Clone_int_int
theorem E_91 : fnOf tys [] Tryz.f91 H_91 = T_91 := by kernel_rfl
theorem K_91 : SigOk Tryz.prog 91 T_91 := k_o E_91 trivial Tryz.func91
def impl_Plan_copied (x : (D_Plan × Unit)) (c : Unit) : (Option (D_Plan × Unit)) :=
  ((((slices_Clone_int_int (x.1.1.1, ()) ()).bind fun v0 => (some v0.1)) : (Option (List Int))).bind fun v1 => ((((slices_Clone_int_int (x.1.1.2.1, ()) ()).bind fun v2 => (some v2.1)) : (Option (List Int))).bind fun v3 => ((((slices_Clone_int_int (x.1.2.1, ()) ()).bind fun v4 => (some v4.1)) : (Option (List Int))).bind fun v5 => (some (((v1, (v3, ())), (v5, ())), ())))))
def H_59 : Hd := ⟨[y_5], [], none, .p, y_5, (Ty.all (y_5)), []⟩
def T_59 : FSig := sg_ H_59 impl_Plan_copied
theorem E_59 : fnOf tys [(91, T_91)] Tryz.f59 H_59 = T_59 := by kernel_rfl
theorem K_59 : SigOk Tryz.prog 59 T_59 := k_o E_59 ⟨K_91, trivial⟩ Tryz.func59
def H_impl_SetOf : Hd := ⟨[.sl 3 (.int .i64)], [], none, .p, .sl 3 (.int .i64), (Ty.all (.sl 3 (.int .i64))), []⟩
def impl_SetOf : ((List Int) × Unit) → Unit → Option ((List Int) × Unit) := setLF
def T_impl_SetOf : FSig := sg_ H_impl_SetOf impl_SetOf
theorem K_impl_SetOf : SigOk Tryz.prog 92 T_impl_SetOf := setL_ok ⟨Tryz.f92, Tryz.func92, by decide, rfl⟩ Tryz.setOf_any
def impl_SetAdd (x : ((List Int) × (Int × Unit))) (c : Unit) : (Option ((List Int) × Unit)) :=
  ((((slices_Clone_int_int (x.1, ()) ()).bind fun v0 => (some v0.1)) : (Option (List Int))).bind fun v1 => ((addI v1 (x.2.1 :: [])).bind fun v2 => ((((impl_SetOf (v2, ()) ()).bind fun v3 => (some v3.1)) : (Option (List Int))).bind fun v4 => (some (v4, ())))))
def H_60 : Hd := ⟨[.sl 3 (.int .i64), .int .i64], [], none, .p, .sl 3 (.int .i64), (Ty.all (.sl 3 (.int .i64))), []⟩
def T_60 : FSig := sg_ H_60 impl_SetAdd
theorem E_60 : fnOf tys [(91, T_91), (92, T_impl_SetOf)] Tryz.f60 H_60 = T_60 := by kernel_rfl
theorem K_60 : SigOk Tryz.prog 60 T_60 := k_o E_60 ⟨K_91, K_impl_SetOf, trivial⟩ Tryz.func60
def impl_Plan_with (x : (D_Plan × (Int × D_Step))) (c : Unit) : (Option (D_Plan × Unit)) :=
  ((((impl_Plan_copied (x.1, ()) ()).bind fun v0 => (some v0.1)) : (Option D_Plan)).bind fun v1 => ((((impl_SetAdd (x.1.2.1, (x.2.1, ())) ()).bind fun v2 => (some v2.1)) : (Option (List Int))).bind fun v3 => ((((getI v1.1.1 x.2.1).bind fun v4 => (some ())) : (Option Unit)).bind fun v5 => ((((((getI v1.1.1 x.2.1).bind fun v6 => (some v6)) : (Option Int)).bind fun v7 => (some x.2.2.2.1)) : (Option Int)).bind fun v8 => ((((getI v1.1.2.1 x.2.1).bind fun v9 => (some ())) : (Option Unit)).bind fun v10 => ((((((getI v1.1.2.1 x.2.1).bind fun v11 => (some v11)) : (Option Int)).bind fun v12 => (some x.2.2.1)) : (Option Int)).bind fun v13 => (some ((((setI v1.1.1 x.2.1 (fun v14 => v8)), ((setI v1.1.2.1 x.2.1 (fun v15 => v13)), ())), (v3, ())), ()))))))))
def H_29 : Hd := ⟨[y_5, .int .i64, .int .i64, .int .i64], [], none, .p, y_5, (Ty.all (y_5)), []⟩
def T_29 : FSig := sg_ H_29 impl_Plan_with
theorem E_29 : fnOf tys [(59, T_59), (60, T_60)] Tryz.f29 H_29 = T_29 := by kernel_rfl
theorem K_29 : SigOk Tryz.prog 29 T_29 := k_o E_29 ⟨K_59, K_60, trivial⟩ Tryz.func29
def impl_within (x : (Int × D_Step)) (c : Unit) : (Option (Bool × Unit)) :=
  (((if (leZ x.2.1 x.1) then (some ((leZ x.1 x.2.2.1), ())) else (some (false, ()))) : (Option (Bool × Unit))).bind fun v0 => (some (v0.1, ())))
def H_56 : Hd := ⟨[.int .i64, .int .i64, .int .i64], [], none, .p, .bool, .p, []⟩
def T_56 : FSig := sg_ H_56 impl_within
theorem E_56 : fnOf tys [] Tryz.f56 H_56 = T_56 := by kernel_rfl
theorem K_56 : SigOk Tryz.prog 56 T_56 := k_o E_56 trivial Tryz.func56
def impl_isTime (x : (Int × Unit)) (c : Unit) : (Option (Bool × Unit)) :=
  ((((impl_within (x.1, (0, (60, ()))) ()).bind fun v0 => (some v0.1)) : (Option Bool)).bind fun v1 => (some (v1, ())))
def H_57 : Hd := ⟨[.int .i64], [], none, .p, .bool, .p, []⟩
def T_57 : FSig := sg_ H_57 impl_isTime
theorem E_57 : fnOf tys [(56, T_56)] Tryz.f57 H_57 = T_57 := by kernel_rfl
theorem K_57 : SigOk Tryz.prog 57 T_57 := k_o E_57 ⟨K_56, trivial⟩ Tryz.func57
def impl_isAmount (x : (Int × Unit)) (c : Unit) : (Option (Bool × Unit)) :=
  ((((impl_within (x.1, (0, (20, ()))) ()).bind fun v0 => (some v0.1)) : (Option Bool)).bind fun v1 => (some (v1, ())))
def H_131 : Hd := ⟨[.int .i64], [], none, .p, .bool, .p, []⟩
def T_131 : FSig := sg_ H_131 impl_isAmount
theorem E_131 : fnOf tys [(56, T_56)] Tryz.f131 H_131 = T_131 := by kernel_rfl
theorem K_131 : SigOk Tryz.prog 131 T_131 := k_o E_131 ⟨K_56, trivial⟩ Tryz.func131
abbrev s_impl_areAmounts_L0 : Type := (Int × (Int × ((List Int) × ((List Int) × (Int × Unit)))))
def impl_areAmounts_L0 : s_impl_areAmounts_L0 → Option (Out s_impl_areAmounts_L0 ((Bool × s_impl_areAmounts_L0) ⊕ Empty) (Bool × Unit)) :=
  (fun v0 => (if (ltZ v0.1 v0.2.1) then ((getI v0.2.2.1 v0.1).bind fun v1 => ((((impl_isAmount (v1, ()) ()).bind fun v2 => (some v2.1)) : (Option Bool)).bind fun v3 => (if (notB v3) then (some (Out.ret (false, ()))) else (some (Out.norm ((addZ .i64 v0.1 1), v0.2)))))) else (some (Out.exit (Sum.inl ((ltZ v0.1 v0.2.1), v0))))))
def impl_areAmounts (x : ((List Int) × (Int × Unit))) (c : Unit) : (Option (Bool × Unit)) :=
  ((loopN (A := s_impl_areAmounts_L0) big impl_areAmounts_L0 (0, ((lenI x.1), (x.1, x)))).bind fun v4 => (match v4 with | Out.norm v5 => none | Out.exit v6 => (match ((match v6 with | Sum.inl v9 => (Sum.inl v9.2.2.2.2) | Sum.inr v10 => (Empty.elim v10)) : (((List Int) × (Int × Unit)) ⊕ Empty)) with | Sum.inl v7 => (some ((eqZ (lenI v7.1) v7.2.1), ())) | Sum.inr v8 => none) | Out.ret v11 => (some v11)))
def H_156 : Hd := ⟨[.sl 3 (.int .i64), .int .i64], [], none, .p, .bool, .p, []⟩
def T_156 : FSig := sg_ H_156 impl_areAmounts
theorem E_156 : fnOf tys [(131, T_131)] Tryz.f156 H_156 = T_156 := by kernel_rfl
theorem K_156 : SigOk Tryz.prog 156 T_156 := k_o E_156 ⟨K_131, trivial⟩ Tryz.func156
def impl_ModeOk (x : (D_Mode × D_Step)) (c : Unit) : (Option (Bool × Unit)) :=
  ((((impl_within (x.1.1, (1, (12, ()))) ()).bind fun v0 => (some v0.1)) : (Option Bool)).bind fun v1 => (((if v1 then ((((impl_areAmounts (x.1.2.1, (x.2.1, ())) ()).bind fun v2 => (some v2.1)) : (Option Bool)).bind fun v3 => (((if v3 then ((((impl_areAmounts (x.1.2.2.1, (x.2.2.1, ())) ()).bind fun v4 => (some v4.1)) : (Option Bool)).bind fun v5 => (some (v5, ()))) else (some (false, ()))) : (Option (Bool × Unit))).bind fun v6 => (some (v6.1, ())))) else (some (false, ()))) : (Option (Bool × Unit))).bind fun v7 => (some (v7.1, ()))))
def H_138 : Hd := ⟨[y_6, .int .i64, .int .i64], [], none, .p, .bool, .p, []⟩
def T_138 : FSig := sg_ H_138 impl_ModeOk
theorem E_138 : fnOf tys [(56, T_56), (156, T_156)] Tryz.f138 H_138 = T_138 := by kernel_rfl
theorem K_138 : SigOk Tryz.prog 138 T_138 := k_o E_138 ⟨K_56, K_156, trivial⟩ Tryz.func138
abbrev s_impl_IsName_L0 : Type := (Int × (Int × ((List UInt8) × Unit)))
def impl_IsName_L0 : s_impl_IsName_L0 → Option (Out s_impl_IsName_L0 ((Bool × s_impl_IsName_L0) ⊕ Empty) (Bool × Unit)) :=
  (fun v0 => (if (ltZ v0.1 v0.2.1) then ((byteAt v0.2.2.1 v0.1).bind fun v1 => (((if (leZ 97 v1) then ((byteAt v0.2.2.1 v0.1).bind fun v2 => (some ((leZ v2 122), (v0.1, v0)))) else (some (false, (v0.1, v0)))) : (Option (Bool × (Int × (Int × (Int × ((List UInt8) × Unit))))))).bind fun v3 => (((if (notB v3.1) then (((if (eqZ v3.2.1 0) then (some (true, v3.2.2)) else ((byteAt v3.2.2.2.2.1 v3.2.1).bind fun v4 => (((if (ltZ v4 48) then (some (true, v3.2.2)) else ((byteAt v3.2.2.2.2.1 v3.2.1).bind fun v5 => (some ((ltZ 57 v5), v3.2.2)))) : (Option (Bool × (Int × (Int × ((List UInt8) × Unit)))))).bind fun v6 => (some v6)))) : (Option (Bool × (Int × (Int × ((List UInt8) × Unit)))))).bind fun v7 => (some v7)) else (some (false, v3.2.2))) : (Option (Bool × (Int × (Int × ((List UInt8) × Unit)))))).bind fun v8 => (if v8.1 then (some (Out.ret (false, ()))) else (some (Out.norm ((addZ .i64 v8.2.1 1), v8.2.2))))))) else (some (Out.exit (Sum.inl ((ltZ v0.1 v0.2.1), v0))))))
def impl_IsName (x : ((List UInt8) × Unit)) (c : Unit) : (Option (Bool × Unit)) :=
  ((loopN (A := s_impl_IsName_L0) big impl_IsName_L0 (0, ((lenI x.1), (x.1, ())))).bind fun v9 => (match v9 with | Out.norm v10 => none | Out.exit v11 => (match ((match v11 with | Sum.inl v16 => (Sum.inl (v16.2.2.2.1, ())) | Sum.inr v17 => (Empty.elim v17)) : (((List UInt8) × Unit) ⊕ Empty)) with | Sum.inl v12 => ((((impl_within ((lenI v12.1), (1, (8, ()))) ()).bind fun v13 => (some v13.1)) : (Option Bool)).bind fun v14 => (some (v14, ()))) | Sum.inr v15 => none) | Out.ret v18 => (some v18)))
def H_139 : Hd := ⟨[.str], [], none, .p, .bool, .p, []⟩
def T_139 : FSig := sg_ H_139 impl_IsName
theorem E_139 : fnOf tys [(56, T_56)] Tryz.f139 H_139 = T_139 := by kernel_rfl
theorem K_139 : SigOk Tryz.prog 139 T_139 := k_o E_139 ⟨K_56, trivial⟩ Tryz.func139
abbrev s_impl_ActivityOk_L0 : Type := (Int × (Int × ((List D_Mode) × (Int × (Int × (D_Activity × Unit))))))
def impl_ActivityOk_L0 : s_impl_ActivityOk_L0 → Option (Out s_impl_ActivityOk_L0 ((Bool × s_impl_ActivityOk_L0) ⊕ Empty) (Bool × Unit)) :=
  (fun v0 => (if (ltZ v0.1 v0.2.1) then ((getI v0.2.2.1 v0.1).bind fun v1 => ((((impl_ModeOk (v1, (v0.2.2.2.1, (v0.2.2.2.2.1, ()))) ()).bind fun v2 => (some v2.1)) : (Option Bool)).bind fun v3 => (if (notB v3) then (some (Out.ret (false, ()))) else (some (Out.norm ((addZ .i64 v0.1 1), v0.2)))))) else (some (Out.exit (Sum.inl ((ltZ v0.1 v0.2.1), v0))))))
def impl_ActivityOk (x : (D_Activity × D_Step)) (c : Unit) : (Option (Bool × Unit)) :=
  ((loopN (A := s_impl_ActivityOk_L0) big impl_ActivityOk_L0 (0, ((lenI x.1.2.2.1), (x.1.2.2.1, (x.2.1, (x.2.2.1, (x.1, ()))))))).bind fun v4 => (match v4 with | Out.norm v5 => none | Out.exit v6 => (match ((match v6 with | Sum.inl v17 => (Sum.inl (v17.2.2.2.2.2.2.1, ())) | Sum.inr v18 => (Empty.elim v18)) : ((D_Activity × Unit) ⊕ Empty)) with | Sum.inl v7 => ((((impl_IsName (v7.1.1, ()) ()).bind fun v8 => (some v8.1)) : (Option Bool)).bind fun v9 => (((if v9 then ((((impl_within (v7.1.2.1, (0, (3, ()))) ()).bind fun v10 => (some v10.1)) : (Option Bool)).bind fun v11 => (((if v11 then ((((impl_within ((lenI v7.1.2.2.1), (1, (3, ()))) ()).bind fun v12 => (some v12.1)) : (Option Bool)).bind fun v13 => (some (v13, ()))) else (some (false, ()))) : (Option (Bool × Unit))).bind fun v14 => (some (v14.1, ())))) else (some (false, ()))) : (Option (Bool × Unit))).bind fun v15 => (some (v15.1, ())))) | Sum.inr v16 => none) | Out.ret v19 => (some v19)))
def H_125 : Hd := ⟨[y_3, .int .i64, .int .i64], [], none, .p, .bool, .p, []⟩
def T_125 : FSig := sg_ H_125 impl_ActivityOk
theorem E_125 : fnOf tys [(56, T_56), (138, T_138), (139, T_139)] Tryz.f125 H_125 = T_125 := by kernel_rfl
theorem K_125 : SigOk Tryz.prog 125 T_125 := k_o E_125 ⟨K_56, K_138, K_139, trivial⟩ Tryz.func125
abbrev s_slices_IndexFunc_impl_Activity_impl_Activity_L0 : Type := (Int × (Int × (((D_Activity × Unit) → (Option Bool)) × ((List D_Activity) × Unit))))
def slices_IndexFunc_impl_Activity_impl_Activity_L0 : s_slices_IndexFunc_impl_Activity_impl_Activity_L0 → Option (Out s_slices_IndexFunc_impl_Activity_impl_Activity_L0 ((Bool × s_slices_IndexFunc_impl_Activity_impl_Activity_L0) ⊕ Empty) (Int × Unit)) :=
  (fun v0 => (if (ltZ v0.1 v0.2.1) then ((getI v0.2.2.2.1 v0.1).bind fun v1 => ((v0.2.2.1 (v1, ())).bind fun v2 => (if v2 then (some (Out.ret (v0.1, ()))) else (some (Out.norm ((addZ .i64 v0.1 1), v0.2)))))) else (some (Out.exit (Sum.inl ((ltZ v0.1 v0.2.1), v0))))))
def slices_IndexFunc_impl_Activity_impl_Activity (x : ((List D_Activity) × (((D_Activity × Unit) → (Option Bool)) × Unit))) (c : Unit) : (Option (Int × Unit)) :=
  ((loopN (A := s_slices_IndexFunc_impl_Activity_impl_Activity_L0) big slices_IndexFunc_impl_Activity_impl_Activity_L0 (0, ((lenI x.1), (x.2.1, (x.1, ()))))).bind fun v3 => (match v3 with | Out.norm v4 => none | Out.exit v5 => (match ((match v5 with | Sum.inl v8 => (Sum.inl ()) | Sum.inr v9 => (Empty.elim v9)) : (Unit ⊕ Empty)) with | Sum.inl v6 => (some ((-1), ())) | Sum.inr v7 => none) | Out.ret v10 => (some v10)))
def H_140 : Hd := ⟨[.sl 88 (y_3), .fn [y_3] (.bool)], [], none, .p, .int .i64, .p, []⟩
def T_140 : FSig := sg_ H_140 slices_IndexFunc_impl_Activity_impl_Activity
theorem E_140 : fnOf tys [] Tryz.f140 H_140 = T_140 := by kernel_rfl
theorem K_140 : SigOk Tryz.prog 140 T_140 := k_o E_140 trivial Tryz.func140
def impl_ActivityIndex_1 (x : (D_Activity × Unit)) (c : ((List UInt8) × Unit)) : (Option (Bool × Unit)) :=
  (some ((eqS x.1.1 c.1), ()))
def H_141 : Hd := ⟨[y_3], [.str], none, .p, .bool, .p, []⟩
def T_141 : FSig := sg_ H_141 impl_ActivityIndex_1
theorem E_141 : fnOf tys [] Tryz.f141 H_141 = T_141 := by kernel_rfl
theorem K_141 : SigOk Tryz.prog 141 T_141 := k_o E_141 trivial Tryz.func141
def impl_ActivityIndex (x : (D_Project × ((List UInt8) × Unit))) (c : Unit) : (Option (Int × Unit)) :=
  ((((slices_IndexFunc_impl_Activity_impl_Activity (x.1.2.1, ((fun v0 => ((impl_ActivityIndex_1 v0 (x.2.1, ())).bind fun v1 => (some v1.1))), ())) ()).bind fun v2 => (some v2.1)) : (Option Int)).bind fun v3 => (some (v3, ())))
def H_126 : Hd := ⟨[y_1, .str], [], none, .p, .int .i64, .p, []⟩
def T_126 : FSig := sg_ H_126 impl_ActivityIndex
theorem E_126 : fnOf tys [(140, T_140), (141, T_141)] Tryz.f126 H_126 = T_126 := by kernel_rfl
theorem K_126 : SigOk Tryz.prog 126 T_126 := k_o E_126 ⟨K_140, K_141, trivial⟩ Tryz.func126
abbrev s_impl_StepsOk_L0 : Type := (Int × (Int × ((List D_Step) × ((List D_Step) × Unit))))
def impl_StepsOk_L0 : s_impl_StepsOk_L0 → Option (Out s_impl_StepsOk_L0 ((Bool × s_impl_StepsOk_L0) ⊕ Empty) (Bool × Unit)) :=
  (fun v0 => (if (ltZ v0.1 v0.2.1) then ((getI v0.2.2.1 v0.1).bind fun v1 => ((((impl_isTime (v1.1, ()) ()).bind fun v2 => (some v2.1)) : (Option Bool)).bind fun v3 => (((if (notB v3) then (some (true, v0)) else ((((impl_isAmount (v1.2.1, ()) ()).bind fun v4 => (some v4.1)) : (Option Bool)).bind fun v5 => (((if (notB v5) then (some (true, v0)) else (((if (eqZ v0.1 0) then (((if (notB (eqZ v1.1 0)) then (some (true, v0)) else (((if (ltZ 0 v0.1) then ((getI v0.2.2.2.1 (subZ .i64 v0.1 1)).bind fun v6 => (some ((leZ v1.1 v6.1), v0))) else (some (false, v0))) : (Option (Bool × (Int × (Int × ((List D_Step) × ((List D_Step) × Unit))))))).bind fun v7 => (some v7))) : (Option (Bool × (Int × (Int × ((List D_Step) × ((List D_Step) × Unit))))))).bind fun v8 => (some v8)) else (((if (ltZ 0 v0.1) then ((getI v0.2.2.2.1 (subZ .i64 v0.1 1)).bind fun v9 => (some ((leZ v1.1 v9.1), v0))) else (some (false, v0))) : (Option (Bool × (Int × (Int × ((List D_Step) × ((List D_Step) × Unit))))))).bind fun v10 => (some v10))) : (Option (Bool × (Int × (Int × ((List D_Step) × ((List D_Step) × Unit))))))).bind fun v11 => (some v11))) : (Option (Bool × (Int × (Int × ((List D_Step) × ((List D_Step) × Unit))))))).bind fun v12 => (some v12)))) : (Option (Bool × (Int × (Int × ((List D_Step) × ((List D_Step) × Unit))))))).bind fun v13 => (if v13.1 then (some (Out.ret (false, ()))) else (some (Out.norm ((addZ .i64 v13.2.1 1), v13.2.2))))))) else (some (Out.exit (Sum.inl ((ltZ v0.1 v0.2.1), v0))))))
def impl_StepsOk (x : ((List D_Step) × Unit)) (c : Unit) : (Option (Bool × Unit)) :=
  ((loopN (A := s_impl_StepsOk_L0) big impl_StepsOk_L0 (0, ((lenI x.1), (x.1, (x.1, ()))))).bind fun v14 => (match v14 with | Out.norm v15 => none | Out.exit v16 => (match ((match v16 with | Sum.inl v21 => (Sum.inl (v21.2.2.2.2.1, ())) | Sum.inr v22 => (Empty.elim v22)) : (((List D_Step) × Unit) ⊕ Empty)) with | Sum.inl v17 => ((((impl_within ((lenI v17.1), (1, (8, ()))) ()).bind fun v18 => (some v18.1)) : (Option Bool)).bind fun v19 => (some (v19, ()))) | Sum.inr v20 => none) | Out.ret v23 => (some v23)))
def H_110 : Hd := ⟨[.sl 130 (.st [.int .i64, .int .i64])], [], none, .p, .bool, .p, []⟩
def T_110 : FSig := sg_ H_110 impl_StepsOk
theorem E_110 : fnOf tys [(56, T_56), (57, T_57), (131, T_131)] Tryz.f110 H_110 = T_110 := by kernel_rfl
theorem K_110 : SigOk Tryz.prog 110 T_110 := k_o E_110 ⟨K_56, K_57, K_131, trivial⟩ Tryz.func110
abbrev s_impl_ResourceOk_L0 : Type := (Int × (Int × ((List Int) × (Int × (Int × ((List (List Int)) × (D_Resource × Unit)))))))
def impl_ResourceOk_L0 : s_impl_ResourceOk_L0 → Option (Out s_impl_ResourceOk_L0 ((Bool × s_impl_ResourceOk_L0) ⊕ Empty) (Bool × Unit)) :=
  (fun v2 => (if (ltZ v2.1 v2.2.1) then ((getI v2.2.2.1 v2.1).bind fun v3 => ((((impl_within (v3, (0, (12, ()))) ()).bind fun v4 => (some v4.1)) : (Option Bool)).bind fun v5 => (if (notB v5) then (some (Out.ret (false, ()))) else (some (Out.norm ((addZ .i64 v2.1 1), v2.2)))))) else (some (Out.exit (Sum.inl ((ltZ v2.1 v2.2.1), v2))))))
abbrev s_impl_ResourceOk_L1 : Type := (Int × (Int × ((List (List Int)) × (D_Resource × Unit))))
def impl_ResourceOk_L1 : s_impl_ResourceOk_L1 → Option (Out s_impl_ResourceOk_L1 ((Bool × s_impl_ResourceOk_L1) ⊕ Empty) (Bool × Unit)) :=
  (fun v0 => (if (ltZ v0.1 v0.2.1) then ((getI v0.2.2.1 v0.1).bind fun v1 => (if (notB (eqZ (lenI v1) 4)) then (some (Out.ret (false, ()))) else ((loopN (A := s_impl_ResourceOk_L0) big impl_ResourceOk_L0 (0, ((lenI v1), (v1, v0)))).bind fun v6 => (match v6 with | Out.norm v7 => none | Out.exit v8 => (match ((match v8 with | Sum.inl v13 => (Sum.inl v13.2.2.2.2) | Sum.inr v14 => (Empty.elim v14)) : ((Int × (Int × ((List (List Int)) × (D_Resource × Unit)))) ⊕ Empty)) with | Sum.inl v9 => (some (Out.norm ((addZ .i64 v9.1 1), v9.2))) | Sum.inr v10 => (match ((Empty.elim v10) : ((Int × (Int × ((List (List Int)) × (D_Resource × Unit)))) ⊕ Empty)) with | Sum.inl v11 => (some (Out.norm ((addZ .i64 v11.1 1), v11.2))) | Sum.inr v12 => (some (Out.exit (Sum.inr (Empty.elim v12)))))) | Out.ret v15 => (some (Out.ret v15)))))) else (some (Out.exit (Sum.inl ((ltZ v0.1 v0.2.1), v0))))))
def impl_ResourceOk (x : (D_Resource × Unit)) (c : Unit) : (Option (Bool × Unit)) :=
  ((loopN (A := s_impl_ResourceOk_L1) big impl_ResourceOk_L1 (0, ((lenI x.1.2.1), (x.1.2.1, (x.1, ()))))).bind fun v16 => (match v16 with | Out.norm v17 => none | Out.exit v18 => (match ((match v18 with | Sum.inl v25 => (Sum.inl (v25.2.2.2.2.1, ())) | Sum.inr v26 => (Empty.elim v26)) : ((D_Resource × Unit) ⊕ Empty)) with | Sum.inl v19 => ((((impl_StepsOk (v19.1.1, ()) ()).bind fun v20 => (some v20.1)) : (Option Bool)).bind fun v21 => (((if v21 then (((if (eqZ (lenI v19.1.2.1) 0) then (some (true, ())) else (some ((eqZ (lenI v19.1.2.1) 4), ()))) : (Option (Bool × Unit))).bind fun v22 => (some (v22.1, ()))) else (some (false, ()))) : (Option (Bool × Unit))).bind fun v23 => (some (v23.1, ())))) | Sum.inr v24 => none) | Out.ret v27 => (some v27)))
def H_127 : Hd := ⟨[y_4], [], none, .p, .bool, .p, []⟩
def T_127 : FSig := sg_ H_127 impl_ResourceOk
theorem E_127 : fnOf tys [(56, T_56), (110, T_110)] Tryz.f127 H_127 = T_127 := by kernel_rfl
theorem K_127 : SigOk Tryz.prog 127 T_127 := k_o E_127 ⟨K_56, K_110, trivial⟩ Tryz.func127
abbrev s_slices_IndexFunc_impl_Link_impl_Link_L0 : Type := (Int × (Int × (((D_Link × Unit) → (Option Bool)) × ((List D_Link) × Unit))))
def slices_IndexFunc_impl_Link_impl_Link_L0 : s_slices_IndexFunc_impl_Link_impl_Link_L0 → Option (Out s_slices_IndexFunc_impl_Link_impl_Link_L0 ((Bool × s_slices_IndexFunc_impl_Link_impl_Link_L0) ⊕ Empty) (Int × Unit)) :=
  (fun v0 => (if (ltZ v0.1 v0.2.1) then ((getI v0.2.2.2.1 v0.1).bind fun v1 => ((v0.2.2.1 (v1, ())).bind fun v2 => (if v2 then (some (Out.ret (v0.1, ()))) else (some (Out.norm ((addZ .i64 v0.1 1), v0.2)))))) else (some (Out.exit (Sum.inl ((ltZ v0.1 v0.2.1), v0))))))
def slices_IndexFunc_impl_Link_impl_Link (x : ((List D_Link) × (((D_Link × Unit) → (Option Bool)) × Unit))) (c : Unit) : (Option (Int × Unit)) :=
  ((loopN (A := s_slices_IndexFunc_impl_Link_impl_Link_L0) big slices_IndexFunc_impl_Link_impl_Link_L0 (0, ((lenI x.1), (x.2.1, (x.1, ()))))).bind fun v3 => (match v3 with | Out.norm v4 => none | Out.exit v5 => (match ((match v5 with | Sum.inl v8 => (Sum.inl ()) | Sum.inr v9 => (Empty.elim v9)) : (Unit ⊕ Empty)) with | Sum.inl v6 => (some ((-1), ())) | Sum.inr v7 => none) | Out.ret v10 => (some v10)))
def H_142 : Hd := ⟨[.sl 91 (y_7), .fn [y_7] (.bool)], [], none, .p, .int .i64, .p, []⟩
def T_142 : FSig := sg_ H_142 slices_IndexFunc_impl_Link_impl_Link
theorem E_142 : fnOf tys [] Tryz.f142 H_142 = T_142 := by kernel_rfl
theorem K_142 : SigOk Tryz.prog 142 T_142 := k_o E_142 trivial Tryz.func142
def slices_ContainsFunc_impl_Link_impl_Link (x : ((List D_Link) × (((D_Link × Unit) → (Option Bool)) × Unit))) (c : Unit) : (Option (Bool × Unit)) :=
  ((((slices_IndexFunc_impl_Link_impl_Link x ()).bind fun v0 => (some v0.1)) : (Option Int)).bind fun v1 => (some ((leZ 0 v1), ())))
def H_128 : Hd := ⟨[.sl 91 (y_7), .fn [y_7] (.bool)], [], none, .p, .bool, .p, []⟩
def T_128 : FSig := sg_ H_128 slices_ContainsFunc_impl_Link_impl_Link
theorem E_128 : fnOf tys [(142, T_142)] Tryz.f128 H_128 = T_128 := by kernel_rfl
theorem K_128 : SigOk Tryz.prog 128 T_128 := k_o E_128 ⟨K_142, trivial⟩ Tryz.func128
def impl_Project_hasActivity (x : (D_Project × (Int × Unit))) (c : Unit) : (Option (Bool × Unit)) :=
  ((((impl_within (x.2.1, (0, ((subZ .i64 (lenI x.1.2.1) 1), ()))) ()).bind fun v0 => (some v0.1)) : (Option Bool)).bind fun v1 => (some (v1, ())))
def H_54 : Hd := ⟨[y_1, .int .i64], [], none, .p, .bool, .p, []⟩
def T_54 : FSig := sg_ H_54 impl_Project_hasActivity
theorem E_54 : fnOf tys [(56, T_56)] Tryz.f54 H_54 = T_54 := by kernel_rfl
theorem K_54 : SigOk Tryz.prog 54 T_54 := k_o E_54 ⟨K_56, trivial⟩ Tryz.func54
def impl_Project_linkOk (x : (D_Project × (D_Link × Unit))) (c : Unit) : (Option (Bool × Unit)) :=
  ((((impl_Project_hasActivity (x.1, (x.2.1.1, ())) ()).bind fun v0 => (some v0.1)) : (Option Bool)).bind fun v1 => (((if v1 then ((((impl_Project_hasActivity (x.1, (x.2.1.2.1, ())) ()).bind fun v2 => (some v2.1)) : (Option Bool)).bind fun v3 => (((if v3 then (((if (notB (eqZ x.2.1.1 x.2.1.2.1)) then ((((impl_within (x.2.1.2.2.2.1, ((-60), (60, ()))) ()).bind fun v4 => (some v4.1)) : (Option Bool)).bind fun v5 => (some (v5, ()))) else (some (false, ()))) : (Option (Bool × Unit))).bind fun v6 => (some (v6.1, ()))) else (some (false, ()))) : (Option (Bool × Unit))).bind fun v7 => (some (v7.1, ())))) else (some (false, ()))) : (Option (Bool × Unit))).bind fun v8 => (some (v8.1, ()))))
def H_130 : Hd := ⟨[y_1, y_7], [], none, .p, .bool, .p, []⟩
def T_130 : FSig := sg_ H_130 impl_Project_linkOk
theorem E_130 : fnOf tys [(54, T_54), (56, T_56)] Tryz.f130 H_130 = T_130 := by kernel_rfl
theorem K_130 : SigOk Tryz.prog 130 T_130 := k_o E_130 ⟨K_54, K_56, trivial⟩ Tryz.func130
def impl_ProjectOk_1 (x : (D_Link × Unit)) (c : (D_Project × Unit)) : (Option (Bool × Unit)) :=
  ((((impl_Project_linkOk (c.1, (x.1, ())) ()).bind fun v0 => (some v0.1)) : (Option Bool)).bind fun v1 => (some ((notB v1), ())))
def H_129 : Hd := ⟨[y_7], [y_1], none, .p, .bool, .p, []⟩
def T_129 : FSig := sg_ H_129 impl_ProjectOk_1
theorem E_129 : fnOf tys [(130, T_130)] Tryz.f129 H_129 = T_129 := by kernel_rfl
theorem K_129 : SigOk Tryz.prog 129 T_129 := k_o E_129 ⟨K_130, trivial⟩ Tryz.func129
abbrev s_impl_ProjectOk_L0 : Type := (Int × (Int × ((List D_Activity) × (D_Project × Unit))))
def impl_ProjectOk_L0 : s_impl_ProjectOk_L0 → Option (Out s_impl_ProjectOk_L0 ((Bool × s_impl_ProjectOk_L0) ⊕ Empty) (Bool × Unit)) :=
  (fun v8 => (if (ltZ v8.1 v8.2.1) then ((getI v8.2.2.1 v8.1).bind fun v9 => ((((impl_ActivityOk (v9, ((lenI v8.2.2.2.1.2.2.2.1), ((lenI v8.2.2.2.1.2.2.2.2.1), ()))) ()).bind fun v10 => (some v10.1)) : (Option Bool)).bind fun v11 => (((if (notB v11) then (some (true, v8)) else ((((impl_ActivityIndex (v8.2.2.2.1, (v9.1, ())) ()).bind fun v12 => (some v12.1)) : (Option Int)).bind fun v13 => (some ((notB (eqZ v13 v8.1)), v8)))) : (Option (Bool × (Int × (Int × ((List D_Activity) × (D_Project × Unit))))))).bind fun v14 => (if v14.1 then (some (Out.ret (false, ()))) else (some (Out.norm ((addZ .i64 v14.2.1 1), v14.2.2))))))) else (some (Out.exit (Sum.inl ((ltZ v8.1 v8.2.1), v8))))))
abbrev s_impl_ProjectOk_L1 : Type := (Int × (Int × ((List D_Resource) × (D_Project × Unit))))
def impl_ProjectOk_L1 : s_impl_ProjectOk_L1 → Option (Out s_impl_ProjectOk_L1 ((Bool × s_impl_ProjectOk_L1) ⊕ Empty) (Bool × Unit)) :=
  (fun v19 => (if (ltZ v19.1 v19.2.1) then ((getI v19.2.2.1 v19.1).bind fun v20 => ((((impl_ResourceOk (v20, ()) ()).bind fun v21 => (some v21.1)) : (Option Bool)).bind fun v22 => (if (notB v22) then (some (Out.ret (false, ()))) else (some (Out.norm ((addZ .i64 v19.1 1), v19.2)))))) else (some (Out.exit (Sum.inl ((ltZ v19.1 v19.2.1), v19))))))
abbrev s_impl_ProjectOk_L2 : Type := (Int × (Int × ((List Int) × (D_Project × Unit))))
def impl_ProjectOk_L2 : s_impl_ProjectOk_L2 → Option (Out s_impl_ProjectOk_L2 ((Bool × s_impl_ProjectOk_L2) ⊕ Empty) (Bool × Unit)) :=
  (fun v27 => (if (ltZ v27.1 v27.2.1) then ((getI v27.2.2.1 v27.1).bind fun v28 => ((((impl_within (v28, (0, (100, ()))) ()).bind fun v29 => (some v29.1)) : (Option Bool)).bind fun v30 => (if (notB v30) then (some (Out.ret (false, ()))) else (some (Out.norm ((addZ .i64 v27.1 1), v27.2)))))) else (some (Out.exit (Sum.inl ((ltZ v27.1 v27.2.1), v27))))))
def impl_ProjectOk (x : (D_Project × Unit)) (c : Unit) : (Option (Bool × Unit)) :=
  ((((impl_within (x.1.1, (1, (60, ()))) ()).bind fun v0 => (some v0.1)) : (Option Bool)).bind fun v1 => (((if (notB v1) then (some (true, (x.1, ()))) else ((((impl_within ((lenI x.1.2.1), (1, (6, ()))) ()).bind fun v2 => (some v2.1)) : (Option Bool)).bind fun v3 => (((if (notB v3) then (some (true, (x.1, ()))) else (((if (ltZ 3 (lenI x.1.2.2.2.1)) then (some (true, (x.1, ()))) else (((if (ltZ 2 (lenI x.1.2.2.2.2.1)) then (some (true, (x.1, ()))) else (some ((ltZ 12 (lenI x.1.2.2.1)), (x.1, ())))) : (Option (Bool × (D_Project × Unit)))).bind fun v4 => (some v4))) : (Option (Bool × (D_Project × Unit)))).bind fun v5 => (some v5))) : (Option (Bool × (D_Project × Unit)))).bind fun v6 => (some v6)))) : (Option (Bool × (D_Project × Unit)))).bind fun v7 => (if v7.1 then (some (false, ())) else ((loopN (A := s_impl_ProjectOk_L0) big impl_ProjectOk_L0 (0, ((lenI v7.2.1.2.1), (v7.2.1.2.1, (v7.2.1, ()))))).bind fun v15 => (match v15 with | Out.norm v16 => none | Out.exit v17 => (match ((match v17 with | Sum.inl v48 => (Sum.inl (v48.2.2.2.2.1, ())) | Sum.inr v49 => (Empty.elim v49)) : ((D_Project × Unit) ⊕ Empty)) with | Sum.inl v18 => ((loopN (A := s_impl_ProjectOk_L1) big impl_ProjectOk_L1 (0, ((lenI v18.1.2.2.2.1), (v18.1.2.2.2.1, (v18.1, ()))))).bind fun v23 => (match v23 with | Out.norm v24 => none | Out.exit v25 => (match ((match v25 with | Sum.inl v44 => (Sum.inl (v44.2.2.2.2.1, ())) | Sum.inr v45 => (Empty.elim v45)) : ((D_Project × Unit) ⊕ Empty)) with | Sum.inl v26 => ((loopN (A := s_impl_ProjectOk_L2) big impl_ProjectOk_L2 (0, ((lenI v26.1.2.2.2.2.1), (v26.1.2.2.2.2.1, (v26.1, ()))))).bind fun v31 => (match v31 with | Out.norm v32 => none | Out.exit v33 => (match ((match v33 with | Sum.inl v40 => (Sum.inl (v40.2.2.2.2.1, ())) | Sum.inr v41 => (Empty.elim v41)) : ((D_Project × Unit) ⊕ Empty)) with | Sum.inl v34 => ((((slices_ContainsFunc_impl_Link_impl_Link (v34.1.2.2.1, ((fun v35 => ((impl_ProjectOk_1 v35 (v34.1, ())).bind fun v36 => (some v36.1))), ())) ()).bind fun v37 => (some v37.1)) : (Option Bool)).bind fun v38 => (some ((notB v38), ()))) | Sum.inr v39 => none) | Out.ret v42 => (some v42))) | Sum.inr v43 => none) | Out.ret v46 => (some v46))) | Sum.inr v47 => none) | Out.ret v50 => (some v50))))))
def H_108 : Hd := ⟨[y_1], [], none, .p, .bool, .p, []⟩
def T_108 : FSig := sg_ H_108 impl_ProjectOk
theorem E_108 : fnOf tys [(56, T_56), (125, T_125), (126, T_126), (127, T_127), (128, T_128), (129, T_129)] Tryz.f108 H_108 = T_108 := by kernel_rfl
theorem K_108 : SigOk Tryz.prog 108 T_108 := k_o E_108 ⟨K_56, K_125, K_126, K_127, K_128, K_129, trivial⟩ Tryz.func108
abbrev s_impl_ScheduleForm_L0 : Type := (Int × (Int × (D_Schedule × (D_Project × Unit))))
def impl_ScheduleForm_L0 : s_impl_ScheduleForm_L0 → Option (Out s_impl_ScheduleForm_L0 ((Bool × s_impl_ScheduleForm_L0) ⊕ Empty) (Bool × Unit)) :=
  (fun v4 => (if (ltZ v4.1 v4.2.1) then ((getI v4.2.2.1.1 v4.1).bind fun v5 => ((((impl_isTime (v5, ()) ()).bind fun v6 => (some v6.1)) : (Option Bool)).bind fun v7 => (((if (notB v7) then (some (true, v4)) else ((getI v4.2.2.1.2.1 v4.1).bind fun v8 => ((getI v4.2.2.2.1.2.1 v4.1).bind fun v9 => ((((impl_within (v8, (0, ((subZ .i64 (lenI v9.2.2.1) 1), ()))) ()).bind fun v10 => (some v10.1)) : (Option Bool)).bind fun v11 => (some ((notB v11), v4)))))) : (Option (Bool × (Int × (Int × (D_Schedule × (D_Project × Unit))))))).bind fun v12 => (if v12.1 then (some (Out.ret (false, ()))) else (some (Out.norm ((addZ .i64 v12.2.1 1), v12.2.2))))))) else (some (Out.exit (Sum.inl ((ltZ v4.1 v4.2.1), v4))))))
def impl_ScheduleForm (x : (D_Project × (D_Schedule × Unit))) (c : Unit) : (Option (Bool × Unit)) :=
  ((((impl_ProjectOk (x.1, ()) ()).bind fun v0 => (some v0.1)) : (Option Bool)).bind fun v1 => (((if (notB v1) then (some (true, (x.2.1, (x.1, ())))) else (((if (notB (eqZ (lenI x.2.1.1) (lenI x.1.2.1))) then (some (true, (x.2.1, (x.1, ())))) else (some ((notB (eqZ (lenI x.2.1.2.1) (lenI x.1.2.1))), (x.2.1, (x.1, ()))))) : (Option (Bool × (D_Schedule × (D_Project × Unit))))).bind fun v2 => (some v2))) : (Option (Bool × (D_Schedule × (D_Project × Unit))))).bind fun v3 => (if v3.1 then (some (false, ())) else ((loopN (A := s_impl_ScheduleForm_L0) big impl_ScheduleForm_L0 (0, ((lenI v3.2.2.1.2.1), v3.2))).bind fun v13 => (match v13 with | Out.norm v14 => none | Out.exit v15 => (match ((match v15 with | Sum.inl v18 => (Sum.inl ()) | Sum.inr v19 => (Empty.elim v19)) : (Unit ⊕ Empty)) with | Sum.inl v16 => (some (true, ())) | Sum.inr v17 => none) | Out.ret v20 => (some v20))))))
def H_80 : Hd := ⟨[y_1, y_8], [], none, .p, .bool, .p, []⟩
def T_80 : FSig := sg_ H_80 impl_ScheduleForm
theorem E_80 : fnOf tys [(56, T_56), (57, T_57), (108, T_108)] Tryz.f80 H_80 = T_80 := by kernel_rfl
theorem K_80 : SigOk Tryz.prog 80 T_80 := k_o E_80 ⟨K_56, K_57, K_108, trivial⟩ Tryz.func80
abbrev s_impl_SetOk_L0 : Type := (Int × ((List Int) × Unit))
def impl_SetOk_L0 : s_impl_SetOk_L0 → Option (Out s_impl_SetOk_L0 ((Bool × s_impl_SetOk_L0) ⊕ Empty) (Bool × Unit)) :=
  (fun v0 => (if (ltZ v0.1 (lenI v0.2.1)) then ((getI v0.2.1 v0.1).bind fun v1 => ((getI v0.2.1 (subZ .i64 v0.1 1)).bind fun v2 => (if (leZ v1 v2) then (some (Out.ret (false, ()))) else (some (Out.norm ((addZ .i64 v0.1 1), (v0.2.1, ()))))))) else (some (Out.exit (Sum.inl ((ltZ v0.1 (lenI v0.2.1)), v0))))))
def impl_SetOk (x : ((List Int) × Unit)) (c : Unit) : (Option (Bool × Unit)) :=
  ((loopN (A := s_impl_SetOk_L0) big impl_SetOk_L0 (1, (x.1, ()))).bind fun v3 => (match v3 with | Out.norm v4 => none | Out.exit v5 => (match ((match v5 with | Sum.inl v8 => (Sum.inl ()) | Sum.inr v9 => (Empty.elim v9)) : (Unit ⊕ Empty)) with | Sum.inl v6 => (some (true, ())) | Sum.inr v7 => none) | Out.ret v10 => (some v10)))
def H_81 : Hd := ⟨[.sl 3 (.int .i64)], [], none, .p, .bool, .p, []⟩
def T_81 : FSig := sg_ H_81 impl_SetOk
theorem E_81 : fnOf tys [] Tryz.f81 H_81 = T_81 := by kernel_rfl
theorem K_81 : SigOk Tryz.prog 81 T_81 := k_o E_81 trivial Tryz.func81
abbrev s_slices_Index_int_int_L0 : Type := (Int × (Int × (Int × ((List Int) × Unit))))
def slices_Index_int_int_L0 : s_slices_Index_int_int_L0 → Option (Out s_slices_Index_int_int_L0 ((Bool × s_slices_Index_int_int_L0) ⊕ Empty) (Int × Unit)) :=
  (fun v0 => (if (ltZ v0.1 v0.2.1) then ((getI v0.2.2.2.1 v0.1).bind fun v1 => (if (eqZ v0.2.2.1 v1) then (some (Out.ret (v0.1, ()))) else (some (Out.norm ((addZ .i64 v0.1 1), v0.2))))) else (some (Out.exit (Sum.inl ((ltZ v0.1 v0.2.1), v0))))))
def slices_Index_int_int (x : ((List Int) × (Int × Unit))) (c : Unit) : (Option (Int × Unit)) :=
  ((loopN (A := s_slices_Index_int_int_L0) big slices_Index_int_int_L0 (0, ((lenI x.1), (x.2.1, (x.1, ()))))).bind fun v2 => (match v2 with | Out.norm v3 => none | Out.exit v4 => (match ((match v4 with | Sum.inl v7 => (Sum.inl ()) | Sum.inr v8 => (Empty.elim v8)) : (Unit ⊕ Empty)) with | Sum.inl v5 => (some ((-1), ())) | Sum.inr v6 => none) | Out.ret v9 => (some v9)))
def H_109 : Hd := ⟨[.sl 3 (.int .i64), .int .i64], [], none, .p, .int .i64, .p, []⟩
def T_109 : FSig := sg_ H_109 slices_Index_int_int
theorem E_109 : fnOf tys [] Tryz.f109 H_109 = T_109 := by kernel_rfl
theorem K_109 : SigOk Tryz.prog 109 T_109 := k_o E_109 trivial Tryz.func109
def slices_Contains_int_int (x : ((List Int) × (Int × Unit))) (c : Unit) : (Option (Bool × Unit)) :=
  ((((slices_Index_int_int x ()).bind fun v0 => (some v0.1)) : (Option Int)).bind fun v1 => (some ((leZ 0 v1), ())))
def H_84 : Hd := ⟨[.sl 3 (.int .i64), .int .i64], [], none, .p, .bool, .p, []⟩
def T_84 : FSig := sg_ H_84 slices_Contains_int_int
theorem E_84 : fnOf tys [(109, T_109)] Tryz.f84 H_84 = T_84 := by kernel_rfl
theorem K_84 : SigOk Tryz.prog 84 T_84 := k_o E_84 ⟨K_109, trivial⟩ Tryz.func84
def impl_SetHas (x : ((List Int) × (Int × Unit))) (c : Unit) : (Option (Bool × Unit)) :=
  ((((slices_Contains_int_int x ()).bind fun v0 => (some v0.1)) : (Option Bool)).bind fun v1 => (some (v1, ())))
def H_55 : Hd := ⟨[.sl 3 (.int .i64), .int .i64], [], none, .p, .bool, .p, []⟩
def T_55 : FSig := sg_ H_55 impl_SetHas
theorem E_55 : fnOf tys [(84, T_84)] Tryz.f55 H_55 = T_55 := by kernel_rfl
theorem K_55 : SigOk Tryz.prog 55 T_55 := k_o E_55 ⟨K_84, trivial⟩ Tryz.func55
def impl_SetSubset_L0 : (Int × D_Mode) → Option (Out (Int × D_Mode) ((Bool × (Int × D_Mode)) ⊕ Empty) (Bool × Unit)) :=
  (fun v0 => (if (ltZ v0.1 v0.2.1) then ((getI v0.2.2.1 v0.1).bind fun v1 => ((((impl_SetHas (v0.2.2.2.1, (v1, ())) ()).bind fun v2 => (some v2.1)) : (Option Bool)).bind fun v3 => (if (notB v3) then (some (Out.ret (false, ()))) else (some (Out.norm ((addZ .i64 v0.1 1), v0.2)))))) else (some (Out.exit (Sum.inl ((ltZ v0.1 v0.2.1), v0))))))
def impl_SetSubset (x : D_Schedule) (c : Unit) : (Option (Bool × Unit)) :=
  ((loopN (A := (Int × D_Mode)) big impl_SetSubset_L0 (0, ((lenI x.1), x))).bind fun v4 => (match v4 with | Out.norm v5 => none | Out.exit v6 => (match ((match v6 with | Sum.inl v9 => (Sum.inl ()) | Sum.inr v10 => (Empty.elim v10)) : (Unit ⊕ Empty)) with | Sum.inl v7 => (some (true, ())) | Sum.inr v8 => none) | Out.ret v11 => (some v11)))
def H_82 : Hd := ⟨[.sl 3 (.int .i64), .sl 3 (.int .i64)], [], none, .p, .bool, .p, []⟩
def T_82 : FSig := sg_ H_82 impl_SetSubset
theorem E_82 : fnOf tys [(55, T_55)] Tryz.f82 H_82 = T_82 := by kernel_rfl
theorem K_82 : SigOk Tryz.prog 82 T_82 := k_o E_82 ⟨K_55, trivial⟩ Tryz.func82
abbrev s_impl_IntRange_L0 : Type := (Int × (Int × ((List Int) × Unit)))
def impl_IntRange_L0 : s_impl_IntRange_L0 → Option (Out s_impl_IntRange_L0 ((Bool × s_impl_IntRange_L0) ⊕ Empty) ((List Int) × Unit)) :=
  (fun v2 => (if (ltZ v2.1 v2.2.1) then ((addI v2.2.2.1 (v2.1 :: [])).bind fun v3 => (some (Out.norm ((addZ .i64 v2.1 1), (v2.2.1, (v3, ())))))) else (some (Out.exit (Sum.inl ((ltZ v2.1 v2.2.1), v2))))))
def impl_IntRange (x : (Int × Unit)) (c : Unit) : (Option ((List Int) × Unit)) :=
  ((((impl_within (x.1, (0, (200, ()))) ()).bind fun v0 => (some v0.1)) : (Option Bool)).bind fun v1 => (if (notB v1) then (some ([], ())) else ((loopN (A := s_impl_IntRange_L0) big impl_IntRange_L0 (0, (x.1, ([], ())))).bind fun v4 => (match v4 with | Out.norm v5 => none | Out.exit v6 => (match ((match v6 with | Sum.inl v9 => (Sum.inl (v9.2.2.2.1, ())) | Sum.inr v10 => (Empty.elim v10)) : (((List Int) × Unit) ⊕ Empty)) with | Sum.inl v7 => (some (v7.1, ())) | Sum.inr v8 => none) | Out.ret v11 => (some v11)))))
def H_83 : Hd := ⟨[.int .i64], [], none, .p, .sl 3 (.int .i64), (Ty.all (.sl 3 (.int .i64))), []⟩
def T_83 : FSig := sg_ H_83 impl_IntRange
theorem E_83 : fnOf tys [(56, T_56)] Tryz.f83 H_83 = T_83 := by kernel_rfl
theorem K_83 : SigOk Tryz.prog 83 T_83 := k_o E_83 ⟨K_56, trivial⟩ Tryz.func83
def impl_PlanOk (x : (D_Project × (D_Plan × Unit))) (c : Unit) : (Option (Bool × Unit)) :=
  ((((impl_ScheduleForm (x.1, (x.2.1.1, ())) ()).bind fun v0 => (some v0.1)) : (Option Bool)).bind fun v1 => (((if v1 then ((((impl_SetOk (x.2.1.2.1, ()) ()).bind fun v2 => (some v2.1)) : (Option Bool)).bind fun v3 => (((if v3 then ((((impl_IntRange ((lenI x.1.2.1), ()) ()).bind fun v4 => (some v4.1)) : (Option (List Int))).bind fun v5 => ((((impl_SetSubset (x.2.1.2.1, (v5, ())) ()).bind fun v6 => (some v6.1)) : (Option Bool)).bind fun v7 => (some (v7, ())))) else (some (false, ()))) : (Option (Bool × Unit))).bind fun v8 => (some (v8.1, ())))) else (some (false, ()))) : (Option (Bool × Unit))).bind fun v9 => (some (v9.1, ()))))
def H_53 : Hd := ⟨[y_1, y_5], [], none, .p, .bool, .p, []⟩
def T_53 : FSig := sg_ H_53 impl_PlanOk
theorem E_53 : fnOf tys [(80, T_80), (81, T_81), (82, T_82), (83, T_83)] Tryz.f53 H_53 = T_53 := by kernel_rfl
theorem K_53 : SigOk Tryz.prog 53 T_53 := k_o E_53 ⟨K_80, K_81, K_82, K_83, trivial⟩ Tryz.func53
def impl_Project_mode (x : (D_Project × (D_Schedule × (Int × Unit)))) (c : Unit) : (Option (D_Mode × Unit)) :=
  ((getI x.1.2.1 x.2.2.1).bind fun v0 => ((getI x.2.1.2.1 x.2.2.1).bind fun v1 => ((getI v0.2.2.1 v1).bind fun v2 => (some (v2, ())))))
def H_87 : Hd := ⟨[y_1, y_8, .int .i64], [], none, .p, y_6, .p, []⟩
def T_87 : FSig := sg_ H_87 impl_Project_mode
theorem E_87 : fnOf tys [] Tryz.f87 H_87 = T_87 := by kernel_rfl
theorem K_87 : SigOk Tryz.prog 87 T_87 := k_o E_87 trivial Tryz.func87
def impl_Project_end (x : (D_Project × (D_Schedule × (Int × Unit)))) (c : Unit) : (Option (Int × Unit)) :=
  ((getI x.2.1.1 x.2.2.1).bind fun v0 => ((((impl_Project_mode x ()).bind fun v1 => (some v1.1)) : (Option D_Mode)).bind fun v2 => (some ((addZ .i64 v0 v2.1), ()))))
def H_86 : Hd := ⟨[y_1, y_8, .int .i64], [], none, .p, .int .i64, .p, []⟩
def T_86 : FSig := sg_ H_86 impl_Project_end
theorem E_86 : fnOf tys [(87, T_87)] Tryz.f86 H_86 = T_86 := by kernel_rfl
theorem K_86 : SigOk Tryz.prog 86 T_86 := k_o E_86 ⟨K_87, trivial⟩ Tryz.func86
def impl_Project_linkHolds (x : (D_Project × (D_Schedule × (D_Link × Unit)))) (c : Unit) : (Option (Bool × Unit)) :=
  ((getI x.2.1.1 x.2.2.1.1).bind fun v0 => (((if x.2.2.1.2.2.1 then ((((impl_Project_end (x.1, (x.2.1, (x.2.2.1.1, ()))) ()).bind fun v1 => (some v1.1)) : (Option Int)).bind fun v2 => (some (Out.norm (x.2.1, (v2, (x.2.2.1, ())))))) else (some (Out.norm (x.2.1, (v0, (x.2.2.1, ())))))) : (Option (Out (D_Schedule × (Int × (D_Link × Unit))) Empty (Bool × Unit)))).bind fun v3 => (match ((match v3 with | Out.norm v8 => (Out.norm v8) | Out.exit v9 => (Out.exit v9) | Out.ret v10 => (Out.ret v10)) : (Out (D_Schedule × (Int × (D_Link × Unit))) Empty (Bool × Unit))) with | Out.norm v4 => ((getI v4.1.1 v4.2.2.1.2.1).bind fun v5 => (some ((leZ (addZ .i64 v4.2.1 v4.2.2.1.2.2.2.1) v5), ()))) | Out.exit v6 => none | Out.ret v7 => (some v7))))
def H_85 : Hd := ⟨[y_1, y_8, y_7], [], none, .p, .bool, .p, []⟩
def T_85 : FSig := sg_ H_85 impl_Project_linkHolds
theorem E_85 : fnOf tys [(86, T_86)] Tryz.f85 H_85 = T_85 := by kernel_rfl
theorem K_85 : SigOk Tryz.prog 85 T_85 := k_o E_85 ⟨K_86, trivial⟩ Tryz.func85
abbrev s_impl_capacityAt_L0 : Type := (Int × (Int × ((List D_Step) × D_Step)))
def impl_capacityAt_L0 : s_impl_capacityAt_L0 → Option (Out s_impl_capacityAt_L0 ((Bool × s_impl_capacityAt_L0) ⊕ Empty) (Int × Unit)) :=
  (fun v0 => (if (ltZ v0.1 v0.2.1) then ((getI v0.2.2.1 v0.1).bind fun v1 => (((if (leZ v1.1 v0.2.2.2.1) then (some (Out.norm (v0.1, (v0.2.1, (v0.2.2.1, (v0.2.2.2.1, (v1.2.1, ()))))))) else (some (Out.norm v0))) : (Option (Out (Int × (Int × ((List D_Step) × D_Step))) Empty (Int × Unit)))).bind fun v2 => (match ((match ((match v2 with | Out.norm v11 => (Out.norm v11) | Out.exit v12 => (Out.exit v12) | Out.ret v13 => (Out.ret v13)) : (Out (Int × (Int × ((List D_Step) × D_Step))) Empty (Int × Unit))) with | Out.norm v8 => (Out.norm v8) | Out.exit v9 => (Out.exit v9) | Out.ret v10 => (Out.ret v10)) : (Out (Int × (Int × ((List D_Step) × D_Step))) Empty (Int × Unit))) with | Out.norm v3 => (some (Out.norm ((addZ .i64 v3.1 1), v3.2))) | Out.exit v4 => (match ((Empty.elim v4) : ((Int × (Int × ((List D_Step) × D_Step))) ⊕ Empty)) with | Sum.inl v5 => (some (Out.norm ((addZ .i64 v5.1 1), v5.2))) | Sum.inr v6 => (some (Out.exit (Sum.inr (Empty.elim v6))))) | Out.ret v7 => (some (Out.ret v7))))) else (some (Out.exit (Sum.inl ((ltZ v0.1 v0.2.1), v0))))))
def impl_capacityAt (x : ((List D_Step) × (Int × Unit))) (c : Unit) : (Option (Int × Unit)) :=
  ((loopN (A := s_impl_capacityAt_L0) big impl_capacityAt_L0 (0, ((lenI x.1), (x.1, (x.2.1, (0, ())))))).bind fun v14 => (match v14 with | Out.norm v15 => none | Out.exit v16 => (match ((match v16 with | Sum.inl v19 => (Sum.inl (v19.2.2.2.2.2.1, ())) | Sum.inr v20 => (Empty.elim v20)) : ((Int × Unit) ⊕ Empty)) with | Sum.inl v17 => (some (v17.1, ())) | Sum.inr v18 => none) | Out.ret v21 => (some v21)))
def H_111 : Hd := ⟨[.sl 130 (.st [.int .i64, .int .i64]), .int .i64], [], none, .p, .int .i64, .p, []⟩
def T_111 : FSig := sg_ H_111 impl_capacityAt
theorem E_111 : fnOf tys [] Tryz.f111 H_111 = T_111 := by kernel_rfl
theorem K_111 : SigOk Tryz.prog 111 T_111 := k_o E_111 trivial Tryz.func111
def impl_CapacityAt (x : ((List D_Step) × (Int × Unit))) (c : Unit) : (Option (Int × Unit)) :=
  ((((impl_StepsOk (x.1, ()) ()).bind fun v0 => (some v0.1)) : (Option Bool)).bind fun v1 => (((if (notB v1) then (some (true, x)) else ((((impl_isTime (x.2.1, ()) ()).bind fun v2 => (some v2.1)) : (Option Bool)).bind fun v3 => (some ((notB v3), x)))) : (Option (Bool × ((List D_Step) × (Int × Unit))))).bind fun v4 => (if v4.1 then (some (0, ())) else ((((impl_capacityAt v4.2 ()).bind fun v5 => (some v5.1)) : (Option Int)).bind fun v6 => (some (v6, ()))))))
def H_88 : Hd := ⟨[.sl 130 (.st [.int .i64, .int .i64]), .int .i64], [], none, .p, .int .i64, .p, []⟩
def T_88 : FSig := sg_ H_88 impl_CapacityAt
theorem E_88 : fnOf tys [(57, T_57), (110, T_110), (111, T_111)] Tryz.f88 H_88 = T_88 := by kernel_rfl
theorem K_88 : SigOk Tryz.prog 88 T_88 := k_o E_88 ⟨K_57, K_110, K_111, trivial⟩ Tryz.func88
def impl_Project_hasResource (x : (D_Project × (Int × Unit))) (c : Unit) : (Option (Bool × Unit)) :=
  ((((impl_within (x.2.1, (0, ((subZ .i64 (lenI x.1.2.2.2.1) 1), ()))) ()).bind fun v0 => (some v0.1)) : (Option Bool)).bind fun v1 => (some (v1, ())))
def H_112 : Hd := ⟨[y_1, .int .i64], [], none, .p, .bool, .p, []⟩
def T_112 : FSig := sg_ H_112 impl_Project_hasResource
theorem E_112 : fnOf tys [(56, T_56)] Tryz.f112 H_112 = T_112 := by kernel_rfl
theorem K_112 : SigOk Tryz.prog 112 T_112 := k_o E_112 ⟨K_56, trivial⟩ Tryz.func112
def impl_IsMachine (x : (D_Project × (Int × Unit))) (c : Unit) : (Option (Bool × Unit)) :=
  ((((impl_Project_hasResource x ()).bind fun v0 => (some v0.1)) : (Option Bool)).bind fun v1 => (((if v1 then ((getI x.1.2.2.2.1 x.2.1).bind fun v2 => (some ((ltZ 0 (lenI v2.2.1)), ()))) else (some (false, ()))) : (Option (Bool × Unit))).bind fun v3 => (some (v3.1, ()))))
def H_89 : Hd := ⟨[y_1, .int .i64], [], none, .p, .bool, .p, []⟩
def T_89 : FSig := sg_ H_89 impl_IsMachine
theorem E_89 : fnOf tys [(112, T_112)] Tryz.f89 H_89 = T_89 := by kernel_rfl
theorem K_89 : SigOk Tryz.prog 89 T_89 := k_o E_89 ⟨K_112, trivial⟩ Tryz.func89
def impl_SetupTime (x : (D_Project × (Int × D_Step))) (c : Unit) : (Option (Int × Unit)) :=
  ((((impl_IsMachine (x.1, (x.2.1, ())) ()).bind fun v0 => (some v0.1)) : (Option Bool)).bind fun v1 => (((if (notB v1) then (some (true, (x.2.1, (x.2.2.1, (x.1, (x.2.2.2.1, ())))))) else ((((impl_ProjectOk (x.1, ()) ()).bind fun v2 => (some v2.1)) : (Option Bool)).bind fun v3 => (((if (notB v3) then (some (true, (x.2.1, (x.2.2.1, (x.1, (x.2.2.2.1, ())))))) else ((((impl_Project_hasActivity (x.1, (x.2.2.1, ())) ()).bind fun v4 => (some v4.1)) : (Option Bool)).bind fun v5 => (((if (notB v5) then (some (true, (x.2.1, (x.2.2.1, (x.1, (x.2.2.2.1, ())))))) else ((((impl_Project_hasActivity (x.1, (x.2.2.2.1, ())) ()).bind fun v6 => (some v6.1)) : (Option Bool)).bind fun v7 => (some ((notB v7), (x.2.1, (x.2.2.1, (x.1, (x.2.2.2.1, ())))))))) : (Option (Bool × (Int × (Int × (D_Project × (Int × Unit))))))).bind fun v8 => (some v8)))) : (Option (Bool × (Int × (Int × (D_Project × (Int × Unit))))))).bind fun v9 => (some v9)))) : (Option (Bool × (Int × (Int × (D_Project × (Int × Unit))))))).bind fun v10 => (if v10.1 then (some (0, ())) else ((getI v10.2.2.2.1.2.2.2.1 v10.2.1).bind fun v11 => ((getI v10.2.2.2.1.2.1 v10.2.2.1).bind fun v12 => ((getI v11.2.1 v12.2.1).bind fun v13 => ((getI v10.2.2.2.1.2.1 v10.2.2.2.2.1).bind fun v14 => ((getI v13 v14.2.1).bind fun v15 => (some (v15, ()))))))))))
def H_113 : Hd := ⟨[y_1, .int .i64, .int .i64, .int .i64], [], none, .p, .int .i64, .p, []⟩
def T_113 : FSig := sg_ H_113 impl_SetupTime
theorem E_113 : fnOf tys [(54, T_54), (89, T_89), (108, T_108)] Tryz.f113 H_113 = T_113 := by kernel_rfl
theorem K_113 : SigOk Tryz.prog 113 T_113 := k_o E_113 ⟨K_54, K_89, K_108, trivial⟩ Tryz.func113
def impl_Project_pairHolds (x : (D_Project × (D_Schedule × (Int × D_Step)))) (c : Unit) : (Option (Bool × Unit)) :=
  ((((impl_Project_mode (x.1, (x.2.1, (x.2.2.2.1, ()))) ()).bind fun v0 => (some v0.1)) : (Option D_Mode)).bind fun v1 => ((getI v1.2.1 x.2.2.1).bind fun v2 => (((if (eqZ v2 0) then (some (true, (x.1, (x.2.2.1, (x.2.2.2.2.1, (x.2.1, (x.2.2.2.1, ()))))))) else ((((impl_Project_mode (x.1, (x.2.1, (x.2.2.2.2.1, ()))) ()).bind fun v3 => (some v3.1)) : (Option D_Mode)).bind fun v4 => ((getI v4.2.1 x.2.2.1).bind fun v5 => (some ((eqZ v5 0), (x.1, (x.2.2.1, (x.2.2.2.2.1, (x.2.1, (x.2.2.2.1, ())))))))))) : (Option (Bool × (D_Project × (Int × (Int × (D_Schedule × (Int × Unit)))))))).bind fun v6 => (if v6.1 then (some (true, ())) else ((((impl_Project_end (v6.2.1, v6.2.2.2.2) ()).bind fun v7 => (some v7.1)) : (Option Int)).bind fun v8 => ((((impl_SetupTime (v6.2.1, (v6.2.2.1, (v6.2.2.2.2.2.1, (v6.2.2.2.1, ())))) ()).bind fun v9 => (some v9.1)) : (Option Int)).bind fun v10 => ((getI v6.2.2.2.2.1.1 v6.2.2.2.1).bind fun v11 => (((if (leZ (addZ .i64 v8 v10) v11) then (some (true, ())) else ((((impl_Project_end (v6.2.1, (v6.2.2.2.2.1, (v6.2.2.2.1, ()))) ()).bind fun v12 => (some v12.1)) : (Option Int)).bind fun v13 => ((((impl_SetupTime (v6.2.1, (v6.2.2.1, (v6.2.2.2.1, (v6.2.2.2.2.2.1, ())))) ()).bind fun v14 => (some v14.1)) : (Option Int)).bind fun v15 => ((getI v6.2.2.2.2.1.1 v6.2.2.2.2.2.1).bind fun v16 => (some ((leZ (addZ .i64 v13 v15) v16), ())))))) : (Option (Bool × Unit))).bind fun v17 => (some (v17.1, ()))))))))))
def H_90 : Hd := ⟨[y_1, y_8, .int .i64, .int .i64, .int .i64], [], none, .p, .bool, .p, []⟩
def T_90 : FSig := sg_ H_90 impl_Project_pairHolds
theorem E_90 : fnOf tys [(86, T_86), (87, T_87), (113, T_113)] Tryz.f90 H_90 = T_90 := by kernel_rfl
theorem K_90 : SigOk Tryz.prog 90 T_90 := k_o E_90 ⟨K_86, K_87, K_113, trivial⟩ Tryz.func90
abbrev s_impl_Plan_holds_L0 : Type := (Int × (Int × ((List D_Link) × (Int × (D_Plan × (D_Project × (D_Schedule × Unit)))))))
def impl_Plan_holds_L0 : s_impl_Plan_holds_L0 → Option (Out s_impl_Plan_holds_L0 ((Bool × s_impl_Plan_holds_L0) ⊕ Empty) (Bool × Unit)) :=
  (fun v0 => (if (ltZ v0.1 v0.2.1) then ((getI v0.2.2.1 v0.1).bind fun v1 => (((if (eqZ v1.1 v0.2.2.2.1) then ((((impl_SetHas (v0.2.2.2.2.1.2.1, (v1.1, ())) ()).bind fun v2 => (some v2.1)) : (Option Bool)).bind fun v3 => (((if v3 then ((((impl_SetHas (v0.2.2.2.2.1.2.1, (v1.2.1, ())) ()).bind fun v4 => (some v4.1)) : (Option Bool)).bind fun v5 => (((if v5 then ((((impl_Project_linkHolds (v0.2.2.2.2.2.1, (v0.2.2.2.2.2.2.1, (v1, ()))) ()).bind fun v6 => (some v6.1)) : (Option Bool)).bind fun v7 => (some ((notB v7), v0))) else (some (false, v0))) : (Option (Bool × (Int × (Int × ((List D_Link) × (Int × (D_Plan × (D_Project × (D_Schedule × Unit)))))))))).bind fun v8 => (some v8))) else (some (false, v0))) : (Option (Bool × (Int × (Int × ((List D_Link) × (Int × (D_Plan × (D_Project × (D_Schedule × Unit)))))))))).bind fun v9 => (some v9))) else (((if (eqZ v1.2.1 v0.2.2.2.1) then ((((impl_SetHas (v0.2.2.2.2.1.2.1, (v1.1, ())) ()).bind fun v10 => (some v10.1)) : (Option Bool)).bind fun v11 => (((if v11 then ((((impl_SetHas (v0.2.2.2.2.1.2.1, (v1.2.1, ())) ()).bind fun v12 => (some v12.1)) : (Option Bool)).bind fun v13 => (((if v13 then ((((impl_Project_linkHolds (v0.2.2.2.2.2.1, (v0.2.2.2.2.2.2.1, (v1, ()))) ()).bind fun v14 => (some v14.1)) : (Option Bool)).bind fun v15 => (some ((notB v15), v0))) else (some (false, v0))) : (Option (Bool × (Int × (Int × ((List D_Link) × (Int × (D_Plan × (D_Project × (D_Schedule × Unit)))))))))).bind fun v16 => (some v16))) else (some (false, v0))) : (Option (Bool × (Int × (Int × ((List D_Link) × (Int × (D_Plan × (D_Project × (D_Schedule × Unit)))))))))).bind fun v17 => (some v17))) else (some (false, v0))) : (Option (Bool × (Int × (Int × ((List D_Link) × (Int × (D_Plan × (D_Project × (D_Schedule × Unit)))))))))).bind fun v18 => (some v18))) : (Option (Bool × (Int × (Int × ((List D_Link) × (Int × (D_Plan × (D_Project × (D_Schedule × Unit)))))))))).bind fun v19 => (if v19.1 then (some (Out.ret (false, ()))) else (some (Out.norm ((addZ .i64 v19.2.1 1), v19.2.2)))))) else (some (Out.exit (Sum.inl ((ltZ v0.1 v0.2.1), v0))))))
abbrev s_impl_Plan_holds_L1 : Type := (Int × (Int × ((List Int) × (Int × (Int × (D_Resource × (Int × (Int × (Int × ((List D_Resource) × (Int × (D_Plan × (D_Project × (D_Schedule × Unit))))))))))))))
def impl_Plan_holds_L1 : s_impl_Plan_holds_L1 → Option (Out s_impl_Plan_holds_L1 ((Bool × s_impl_Plan_holds_L1) ⊕ Empty) (Bool × Unit)) :=
  (fun v30 => (if (ltZ v30.1 v30.2.1) then ((getI v30.2.2.1 v30.1).bind fun v31 => ((getI v30.2.2.2.2.2.2.2.2.2.2.2.2.2.1.1 v31).bind fun v32 => (((if (leZ v32 v30.2.2.2.2.1) then ((((impl_Project_end (v30.2.2.2.2.2.2.2.2.2.2.2.2.1, (v30.2.2.2.2.2.2.2.2.2.2.2.2.2.1, (v31, ()))) ()).bind fun v33 => (some v33.1)) : (Option Int)).bind fun v34 => (some ((ltZ v30.2.2.2.2.1 v34), (v31, v30)))) else (some (false, (v31, v30)))) : (Option (Bool × (Int × (Int × (Int × ((List Int) × (Int × (Int × (D_Resource × (Int × (Int × (Int × ((List D_Resource) × (Int × (D_Plan × (D_Project × (D_Schedule × Unit)))))))))))))))))).bind fun v35 => (((if v35.1 then ((((impl_Project_mode (v35.2.2.2.2.2.2.2.2.2.2.2.2.2.2.1, (v35.2.2.2.2.2.2.2.2.2.2.2.2.2.2.2.1, (v35.2.1, ()))) ()).bind fun v36 => (some v36.1)) : (Option D_Mode)).bind fun v37 => ((getI v37.2.1 v35.2.2.2.2.2.2.2.2.1).bind fun v38 => (some (Out.norm (v35.2.2.1, (v35.2.2.2.1, (v35.2.2.2.2.1, ((addZ .i64 v35.2.2.2.2.2.1 v38), v35.2.2.2.2.2.2)))))))) else (some (Out.norm v35.2.2))) : (Option (Out (Int × (Int × ((List Int) × (Int × (Int × (D_Resource × (Int × (Int × (Int × ((List D_Resource) × (Int × (D_Plan × (D_Project × (D_Schedule × Unit)))))))))))))) Empty (Bool × Unit)))).bind fun v39 => (match ((match ((match v39 with | Out.norm v48 => (Out.norm v48) | Out.exit v49 => (Out.exit v49) | Out.ret v50 => (Out.ret v50)) : (Out (Int × (Int × ((List Int) × (Int × (Int × (D_Resource × (Int × (Int × (Int × ((List D_Resource) × (Int × (D_Plan × (D_Project × (D_Schedule × Unit)))))))))))))) Empty (Bool × Unit))) with | Out.norm v45 => (Out.norm v45) | Out.exit v46 => (Out.exit v46) | Out.ret v47 => (Out.ret v47)) : (Out (Int × (Int × ((List Int) × (Int × (Int × (D_Resource × (Int × (Int × (Int × ((List D_Resource) × (Int × (D_Plan × (D_Project × (D_Schedule × Unit)))))))))))))) Empty (Bool × Unit))) with | Out.norm v40 => (some (Out.norm ((addZ .i64 v40.1 1), v40.2))) | Out.exit v41 => (match ((Empty.elim v41) : ((Int × (Int × ((List Int) × (Int × (Int × (D_Resource × (Int × (Int × (Int × ((List D_Resource) × (Int × (D_Plan × (D_Project × (D_Schedule × Unit)))))))))))))) ⊕ Empty)) with | Sum.inl v42 => (some (Out.norm ((addZ .i64 v42.1 1), v42.2))) | Sum.inr v43 => (some (Out.exit (Sum.inr (Empty.elim v43))))) | Out.ret v44 => (some (Out.ret v44))))))) else (some (Out.exit (Sum.inl ((ltZ v30.1 v30.2.1), v30))))))
abbrev s_impl_Plan_holds_L2 : Type := (Int × (D_Resource × (Int × (Int × (Int × ((List D_Resource) × (Int × (D_Plan × (D_Project × (D_Schedule × Unit))))))))))
def impl_Plan_holds_L2 : s_impl_Plan_holds_L2 → Option (Out s_impl_Plan_holds_L2 ((Bool × s_impl_Plan_holds_L2) ⊕ Empty) (Bool × Unit)) :=
  (fun v27 => ((((impl_Project_end (v27.2.2.2.2.2.2.2.2.1, (v27.2.2.2.2.2.2.2.2.2.1, (v27.2.2.2.2.2.2.1, ()))) ()).bind fun v28 => (some v28.1)) : (Option Int)).bind fun v29 => (if (ltZ v27.1 v29) then ((loopN (A := s_impl_Plan_holds_L1) big impl_Plan_holds_L1 (0, ((lenI v27.2.2.2.2.2.2.2.1.2.1), (v27.2.2.2.2.2.2.2.1.2.1, (0, v27))))).bind fun v51 => (match v51 with | Out.norm v52 => none | Out.exit v53 => (match ((match v53 with | Sum.inl v60 => (Sum.inl v60.2.2.2.2) | Sum.inr v61 => (Empty.elim v61)) : ((Int × (Int × (D_Resource × (Int × (Int × (Int × ((List D_Resource) × (Int × (D_Plan × (D_Project × (D_Schedule × Unit))))))))))) ⊕ Empty)) with | Sum.inl v54 => ((((impl_CapacityAt (v54.2.2.1.1, (v54.2.1, ())) ()).bind fun v55 => (some v55.1)) : (Option Int)).bind fun v56 => (if (ltZ v56 v54.1) then (some (Out.ret (false, ()))) else (some (Out.norm ((addZ .i64 v54.2.1 1), v54.2.2))))) | Sum.inr v57 => (match ((Empty.elim (Empty.elim v57)) : ((Int × (D_Resource × (Int × (Int × (Int × ((List D_Resource) × (Int × (D_Plan × (D_Project × (D_Schedule × Unit)))))))))) ⊕ Empty)) with | Sum.inl v58 => (some (Out.norm ((addZ .i64 v58.1 1), v58.2))) | Sum.inr v59 => (some (Out.exit (Sum.inr (Empty.elim v59)))))) | Out.ret v62 => (some (Out.ret v62)))) else (some (Out.exit (Sum.inl ((ltZ v27.1 v29), v27)))))))
abbrev s_impl_Plan_holds_L3 : Type := (Int × (Int × ((List Int) × (Int × (Int × (Int × ((List D_Resource) × (Int × (D_Plan × (D_Project × (D_Schedule × Unit)))))))))))
def impl_Plan_holds_L3 : s_impl_Plan_holds_L3 → Option (Out s_impl_Plan_holds_L3 ((Bool × s_impl_Plan_holds_L3) ⊕ Empty) (Bool × Unit)) :=
  (fun v67 => (if (ltZ v67.1 v67.2.1) then ((getI v67.2.2.1 v67.1).bind fun v68 => ((((impl_IsMachine (v67.2.2.2.2.2.2.2.2.2.1, (v67.2.2.2.1, ())) ()).bind fun v69 => (some v69.1)) : (Option Bool)).bind fun v70 => (((if v70 then (((if (notB (eqZ v68 v67.2.2.2.2.2.2.2.1)) then ((((impl_Project_pairHolds (v67.2.2.2.2.2.2.2.2.2.1, (v67.2.2.2.2.2.2.2.2.2.2.1, (v67.2.2.2.1, (v67.2.2.2.2.2.2.2.1, (v68, ()))))) ()).bind fun v71 => (some v71.1)) : (Option Bool)).bind fun v72 => (some ((notB v72), v67))) else (some (false, v67))) : (Option (Bool × (Int × (Int × ((List Int) × (Int × (Int × (Int × ((List D_Resource) × (Int × (D_Plan × (D_Project × (D_Schedule × Unit)))))))))))))).bind fun v73 => (some v73)) else (some (false, v67))) : (Option (Bool × (Int × (Int × ((List Int) × (Int × (Int × (Int × ((List D_Resource) × (Int × (D_Plan × (D_Project × (D_Schedule × Unit)))))))))))))).bind fun v74 => (if v74.1 then (some (Out.ret (false, ()))) else (some (Out.norm ((addZ .i64 v74.2.1 1), v74.2.2))))))) else (some (Out.exit (Sum.inl ((ltZ v67.1 v67.2.1), v67))))))
abbrev s_impl_Plan_holds_L4 : Type := (Int × (Int × ((List D_Resource) × (Int × (D_Plan × (D_Project × (D_Schedule × Unit)))))))
def impl_Plan_holds_L4 : s_impl_Plan_holds_L4 → Option (Out s_impl_Plan_holds_L4 ((Bool × s_impl_Plan_holds_L4) ⊕ Empty) (Bool × Unit)) :=
  (fun v24 => (if (ltZ v24.1 v24.2.1) then ((getI v24.2.2.1 v24.1).bind fun v25 => ((getI v24.2.2.2.2.2.2.1.1 v24.2.2.2.1).bind fun v26 => ((loopN (A := s_impl_Plan_holds_L2) big impl_Plan_holds_L2 (v26, (v25, (v24.1, v24)))).bind fun v63 => (match v63 with | Out.norm v64 => none | Out.exit v65 => (match ((match v65 with | Sum.inl v88 => (Sum.inl v88.2.2.2) | Sum.inr v89 => (Empty.elim v89)) : ((Int × (Int × (Int × ((List D_Resource) × (Int × (D_Plan × (D_Project × (D_Schedule × Unit)))))))) ⊕ Empty)) with | Sum.inl v66 => ((loopN (A := s_impl_Plan_holds_L3) big impl_Plan_holds_L3 (0, ((lenI v66.2.2.2.2.2.1.2.1), (v66.2.2.2.2.2.1.2.1, v66)))).bind fun v75 => (match v75 with | Out.norm v76 => none | Out.exit v77 => (match ((match v77 with | Sum.inl v82 => (Sum.inl v82.2.2.2.2.2) | Sum.inr v83 => (Empty.elim v83)) : ((Int × (Int × ((List D_Resource) × (Int × (D_Plan × (D_Project × (D_Schedule × Unit))))))) ⊕ Empty)) with | Sum.inl v78 => (some (Out.norm ((addZ .i64 v78.1 1), v78.2))) | Sum.inr v79 => (match ((Empty.elim v79) : ((Int × (Int × ((List D_Resource) × (Int × (D_Plan × (D_Project × (D_Schedule × Unit))))))) ⊕ Empty)) with | Sum.inl v80 => (some (Out.norm ((addZ .i64 v80.1 1), v80.2))) | Sum.inr v81 => (some (Out.exit (Sum.inr (Empty.elim v81)))))) | Out.ret v84 => (some (Out.ret v84)))) | Sum.inr v85 => (match ((Empty.elim (Empty.elim v85)) : ((Int × (Int × ((List D_Resource) × (Int × (D_Plan × (D_Project × (D_Schedule × Unit))))))) ⊕ Empty)) with | Sum.inl v86 => (some (Out.norm ((addZ .i64 v86.1 1), v86.2))) | Sum.inr v87 => (some (Out.exit (Sum.inr (Empty.elim v87)))))) | Out.ret v90 => (some (Out.ret v90)))))) else (some (Out.exit (Sum.inl ((ltZ v24.1 v24.2.1), v24))))))
abbrev s_impl_Plan_holds_L5 : Type := (Int × (Int × ((List Int) × (Int × (Int × (Int × (Int × (Int × ((List Int) × (D_Plan × (D_Project × (D_Schedule × Unit))))))))))))
def impl_Plan_holds_L5 : s_impl_Plan_holds_L5 → Option (Out s_impl_Plan_holds_L5 ((Bool × s_impl_Plan_holds_L5) ⊕ Empty) (Bool × Unit)) :=
  (fun v97 => (if (ltZ v97.1 v97.2.1) then ((getI v97.2.2.1 v97.1).bind fun v98 => ((((impl_Project_mode (v97.2.2.2.2.2.2.2.2.2.2.1, (v97.2.2.2.2.2.2.2.2.2.2.2.1, (v98, ()))) ()).bind fun v99 => (some v99.1)) : (Option D_Mode)).bind fun v100 => ((getI v100.2.2.1 v97.2.2.2.1).bind fun v101 => (some (Out.norm ((addZ .i64 v97.1 1), (v97.2.1, (v97.2.2.1, (v97.2.2.2.1, ((addZ .i64 v97.2.2.2.2.1 v101), v97.2.2.2.2.2)))))))))) else (some (Out.exit (Sum.inl ((ltZ v97.1 v97.2.1), v97))))))
abbrev s_impl_Plan_holds_L6 : Type := (Int × (Int × ((List Int) × (D_Plan × (D_Project × (D_Schedule × Unit))))))
def impl_Plan_holds_L6 : s_impl_Plan_holds_L6 → Option (Out s_impl_Plan_holds_L6 ((Bool × s_impl_Plan_holds_L6) ⊕ Empty) (Bool × Unit)) :=
  (fun v95 => (if (ltZ v95.1 v95.2.1) then ((getI v95.2.2.1 v95.1).bind fun v96 => ((loopN (A := s_impl_Plan_holds_L5) big impl_Plan_holds_L5 (0, ((lenI v95.2.2.2.1.2.1), (v95.2.2.2.1.2.1, (v95.1, (0, (v96, v95))))))).bind fun v102 => (match v102 with | Out.norm v103 => none | Out.exit v104 => (match ((match v104 with | Sum.inl v109 => (Sum.inl v109.2.2.2.2.2) | Sum.inr v110 => (Empty.elim v110)) : ((Int × (Int × (Int × (Int × ((List Int) × (D_Plan × (D_Project × (D_Schedule × Unit)))))))) ⊕ Empty)) with | Sum.inl v105 => (if (ltZ v105.2.1 v105.1) then (some (Out.ret (false, ()))) else (some (Out.norm ((addZ .i64 v105.2.2.1 1), v105.2.2.2)))) | Sum.inr v106 => (match ((Empty.elim (Empty.elim v106)) : ((Int × (Int × ((List Int) × (D_Plan × (D_Project × (D_Schedule × Unit)))))) ⊕ Empty)) with | Sum.inl v107 => (some (Out.norm ((addZ .i64 v107.1 1), v107.2))) | Sum.inr v108 => (some (Out.exit (Sum.inr (Empty.elim v108)))))) | Out.ret v111 => (some (Out.ret v111))))) else (some (Out.exit (Sum.inl ((ltZ v95.1 v95.2.1), v95))))))
def impl_Plan_holds (x : (D_Plan × (D_Project × (Int × Unit)))) (c : Unit) : (Option (Bool × Unit)) :=
  ((loopN (A := s_impl_Plan_holds_L0) big impl_Plan_holds_L0 (0, ((lenI x.2.1.2.2.1), (x.2.1.2.2.1, (x.2.2.1, (x.1, (x.2.1, (x.1.1, ())))))))).bind fun v20 => (match v20 with | Out.norm v21 => none | Out.exit v22 => (match ((match v22 with | Sum.inl v125 => (Sum.inl v125.2.2.2.2) | Sum.inr v126 => (Empty.elim v126)) : ((Int × (D_Plan × (D_Project × (D_Schedule × Unit)))) ⊕ Empty)) with | Sum.inl v23 => ((loopN (A := s_impl_Plan_holds_L4) big impl_Plan_holds_L4 (0, ((lenI v23.2.2.1.2.2.2.1), (v23.2.2.1.2.2.2.1, v23)))).bind fun v91 => (match v91 with | Out.norm v92 => none | Out.exit v93 => (match ((match v93 with | Sum.inl v121 => (Sum.inl v121.2.2.2.2.2) | Sum.inr v122 => (Empty.elim v122)) : ((D_Plan × (D_Project × (D_Schedule × Unit))) ⊕ Empty)) with | Sum.inl v94 => ((loopN (A := s_impl_Plan_holds_L6) big impl_Plan_holds_L6 (0, ((lenI v94.2.1.2.2.2.2.1), (v94.2.1.2.2.2.2.1, v94)))).bind fun v112 => (match v112 with | Out.norm v113 => none | Out.exit v114 => (match ((match v114 with | Sum.inl v117 => (Sum.inl ()) | Sum.inr v118 => (Empty.elim v118)) : (Unit ⊕ Empty)) with | Sum.inl v115 => (some (true, ())) | Sum.inr v116 => none) | Out.ret v119 => (some v119))) | Sum.inr v120 => none) | Out.ret v123 => (some v123))) | Sum.inr v124 => none) | Out.ret v127 => (some v127)))
def H_58 : Hd := ⟨[y_5, y_1, .int .i64], [], none, .p, .bool, .p, []⟩
def T_58 : FSig := sg_ H_58 impl_Plan_holds
theorem E_58 : fnOf tys [(55, T_55), (85, T_85), (86, T_86), (87, T_87), (88, T_88), (89, T_89), (90, T_90)] Tryz.f58 H_58 = T_58 := by kernel_rfl
theorem K_58 : SigOk Tryz.prog 58 T_58 := k_o E_58 ⟨K_55, K_85, K_86, K_87, K_88, K_89, K_90, trivial⟩ Tryz.func58
def impl_PlanFits (x : (D_Project × (D_Plan × (Int × D_Step)))) (c : Unit) : (Option (Bool × Unit)) :=
  ((((impl_PlanOk (x.1, (x.2.1, ())) ()).bind fun v0 => (some v0.1)) : (Option Bool)).bind fun v1 => (((if (notB v1) then (some (true, (x.2.1, (x.2.2.2.1, (x.2.2.2.2.1, (x.1, (x.2.2.1, ()))))))) else ((((impl_Project_hasActivity (x.1, (x.2.2.1, ())) ()).bind fun v2 => (some v2.1)) : (Option Bool)).bind fun v3 => (((if (notB v3) then (some (true, (x.2.1, (x.2.2.2.1, (x.2.2.2.2.1, (x.1, (x.2.2.1, ()))))))) else ((((impl_SetHas (x.2.1.2.1, (x.2.2.1, ())) ()).bind fun v4 => (some v4.1)) : (Option Bool)).bind fun v5 => (((if v5 then (some (true, (x.2.1, (x.2.2.2.1, (x.2.2.2.2.1, (x.1, (x.2.2.1, ()))))))) else ((getI x.1.2.1 x.2.2.1).bind fun v6 => ((((impl_within (x.2.2.2.1, (0, ((subZ .i64 (lenI v6.2.2.1) 1), ()))) ()).bind fun v7 => (some v7.1)) : (Option Bool)).bind fun v8 => (((if (notB v8) then (some (true, (x.2.1, (x.2.2.2.1, (x.2.2.2.2.1, (x.1, (x.2.2.1, ()))))))) else ((((impl_isTime (x.2.2.2.2.1, ()) ()).bind fun v9 => (some v9.1)) : (Option Bool)).bind fun v10 => (some ((notB v10), (x.2.1, (x.2.2.2.1, (x.2.2.2.2.1, (x.1, (x.2.2.1, ()))))))))) : (Option (Bool × (D_Plan × (Int × (Int × (D_Project × (Int × Unit)))))))).bind fun v11 => (some v11))))) : (Option (Bool × (D_Plan × (Int × (Int × (D_Project × (Int × Unit)))))))).bind fun v12 => (some v12)))) : (Option (Bool × (D_Plan × (Int × (Int × (D_Project × (Int × Unit)))))))).bind fun v13 => (some v13)))) : (Option (Bool × (D_Plan × (Int × (Int × (D_Project × (Int × Unit)))))))).bind fun v14 => (if v14.1 then (some (false, ())) else ((getI v14.2.2.2.2.1.2.1 v14.2.2.2.2.2.1).bind fun v15 => ((getI v15.2.2.1 v14.2.2.1).bind fun v16 => (if (ltZ v14.2.2.2.2.1.1 (addZ .i64 v14.2.2.2.1 v16.1)) then (some (false, ())) else ((((impl_Plan_with (v14.2.1, (v14.2.2.2.2.2.1, (v14.2.2.1, (v14.2.2.2.1, ())))) ()).bind fun v17 => (some v17.1)) : (Option D_Plan)).bind fun v18 => ((((impl_Plan_holds (v18, v14.2.2.2.2) ()).bind fun v19 => (some v19.1)) : (Option Bool)).bind fun v20 => (some (v20, ()))))))))))
def H_28 : Hd := ⟨[y_1, y_5, .int .i64, .int .i64, .int .i64], [], none, .p, .bool, .p, []⟩
def T_28 : FSig := sg_ H_28 impl_PlanFits
theorem E_28 : fnOf tys [(29, T_29), (53, T_53), (54, T_54), (55, T_55), (56, T_56), (57, T_57), (58, T_58)] Tryz.f28 H_28 = T_28 := by kernel_rfl
theorem K_28 : SigOk Tryz.prog 28 T_28 := k_o E_28 ⟨K_29, K_53, K_54, K_55, K_56, K_57, K_58, trivial⟩ Tryz.func28
def impl_PlanAdd (x : (D_Project × (D_Plan × (Int × D_Step)))) (c : Unit) : (Option ((D_Plan × (Bool × Unit)) × Unit)) :=
  ((((impl_PlanFits x ()).bind fun v0 => (some v0.1)) : (Option Bool)).bind fun v1 => (if (notB v1) then (some (((([], ([], ())), ([], ())), (false, ())), ())) else ((((impl_Plan_with x.2 ()).bind fun v2 => (some v2.1)) : (Option D_Plan)).bind fun v3 => (some ((v3, (true, ())), ())))))
def H_9 : Hd := ⟨[y_1, y_5, .int .i64, .int .i64, .int .i64], [], none, .p, .tup [y_5, .bool], (Ty.all (.tup [y_5, .bool])), []⟩
def T_9 : FSig := sg_ H_9 impl_PlanAdd
theorem E_9 : fnOf tys [(28, T_28), (29, T_29)] Tryz.f9 H_9 = T_9 := by kernel_rfl
theorem K_9 : SigOk Tryz.prog 9 T_9 := k_o E_9 ⟨K_28, K_29, trivial⟩ Tryz.func9
def laws_eqIntS_L0 : D_Mode → Option (Out D_Mode ((Bool × D_Mode) ⊕ Empty) (Bool × Unit)) :=
  (fun v0 => (if (ltZ v0.1 (lenI v0.2.1)) then ((getI v0.2.1 v0.1).bind fun v1 => ((getI v0.2.2.1 v0.1).bind fun v2 => (if (notB (eqZ v1 v2)) then (some (Out.ret (false, ()))) else (some (Out.norm ((addZ .i64 v0.1 1), v0.2)))))) else (some (Out.exit (Sum.inl ((ltZ v0.1 (lenI v0.2.1)), v0))))))
def laws_eqIntS (x : D_Schedule) (c : Unit) : (Option (Bool × Unit)) :=
  (if (notB (eqZ (lenI x.1) (lenI x.2.1))) then (some (false, ())) else ((loopN (A := D_Mode) big laws_eqIntS_L0 (0, x)).bind fun v3 => (match v3 with | Out.norm v4 => none | Out.exit v5 => (match ((match v5 with | Sum.inl v8 => (Sum.inl ()) | Sum.inr v9 => (Empty.elim v9)) : (Unit ⊕ Empty)) with | Sum.inl v6 => (some (true, ())) | Sum.inr v7 => none) | Out.ret v10 => (some v10))))
def H_31 : Hd := ⟨[.sl 3 (.int .i64), .sl 3 (.int .i64)], [], none, .p, .bool, .p, []⟩
def T_31 : FSig := sg_ H_31 laws_eqIntS
theorem E_31 : fnOf tys [] Tryz.f31 H_31 = T_31 := by kernel_rfl
theorem K_31 : SigOk Tryz.prog 31 T_31 := k_o E_31 trivial Tryz.func31
def laws_eqSchedule (x : (D_Schedule × (D_Schedule × Unit))) (c : Unit) : (Option (Bool × Unit)) :=
  ((((laws_eqIntS (x.1.1, (x.2.1.1, ())) ()).bind fun v0 => (some v0.1)) : (Option Bool)).bind fun v1 => (if (notB v1) then (some (false, ())) else ((((laws_eqIntS (x.1.2.1, (x.2.1.2.1, ())) ()).bind fun v2 => (some v2.1)) : (Option Bool)).bind fun v3 => (if (notB v3) then (some (false, ())) else (some (true, ()))))))
def H_30 : Hd := ⟨[y_8, y_8], [], none, .p, .bool, .p, []⟩
def T_30 : FSig := sg_ H_30 laws_eqSchedule
theorem E_30 : fnOf tys [(31, T_31)] Tryz.f30 H_30 = T_30 := by kernel_rfl
theorem K_30 : SigOk Tryz.prog 30 T_30 := k_o E_30 ⟨K_31, trivial⟩ Tryz.func30
def laws_eqPlan (x : (D_Plan × (D_Plan × Unit))) (c : Unit) : (Option (Bool × Unit)) :=
  ((((laws_eqSchedule (x.1.1, (x.2.1.1, ())) ()).bind fun v0 => (some v0.1)) : (Option Bool)).bind fun v1 => (if (notB v1) then (some (false, ())) else ((((laws_eqIntS (x.1.2.1, (x.2.1.2.1, ())) ()).bind fun v2 => (some v2.1)) : (Option Bool)).bind fun v3 => (if (notB v3) then (some (false, ())) else (some (true, ()))))))
def H_10 : Hd := ⟨[y_5, y_5], [], none, .p, .bool, .p, []⟩
def T_10 : FSig := sg_ H_10 laws_eqPlan
theorem E_10 : fnOf tys [(30, T_30), (31, T_31)] Tryz.f10 H_10 = T_10 := by kernel_rfl
theorem K_10 : SigOk Tryz.prog 10 T_10 := k_o E_10 ⟨K_30, K_31, trivial⟩ Tryz.func10
def laws_eqMode (x : (D_Mode × (D_Mode × Unit))) (c : Unit) : (Option (Bool × Unit)) :=
  (if (notB (eqZ x.1.1 x.2.1.1)) then (some (false, ())) else ((((laws_eqIntS (x.1.2.1, (x.2.1.2.1, ())) ()).bind fun v0 => (some v0.1)) : (Option Bool)).bind fun v1 => (if (notB v1) then (some (false, ())) else ((((laws_eqIntS (x.1.2.2.1, (x.2.1.2.2.1, ())) ()).bind fun v2 => (some v2.1)) : (Option Bool)).bind fun v3 => (if (notB v3) then (some (false, ())) else (some (true, ())))))))
def H_116 : Hd := ⟨[y_6, y_6], [], none, .p, .bool, .p, []⟩
def T_116 : FSig := sg_ H_116 laws_eqMode
theorem E_116 : fnOf tys [(31, T_31)] Tryz.f116 H_116 = T_116 := by kernel_rfl
theorem K_116 : SigOk Tryz.prog 116 T_116 := k_o E_116 ⟨K_31, trivial⟩ Tryz.func116
abbrev s_laws_eqModeS_L0 : Type := (Int × ((List D_Mode) × ((List D_Mode) × Unit)))
def laws_eqModeS_L0 : s_laws_eqModeS_L0 → Option (Out s_laws_eqModeS_L0 ((Bool × s_laws_eqModeS_L0) ⊕ Empty) (Bool × Unit)) :=
  (fun v0 => (if (ltZ v0.1 (lenI v0.2.1)) then ((getI v0.2.1 v0.1).bind fun v1 => ((getI v0.2.2.1 v0.1).bind fun v2 => ((((laws_eqMode (v1, (v2, ())) ()).bind fun v3 => (some v3.1)) : (Option Bool)).bind fun v4 => (if (notB v4) then (some (Out.ret (false, ()))) else (some (Out.norm ((addZ .i64 v0.1 1), v0.2))))))) else (some (Out.exit (Sum.inl ((ltZ v0.1 (lenI v0.2.1)), v0))))))
def laws_eqModeS (x : ((List D_Mode) × ((List D_Mode) × Unit))) (c : Unit) : (Option (Bool × Unit)) :=
  (if (notB (eqZ (lenI x.1) (lenI x.2.1))) then (some (false, ())) else ((loopN (A := s_laws_eqModeS_L0) big laws_eqModeS_L0 (0, x)).bind fun v5 => (match v5 with | Out.norm v6 => none | Out.exit v7 => (match ((match v7 with | Sum.inl v10 => (Sum.inl ()) | Sum.inr v11 => (Empty.elim v11)) : (Unit ⊕ Empty)) with | Sum.inl v8 => (some (true, ())) | Sum.inr v9 => none) | Out.ret v12 => (some v12))))
def H_93 : Hd := ⟨[.sl 102 (y_6), .sl 102 (y_6)], [], none, .p, .bool, .p, []⟩
def T_93 : FSig := sg_ H_93 laws_eqModeS
theorem E_93 : fnOf tys [(116, T_116)] Tryz.f93 H_93 = T_93 := by kernel_rfl
theorem K_93 : SigOk Tryz.prog 93 T_93 := k_o E_93 ⟨K_116, trivial⟩ Tryz.func93
def laws_eqActivity (x : (D_Activity × (D_Activity × Unit))) (c : Unit) : (Option (Bool × Unit)) :=
  (if (notB (eqS x.1.1 x.2.1.1)) then (some (false, ())) else (if (notB (eqZ x.1.2.1 x.2.1.2.1)) then (some (false, ())) else ((((laws_eqModeS (x.1.2.2.1, (x.2.1.2.2.1, ())) ()).bind fun v0 => (some v0.1)) : (Option Bool)).bind fun v1 => (if (notB v1) then (some (false, ())) else (some (true, ()))))))
def H_61 : Hd := ⟨[y_3, y_3], [], none, .p, .bool, .p, []⟩
def T_61 : FSig := sg_ H_61 laws_eqActivity
theorem E_61 : fnOf tys [(93, T_93)] Tryz.f61 H_61 = T_61 := by kernel_rfl
theorem K_61 : SigOk Tryz.prog 61 T_61 := k_o E_61 ⟨K_93, trivial⟩ Tryz.func61
abbrev s_laws_eqActivityS_L0 : Type := (Int × ((List D_Activity) × ((List D_Activity) × Unit)))
def laws_eqActivityS_L0 : s_laws_eqActivityS_L0 → Option (Out s_laws_eqActivityS_L0 ((Bool × s_laws_eqActivityS_L0) ⊕ Empty) (Bool × Unit)) :=
  (fun v0 => (if (ltZ v0.1 (lenI v0.2.1)) then ((getI v0.2.1 v0.1).bind fun v1 => ((getI v0.2.2.1 v0.1).bind fun v2 => ((((laws_eqActivity (v1, (v2, ())) ()).bind fun v3 => (some v3.1)) : (Option Bool)).bind fun v4 => (if (notB v4) then (some (Out.ret (false, ()))) else (some (Out.norm ((addZ .i64 v0.1 1), v0.2))))))) else (some (Out.exit (Sum.inl ((ltZ v0.1 (lenI v0.2.1)), v0))))))
def laws_eqActivityS (x : ((List D_Activity) × ((List D_Activity) × Unit))) (c : Unit) : (Option (Bool × Unit)) :=
  (if (notB (eqZ (lenI x.1) (lenI x.2.1))) then (some (false, ())) else ((loopN (A := s_laws_eqActivityS_L0) big laws_eqActivityS_L0 (0, x)).bind fun v5 => (match v5 with | Out.norm v6 => none | Out.exit v7 => (match ((match v7 with | Sum.inl v10 => (Sum.inl ()) | Sum.inr v11 => (Empty.elim v11)) : (Unit ⊕ Empty)) with | Sum.inl v8 => (some (true, ())) | Sum.inr v9 => none) | Out.ret v12 => (some v12))))
def H_32 : Hd := ⟨[.sl 88 (y_3), .sl 88 (y_3)], [], none, .p, .bool, .p, []⟩
def T_32 : FSig := sg_ H_32 laws_eqActivityS
theorem E_32 : fnOf tys [(61, T_61)] Tryz.f32 H_32 = T_32 := by kernel_rfl
theorem K_32 : SigOk Tryz.prog 32 T_32 := k_o E_32 ⟨K_61, trivial⟩ Tryz.func32
def laws_eqLink (x : (D_Link × (D_Link × Unit))) (c : Unit) : (Option (Bool × Unit)) :=
  (if (notB (eqZ x.1.1 x.2.1.1)) then (some (false, ())) else (if (notB (eqZ x.1.2.1 x.2.1.2.1)) then (some (false, ())) else (if (notB (eqB x.1.2.2.1 x.2.1.2.2.1)) then (some (false, ())) else (if (notB (eqZ x.1.2.2.2.1 x.2.1.2.2.2.1)) then (some (false, ())) else (some (true, ()))))))
def H_62 : Hd := ⟨[y_7, y_7], [], none, .p, .bool, .p, []⟩
def T_62 : FSig := sg_ H_62 laws_eqLink
theorem E_62 : fnOf tys [] Tryz.f62 H_62 = T_62 := by kernel_rfl
theorem K_62 : SigOk Tryz.prog 62 T_62 := k_o E_62 trivial Tryz.func62
abbrev s_laws_eqLinkS_L0 : Type := (Int × ((List D_Link) × ((List D_Link) × Unit)))
def laws_eqLinkS_L0 : s_laws_eqLinkS_L0 → Option (Out s_laws_eqLinkS_L0 ((Bool × s_laws_eqLinkS_L0) ⊕ Empty) (Bool × Unit)) :=
  (fun v0 => (if (ltZ v0.1 (lenI v0.2.1)) then ((getI v0.2.1 v0.1).bind fun v1 => ((getI v0.2.2.1 v0.1).bind fun v2 => ((((laws_eqLink (v1, (v2, ())) ()).bind fun v3 => (some v3.1)) : (Option Bool)).bind fun v4 => (if (notB v4) then (some (Out.ret (false, ()))) else (some (Out.norm ((addZ .i64 v0.1 1), v0.2))))))) else (some (Out.exit (Sum.inl ((ltZ v0.1 (lenI v0.2.1)), v0))))))
def laws_eqLinkS (x : ((List D_Link) × ((List D_Link) × Unit))) (c : Unit) : (Option (Bool × Unit)) :=
  (if (notB (eqZ (lenI x.1) (lenI x.2.1))) then (some (false, ())) else ((loopN (A := s_laws_eqLinkS_L0) big laws_eqLinkS_L0 (0, x)).bind fun v5 => (match v5 with | Out.norm v6 => none | Out.exit v7 => (match ((match v7 with | Sum.inl v10 => (Sum.inl ()) | Sum.inr v11 => (Empty.elim v11)) : (Unit ⊕ Empty)) with | Sum.inl v8 => (some (true, ())) | Sum.inr v9 => none) | Out.ret v12 => (some v12))))
def H_33 : Hd := ⟨[.sl 91 (y_7), .sl 91 (y_7)], [], none, .p, .bool, .p, []⟩
def T_33 : FSig := sg_ H_33 laws_eqLinkS
theorem E_33 : fnOf tys [(62, T_62)] Tryz.f33 H_33 = T_33 := by kernel_rfl
theorem K_33 : SigOk Tryz.prog 33 T_33 := k_o E_33 ⟨K_62, trivial⟩ Tryz.func33
def laws_eqStep (x : (D_Step × (D_Step × Unit))) (c : Unit) : (Option (Bool × Unit)) :=
  (if (notB (eqZ x.1.1 x.2.1.1)) then (some (false, ())) else (if (notB (eqZ x.1.2.1 x.2.1.2.1)) then (some (false, ())) else (some (true, ()))))
def H_117 : Hd := ⟨[.st [.int .i64, .int .i64], .st [.int .i64, .int .i64]], [], none, .p, .bool, .p, []⟩
def T_117 : FSig := sg_ H_117 laws_eqStep
theorem E_117 : fnOf tys [] Tryz.f117 H_117 = T_117 := by kernel_rfl
theorem K_117 : SigOk Tryz.prog 117 T_117 := k_o E_117 trivial Tryz.func117
abbrev s_laws_eqStepS_L0 : Type := (Int × ((List D_Step) × ((List D_Step) × Unit)))
def laws_eqStepS_L0 : s_laws_eqStepS_L0 → Option (Out s_laws_eqStepS_L0 ((Bool × s_laws_eqStepS_L0) ⊕ Empty) (Bool × Unit)) :=
  (fun v0 => (if (ltZ v0.1 (lenI v0.2.1)) then ((getI v0.2.1 v0.1).bind fun v1 => ((getI v0.2.2.1 v0.1).bind fun v2 => ((((laws_eqStep (v1, (v2, ())) ()).bind fun v3 => (some v3.1)) : (Option Bool)).bind fun v4 => (if (notB v4) then (some (Out.ret (false, ()))) else (some (Out.norm ((addZ .i64 v0.1 1), v0.2))))))) else (some (Out.exit (Sum.inl ((ltZ v0.1 (lenI v0.2.1)), v0))))))
def laws_eqStepS (x : ((List D_Step) × ((List D_Step) × Unit))) (c : Unit) : (Option (Bool × Unit)) :=
  (if (notB (eqZ (lenI x.1) (lenI x.2.1))) then (some (false, ())) else ((loopN (A := s_laws_eqStepS_L0) big laws_eqStepS_L0 (0, x)).bind fun v5 => (match v5 with | Out.norm v6 => none | Out.exit v7 => (match ((match v7 with | Sum.inl v10 => (Sum.inl ()) | Sum.inr v11 => (Empty.elim v11)) : (Unit ⊕ Empty)) with | Sum.inl v8 => (some (true, ())) | Sum.inr v9 => none) | Out.ret v12 => (some v12))))
def H_94 : Hd := ⟨[.sl 130 (.st [.int .i64, .int .i64]), .sl 130 (.st [.int .i64, .int .i64])], [], none, .p, .bool, .p, []⟩
def T_94 : FSig := sg_ H_94 laws_eqStepS
theorem E_94 : fnOf tys [(117, T_117)] Tryz.f94 H_94 = T_94 := by kernel_rfl
theorem K_94 : SigOk Tryz.prog 94 T_94 := k_o E_94 ⟨K_117, trivial⟩ Tryz.func94
abbrev s_laws_eqIntSS_L0 : Type := (Int × ((List (List Int)) × ((List (List Int)) × Unit)))
def laws_eqIntSS_L0 : s_laws_eqIntSS_L0 → Option (Out s_laws_eqIntSS_L0 ((Bool × s_laws_eqIntSS_L0) ⊕ Empty) (Bool × Unit)) :=
  (fun v0 => (if (ltZ v0.1 (lenI v0.2.1)) then ((getI v0.2.1 v0.1).bind fun v1 => ((getI v0.2.2.1 v0.1).bind fun v2 => ((((laws_eqIntS (v1, (v2, ())) ()).bind fun v3 => (some v3.1)) : (Option Bool)).bind fun v4 => (if (notB v4) then (some (Out.ret (false, ()))) else (some (Out.norm ((addZ .i64 v0.1 1), v0.2))))))) else (some (Out.exit (Sum.inl ((ltZ v0.1 (lenI v0.2.1)), v0))))))
def laws_eqIntSS (x : ((List (List Int)) × ((List (List Int)) × Unit))) (c : Unit) : (Option (Bool × Unit)) :=
  (if (notB (eqZ (lenI x.1) (lenI x.2.1))) then (some (false, ())) else ((loopN (A := s_laws_eqIntSS_L0) big laws_eqIntSS_L0 (0, x)).bind fun v5 => (match v5 with | Out.norm v6 => none | Out.exit v7 => (match ((match v7 with | Sum.inl v10 => (Sum.inl ()) | Sum.inr v11 => (Empty.elim v11)) : (Unit ⊕ Empty)) with | Sum.inl v8 => (some (true, ())) | Sum.inr v9 => none) | Out.ret v12 => (some v12))))
def H_95 : Hd := ⟨[.sl 25 (.sl 3 (.int .i64)), .sl 25 (.sl 3 (.int .i64))], [], none, .p, .bool, .p, []⟩
def T_95 : FSig := sg_ H_95 laws_eqIntSS
theorem E_95 : fnOf tys [(31, T_31)] Tryz.f95 H_95 = T_95 := by kernel_rfl
theorem K_95 : SigOk Tryz.prog 95 T_95 := k_o E_95 ⟨K_31, trivial⟩ Tryz.func95
def laws_eqResource (x : (D_Resource × (D_Resource × Unit))) (c : Unit) : (Option (Bool × Unit)) :=
  ((((laws_eqStepS (x.1.1, (x.2.1.1, ())) ()).bind fun v0 => (some v0.1)) : (Option Bool)).bind fun v1 => (if (notB v1) then (some (false, ())) else ((((laws_eqIntSS (x.1.2.1, (x.2.1.2.1, ())) ()).bind fun v2 => (some v2.1)) : (Option Bool)).bind fun v3 => (if (notB v3) then (some (false, ())) else (some (true, ()))))))
def H_63 : Hd := ⟨[y_4, y_4], [], none, .p, .bool, .p, []⟩
def T_63 : FSig := sg_ H_63 laws_eqResource
theorem E_63 : fnOf tys [(94, T_94), (95, T_95)] Tryz.f63 H_63 = T_63 := by kernel_rfl
theorem K_63 : SigOk Tryz.prog 63 T_63 := k_o E_63 ⟨K_94, K_95, trivial⟩ Tryz.func63
abbrev s_laws_eqResourceS_L0 : Type := (Int × ((List D_Resource) × ((List D_Resource) × Unit)))
def laws_eqResourceS_L0 : s_laws_eqResourceS_L0 → Option (Out s_laws_eqResourceS_L0 ((Bool × s_laws_eqResourceS_L0) ⊕ Empty) (Bool × Unit)) :=
  (fun v0 => (if (ltZ v0.1 (lenI v0.2.1)) then ((getI v0.2.1 v0.1).bind fun v1 => ((getI v0.2.2.1 v0.1).bind fun v2 => ((((laws_eqResource (v1, (v2, ())) ()).bind fun v3 => (some v3.1)) : (Option Bool)).bind fun v4 => (if (notB v4) then (some (Out.ret (false, ()))) else (some (Out.norm ((addZ .i64 v0.1 1), v0.2))))))) else (some (Out.exit (Sum.inl ((ltZ v0.1 (lenI v0.2.1)), v0))))))
def laws_eqResourceS (x : ((List D_Resource) × ((List D_Resource) × Unit))) (c : Unit) : (Option (Bool × Unit)) :=
  (if (notB (eqZ (lenI x.1) (lenI x.2.1))) then (some (false, ())) else ((loopN (A := s_laws_eqResourceS_L0) big laws_eqResourceS_L0 (0, x)).bind fun v5 => (match v5 with | Out.norm v6 => none | Out.exit v7 => (match ((match v7 with | Sum.inl v10 => (Sum.inl ()) | Sum.inr v11 => (Empty.elim v11)) : (Unit ⊕ Empty)) with | Sum.inl v8 => (some (true, ())) | Sum.inr v9 => none) | Out.ret v12 => (some v12))))
def H_34 : Hd := ⟨[.sl 96 (y_4), .sl 96 (y_4)], [], none, .p, .bool, .p, []⟩
def T_34 : FSig := sg_ H_34 laws_eqResourceS
theorem E_34 : fnOf tys [(63, T_63)] Tryz.f34 H_34 = T_34 := by kernel_rfl
theorem K_34 : SigOk Tryz.prog 34 T_34 := k_o E_34 ⟨K_63, trivial⟩ Tryz.func34
def laws_eqProject (x : (D_Project × (D_Project × Unit))) (c : Unit) : (Option (Bool × Unit)) :=
  (if (notB (eqZ x.1.1 x.2.1.1)) then (some (false, ())) else ((((laws_eqActivityS (x.1.2.1, (x.2.1.2.1, ())) ()).bind fun v0 => (some v0.1)) : (Option Bool)).bind fun v1 => (if (notB v1) then (some (false, ())) else ((((laws_eqLinkS (x.1.2.2.1, (x.2.1.2.2.1, ())) ()).bind fun v2 => (some v2.1)) : (Option Bool)).bind fun v3 => (if (notB v3) then (some (false, ())) else ((((laws_eqResourceS (x.1.2.2.2.1, (x.2.1.2.2.2.1, ())) ()).bind fun v4 => (some v4.1)) : (Option Bool)).bind fun v5 => (if (notB v5) then (some (false, ())) else ((((laws_eqIntS (x.1.2.2.2.2.1, (x.2.1.2.2.2.2.1, ())) ()).bind fun v6 => (some v6.1)) : (Option Bool)).bind fun v7 => (if (notB v7) then (some (false, ())) else (some (true, ())))))))))))
def H_11 : Hd := ⟨[y_1, y_1], [], none, .p, .bool, .p, []⟩
def T_11 : FSig := sg_ H_11 laws_eqProject
theorem E_11 : fnOf tys [(31, T_31), (32, T_32), (33, T_33), (34, T_34)] Tryz.f11 H_11 = T_11 := by kernel_rfl
theorem K_11 : SigOk Tryz.prog 11 T_11 := k_o E_11 ⟨K_31, K_32, K_33, K_34, trivial⟩ Tryz.func11
abbrev s_laws_markText_L0 : Type := (Int × ((List UInt8) × Unit))
def laws_markText_L0 : s_laws_markText_L0 → Option (Out s_laws_markText_L0 ((Bool × s_laws_markText_L0) ⊕ Empty) ((List UInt8) × Unit)) :=
  (fun v0 => (if (ltZ 0 v0.1) then ((remZ v0.1 10).bind fun v1 => ((addI (ofBytes ((wrapI .u8 (addZ .i64 48 v1)) :: [])) v0.2.1).bind fun v2 => ((quoZ .i64 v0.1 10).bind fun v3 => (some (Out.norm (v3, (v2, ()))))))) else (some (Out.exit (Sum.inl ((ltZ 0 v0.1), v0))))))
def laws_markText (x : (Int × Unit)) (c : Unit) : (Option ((List UInt8) × Unit)) :=
  (if (leZ x.1 0) then (some (([109, 48] : List UInt8), ())) else ((loopN (A := s_laws_markText_L0) big laws_markText_L0 (x.1, ([], ()))).bind fun v4 => (match v4 with | Out.norm v5 => none | Out.exit v6 => (match ((match v6 with | Sum.inl v10 => (Sum.inl (v10.2.2.1, ())) | Sum.inr v11 => (Empty.elim v11)) : (((List UInt8) × Unit) ⊕ Empty)) with | Sum.inl v7 => ((addI ([109] : List UInt8) v7.1).bind fun v8 => (some (v8, ()))) | Sum.inr v9 => none) | Out.ret v12 => (some v12))))
def H_64 : Hd := ⟨[.int .i64], [], none, .p, .str, .p, []⟩
def T_64 : FSig := sg_ H_64 laws_markText
theorem E_64 : fnOf tys [] Tryz.f64 H_64 = T_64 := by kernel_rfl
theorem K_64 : SigOk Tryz.prog 64 T_64 := k_o E_64 trivial Tryz.func64
abbrev s_laws_markIntS_L0 : Type := (Int × (Int × ((List Int) × Unit)))
def laws_markIntS_L0 : s_laws_markIntS_L0 → Option (Out s_laws_markIntS_L0 ((Bool × s_laws_markIntS_L0) ⊕ Empty) (Int × (List Int))) :=
  (fun v0 => (if (ltZ v0.1 (lenI v0.2.2.1)) then ((((getI v0.2.2.1 v0.1).bind fun v1 => (some ())) : (Option Unit)).bind fun v2 => ((((((getI v0.2.2.1 v0.1).bind fun v3 => (some v3)) : (Option Int)).bind fun v4 => (some v0.2.1)) : (Option Int)).bind fun v5 => (some (Out.norm ((addZ .i64 v0.1 1), ((addZ .i64 v0.2.1 1), ((setI v0.2.2.1 v0.1 (fun v6 => v5)), ()))))))) else (some (Out.exit (Sum.inl ((ltZ v0.1 (lenI v0.2.2.1)), v0))))))
def laws_markIntS (x : ((List Int) × (Int × Unit))) (c : Unit) : (Option (Int × (List Int))) :=
  ((loopN (A := s_laws_markIntS_L0) big laws_markIntS_L0 (0, (x.2.1, (x.1, ())))).bind fun v7 => (match v7 with | Out.norm v8 => none | Out.exit v9 => (match ((match v9 with | Sum.inl v12 => (Sum.inl v12.2.2) | Sum.inr v13 => (Empty.elim v13)) : ((Int × ((List Int) × Unit)) ⊕ Empty)) with | Sum.inl v10 => (some (v10.1, v10.2.1)) | Sum.inr v11 => none) | Out.ret v14 => (some v14)))
def H_38 : Hd := ⟨[.sl 3 (.int .i64), .int .i64], [], some 0, Ty.all (.sl 3 (.int .i64)), .int .i64, .p, []⟩
def T_38 : FSig := sg_ H_38 laws_markIntS
theorem E_38 : fnOf tys [] Tryz.f38 H_38 = T_38 := by kernel_rfl
theorem K_38 : SigOk Tryz.prog 38 T_38 := k_o E_38 trivial Tryz.func38
abbrev s_laws_markModeS_L0 : Type := (Int × (Int × ((List D_Mode) × Unit)))
def laws_markModeS_L0 : s_laws_markModeS_L0 → Option (Out s_laws_markModeS_L0 ((Bool × s_laws_markModeS_L0) ⊕ Empty) (Int × (List D_Mode))) :=
  (fun v0 => (if (ltZ v0.1 (lenI v0.2.2.1)) then ((((getI v0.2.2.1 v0.1).bind fun v1 => (some ())) : (Option Unit)).bind fun v2 => ((((((getI v0.2.2.1 v0.1).bind fun v3 => (some v3.1)) : (Option Int)).bind fun v4 => (some v0.2.1)) : (Option Int)).bind fun v5 => ((((getI (setI v0.2.2.1 v0.1 (fun v6 => (v5, v6.2))) v0.1).bind fun v7 => (some ())) : (Option Unit)).bind fun v8 => ((((getI (setI v0.2.2.1 v0.1 (fun v9 => (v5, v9.2))) v0.1).bind fun v10 => (some v10.2.1)) : (Option (List Int))).bind fun v11 => ((((((((getI (setI v0.2.2.1 v0.1 (fun v12 => (v5, v12.2))) v0.1).bind fun v13 => (some v13.2.1)) : (Option (List Int))).bind fun v14 => (some (v14, ((addZ .i64 v0.2.1 1), ())))) : (Option ((List Int) × (Int × Unit)))).bind fun v15 => (laws_markIntS v15 ())) : (Option (Int × (List Int)))).bind fun v16 => ((((getI (setI (setI v0.2.2.1 v0.1 (fun v17 => (v5, v17.2))) v0.1 (fun v18 => (v18.1, (v16.2, v18.2.2)))) v0.1).bind fun v19 => (some ())) : (Option Unit)).bind fun v20 => ((((getI (setI (setI v0.2.2.1 v0.1 (fun v21 => (v5, v21.2))) v0.1 (fun v22 => (v22.1, (v16.2, v22.2.2)))) v0.1).bind fun v23 => (some v23.2.2.1)) : (Option (List Int))).bind fun v24 => ((((((((getI (setI (setI v0.2.2.1 v0.1 (fun v25 => (v5, v25.2))) v0.1 (fun v26 => (v26.1, (v16.2, v26.2.2)))) v0.1).bind fun v27 => (some v27.2.2.1)) : (Option (List Int))).bind fun v28 => (some (v28, (v16.1, ())))) : (Option ((List Int) × (Int × Unit)))).bind fun v29 => (laws_markIntS v29 ())) : (Option (Int × (List Int)))).bind fun v30 => (some (Out.norm ((addZ .i64 v0.1 1), (v30.1, ((setI (setI (setI v0.2.2.1 v0.1 (fun v31 => (v5, v31.2))) v0.1 (fun v32 => (v32.1, (v16.2, v32.2.2)))) v0.1 (fun v33 => (v33.1, (v33.2.1, (v30.2, v33.2.2.2))))), ()))))))))))))) else (some (Out.exit (Sum.inl ((ltZ v0.1 (lenI v0.2.2.1)), v0))))))
def laws_markModeS (x : ((List D_Mode) × (Int × Unit))) (c : Unit) : (Option (Int × (List D_Mode))) :=
  ((loopN (A := s_laws_markModeS_L0) big laws_markModeS_L0 (0, (x.2.1, (x.1, ())))).bind fun v34 => (match v34 with | Out.norm v35 => none | Out.exit v36 => (match ((match v36 with | Sum.inl v39 => (Sum.inl v39.2.2) | Sum.inr v40 => (Empty.elim v40)) : ((Int × ((List D_Mode) × Unit)) ⊕ Empty)) with | Sum.inl v37 => (some (v37.1, v37.2.1)) | Sum.inr v38 => none) | Out.ret v41 => (some v41)))
def H_65 : Hd := ⟨[.sl 102 (y_6), .int .i64], [], some 0, Ty.all (.sl 102 (y_6)), .int .i64, .p, []⟩
def T_65 : FSig := sg_ H_65 laws_markModeS
theorem E_65 : fnOf tys [(38, T_38)] Tryz.f65 H_65 = T_65 := by kernel_rfl
theorem K_65 : SigOk Tryz.prog 65 T_65 := k_o E_65 ⟨K_38, trivial⟩ Tryz.func65
abbrev s_laws_markActivityS_L0 : Type := (Int × (Int × ((List D_Activity) × Unit)))
def laws_markActivityS_L0 : s_laws_markActivityS_L0 → Option (Out s_laws_markActivityS_L0 ((Bool × s_laws_markActivityS_L0) ⊕ Empty) (Int × (List D_Activity))) :=
  (fun v0 => (if (ltZ v0.1 (lenI v0.2.2.1)) then ((((laws_markText (v0.2.1, ()) ()).bind fun v1 => (some v1.1)) : (Option (List UInt8))).bind fun v2 => ((((getI v0.2.2.1 v0.1).bind fun v3 => (some ())) : (Option Unit)).bind fun v4 => ((((((getI v0.2.2.1 v0.1).bind fun v5 => (some v5.1)) : (Option (List UInt8))).bind fun v6 => (some v2)) : (Option (List UInt8))).bind fun v7 => ((((getI (setI v0.2.2.1 v0.1 (fun v8 => (v7, v8.2))) v0.1).bind fun v9 => (some ())) : (Option Unit)).bind fun v10 => ((((((getI (setI v0.2.2.1 v0.1 (fun v11 => (v7, v11.2))) v0.1).bind fun v12 => (some v12.2.1)) : (Option Int)).bind fun v13 => (some (addZ .i64 v0.2.1 1))) : (Option Int)).bind fun v14 => ((((getI (setI (setI v0.2.2.1 v0.1 (fun v15 => (v7, v15.2))) v0.1 (fun v16 => (v16.1, (v14, v16.2.2)))) v0.1).bind fun v17 => (some ())) : (Option Unit)).bind fun v18 => ((((getI (setI (setI v0.2.2.1 v0.1 (fun v19 => (v7, v19.2))) v0.1 (fun v20 => (v20.1, (v14, v20.2.2)))) v0.1).bind fun v21 => (some v21.2.2.1)) : (Option (List D_Mode))).bind fun v22 => ((((((((getI (setI (setI v0.2.2.1 v0.1 (fun v23 => (v7, v23.2))) v0.1 (fun v24 => (v24.1, (v14, v24.2.2)))) v0.1).bind fun v25 => (some v25.2.2.1)) : (Option (List D_Mode))).bind fun v26 => (some (v26, ((addZ .i64 (addZ .i64 v0.2.1 1) 1), ())))) : (Option ((List D_Mode) × (Int × Unit)))).bind fun v27 => (laws_markModeS v27 ())) : (Option (Int × (List D_Mode)))).bind fun v28 => (some (Out.norm ((addZ .i64 v0.1 1), (v28.1, ((setI (setI (setI v0.2.2.1 v0.1 (fun v29 => (v7, v29.2))) v0.1 (fun v30 => (v30.1, (v14, v30.2.2)))) v0.1 (fun v31 => (v31.1, (v31.2.1, (v28.2, v31.2.2.2))))), ()))))))))))))) else (some (Out.exit (Sum.inl ((ltZ v0.1 (lenI v0.2.2.1)), v0))))))
def laws_markActivityS (x : ((List D_Activity) × (Int × Unit))) (c : Unit) : (Option (Int × (List D_Activity))) :=
  ((loopN (A := s_laws_markActivityS_L0) big laws_markActivityS_L0 (0, (x.2.1, (x.1, ())))).bind fun v32 => (match v32 with | Out.norm v33 => none | Out.exit v34 => (match ((match v34 with | Sum.inl v37 => (Sum.inl v37.2.2) | Sum.inr v38 => (Empty.elim v38)) : ((Int × ((List D_Activity) × Unit)) ⊕ Empty)) with | Sum.inl v35 => (some (v35.1, v35.2.1)) | Sum.inr v36 => none) | Out.ret v39 => (some v39)))
def H_35 : Hd := ⟨[.sl 88 (y_3), .int .i64], [], some 0, Ty.all (.sl 88 (y_3)), .int .i64, .p, []⟩
def T_35 : FSig := sg_ H_35 laws_markActivityS
theorem E_35 : fnOf tys [(64, T_64), (65, T_65)] Tryz.f35 H_35 = T_35 := by kernel_rfl
theorem K_35 : SigOk Tryz.prog 35 T_35 := k_o E_35 ⟨K_64, K_65, trivial⟩ Tryz.func35
abbrev s_laws_markLinkS_L0 : Type := (Int × (Int × ((List D_Link) × Unit)))
def laws_markLinkS_L0 : s_laws_markLinkS_L0 → Option (Out s_laws_markLinkS_L0 ((Bool × s_laws_markLinkS_L0) ⊕ Empty) (Int × (List D_Link))) :=
  (fun v0 => (if (ltZ v0.1 (lenI v0.2.2.1)) then ((((getI v0.2.2.1 v0.1).bind fun v1 => (some ())) : (Option Unit)).bind fun v2 => ((((((getI v0.2.2.1 v0.1).bind fun v3 => (some v3.1)) : (Option Int)).bind fun v4 => (some v0.2.1)) : (Option Int)).bind fun v5 => ((((getI (setI v0.2.2.1 v0.1 (fun v6 => (v5, v6.2))) v0.1).bind fun v7 => (some ())) : (Option Unit)).bind fun v8 => ((((((getI (setI v0.2.2.1 v0.1 (fun v9 => (v5, v9.2))) v0.1).bind fun v10 => (some v10.2.1)) : (Option Int)).bind fun v11 => (some (addZ .i64 v0.2.1 1))) : (Option Int)).bind fun v12 => ((remZ (addZ .i64 (addZ .i64 v0.2.1 1) 1) 3).bind fun v13 => ((((getI (setI (setI v0.2.2.1 v0.1 (fun v14 => (v5, v14.2))) v0.1 (fun v15 => (v15.1, (v12, v15.2.2)))) v0.1).bind fun v16 => (some ())) : (Option Unit)).bind fun v17 => ((((((getI (setI (setI v0.2.2.1 v0.1 (fun v18 => (v5, v18.2))) v0.1 (fun v19 => (v19.1, (v12, v19.2.2)))) v0.1).bind fun v20 => (some v20.2.2.1)) : (Option Bool)).bind fun v21 => (some (eqZ v13 0))) : (Option Bool)).bind fun v22 => ((((getI (setI (setI (setI v0.2.2.1 v0.1 (fun v23 => (v5, v23.2))) v0.1 (fun v24 => (v24.1, (v12, v24.2.2)))) v0.1 (fun v25 => (v25.1, (v25.2.1, (v22, v25.2.2.2))))) v0.1).bind fun v26 => (some ())) : (Option Unit)).bind fun v27 => ((((((getI (setI (setI (setI v0.2.2.1 v0.1 (fun v28 => (v5, v28.2))) v0.1 (fun v29 => (v29.1, (v12, v29.2.2)))) v0.1 (fun v30 => (v30.1, (v30.2.1, (v22, v30.2.2.2))))) v0.1).bind fun v31 => (some v31.2.2.2.1)) : (Option Int)).bind fun v32 => (some (addZ .i64 (addZ .i64 (addZ .i64 v0.2.1 1) 1) 1))) : (Option Int)).bind fun v33 => (some (Out.norm ((addZ .i64 v0.1 1), ((addZ .i64 (addZ .i64 (addZ .i64 (addZ .i64 v0.2.1 1) 1) 1) 1), ((setI (setI (setI (setI v0.2.2.1 v0.1 (fun v34 => (v5, v34.2))) v0.1 (fun v35 => (v35.1, (v12, v35.2.2)))) v0.1 (fun v36 => (v36.1, (v36.2.1, (v22, v36.2.2.2))))) v0.1 (fun v37 => (v37.1, (v37.2.1, (v37.2.2.1, (v33, v37.2.2.2.2)))))), ())))))))))))))) else (some (Out.exit (Sum.inl ((ltZ v0.1 (lenI v0.2.2.1)), v0))))))
def laws_markLinkS (x : ((List D_Link) × (Int × Unit))) (c : Unit) : (Option (Int × (List D_Link))) :=
  ((loopN (A := s_laws_markLinkS_L0) big laws_markLinkS_L0 (0, (x.2.1, (x.1, ())))).bind fun v38 => (match v38 with | Out.norm v39 => none | Out.exit v40 => (match ((match v40 with | Sum.inl v43 => (Sum.inl v43.2.2) | Sum.inr v44 => (Empty.elim v44)) : ((Int × ((List D_Link) × Unit)) ⊕ Empty)) with | Sum.inl v41 => (some (v41.1, v41.2.1)) | Sum.inr v42 => none) | Out.ret v45 => (some v45)))
def H_36 : Hd := ⟨[.sl 91 (y_7), .int .i64], [], some 0, Ty.all (.sl 91 (y_7)), .int .i64, .p, []⟩
def T_36 : FSig := sg_ H_36 laws_markLinkS
theorem E_36 : fnOf tys [] Tryz.f36 H_36 = T_36 := by kernel_rfl
theorem K_36 : SigOk Tryz.prog 36 T_36 := k_o E_36 trivial Tryz.func36
abbrev s_laws_markStepS_L0 : Type := (Int × (Int × ((List D_Step) × Unit)))
def laws_markStepS_L0 : s_laws_markStepS_L0 → Option (Out s_laws_markStepS_L0 ((Bool × s_laws_markStepS_L0) ⊕ Empty) (Int × (List D_Step))) :=
  (fun v0 => (if (ltZ v0.1 (lenI v0.2.2.1)) then ((((getI v0.2.2.1 v0.1).bind fun v1 => (some ())) : (Option Unit)).bind fun v2 => ((((((getI v0.2.2.1 v0.1).bind fun v3 => (some v3.1)) : (Option Int)).bind fun v4 => (some v0.2.1)) : (Option Int)).bind fun v5 => ((((getI (setI v0.2.2.1 v0.1 (fun v6 => (v5, v6.2))) v0.1).bind fun v7 => (some ())) : (Option Unit)).bind fun v8 => ((((((getI (setI v0.2.2.1 v0.1 (fun v9 => (v5, v9.2))) v0.1).bind fun v10 => (some v10.2.1)) : (Option Int)).bind fun v11 => (some (addZ .i64 v0.2.1 1))) : (Option Int)).bind fun v12 => (some (Out.norm ((addZ .i64 v0.1 1), ((addZ .i64 (addZ .i64 v0.2.1 1) 1), ((setI (setI v0.2.2.1 v0.1 (fun v13 => (v5, v13.2))) v0.1 (fun v14 => (v14.1, (v12, v14.2.2)))), ()))))))))) else (some (Out.exit (Sum.inl ((ltZ v0.1 (lenI v0.2.2.1)), v0))))))
def laws_markStepS (x : ((List D_Step) × (Int × Unit))) (c : Unit) : (Option (Int × (List D_Step))) :=
  ((loopN (A := s_laws_markStepS_L0) big laws_markStepS_L0 (0, (x.2.1, (x.1, ())))).bind fun v15 => (match v15 with | Out.norm v16 => none | Out.exit v17 => (match ((match v17 with | Sum.inl v20 => (Sum.inl v20.2.2) | Sum.inr v21 => (Empty.elim v21)) : ((Int × ((List D_Step) × Unit)) ⊕ Empty)) with | Sum.inl v18 => (some (v18.1, v18.2.1)) | Sum.inr v19 => none) | Out.ret v22 => (some v22)))
def H_66 : Hd := ⟨[.sl 130 (.st [.int .i64, .int .i64]), .int .i64], [], some 0, Ty.all (.sl 130 (.st [.int .i64, .int .i64])), .int .i64, .p, []⟩
def T_66 : FSig := sg_ H_66 laws_markStepS
theorem E_66 : fnOf tys [] Tryz.f66 H_66 = T_66 := by kernel_rfl
theorem K_66 : SigOk Tryz.prog 66 T_66 := k_o E_66 trivial Tryz.func66
abbrev s_laws_markIntSS_L0 : Type := (Int × (Int × ((List (List Int)) × Unit)))
def laws_markIntSS_L0 : s_laws_markIntSS_L0 → Option (Out s_laws_markIntSS_L0 ((Bool × s_laws_markIntSS_L0) ⊕ Empty) (Int × (List (List Int)))) :=
  (fun v0 => (if (ltZ v0.1 (lenI v0.2.2.1)) then ((((getI v0.2.2.1 v0.1).bind fun v1 => (some ())) : (Option Unit)).bind fun v2 => ((((getI v0.2.2.1 v0.1).bind fun v3 => (some v3)) : (Option (List Int))).bind fun v4 => ((((((((getI v0.2.2.1 v0.1).bind fun v5 => (some v5)) : (Option (List Int))).bind fun v6 => (some (v6, (v0.2.1, ())))) : (Option ((List Int) × (Int × Unit)))).bind fun v7 => (laws_markIntS v7 ())) : (Option (Int × (List Int)))).bind fun v8 => (some (Out.norm ((addZ .i64 v0.1 1), (v8.1, ((setI v0.2.2.1 v0.1 (fun v9 => v8.2)), ())))))))) else (some (Out.exit (Sum.inl ((ltZ v0.1 (lenI v0.2.2.1)), v0))))))
def laws_markIntSS (x : ((List (List Int)) × (Int × Unit))) (c : Unit) : (Option (Int × (List (List Int)))) :=
  ((loopN (A := s_laws_markIntSS_L0) big laws_markIntSS_L0 (0, (x.2.1, (x.1, ())))).bind fun v10 => (match v10 with | Out.norm v11 => none | Out.exit v12 => (match ((match v12 with | Sum.inl v15 => (Sum.inl v15.2.2) | Sum.inr v16 => (Empty.elim v16)) : ((Int × ((List (List Int)) × Unit)) ⊕ Empty)) with | Sum.inl v13 => (some (v13.1, v13.2.1)) | Sum.inr v14 => none) | Out.ret v17 => (some v17)))
def H_67 : Hd := ⟨[.sl 25 (.sl 3 (.int .i64)), .int .i64], [], some 0, Ty.all (.sl 25 (.sl 3 (.int .i64))), .int .i64, .p, []⟩
def T_67 : FSig := sg_ H_67 laws_markIntSS
theorem E_67 : fnOf tys [(38, T_38)] Tryz.f67 H_67 = T_67 := by kernel_rfl
theorem K_67 : SigOk Tryz.prog 67 T_67 := k_o E_67 ⟨K_38, trivial⟩ Tryz.func67
abbrev s_laws_markResourceS_L0 : Type := (Int × (Int × ((List D_Resource) × Unit)))
def laws_markResourceS_L0 : s_laws_markResourceS_L0 → Option (Out s_laws_markResourceS_L0 ((Bool × s_laws_markResourceS_L0) ⊕ Empty) (Int × (List D_Resource))) :=
  (fun v0 => (if (ltZ v0.1 (lenI v0.2.2.1)) then ((((getI v0.2.2.1 v0.1).bind fun v1 => (some ())) : (Option Unit)).bind fun v2 => ((((getI v0.2.2.1 v0.1).bind fun v3 => (some v3.1)) : (Option (List D_Step))).bind fun v4 => ((((((((getI v0.2.2.1 v0.1).bind fun v5 => (some v5.1)) : (Option (List D_Step))).bind fun v6 => (some (v6, (v0.2.1, ())))) : (Option ((List D_Step) × (Int × Unit)))).bind fun v7 => (laws_markStepS v7 ())) : (Option (Int × (List D_Step)))).bind fun v8 => ((((getI (setI v0.2.2.1 v0.1 (fun v9 => (v8.2, v9.2))) v0.1).bind fun v10 => (some ())) : (Option Unit)).bind fun v11 => ((((getI (setI v0.2.2.1 v0.1 (fun v12 => (v8.2, v12.2))) v0.1).bind fun v13 => (some v13.2.1)) : (Option (List (List Int)))).bind fun v14 => ((((((((getI (setI v0.2.2.1 v0.1 (fun v15 => (v8.2, v15.2))) v0.1).bind fun v16 => (some v16.2.1)) : (Option (List (List Int)))).bind fun v17 => (some (v17, (v8.1, ())))) : (Option ((List (List Int)) × (Int × Unit)))).bind fun v18 => (laws_markIntSS v18 ())) : (Option (Int × (List (List Int))))).bind fun v19 => (some (Out.norm ((addZ .i64 v0.1 1), (v19.1, ((setI (setI v0.2.2.1 v0.1 (fun v20 => (v8.2, v20.2))) v0.1 (fun v21 => (v21.1, (v19.2, v21.2.2)))), ()))))))))))) else (some (Out.exit (Sum.inl ((ltZ v0.1 (lenI v0.2.2.1)), v0))))))
def laws_markResourceS (x : ((List D_Resource) × (Int × Unit))) (c : Unit) : (Option (Int × (List D_Resource))) :=
  ((loopN (A := s_laws_markResourceS_L0) big laws_markResourceS_L0 (0, (x.2.1, (x.1, ())))).bind fun v22 => (match v22 with | Out.norm v23 => none | Out.exit v24 => (match ((match v24 with | Sum.inl v27 => (Sum.inl v27.2.2) | Sum.inr v28 => (Empty.elim v28)) : ((Int × ((List D_Resource) × Unit)) ⊕ Empty)) with | Sum.inl v25 => (some (v25.1, v25.2.1)) | Sum.inr v26 => none) | Out.ret v29 => (some v29)))
def H_37 : Hd := ⟨[.sl 96 (y_4), .int .i64], [], some 0, Ty.all (.sl 96 (y_4)), .int .i64, .p, []⟩
def T_37 : FSig := sg_ H_37 laws_markResourceS
theorem E_37 : fnOf tys [(66, T_66), (67, T_67)] Tryz.f37 H_37 = T_37 := by kernel_rfl
theorem K_37 : SigOk Tryz.prog 37 T_37 := k_o E_37 ⟨K_66, K_67, trivial⟩ Tryz.func37
def laws_markProject (x : (D_Project × (Int × Unit))) (c : Unit) : (Option (Int × D_Project)) :=
  ((laws_markActivityS (x.1.2.1, (x.2.1, ())) ()).bind fun v0 => ((laws_markLinkS (x.1.2.2.1, (v0.1, ())) ()).bind fun v1 => ((laws_markResourceS (x.1.2.2.2.1, (v1.1, ())) ()).bind fun v2 => ((laws_markIntS (x.1.2.2.2.2.1, (v2.1, ())) ()).bind fun v3 => (some (v3.1, (x.1.1, (v0.2, (v1.2, (v2.2, (v3.2, x.1.2.2.2.2.2)))))))))))
def H_12 : Hd := ⟨[y_1, .int .i64], [], some 0, Ty.all (y_1), .int .i64, .p, []⟩
def T_12 : FSig := sg_ H_12 laws_markProject
theorem E_12 : fnOf tys [(35, T_35), (36, T_36), (37, T_37), (38, T_38)] Tryz.f12 H_12 = T_12 := by kernel_rfl
theorem K_12 : SigOk Tryz.prog 12 T_12 := k_o E_12 ⟨K_35, K_36, K_37, K_38, trivial⟩ Tryz.func12
def laws_markSchedule (x : (D_Schedule × (Int × Unit))) (c : Unit) : (Option D_Mode) :=
  ((laws_markIntS (x.1.1, (x.2.1, ())) ()).bind fun v0 => ((laws_markIntS (x.1.2.1, (v0.1, ())) ()).bind fun v1 => (some (v1.1, (v0.2, (v1.2, x.1.2.2))))))
def H_39 : Hd := ⟨[y_8, .int .i64], [], some 0, Ty.all (y_8), .int .i64, .p, []⟩
def T_39 : FSig := sg_ H_39 laws_markSchedule
theorem E_39 : fnOf tys [(38, T_38)] Tryz.f39 H_39 = T_39 := by kernel_rfl
theorem K_39 : SigOk Tryz.prog 39 T_39 := k_o E_39 ⟨K_38, trivial⟩ Tryz.func39
def laws_markPlan (x : (D_Plan × (Int × Unit))) (c : Unit) : (Option (Int × D_Plan)) :=
  ((laws_markSchedule (x.1.1, (x.2.1, ())) ()).bind fun v0 => ((laws_markIntS (x.1.2.1, (v0.1, ())) ()).bind fun v1 => (some (v1.1, (v0.2, (v1.2, x.1.2.2))))))
def H_13 : Hd := ⟨[y_5, .int .i64], [], some 0, Ty.all (y_5), .int .i64, .p, []⟩
def T_13 : FSig := sg_ H_13 laws_markPlan
theorem E_13 : fnOf tys [(38, T_38), (39, T_39)] Tryz.f13 H_13 = T_13 := by kernel_rfl
theorem K_13 : SigOk Tryz.prog 13 T_13 := k_o E_13 ⟨K_38, K_39, trivial⟩ Tryz.func13
abbrev s_laws_heldIntS_L0 : Type := (Int × ((List Int) × (Int × Unit)))
def laws_heldIntS_L0 : s_laws_heldIntS_L0 → Option (Out s_laws_heldIntS_L0 ((Bool × s_laws_heldIntS_L0) ⊕ Empty) (Int × Unit)) :=
  (fun v0 => (if (ltZ v0.1 (lenI v0.2.1)) then ((getI v0.2.1 v0.1).bind fun v1 => (if (notB (eqZ v1 v0.2.2.1)) then (some (Out.ret ((-1), ()))) else (some (Out.norm ((addZ .i64 v0.1 1), (v0.2.1, ((addZ .i64 v0.2.2.1 1), ()))))))) else (some (Out.exit (Sum.inl ((ltZ v0.1 (lenI v0.2.1)), v0))))))
def laws_heldIntS (x : ((List Int) × (Int × Unit))) (c : Unit) : (Option (Int × Unit)) :=
  ((loopN (A := s_laws_heldIntS_L0) big laws_heldIntS_L0 (0, x)).bind fun v2 => (match v2 with | Out.norm v3 => none | Out.exit v4 => (match ((match v4 with | Sum.inl v7 => (Sum.inl (v7.2.2.2.1, ())) | Sum.inr v8 => (Empty.elim v8)) : ((Int × Unit) ⊕ Empty)) with | Sum.inl v5 => (some (v5.1, ())) | Sum.inr v6 => none) | Out.ret v9 => (some v9)))
def H_41 : Hd := ⟨[.sl 3 (.int .i64), .int .i64], [], none, .p, .int .i64, .p, []⟩
def T_41 : FSig := sg_ H_41 laws_heldIntS
theorem E_41 : fnOf tys [] Tryz.f41 H_41 = T_41 := by kernel_rfl
theorem K_41 : SigOk Tryz.prog 41 T_41 := k_o E_41 trivial Tryz.func41
def laws_heldSchedule (x : (D_Schedule × (Int × Unit))) (c : Unit) : (Option (Int × Unit)) :=
  ((((laws_heldIntS (x.1.1, (x.2.1, ())) ()).bind fun v0 => (some v0.1)) : (Option Int)).bind fun v1 => (if (ltZ v1 0) then (some ((-1), ())) else ((((laws_heldIntS (x.1.2.1, (v1, ())) ()).bind fun v2 => (some v2.1)) : (Option Int)).bind fun v3 => (if (ltZ v3 0) then (some ((-1), ())) else (some (v3, ()))))))
def H_40 : Hd := ⟨[y_8, .int .i64], [], none, .p, .int .i64, .p, []⟩
def T_40 : FSig := sg_ H_40 laws_heldSchedule
theorem E_40 : fnOf tys [(41, T_41)] Tryz.f40 H_40 = T_40 := by kernel_rfl
theorem K_40 : SigOk Tryz.prog 40 T_40 := k_o E_40 ⟨K_41, trivial⟩ Tryz.func40
def laws_heldPlan (x : (D_Plan × (Int × Unit))) (c : Unit) : (Option (Int × Unit)) :=
  ((((laws_heldSchedule (x.1.1, (x.2.1, ())) ()).bind fun v0 => (some v0.1)) : (Option Int)).bind fun v1 => (if (ltZ v1 0) then (some ((-1), ())) else ((((laws_heldIntS (x.1.2.1, (v1, ())) ()).bind fun v2 => (some v2.1)) : (Option Int)).bind fun v3 => (if (ltZ v3 0) then (some ((-1), ())) else (some (v3, ()))))))
def H_14 : Hd := ⟨[y_5, .int .i64], [], none, .p, .int .i64, .p, []⟩
def T_14 : FSig := sg_ H_14 laws_heldPlan
theorem E_14 : fnOf tys [(40, T_40), (41, T_41)] Tryz.f14 H_14 = T_14 := by kernel_rfl
theorem K_14 : SigOk Tryz.prog 14 T_14 := k_o E_14 ⟨K_40, K_41, trivial⟩ Tryz.func14
def laws_FnExactPlanAdd (x : (D_Project × (D_Plan × (Int × D_Step)))) (c : Unit) : (Option (Bool × Unit)) :=
  ((((laws_szProject (x.1, (1048576, ())) ()).bind fun v0 => (some v0.1)) : (Option Int)).bind fun v1 => (if (ltZ v1 0) then (some (true, ())) else ((((laws_szPlan (x.2.1, (v1, ())) ()).bind fun v2 => (some v2.1)) : (Option Int)).bind fun v3 => (if (ltZ v3 0) then (some (true, ())) else ((((laws_toProject (x.1, ()) ()).bind fun v4 => (some v4.1)) : (Option D_Project)).bind fun v5 => ((((laws_toPlan (x.2.1, ()) ()).bind fun v6 => (some v6.1)) : (Option D_Plan)).bind fun v7 => ((((spec_PlanAdd (v5, (v7, x.2.2)) ()).bind fun v8 => (some v8.1)) : (Option (D_Plan × (Bool × Unit)))).bind fun v9 => ((((laws_toProject (x.1, ()) ()).bind fun v10 => (some v10.1)) : (Option D_Project)).bind fun v11 => ((((laws_toPlan (x.2.1, ()) ()).bind fun v12 => (some v12.1)) : (Option D_Plan)).bind fun v13 => ((((impl_PlanAdd (v11, (v13, x.2.2)) ()).bind fun v14 => (some v14.1)) : (Option (D_Plan × (Bool × Unit)))).bind fun v15 => ((((laws_eqPlan (v15.1, (v9.1, ())) ()).bind fun v16 => (some v16.1)) : (Option Bool)).bind fun v17 => (((if (notB v17) then (some (true, (v11, (v13, (v15.2.1, (x.1, (x.2.1, (x.2.2.1, (x.2.2.2.1, (x.2.2.2.2.1, (v9.1, (v9.2.1, (v15.1, ()))))))))))))) else (some ((notB (eqB v15.2.1 v9.2.1)), (v11, (v13, (v15.2.1, (x.1, (x.2.1, (x.2.2.1, (x.2.2.2.1, (x.2.2.2.2.1, (v9.1, (v9.2.1, (v15.1, ())))))))))))))) : (Option (Bool × (D_Project × (D_Plan × (Bool × (D_Project × (D_Plan × (Int × (Int × (Int × (D_Plan × (Bool × (D_Plan × Unit)))))))))))))).bind fun v18 => (if v18.1 then (some (false, ())) else ((((laws_toProject (v18.2.2.2.2.1, ()) ()).bind fun v19 => (some v19.1)) : (Option D_Project)).bind fun v20 => ((((laws_eqProject (v18.2.1, (v20, ())) ()).bind fun v21 => (some v21.1)) : (Option Bool)).bind fun v22 => (if (notB v22) then (some (false, ())) else ((((laws_toPlan (v18.2.2.2.2.2.1, ()) ()).bind fun v23 => (some v23.1)) : (Option D_Plan)).bind fun v24 => ((((laws_eqPlan (v18.2.2.1, (v24, ())) ()).bind fun v25 => (some v25.1)) : (Option Bool)).bind fun v26 => (if (notB v26) then (some (false, ())) else ((laws_markProject (v18.2.1, (1, ())) ()).bind fun v27 => ((laws_markPlan (v18.2.2.1, (v27.1, ())) ()).bind fun v28 => (((if (ltZ v28.1 0) then (some (true, v18.2.2.2.2)) else ((((laws_eqPlan (v18.2.2.2.2.2.2.2.2.2.2.2.1, (v18.2.2.2.2.2.2.2.2.2.1, ())) ()).bind fun v29 => (some v29.1)) : (Option Bool)).bind fun v30 => (((if (notB v30) then (some (true, v18.2.2.2.2)) else (some ((notB (eqB v18.2.2.2.1 v18.2.2.2.2.2.2.2.2.2.2.1)), v18.2.2.2.2))) : (Option (Bool × (D_Project × (D_Plan × (Int × (Int × (Int × (D_Plan × (Bool × (D_Plan × Unit))))))))))).bind fun v31 => (some v31)))) : (Option (Bool × (D_Project × (D_Plan × (Int × (Int × (Int × (D_Plan × (Bool × (D_Plan × Unit))))))))))).bind fun v32 => (if v32.1 then (some (false, ())) else ((laws_markPlan (v32.2.2.2.2.2.2.2.2.1, (1, ())) ()).bind fun v33 => ((((laws_heldPlan (v33.2, (1, ())) ()).bind fun v34 => (some v34.1)) : (Option Int)).bind fun v35 => (if (ltZ v35 0) then (some (false, ())) else (if (notB (eqZ v35 v33.1)) then (some (false, ())) else ((((laws_toProject (v32.2.1, ()) ()).bind fun v36 => (some v36.1)) : (Option D_Project)).bind fun v37 => ((((laws_toPlan (v32.2.2.1, ()) ()).bind fun v38 => (some v38.1)) : (Option D_Plan)).bind fun v39 => ((((impl_PlanAdd (v37, (v39, (v32.2.2.2.1, (v32.2.2.2.2.1, (v32.2.2.2.2.2.1, ()))))) ()).bind fun v40 => (some v40.1)) : (Option (D_Plan × (Bool × Unit)))).bind fun v41 => ((((laws_eqPlan (v41.1, (v32.2.2.2.2.2.2.1, ())) ()).bind fun v42 => (some v42.1)) : (Option Bool)).bind fun v43 => (((if (notB v43) then (some (true, (v33.2, (v33.1, ())))) else (some ((notB (eqB v41.2.1 v32.2.2.2.2.2.2.2.1)), (v33.2, (v33.1, ()))))) : (Option (Bool × (D_Plan × (Int × Unit))))).bind fun v44 => (if v44.1 then (some (false, ())) else ((((laws_heldPlan (v44.2.1, (1, ())) ()).bind fun v45 => (some v45.1)) : (Option Int)).bind fun v46 => (if (ltZ v46 0) then (some (false, ())) else (if (notB (eqZ v46 v44.2.2.1)) then (some (false, ())) else (some (true, ()))))))))))))))))))))))))))))))))))))))
def H_laws_FnExactPlanAdd : Hd := ⟨[y_0, y_5, .int .i64, .int .i64, .int .i64], [], none, .p, .bool, .p, [(1000000035, .p), (1000000037, .p)]⟩
def T_laws_FnExactPlanAdd : FSig := sg_ H_laws_FnExactPlanAdd laws_FnExactPlanAdd
theorem E_laws_FnExactPlanAdd : fnOf tys [(4, T_4), (5, T_5), (6, T_6), (7, T_7), (8, T_8), (9, T_9), (10, T_10), (11, T_11), (12, T_12), (13, T_13), (14, T_14)] Tryz.f3 H_laws_FnExactPlanAdd = T_laws_FnExactPlanAdd := by kernel_rfl
theorem K_laws_FnExactPlanAdd : SigOk Tryz.prog 3 T_laws_FnExactPlanAdd := k_o E_laws_FnExactPlanAdd ⟨K_4, K_5, K_6, K_7, K_8, K_9, K_10, K_11, K_12, K_13, K_14, trivial⟩ Tryz.func3
end Go.Proofs.YtdaafnncfkibkaaGreat
