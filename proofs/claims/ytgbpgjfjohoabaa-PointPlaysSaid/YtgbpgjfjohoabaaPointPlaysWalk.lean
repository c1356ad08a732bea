/- Each function of the program is its tree. -/
import Derived.Test.YtgbpgjfjohoabaaProg
import Derived.Test.YtgbpgjfjohoabaaEvFn
import Derived.Test.YtgbpgjfjohoabaaPointPlaysPure
namespace Go.Ev
open Go.Proofs
noncomputable section
set_option linter.unusedVariables false
set_option linter.unusedSimpArgs false
set_option maxRecDepth 100000
set_option maxHeartbeats 4000000

theorem wide : Tables.follows Try.prog.toTables .mixedOrders = true := by kernel_rfl

def G0 : FuncId → Option Sum := fun _ => none
theorem right_G0 : Right Try.prog G0 := fun f S h => by cases h

def T_point_New : FuncId → Option Sum := G0

theorem right_T_point_New : Right Try.prog T_point_New := right_G0

abbrev cuts_point_New : Cuts := []

theorem gentry_point_New {R : Type} (K : AV → List O → Option R) (how : Int) (n : Int) :
    fnRun Try.prog T_point_New cuts_point_New Try.f24 0 [.v (.int .i64 how), .v (.int .i64 n)] [] K =
    (fun (how : Int) (n : Int) (K0 : Int → Option R) (K1 : Int → Int → Int → Int → Option R) (K2 : Int → Int → Int → Int → Option R) (K3 : Int → Int → Int → Int → Int → Bool → Option R) =>
    bi (how == 1)
     (bi (decide (n < 1))
      (K0 1)
      (bi (decide (n > 4096))
       (K0 3)
       (K1 0 0 n 0)))
     (bi (how == 2)
      (bi (decide (n < 1))
       (K0 1)
       (bi (decide (n > 4096))
        (K0 3)
        (K2 0 0 n 0)))
      (bi (how == 3)
       (bi (decide (n < 1))
        (K0 1)
        (bi (decide (n > 4096))
         (K0 3)
         (K3 0 0 n 0 1 false)))
       (K0 1)))) how n (fun r0 => K (.tup [.v (.pointer none), .v (.int .i64 r0)]) []) (fun r0 r1 r2 r3 => K (.tup [.ptr 0 0, .v (.int .i64 r0)]) [.box 110 [.ifc 102 (.agg []), .v (.int .i64 r1), .v (.int .i64 r2), .v (.int .i64 r3)]]) (fun r0 r1 r2 r3 => K (.tup [.ptr 0 0, .v (.int .i64 r0)]) [.box 110 [.ifc 103 (.agg []), .v (.int .i64 r1), .v (.int .i64 r2), .v (.int .i64 r3)]]) (fun r0 r1 r2 r3 r4 r5 => K (.tup [.ptr 0 0, .v (.int .i64 r0)]) [.box 110 [.ifc 104 (.ptr 1 0), .v (.int .i64 r1), .v (.int .i64 r2), .v (.int .i64 r3)], .box 106 [.v (.int .i64 r4), .v (.bool r5)]]) := by kernel_rfl

theorem entry_point_New {R : Type} (K : AV → List O → Option R) (how : Int) (n : Int) :
    fnRun Try.prog T_point_New cuts_point_New Try.f24 0 [.v (.int .i64 how), .v (.int .i64 n)] [] K =
    l_point_New how n (fun r0 => K (.tup [.v (.pointer none), .v (.int .i64 r0)]) []) (fun r0 r1 r2 r3 => K (.tup [.ptr 0 0, .v (.int .i64 r0)]) [.box 110 [.ifc 102 (.agg []), .v (.int .i64 r1), .v (.int .i64 r2), .v (.int .i64 r3)]]) (fun r0 r1 r2 r3 => K (.tup [.ptr 0 0, .v (.int .i64 r0)]) [.box 110 [.ifc 103 (.agg []), .v (.int .i64 r1), .v (.int .i64 r2), .v (.int .i64 r3)]]) (fun r0 r1 r2 r3 r4 r5 => K (.tup [.ptr 0 0, .v (.int .i64 r0)]) [.box 110 [.ifc 104 (.ptr 1 0), .v (.int .i64 r1), .v (.int .i64 r2), .v (.int .i64 r3)], .box 106 [.v (.int .i64 r4), .v (.bool r5)]]) := gentry_point_New K how n

def S_point_New (l_point_New : {R : Type} → Int → Int → (Int → Option R) → (Int → Int → Int → Int → Option R) → (Int → Int → Int → Int → Option R) → (Int → Int → Int → Int → Int → Bool → Option R) → Option R) : Sum := ⟨[], fun {R} args ob K => match args, ob with
  | [.v (.int .i64 how), .v (.int .i64 n)], [] => l_point_New how n (fun r0 => K (.tup [.v (.pointer none), .v (.int .i64 r0)]) []) (fun r0 r1 r2 r3 => K (.tup [.ptr 0 0, .v (.int .i64 r0)]) [.box 110 [.ifc 102 (.agg []), .v (.int .i64 r1), .v (.int .i64 r2), .v (.int .i64 r3)]]) (fun r0 r1 r2 r3 => K (.tup [.ptr 0 0, .v (.int .i64 r0)]) [.box 110 [.ifc 103 (.agg []), .v (.int .i64 r1), .v (.int .i64 r2), .v (.int .i64 r3)]]) (fun r0 r1 r2 r3 r4 r5 => K (.tup [.ptr 0 0, .v (.int .i64 r0)]) [.box 110 [.ifc 104 (.ptr 1 0), .v (.int .i64 r1), .v (.int .i64 r2), .v (.int .i64 r3)], .box 106 [.v (.int .i64 r4), .v (.bool r5)]])
  | _, _ => none⟩

theorem sound_point_New : Sound Try.prog 24 (S_point_New @l_point_New) := by
  refine fn_sound (cuts := cuts_point_New) (fn := Try.f24) (Γ := T_point_New) wide right_T_point_New Try.func24 fun {R} K r args ob h => ?_
  unfold S_point_New at h
  dsimp only at h
  split at h
  · exact ⟨Nat.le_of_ble_eq_true (by kernel_rfl), 0, (entry_point_New K _ _).trans h⟩
  · cases h

theorem call_point_New : Callable Try.prog 24 := ⟨_, Try.func24, by kernel_rfl, by kernel_rfl⟩

def T_tutorref12_New : FuncId → Option Sum := G0

theorem right_T_tutorref12_New : Right Try.prog T_tutorref12_New := right_G0

abbrev cuts_tutorref12_New : Cuts := []

theorem gentry_tutorref12_New {R : Type} (K : AV → List O → Option R) (how : Int) (n : Int) :
    fnRun Try.prog T_tutorref12_New cuts_tutorref12_New Try.f25 0 [.v (.int .i64 how), .v (.int .i64 n)] [] K =
    (fun (how : Int) (n : Int) (K0 : Int → Int → Int → Int → Bool → Int → Int → Option R) =>
    bi (decide (how < 1))
     (K0 0 0 0 0 false 0 1)
     (bi (decide (how > 3))
      (K0 0 0 0 0 false 0 1)
      (bi (decide (n < 1))
       (K0 0 0 0 0 false 0 1)
       (bi (decide (n > 4096))
        (K0 0 0 0 0 false 0 3)
        (K0 how 0 n 1 false 0 0))))) how n (fun r0 r1 r2 r3 r4 r5 r6 => K (.tup [.agg [.v (.int .i64 r0), .v (.int .i64 r1), .v (.int .i64 r2), .v (.int .i64 r3), .v (.bool r4), .v (.int .i64 r5)], .v (.int .i64 r6)]) []) := by kernel_rfl

theorem entry_tutorref12_New {R : Type} (K : AV → List O → Option R) (how : Int) (n : Int) :
    fnRun Try.prog T_tutorref12_New cuts_tutorref12_New Try.f25 0 [.v (.int .i64 how), .v (.int .i64 n)] [] K =
    l_tutorref12_New how n (fun r0 r1 r2 r3 r4 r5 r6 => K (.tup [.agg [.v (.int .i64 r0), .v (.int .i64 r1), .v (.int .i64 r2), .v (.int .i64 r3), .v (.bool r4), .v (.int .i64 r5)], .v (.int .i64 r6)]) []) := gentry_tutorref12_New K how n

def S_tutorref12_New (l_tutorref12_New : {R : Type} → Int → Int → (Int → Int → Int → Int → Bool → Int → Int → Option R) → Option R) : Sum := ⟨[], fun {R} args ob K => match args, ob with
  | [.v (.int .i64 how), .v (.int .i64 n)], [] => l_tutorref12_New how n (fun r0 r1 r2 r3 r4 r5 r6 => K (.tup [.agg [.v (.int .i64 r0), .v (.int .i64 r1), .v (.int .i64 r2), .v (.int .i64 r3), .v (.bool r4), .v (.int .i64 r5)], .v (.int .i64 r6)]) [])
  | _, _ => none⟩

theorem sound_tutorref12_New : Sound Try.prog 25 (S_tutorref12_New @l_tutorref12_New) := by
  refine fn_sound (cuts := cuts_tutorref12_New) (fn := Try.f25) (Γ := T_tutorref12_New) wide right_T_tutorref12_New Try.func25 fun {R} K r args ob h => ?_
  unfold S_tutorref12_New at h
  dsimp only at h
  split at h
  · exact ⟨Nat.le_of_ble_eq_true (by kernel_rfl), 0, (entry_tutorref12_New K _ _).trans h⟩
  · cases h

theorem call_tutorref12_New : Callable Try.prog 25 := ⟨_, Try.func25, by kernel_rfl, by kernel_rfl⟩

def T_tutorlaw12_num : FuncId → Option Sum := G0

theorem right_T_tutorlaw12_num : Right Try.prog T_tutorlaw12_num := right_G0

abbrev cuts_tutorlaw12_num : Cuts := []

theorem gentry_tutorlaw12_num {R : Type} (K : AV → List O → Option R) (e : Int) :
    fnRun Try.prog T_tutorlaw12_num cuts_tutorlaw12_num Try.f26 0 [.v (.int .i64 e)] [] K =
    (fun (e : Int) (K0 : Int → Option R) =>
    K0 e) e (fun r0 => K (.v (.int .i64 r0)) []) := by kernel_rfl

theorem entry_tutorlaw12_num {R : Type} (K : AV → List O → Option R) (e : Int) :
    fnRun Try.prog T_tutorlaw12_num cuts_tutorlaw12_num Try.f26 0 [.v (.int .i64 e)] [] K =
    l_tutorlaw12_num e (fun r0 => K (.v (.int .i64 r0)) []) := gentry_tutorlaw12_num K e

def S_tutorlaw12_num (l_tutorlaw12_num : {R : Type} → Int → (Int → Option R) → Option R) : Sum := ⟨[], fun {R} args ob K => match args, ob with
  | [.v (.int .i64 e)], [] => l_tutorlaw12_num e (fun r0 => K (.v (.int .i64 r0)) [])
  | _, _ => none⟩

theorem sound_tutorlaw12_num : Sound Try.prog 26 (S_tutorlaw12_num @l_tutorlaw12_num) := by
  refine fn_sound (cuts := cuts_tutorlaw12_num) (fn := Try.f26) (Γ := T_tutorlaw12_num) wide right_T_tutorlaw12_num Try.func26 fun {R} K r args ob h => ?_
  unfold S_tutorlaw12_num at h
  dsimp only at h
  split at h
  · exact ⟨Nat.le_of_ble_eq_true (by kernel_rfl), 0, (entry_tutorlaw12_num K _).trans h⟩
  · cases h

theorem call_tutorlaw12_num : Callable Try.prog 26 := ⟨_, Try.func26, by kernel_rfl, by kernel_rfl⟩

def T_point_Search_ended : FuncId → Option Sum := G0

theorem right_T_point_Search_ended : Right Try.prog T_point_Search_ended := right_G0

abbrev cuts_point_Search_ended_linear : Cuts := []

theorem gentry_point_Search_ended_linear {R : Type} (K : AV → List O → Option R) (o0 : Int) (o0_1 : Int) (o0_2 : Int) :
    fnRun Try.prog T_point_Search_ended cuts_point_Search_ended_linear Try.f58 0 [.ptr 0 0] [.box 110 [.ifc 102 (.agg []), .v (.int .i64 o0), .v (.int .i64 o0_1), .v (.int .i64 o0_2)]] K =
    (fun (o0 : Int) (o0_1 : Int) (o0_2 : Int) (K0 : Bool → Int → Int → Int → Option R) =>
    K0 (o0_1 == (IntKind.i64.wrap (o0 + 1))) o0 o0_1 o0_2) o0 o0_1 o0_2 (fun r0 r1 r2 r3 => K (.v (.bool r0)) [.box 110 [.ifc 102 (.agg []), .v (.int .i64 r1), .v (.int .i64 r2), .v (.int .i64 r3)]]) := by kernel_rfl

theorem entry_point_Search_ended_linear {R : Type} (K : AV → List O → Option R) (o0 : Int) (o0_1 : Int) (o0_2 : Int) :
    fnRun Try.prog T_point_Search_ended cuts_point_Search_ended_linear Try.f58 0 [.ptr 0 0] [.box 110 [.ifc 102 (.agg []), .v (.int .i64 o0), .v (.int .i64 o0_1), .v (.int .i64 o0_2)]] K =
    l_point_Search_ended_linear o0 o0_1 o0_2 (fun r0 r1 r2 r3 => K (.v (.bool r0)) [.box 110 [.ifc 102 (.agg []), .v (.int .i64 r1), .v (.int .i64 r2), .v (.int .i64 r3)]]) := gentry_point_Search_ended_linear K o0 o0_1 o0_2

abbrev cuts_point_Search_ended_binary : Cuts := []

theorem gentry_point_Search_ended_binary {R : Type} (K : AV → List O → Option R) (o0 : Int) (o0_1 : Int) (o0_2 : Int) :
    fnRun Try.prog T_point_Search_ended cuts_point_Search_ended_binary Try.f58 0 [.ptr 0 0] [.box 110 [.ifc 103 (.agg []), .v (.int .i64 o0), .v (.int .i64 o0_1), .v (.int .i64 o0_2)]] K =
    (fun (o0 : Int) (o0_1 : Int) (o0_2 : Int) (K0 : Bool → Int → Int → Int → Option R) =>
    K0 (o0_1 == (IntKind.i64.wrap (o0 + 1))) o0 o0_1 o0_2) o0 o0_1 o0_2 (fun r0 r1 r2 r3 => K (.v (.bool r0)) [.box 110 [.ifc 103 (.agg []), .v (.int .i64 r1), .v (.int .i64 r2), .v (.int .i64 r3)]]) := by kernel_rfl

theorem entry_point_Search_ended_binary {R : Type} (K : AV → List O → Option R) (o0 : Int) (o0_1 : Int) (o0_2 : Int) :
    fnRun Try.prog T_point_Search_ended cuts_point_Search_ended_binary Try.f58 0 [.ptr 0 0] [.box 110 [.ifc 103 (.agg []), .v (.int .i64 o0), .v (.int .i64 o0_1), .v (.int .i64 o0_2)]] K =
    l_point_Search_ended_binary o0 o0_1 o0_2 (fun r0 r1 r2 r3 => K (.v (.bool r0)) [.box 110 [.ifc 103 (.agg []), .v (.int .i64 r1), .v (.int .i64 r2), .v (.int .i64 r3)]]) := gentry_point_Search_ended_binary K o0 o0_1 o0_2

abbrev cuts_point_Search_ended_exponential : Cuts := []

theorem gentry_point_Search_ended_exponential {R : Type} (K : AV → List O → Option R) (o0 : Int) (o0_1 : Int) (o0_2 : Int) (o1 : Int) (o1_1 : Bool) :
    fnRun Try.prog T_point_Search_ended cuts_point_Search_ended_exponential Try.f58 0 [.ptr 0 0] [.box 110 [.ifc 104 (.ptr 1 0), .v (.int .i64 o0), .v (.int .i64 o0_1), .v (.int .i64 o0_2)], .box 106 [.v (.int .i64 o1), .v (.bool o1_1)]] K =
    (fun (o0 : Int) (o0_1 : Int) (o0_2 : Int) (o1 : Int) (o1_1 : Bool) (K0 : Bool → Int → Int → Int → Int → Bool → Option R) =>
    K0 (o0_1 == (IntKind.i64.wrap (o0 + 1))) o0 o0_1 o0_2 o1 o1_1) o0 o0_1 o0_2 o1 o1_1 (fun r0 r1 r2 r3 r4 r5 => K (.v (.bool r0)) [.box 110 [.ifc 104 (.ptr 1 0), .v (.int .i64 r1), .v (.int .i64 r2), .v (.int .i64 r3)], .box 106 [.v (.int .i64 r4), .v (.bool r5)]]) := by kernel_rfl

theorem entry_point_Search_ended_exponential {R : Type} (K : AV → List O → Option R) (o0 : Int) (o0_1 : Int) (o0_2 : Int) (o1 : Int) (o1_1 : Bool) :
    fnRun Try.prog T_point_Search_ended cuts_point_Search_ended_exponential Try.f58 0 [.ptr 0 0] [.box 110 [.ifc 104 (.ptr 1 0), .v (.int .i64 o0), .v (.int .i64 o0_1), .v (.int .i64 o0_2)], .box 106 [.v (.int .i64 o1), .v (.bool o1_1)]] K =
    l_point_Search_ended_exponential o0 o0_1 o0_2 o1 o1_1 (fun r0 r1 r2 r3 r4 r5 => K (.v (.bool r0)) [.box 110 [.ifc 104 (.ptr 1 0), .v (.int .i64 r1), .v (.int .i64 r2), .v (.int .i64 r3)], .box 106 [.v (.int .i64 r4), .v (.bool r5)]]) := gentry_point_Search_ended_exponential K o0 o0_1 o0_2 o1 o1_1

def S_point_Search_ended (l_point_Search_ended_linear : {R : Type} → Int → Int → Int → (Bool → Int → Int → Int → Option R) → Option R) (l_point_Search_ended_binary : {R : Type} → Int → Int → Int → (Bool → Int → Int → Int → Option R) → Option R) (l_point_Search_ended_exponential : {R : Type} → Int → Int → Int → Int → Bool → (Bool → Int → Int → Int → Int → Bool → Option R) → Option R) : Sum := ⟨[], fun {R} args ob K => match args, ob with
  | [.ptr 0 0], [.box 110 [.ifc 102 (.agg []), .v (.int .i64 o0), .v (.int .i64 o0_1), .v (.int .i64 o0_2)]] => l_point_Search_ended_linear o0 o0_1 o0_2 (fun r0 r1 r2 r3 => K (.v (.bool r0)) [.box 110 [.ifc 102 (.agg []), .v (.int .i64 r1), .v (.int .i64 r2), .v (.int .i64 r3)]])
  | [.ptr 0 0], [.box 110 [.ifc 103 (.agg []), .v (.int .i64 o0), .v (.int .i64 o0_1), .v (.int .i64 o0_2)]] => l_point_Search_ended_binary o0 o0_1 o0_2 (fun r0 r1 r2 r3 => K (.v (.bool r0)) [.box 110 [.ifc 103 (.agg []), .v (.int .i64 r1), .v (.int .i64 r2), .v (.int .i64 r3)]])
  | [.ptr 0 0], [.box 110 [.ifc 104 (.ptr 1 0), .v (.int .i64 o0), .v (.int .i64 o0_1), .v (.int .i64 o0_2)], .box 106 [.v (.int .i64 o1), .v (.bool o1_1)]] => l_point_Search_ended_exponential o0 o0_1 o0_2 o1 o1_1 (fun r0 r1 r2 r3 r4 r5 => K (.v (.bool r0)) [.box 110 [.ifc 104 (.ptr 1 0), .v (.int .i64 r1), .v (.int .i64 r2), .v (.int .i64 r3)], .box 106 [.v (.int .i64 r4), .v (.bool r5)]])
  | _, _ => none⟩

theorem sound_point_Search_ended : Sound Try.prog 58 (S_point_Search_ended @l_point_Search_ended_linear @l_point_Search_ended_binary @l_point_Search_ended_exponential) := by
  refine fn_sound (cuts := cuts_point_Search_ended_linear) (fn := Try.f58) (Γ := T_point_Search_ended) wide right_T_point_Search_ended Try.func58 fun {R} K r args ob h => ?_
  unfold S_point_Search_ended at h
  dsimp only at h
  split at h
  · exact ⟨Nat.le_of_ble_eq_true (by kernel_rfl), 0, (entry_point_Search_ended_linear K _ _ _).trans h⟩
  · exact ⟨Nat.le_of_ble_eq_true (by kernel_rfl), 0, (entry_point_Search_ended_binary K _ _ _).trans h⟩
  · exact ⟨Nat.le_of_ble_eq_true (by kernel_rfl), 0, (entry_point_Search_ended_exponential K _ _ _ _ _).trans h⟩
  · cases h

theorem call_point_Search_ended : Callable Try.prog 58 := ⟨_, Try.func58, by kernel_rfl, by kernel_rfl⟩

def T_point_linear_next : FuncId → Option Sum := G0

theorem right_T_point_linear_next : Right Try.prog T_point_linear_next := right_G0

abbrev cuts_point_linear_next : Cuts := []

theorem gentry_point_linear_next {R : Type} (K : AV → List O → Option R) (s : Int) (s_1 : Int) :
    fnRun Try.prog T_point_linear_next cuts_point_linear_next Try.f86 0 [.agg [], .agg [.v (.int .i64 s), .v (.int .i64 s_1)]] [] K =
    (fun (s : Int) (s_1 : Int) (K0 : Int → Option R) =>
    K0 (IntKind.i64.wrap (s + 1))) s s_1 (fun r0 => K (.v (.int .i64 r0)) []) := by kernel_rfl

theorem entry_point_linear_next {R : Type} (K : AV → List O → Option R) (s : Int) (s_1 : Int) :
    fnRun Try.prog T_point_linear_next cuts_point_linear_next Try.f86 0 [.agg [], .agg [.v (.int .i64 s), .v (.int .i64 s_1)]] [] K =
    l_point_linear_next s s_1 (fun r0 => K (.v (.int .i64 r0)) []) := gentry_point_linear_next K s s_1

def S_point_linear_next (l_point_linear_next : {R : Type} → Int → Int → (Int → Option R) → Option R) : Sum := ⟨[], fun {R} args ob K => match args, ob with
  | [.agg [], .agg [.v (.int .i64 s), .v (.int .i64 s_1)]], [] => l_point_linear_next s s_1 (fun r0 => K (.v (.int .i64 r0)) [])
  | _, _ => none⟩

theorem sound_point_linear_next : Sound Try.prog 86 (S_point_linear_next @l_point_linear_next) := by
  refine fn_sound (cuts := cuts_point_linear_next) (fn := Try.f86) (Γ := T_point_linear_next) wide right_T_point_linear_next Try.func86 fun {R} K r args ob h => ?_
  unfold S_point_linear_next at h
  dsimp only at h
  split at h
  · exact ⟨Nat.le_of_ble_eq_true (by kernel_rfl), 0, (entry_point_linear_next K _ _).trans h⟩
  · cases h

theorem call_point_linear_next : Callable Try.prog 86 := ⟨_, Try.func86, by kernel_rfl, by kernel_rfl⟩

def T_point_binary_next : FuncId → Option Sum := G0

theorem right_T_point_binary_next : Right Try.prog T_point_binary_next := right_G0

abbrev cuts_point_binary_next : Cuts := []

theorem gentry_point_binary_next {R : Type} (K : AV → List O → Option R) (s : Int) (s_1 : Int) :
    fnRun Try.prog T_point_binary_next cuts_point_binary_next Try.f88 0 [.agg [], .agg [.v (.int .i64 s), .v (.int .i64 s_1)]] [] K =
    (fun (s : Int) (s_1 : Int) (K0 : Int → Option R) =>
    K0 (IntKind.i64.wrap (s + (IntKind.i64.wrap ((IntKind.i64.wrap (s_1 - s)).tdiv 2))))) s s_1 (fun r0 => K (.v (.int .i64 r0)) []) := by kernel_rfl

theorem entry_point_binary_next {R : Type} (K : AV → List O → Option R) (s : Int) (s_1 : Int) :
    fnRun Try.prog T_point_binary_next cuts_point_binary_next Try.f88 0 [.agg [], .agg [.v (.int .i64 s), .v (.int .i64 s_1)]] [] K =
    l_point_binary_next s s_1 (fun r0 => K (.v (.int .i64 r0)) []) := gentry_point_binary_next K s s_1

def S_point_binary_next (l_point_binary_next : {R : Type} → Int → Int → (Int → Option R) → Option R) : Sum := ⟨[], fun {R} args ob K => match args, ob with
  | [.agg [], .agg [.v (.int .i64 s), .v (.int .i64 s_1)]], [] => l_point_binary_next s s_1 (fun r0 => K (.v (.int .i64 r0)) [])
  | _, _ => none⟩

theorem sound_point_binary_next : Sound Try.prog 88 (S_point_binary_next @l_point_binary_next) := by
  refine fn_sound (cuts := cuts_point_binary_next) (fn := Try.f88) (Γ := T_point_binary_next) wide right_T_point_binary_next Try.func88 fun {R} K r args ob h => ?_
  unfold S_point_binary_next at h
  dsimp only at h
  split at h
  · exact ⟨Nat.le_of_ble_eq_true (by kernel_rfl), 0, (entry_point_binary_next K _ _).trans h⟩
  · cases h

theorem call_point_binary_next : Callable Try.prog 88 := ⟨_, Try.func88, by kernel_rfl, by kernel_rfl⟩

def T_point_exponential_next (l_point_binary_next : {R : Type} → Int → Int → (Int → Option R) → Option R) : FuncId → Option Sum := (addS G0 88 (S_point_binary_next @l_point_binary_next))

theorem right_T_point_exponential_next : Right Try.prog (T_point_exponential_next @l_point_binary_next) := (right_add right_G0 call_point_binary_next sound_point_binary_next)

abbrev cuts_point_exponential_next : Cuts := []

theorem gentry_point_exponential_next (l_point_binary_next : {R : Type} → Int → Int → (Int → Option R) → Option R) {R : Type} (K : AV → List O → Option R) (s : Int) (s_1 : Int) (o0 : Int) (o0_1 : Bool) :
    fnRun Try.prog (T_point_exponential_next @l_point_binary_next) cuts_point_exponential_next Try.f90 0 [.ptr 0 0, .agg [.v (.int .i64 s), .v (.int .i64 s_1)]] [.box 106 [.v (.int .i64 o0), .v (.bool o0_1)]] K =
    (fun (s : Int) (s_1 : Int) (o0 : Int) (o0_1 : Bool) (K0 : Int → Int → Bool → Option R) =>
    bi o0_1
     (l_point_binary_next s s_1
      (fun r1 =>
       K0 r1 o0 o0_1))
     (K0 (if (IntKind.i64.wrap (s + 1)) > (IntKind.i64.wrap (s_1 - o0)) then (IntKind.i64.wrap (s + 1)) else (IntKind.i64.wrap (s_1 - o0))) o0 o0_1)) s s_1 o0 o0_1 (fun r0 r1 r2 => K (.v (.int .i64 r0)) [.box 106 [.v (.int .i64 r1), .v (.bool r2)]]) := by kernel_rfl

theorem entry_point_exponential_next {R : Type} (K : AV → List O → Option R) (s : Int) (s_1 : Int) (o0 : Int) (o0_1 : Bool) :
    fnRun Try.prog (T_point_exponential_next @l_point_binary_next) cuts_point_exponential_next Try.f90 0 [.ptr 0 0, .agg [.v (.int .i64 s), .v (.int .i64 s_1)]] [.box 106 [.v (.int .i64 o0), .v (.bool o0_1)]] K =
    l_point_exponential_next s s_1 o0 o0_1 (fun r0 r1 r2 => K (.v (.int .i64 r0)) [.box 106 [.v (.int .i64 r1), .v (.bool r2)]]) := gentry_point_exponential_next @l_point_binary_next K s s_1 o0 o0_1

def S_point_exponential_next (l_point_exponential_next : {R : Type} → Int → Int → Int → Bool → (Int → Int → Bool → Option R) → Option R) : Sum := ⟨[], fun {R} args ob K => match args, ob with
  | [.ptr 0 0, .agg [.v (.int .i64 s), .v (.int .i64 s_1)]], [.box 106 [.v (.int .i64 o0), .v (.bool o0_1)]] => l_point_exponential_next s s_1 o0 o0_1 (fun r0 r1 r2 => K (.v (.int .i64 r0)) [.box 106 [.v (.int .i64 r1), .v (.bool r2)]])
  | _, _ => none⟩

theorem sound_point_exponential_next : Sound Try.prog 90 (S_point_exponential_next @l_point_exponential_next) := by
  refine fn_sound (cuts := cuts_point_exponential_next) (fn := Try.f90) (Γ := (T_point_exponential_next @l_point_binary_next)) wide right_T_point_exponential_next Try.func90 fun {R} K r args ob h => ?_
  unfold S_point_exponential_next at h
  dsimp only at h
  split at h
  · exact ⟨Nat.le_of_ble_eq_true (by kernel_rfl), 0, (entry_point_exponential_next K _ _ _ _).trans h⟩
  · cases h

theorem call_point_exponential_next : Callable Try.prog 90 := ⟨_, Try.func90, by kernel_rfl, by kernel_rfl⟩

def T_point_Search_Ask (l_point_linear_next : {R : Type} → Int → Int → (Int → Option R) → Option R) (l_point_Search_ended_linear : {R : Type} → Int → Int → Int → (Bool → Int → Int → Int → Option R) → Option R) (l_point_Search_ended_binary : {R : Type} → Int → Int → Int → (Bool → Int → Int → Int → Option R) → Option R) (l_point_Search_ended_exponential : {R : Type} → Int → Int → Int → Int → Bool → (Bool → Int → Int → Int → Int → Bool → Option R) → Option R) (l_point_binary_next : {R : Type} → Int → Int → (Int → Option R) → Option R) (l_point_exponential_next : {R : Type} → Int → Int → Int → Bool → (Int → Int → Bool → Option R) → Option R) : FuncId → Option Sum := (addS (addS (addS (addS G0 86 (S_point_linear_next @l_point_linear_next)) 58 (S_point_Search_ended @l_point_Search_ended_linear @l_point_Search_ended_binary @l_point_Search_ended_exponential)) 88 (S_point_binary_next @l_point_binary_next)) 90 (S_point_exponential_next @l_point_exponential_next))

theorem right_T_point_Search_Ask : Right Try.prog (T_point_Search_Ask @l_point_linear_next @l_point_Search_ended_linear @l_point_Search_ended_binary @l_point_Search_ended_exponential @l_point_binary_next @l_point_exponential_next) := (right_add (right_add (right_add (right_add right_G0 call_point_linear_next sound_point_linear_next) call_point_Search_ended sound_point_Search_ended) call_point_binary_next sound_point_binary_next) call_point_exponential_next sound_point_exponential_next)

abbrev cuts_point_Search_Ask_linear : Cuts := []

theorem gentry_point_Search_Ask_linear (l_point_linear_next : {R : Type} → Int → Int → (Int → Option R) → Option R) (l_point_Search_ended_linear : {R : Type} → Int → Int → Int → (Bool → Int → Int → Int → Option R) → Option R) (l_point_Search_ended_binary : {R : Type} → Int → Int → Int → (Bool → Int → Int → Int → Option R) → Option R) (l_point_Search_ended_exponential : {R : Type} → Int → Int → Int → Int → Bool → (Bool → Int → Int → Int → Int → Bool → Option R) → Option R) (l_point_binary_next : {R : Type} → Int → Int → (Int → Option R) → Option R) (l_point_exponential_next : {R : Type} → Int → Int → Int → Bool → (Int → Int → Bool → Option R) → Option R) {R : Type} (K : AV → List O → Option R) (o0 : Int) (o0_1 : Int) (o0_2 : Int) :
    fnRun Try.prog (T_point_Search_Ask @l_point_linear_next @l_point_Search_ended_linear @l_point_Search_ended_binary @l_point_Search_ended_exponential @l_point_binary_next @l_point_exponential_next) cuts_point_Search_Ask_linear Try.f28 0 [.ptr 0 0] [.box 110 [.ifc 102 (.agg []), .v (.int .i64 o0), .v (.int .i64 o0_1), .v (.int .i64 o0_2)]] K =
    (fun (o0 : Int) (o0_1 : Int) (o0_2 : Int) (K0 : Int → Bool → Int → Int → Int → Option R) =>
    l_point_Search_ended_linear o0 o0_1 o0_2
     (fun r1 r2 r3 r4 =>
      bi r1
       (K0 0 false r2 r3 r4)
       (l_point_linear_next r2 r3
        (fun r5 =>
         K0 r5 true r2 r3 r4)))) o0 o0_1 o0_2 (fun r0 r1 r2 r3 r4 => K (.tup [.v (.int .i64 r0), .v (.bool r1)]) [.box 110 [.ifc 102 (.agg []), .v (.int .i64 r2), .v (.int .i64 r3), .v (.int .i64 r4)]]) := by kernel_rfl

theorem entry_point_Search_Ask_linear {R : Type} (K : AV → List O → Option R) (o0 : Int) (o0_1 : Int) (o0_2 : Int) :
    fnRun Try.prog (T_point_Search_Ask @l_point_linear_next @l_point_Search_ended_linear @l_point_Search_ended_binary @l_point_Search_ended_exponential @l_point_binary_next @l_point_exponential_next) cuts_point_Search_Ask_linear Try.f28 0 [.ptr 0 0] [.box 110 [.ifc 102 (.agg []), .v (.int .i64 o0), .v (.int .i64 o0_1), .v (.int .i64 o0_2)]] K =
    l_point_Search_Ask_linear o0 o0_1 o0_2 (fun r0 r1 r2 r3 r4 => K (.tup [.v (.int .i64 r0), .v (.bool r1)]) [.box 110 [.ifc 102 (.agg []), .v (.int .i64 r2), .v (.int .i64 r3), .v (.int .i64 r4)]]) := gentry_point_Search_Ask_linear @l_point_linear_next @l_point_Search_ended_linear @l_point_Search_ended_binary @l_point_Search_ended_exponential @l_point_binary_next @l_point_exponential_next K o0 o0_1 o0_2

abbrev cuts_point_Search_Ask_binary : Cuts := []

theorem gentry_point_Search_Ask_binary (l_point_linear_next : {R : Type} → Int → Int → (Int → Option R) → Option R) (l_point_Search_ended_linear : {R : Type} → Int → Int → Int → (Bool → Int → Int → Int → Option R) → Option R) (l_point_Search_ended_binary : {R : Type} → Int → Int → Int → (Bool → Int → Int → Int → Option R) → Option R) (l_point_Search_ended_exponential : {R : Type} → Int → Int → Int → Int → Bool → (Bool → Int → Int → Int → Int → Bool → Option R) → Option R) (l_point_binary_next : {R : Type} → Int → Int → (Int → Option R) → Option R) (l_point_exponential_next : {R : Type} → Int → Int → Int → Bool → (Int → Int → Bool → Option R) → Option R) {R : Type} (K : AV → List O → Option R) (o0 : Int) (o0_1 : Int) (o0_2 : Int) :
    fnRun Try.prog (T_point_Search_Ask @l_point_linear_next @l_point_Search_ended_linear @l_point_Search_ended_binary @l_point_Search_ended_exponential @l_point_binary_next @l_point_exponential_next) cuts_point_Search_Ask_binary Try.f28 0 [.ptr 0 0] [.box 110 [.ifc 103 (.agg []), .v (.int .i64 o0), .v (.int .i64 o0_1), .v (.int .i64 o0_2)]] K =
    (fun (o0 : Int) (o0_1 : Int) (o0_2 : Int) (K0 : Int → Bool → Int → Int → Int → Option R) =>
    l_point_Search_ended_binary o0 o0_1 o0_2
     (fun r1 r2 r3 r4 =>
      bi r1
       (K0 0 false r2 r3 r4)
       (l_point_binary_next r2 r3
        (fun r5 =>
         K0 r5 true r2 r3 r4)))) o0 o0_1 o0_2 (fun r0 r1 r2 r3 r4 => K (.tup [.v (.int .i64 r0), .v (.bool r1)]) [.box 110 [.ifc 103 (.agg []), .v (.int .i64 r2), .v (.int .i64 r3), .v (.int .i64 r4)]]) := by kernel_rfl

theorem entry_point_Search_Ask_binary {R : Type} (K : AV → List O → Option R) (o0 : Int) (o0_1 : Int) (o0_2 : Int) :
    fnRun Try.prog (T_point_Search_Ask @l_point_linear_next @l_point_Search_ended_linear @l_point_Search_ended_binary @l_point_Search_ended_exponential @l_point_binary_next @l_point_exponential_next) cuts_point_Search_Ask_binary Try.f28 0 [.ptr 0 0] [.box 110 [.ifc 103 (.agg []), .v (.int .i64 o0), .v (.int .i64 o0_1), .v (.int .i64 o0_2)]] K =
    l_point_Search_Ask_binary o0 o0_1 o0_2 (fun r0 r1 r2 r3 r4 => K (.tup [.v (.int .i64 r0), .v (.bool r1)]) [.box 110 [.ifc 103 (.agg []), .v (.int .i64 r2), .v (.int .i64 r3), .v (.int .i64 r4)]]) := gentry_point_Search_Ask_binary @l_point_linear_next @l_point_Search_ended_linear @l_point_Search_ended_binary @l_point_Search_ended_exponential @l_point_binary_next @l_point_exponential_next K o0 o0_1 o0_2

abbrev cuts_point_Search_Ask_exponential : Cuts := []

theorem gentry_point_Search_Ask_exponential (l_point_linear_next : {R : Type} → Int → Int → (Int → Option R) → Option R) (l_point_Search_ended_linear : {R : Type} → Int → Int → Int → (Bool → Int → Int → Int → Option R) → Option R) (l_point_Search_ended_binary : {R : Type} → Int → Int → Int → (Bool → Int → Int → Int → Option R) → Option R) (l_point_Search_ended_exponential : {R : Type} → Int → Int → Int → Int → Bool → (Bool → Int → Int → Int → Int → Bool → Option R) → Option R) (l_point_binary_next : {R : Type} → Int → Int → (Int → Option R) → Option R) (l_point_exponential_next : {R : Type} → Int → Int → Int → Bool → (Int → Int → Bool → Option R) → Option R) {R : Type} (K : AV → List O → Option R) (o0 : Int) (o0_1 : Int) (o0_2 : Int) (o1 : Int) (o1_1 : Bool) :
    fnRun Try.prog (T_point_Search_Ask @l_point_linear_next @l_point_Search_ended_linear @l_point_Search_ended_binary @l_point_Search_ended_exponential @l_point_binary_next @l_point_exponential_next) cuts_point_Search_Ask_exponential Try.f28 0 [.ptr 0 0] [.box 110 [.ifc 104 (.ptr 1 0), .v (.int .i64 o0), .v (.int .i64 o0_1), .v (.int .i64 o0_2)], .box 106 [.v (.int .i64 o1), .v (.bool o1_1)]] K =
    (fun (o0 : Int) (o0_1 : Int) (o0_2 : Int) (o1 : Int) (o1_1 : Bool) (K0 : Int → Bool → Int → Int → Int → Int → Bool → Option R) =>
    l_point_Search_ended_exponential o0 o0_1 o0_2 o1 o1_1
     (fun r1 r2 r3 r4 r5 r6 =>
      bi r1
       (K0 0 false r2 r3 r4 r5 r6)
       (l_point_exponential_next r2 r3 r5 r6
        (fun r7 r8 r9 =>
         K0 r7 true r2 r3 r4 r8 r9)))) o0 o0_1 o0_2 o1 o1_1 (fun r0 r1 r2 r3 r4 r5 r6 => K (.tup [.v (.int .i64 r0), .v (.bool r1)]) [.box 110 [.ifc 104 (.ptr 1 0), .v (.int .i64 r2), .v (.int .i64 r3), .v (.int .i64 r4)], .box 106 [.v (.int .i64 r5), .v (.bool r6)]]) := by kernel_rfl

theorem entry_point_Search_Ask_exponential {R : Type} (K : AV → List O → Option R) (o0 : Int) (o0_1 : Int) (o0_2 : Int) (o1 : Int) (o1_1 : Bool) :
    fnRun Try.prog (T_point_Search_Ask @l_point_linear_next @l_point_Search_ended_linear @l_point_Search_ended_binary @l_point_Search_ended_exponential @l_point_binary_next @l_point_exponential_next) cuts_point_Search_Ask_exponential Try.f28 0 [.ptr 0 0] [.box 110 [.ifc 104 (.ptr 1 0), .v (.int .i64 o0), .v (.int .i64 o0_1), .v (.int .i64 o0_2)], .box 106 [.v (.int .i64 o1), .v (.bool o1_1)]] K =
    l_point_Search_Ask_exponential o0 o0_1 o0_2 o1 o1_1 (fun r0 r1 r2 r3 r4 r5 r6 => K (.tup [.v (.int .i64 r0), .v (.bool r1)]) [.box 110 [.ifc 104 (.ptr 1 0), .v (.int .i64 r2), .v (.int .i64 r3), .v (.int .i64 r4)], .box 106 [.v (.int .i64 r5), .v (.bool r6)]]) := gentry_point_Search_Ask_exponential @l_point_linear_next @l_point_Search_ended_linear @l_point_Search_ended_binary @l_point_Search_ended_exponential @l_point_binary_next @l_point_exponential_next K o0 o0_1 o0_2 o1 o1_1

def S_point_Search_Ask (l_point_Search_Ask_linear : {R : Type} → Int → Int → Int → (Int → Bool → Int → Int → Int → Option R) → Option R) (l_point_Search_Ask_binary : {R : Type} → Int → Int → Int → (Int → Bool → Int → Int → Int → Option R) → Option R) (l_point_Search_Ask_exponential : {R : Type} → Int → Int → Int → Int → Bool → (Int → Bool → Int → Int → Int → Int → Bool → Option R) → Option R) : Sum := ⟨[], fun {R} args ob K => match args, ob with
  | [.ptr 0 0], [.box 110 [.ifc 102 (.agg []), .v (.int .i64 o0), .v (.int .i64 o0_1), .v (.int .i64 o0_2)]] => l_point_Search_Ask_linear o0 o0_1 o0_2 (fun r0 r1 r2 r3 r4 => K (.tup [.v (.int .i64 r0), .v (.bool r1)]) [.box 110 [.ifc 102 (.agg []), .v (.int .i64 r2), .v (.int .i64 r3), .v (.int .i64 r4)]])
  | [.ptr 0 0], [.box 110 [.ifc 103 (.agg []), .v (.int .i64 o0), .v (.int .i64 o0_1), .v (.int .i64 o0_2)]] => l_point_Search_Ask_binary o0 o0_1 o0_2 (fun r0 r1 r2 r3 r4 => K (.tup [.v (.int .i64 r0), .v (.bool r1)]) [.box 110 [.ifc 103 (.agg []), .v (.int .i64 r2), .v (.int .i64 r3), .v (.int .i64 r4)]])
  | [.ptr 0 0], [.box 110 [.ifc 104 (.ptr 1 0), .v (.int .i64 o0), .v (.int .i64 o0_1), .v (.int .i64 o0_2)], .box 106 [.v (.int .i64 o1), .v (.bool o1_1)]] => l_point_Search_Ask_exponential o0 o0_1 o0_2 o1 o1_1 (fun r0 r1 r2 r3 r4 r5 r6 => K (.tup [.v (.int .i64 r0), .v (.bool r1)]) [.box 110 [.ifc 104 (.ptr 1 0), .v (.int .i64 r2), .v (.int .i64 r3), .v (.int .i64 r4)], .box 106 [.v (.int .i64 r5), .v (.bool r6)]])
  | _, _ => none⟩

theorem sound_point_Search_Ask : Sound Try.prog 28 (S_point_Search_Ask @l_point_Search_Ask_linear @l_point_Search_Ask_binary @l_point_Search_Ask_exponential) := by
  refine fn_sound (cuts := cuts_point_Search_Ask_linear) (fn := Try.f28) (Γ := (T_point_Search_Ask @l_point_linear_next @l_point_Search_ended_linear @l_point_Search_ended_binary @l_point_Search_ended_exponential @l_point_binary_next @l_point_exponential_next)) wide right_T_point_Search_Ask Try.func28 fun {R} K r args ob h => ?_
  unfold S_point_Search_Ask at h
  dsimp only at h
  split at h
  · exact ⟨Nat.le_of_ble_eq_true (by kernel_rfl), 0, (entry_point_Search_Ask_linear K _ _ _).trans h⟩
  · exact ⟨Nat.le_of_ble_eq_true (by kernel_rfl), 0, (entry_point_Search_Ask_binary K _ _ _).trans h⟩
  · exact ⟨Nat.le_of_ble_eq_true (by kernel_rfl), 0, (entry_point_Search_Ask_exponential K _ _ _ _ _).trans h⟩
  · cases h

theorem call_point_Search_Ask : Callable Try.prog 28 := ⟨_, Try.func28, by kernel_rfl, by kernel_rfl⟩

def T_point_binary_told : FuncId → Option Sum := G0

theorem right_T_point_binary_told : Right Try.prog T_point_binary_told := right_G0

abbrev cuts_point_binary_told : Cuts := []

theorem gentry_point_binary_told {R : Type} (K : AV → List O → Option R) (x1 : Bool) :
    fnRun Try.prog T_point_binary_told cuts_point_binary_told Try.f89 0 [.agg [], .v (.bool x1)] [] K =
    (fun (x1 : Bool) (K0 : Option R) =>
    K0) x1 (K (.tup []) []) := by kernel_rfl

theorem entry_point_binary_told {R : Type} (K : AV → List O → Option R) (x1 : Bool) :
    fnRun Try.prog T_point_binary_told cuts_point_binary_told Try.f89 0 [.agg [], .v (.bool x1)] [] K =
    l_point_binary_told x1 (K (.tup []) []) := gentry_point_binary_told K x1

def S_point_binary_told (l_point_binary_told : {R : Type} → Bool → (Option R) → Option R) : Sum := ⟨[], fun {R} args ob K => match args, ob with
  | [.agg [], .v (.bool x1)], [] => l_point_binary_told x1 (K (.tup []) [])
  | _, _ => none⟩

theorem sound_point_binary_told : Sound Try.prog 89 (S_point_binary_told @l_point_binary_told) := by
  refine fn_sound (cuts := cuts_point_binary_told) (fn := Try.f89) (Γ := T_point_binary_told) wide right_T_point_binary_told Try.func89 fun {R} K r args ob h => ?_
  unfold S_point_binary_told at h
  dsimp only at h
  split at h
  · exact ⟨Nat.le_of_ble_eq_true (by kernel_rfl), 0, (entry_point_binary_told K _).trans h⟩
  · cases h

theorem call_point_binary_told : Callable Try.prog 89 := ⟨_, Try.func89, by kernel_rfl, by kernel_rfl⟩

def T_point_exponential_told : FuncId → Option Sum := G0

theorem right_T_point_exponential_told : Right Try.prog T_point_exponential_told := right_G0

abbrev cuts_point_exponential_told : Cuts := []

theorem gentry_point_exponential_told {R : Type} (K : AV → List O → Option R) (v : Bool) (o0 : Int) (o0_1 : Bool) :
    fnRun Try.prog T_point_exponential_told cuts_point_exponential_told Try.f91 0 [.ptr 0 0, .v (.bool v)] [.box 106 [.v (.int .i64 o0), .v (.bool o0_1)]] K =
    (fun (v : Bool) (o0 : Int) (o0_1 : Bool) (K0 : Int → Bool → Option R) =>
    bi o0_1
     (K0 (IntKind.i64.wrap (o0 * 2)) true)
     (K0 (IntKind.i64.wrap (o0 * 2)) (!v))) v o0 o0_1 (fun r0 r1 => K (.tup []) [.box 106 [.v (.int .i64 r0), .v (.bool r1)]]) := by kernel_rfl

theorem entry_point_exponential_told {R : Type} (K : AV → List O → Option R) (v : Bool) (o0 : Int) (o0_1 : Bool) :
    fnRun Try.prog T_point_exponential_told cuts_point_exponential_told Try.f91 0 [.ptr 0 0, .v (.bool v)] [.box 106 [.v (.int .i64 o0), .v (.bool o0_1)]] K =
    l_point_exponential_told v o0 o0_1 (fun r0 r1 => K (.tup []) [.box 106 [.v (.int .i64 r0), .v (.bool r1)]]) := gentry_point_exponential_told K v o0 o0_1

def S_point_exponential_told (l_point_exponential_told : {R : Type} → Bool → Int → Bool → (Int → Bool → Option R) → Option R) : Sum := ⟨[], fun {R} args ob K => match args, ob with
  | [.ptr 0 0, .v (.bool v)], [.box 106 [.v (.int .i64 o0), .v (.bool o0_1)]] => l_point_exponential_told v o0 o0_1 (fun r0 r1 => K (.tup []) [.box 106 [.v (.int .i64 r0), .v (.bool r1)]])
  | _, _ => none⟩

theorem sound_point_exponential_told : Sound Try.prog 91 (S_point_exponential_told @l_point_exponential_told) := by
  refine fn_sound (cuts := cuts_point_exponential_told) (fn := Try.f91) (Γ := T_point_exponential_told) wide right_T_point_exponential_told Try.func91 fun {R} K r args ob h => ?_
  unfold S_point_exponential_told at h
  dsimp only at h
  split at h
  · exact ⟨Nat.le_of_ble_eq_true (by kernel_rfl), 0, (entry_point_exponential_told K _ _ _).trans h⟩
  · cases h

theorem call_point_exponential_told : Callable Try.prog 91 := ⟨_, Try.func91, by kernel_rfl, by kernel_rfl⟩

def T_point_Search_Tell (l_point_Search_Ask_linear : {R : Type} → Int → Int → Int → (Int → Bool → Int → Int → Int → Option R) → Option R) (l_point_Search_Ask_binary : {R : Type} → Int → Int → Int → (Int → Bool → Int → Int → Int → Option R) → Option R) (l_point_Search_Ask_exponential : {R : Type} → Int → Int → Int → Int → Bool → (Int → Bool → Int → Int → Int → Int → Bool → Option R) → Option R) (l_point_binary_told : {R : Type} → Bool → (Option R) → Option R) (l_point_exponential_told : {R : Type} → Bool → Int → Bool → (Int → Bool → Option R) → Option R) : FuncId → Option Sum := (addS (addS (addS G0 28 (S_point_Search_Ask @l_point_Search_Ask_linear @l_point_Search_Ask_binary @l_point_Search_Ask_exponential)) 89 (S_point_binary_told @l_point_binary_told)) 91 (S_point_exponential_told @l_point_exponential_told))

theorem right_T_point_Search_Tell : Right Try.prog (T_point_Search_Tell @l_point_Search_Ask_linear @l_point_Search_Ask_binary @l_point_Search_Ask_exponential @l_point_binary_told @l_point_exponential_told) := (right_add (right_add (right_add right_G0 call_point_Search_Ask sound_point_Search_Ask) call_point_binary_told sound_point_binary_told) call_point_exponential_told sound_point_exponential_told)

abbrev cuts_point_Search_Tell_linear : Cuts := []

theorem gentry_point_Search_Tell_linear (l_point_Search_Ask_linear : {R : Type} → Int → Int → Int → (Int → Bool → Int → Int → Int → Option R) → Option R) (l_point_Search_Ask_binary : {R : Type} → Int → Int → Int → (Int → Bool → Int → Int → Int → Option R) → Option R) (l_point_Search_Ask_exponential : {R : Type} → Int → Int → Int → Int → Bool → (Int → Bool → Int → Int → Int → Int → Bool → Option R) → Option R) (l_point_binary_told : {R : Type} → Bool → (Option R) → Option R) (l_point_exponential_told : {R : Type} → Bool → Int → Bool → (Int → Bool → Option R) → Option R) {R : Type} (K : AV → List O → Option R) (v : Bool) (o0 : Int) (o0_1 : Int) (o0_2 : Int) :
    fnRun Try.prog (T_point_Search_Tell @l_point_Search_Ask_linear @l_point_Search_Ask_binary @l_point_Search_Ask_exponential @l_point_binary_told @l_point_exponential_told) cuts_point_Search_Tell_linear Try.f32 0 [.ptr 0 0, .v (.bool v)] [.box 110 [.ifc 102 (.agg []), .v (.int .i64 o0), .v (.int .i64 o0_1), .v (.int .i64 o0_2)]] K =
    (fun (v : Bool) (o0 : Int) (o0_1 : Int) (o0_2 : Int) (K0 : Int → Int → Int → Int → Option R) =>
    l_point_Search_Ask_linear o0 o0_1 o0_2
     (fun r1 r2 r3 r4 r5 =>
      bi (!r2)
       (K0 7 r3 r4 r5)
       (bi v
        (K0 0 r3 r1 (IntKind.i64.wrap (r5 + 1)))
        (K0 0 r1 r4 (IntKind.i64.wrap (r5 + 1)))))) v o0 o0_1 o0_2 (fun r0 r1 r2 r3 => K (.v (.int .i64 r0)) [.box 110 [.ifc 102 (.agg []), .v (.int .i64 r1), .v (.int .i64 r2), .v (.int .i64 r3)]]) := by kernel_rfl

theorem entry_point_Search_Tell_linear {R : Type} (K : AV → List O → Option R) (v : Bool) (o0 : Int) (o0_1 : Int) (o0_2 : Int) :
    fnRun Try.prog (T_point_Search_Tell @l_point_Search_Ask_linear @l_point_Search_Ask_binary @l_point_Search_Ask_exponential @l_point_binary_told @l_point_exponential_told) cuts_point_Search_Tell_linear Try.f32 0 [.ptr 0 0, .v (.bool v)] [.box 110 [.ifc 102 (.agg []), .v (.int .i64 o0), .v (.int .i64 o0_1), .v (.int .i64 o0_2)]] K =
    l_point_Search_Tell_linear v o0 o0_1 o0_2 (fun r0 r1 r2 r3 => K (.v (.int .i64 r0)) [.box 110 [.ifc 102 (.agg []), .v (.int .i64 r1), .v (.int .i64 r2), .v (.int .i64 r3)]]) := gentry_point_Search_Tell_linear @l_point_Search_Ask_linear @l_point_Search_Ask_binary @l_point_Search_Ask_exponential @l_point_binary_told @l_point_exponential_told K v o0 o0_1 o0_2

abbrev cuts_point_Search_Tell_binary : Cuts := []

theorem gentry_point_Search_Tell_binary (l_point_Search_Ask_linear : {R : Type} → Int → Int → Int → (Int → Bool → Int → Int → Int → Option R) → Option R) (l_point_Search_Ask_binary : {R : Type} → Int → Int → Int → (Int → Bool → Int → Int → Int → Option R) → Option R) (l_point_Search_Ask_exponential : {R : Type} → Int → Int → Int → Int → Bool → (Int → Bool → Int → Int → Int → Int → Bool → Option R) → Option R) (l_point_binary_told : {R : Type} → Bool → (Option R) → Option R) (l_point_exponential_told : {R : Type} → Bool → Int → Bool → (Int → Bool → Option R) → Option R) {R : Type} (K : AV → List O → Option R) (v : Bool) (o0 : Int) (o0_1 : Int) (o0_2 : Int) :
    fnRun Try.prog (T_point_Search_Tell @l_point_Search_Ask_linear @l_point_Search_Ask_binary @l_point_Search_Ask_exponential @l_point_binary_told @l_point_exponential_told) cuts_point_Search_Tell_binary Try.f32 0 [.ptr 0 0, .v (.bool v)] [.box 110 [.ifc 103 (.agg []), .v (.int .i64 o0), .v (.int .i64 o0_1), .v (.int .i64 o0_2)]] K =
    (fun (v : Bool) (o0 : Int) (o0_1 : Int) (o0_2 : Int) (K0 : Int → Int → Int → Int → Option R) =>
    l_point_Search_Ask_binary o0 o0_1 o0_2
     (fun r1 r2 r3 r4 r5 =>
      bi (!r2)
       (K0 7 r3 r4 r5)
       (bi v
        (l_point_binary_told v
         (K0 0 r3 r1 (IntKind.i64.wrap (r5 + 1))))
        (l_point_binary_told v
         (K0 0 r1 r4 (IntKind.i64.wrap (r5 + 1))))))) v o0 o0_1 o0_2 (fun r0 r1 r2 r3 => K (.v (.int .i64 r0)) [.box 110 [.ifc 103 (.agg []), .v (.int .i64 r1), .v (.int .i64 r2), .v (.int .i64 r3)]]) := by kernel_rfl

theorem entry_point_Search_Tell_binary {R : Type} (K : AV → List O → Option R) (v : Bool) (o0 : Int) (o0_1 : Int) (o0_2 : Int) :
    fnRun Try.prog (T_point_Search_Tell @l_point_Search_Ask_linear @l_point_Search_Ask_binary @l_point_Search_Ask_exponential @l_point_binary_told @l_point_exponential_told) cuts_point_Search_Tell_binary Try.f32 0 [.ptr 0 0, .v (.bool v)] [.box 110 [.ifc 103 (.agg []), .v (.int .i64 o0), .v (.int .i64 o0_1), .v (.int .i64 o0_2)]] K =
    l_point_Search_Tell_binary v o0 o0_1 o0_2 (fun r0 r1 r2 r3 => K (.v (.int .i64 r0)) [.box 110 [.ifc 103 (.agg []), .v (.int .i64 r1), .v (.int .i64 r2), .v (.int .i64 r3)]]) := gentry_point_Search_Tell_binary @l_point_Search_Ask_linear @l_point_Search_Ask_binary @l_point_Search_Ask_exponential @l_point_binary_told @l_point_exponential_told K v o0 o0_1 o0_2

abbrev cuts_point_Search_Tell_exponential : Cuts := []

theorem gentry_point_Search_Tell_exponential (l_point_Search_Ask_linear : {R : Type} → Int → Int → Int → (Int → Bool → Int → Int → Int → Option R) → Option R) (l_point_Search_Ask_binary : {R : Type} → Int → Int → Int → (Int → Bool → Int → Int → Int → Option R) → Option R) (l_point_Search_Ask_exponential : {R : Type} → Int → Int → Int → Int → Bool → (Int → Bool → Int → Int → Int → Int → Bool → Option R) → Option R) (l_point_binary_told : {R : Type} → Bool → (Option R) → Option R) (l_point_exponential_told : {R : Type} → Bool → Int → Bool → (Int → Bool → Option R) → Option R) {R : Type} (K : AV → List O → Option R) (v : Bool) (o0 : Int) (o0_1 : Int) (o0_2 : Int) (o1 : Int) (o1_1 : Bool) :
    fnRun Try.prog (T_point_Search_Tell @l_point_Search_Ask_linear @l_point_Search_Ask_binary @l_point_Search_Ask_exponential @l_point_binary_told @l_point_exponential_told) cuts_point_Search_Tell_exponential Try.f32 0 [.ptr 0 0, .v (.bool v)] [.box 110 [.ifc 104 (.ptr 1 0), .v (.int .i64 o0), .v (.int .i64 o0_1), .v (.int .i64 o0_2)], .box 106 [.v (.int .i64 o1), .v (.bool o1_1)]] K =
    (fun (v : Bool) (o0 : Int) (o0_1 : Int) (o0_2 : Int) (o1 : Int) (o1_1 : Bool) (K0 : Int → Int → Int → Int → Int → Bool → Option R) =>
    l_point_Search_Ask_exponential o0 o0_1 o0_2 o1 o1_1
     (fun r1 r2 r3 r4 r5 r6 r7 =>
      bi (!r2)
       (K0 7 r3 r4 r5 r6 r7)
       (bi v
        (l_point_exponential_told v r6 r7
         (fun r8 r9 =>
          K0 0 r3 r1 (IntKind.i64.wrap (r5 + 1)) r8 r9))
        (l_point_exponential_told v r6 r7
         (fun r10 r11 =>
          K0 0 r1 r4 (IntKind.i64.wrap (r5 + 1)) r10 r11))))) v o0 o0_1 o0_2 o1 o1_1 (fun r0 r1 r2 r3 r4 r5 => K (.v (.int .i64 r0)) [.box 110 [.ifc 104 (.ptr 1 0), .v (.int .i64 r1), .v (.int .i64 r2), .v (.int .i64 r3)], .box 106 [.v (.int .i64 r4), .v (.bool r5)]]) := by kernel_rfl

theorem entry_point_Search_Tell_exponential {R : Type} (K : AV → List O → Option R) (v : Bool) (o0 : Int) (o0_1 : Int) (o0_2 : Int) (o1 : Int) (o1_1 : Bool) :
    fnRun Try.prog (T_point_Search_Tell @l_point_Search_Ask_linear @l_point_Search_Ask_binary @l_point_Search_Ask_exponential @l_point_binary_told @l_point_exponential_told) cuts_point_Search_Tell_exponential Try.f32 0 [.ptr 0 0, .v (.bool v)] [.box 110 [.ifc 104 (.ptr 1 0), .v (.int .i64 o0), .v (.int .i64 o0_1), .v (.int .i64 o0_2)], .box 106 [.v (.int .i64 o1), .v (.bool o1_1)]] K =
    l_point_Search_Tell_exponential v o0 o0_1 o0_2 o1 o1_1 (fun r0 r1 r2 r3 r4 r5 => K (.v (.int .i64 r0)) [.box 110 [.ifc 104 (.ptr 1 0), .v (.int .i64 r1), .v (.int .i64 r2), .v (.int .i64 r3)], .box 106 [.v (.int .i64 r4), .v (.bool r5)]]) := gentry_point_Search_Tell_exponential @l_point_Search_Ask_linear @l_point_Search_Ask_binary @l_point_Search_Ask_exponential @l_point_binary_told @l_point_exponential_told K v o0 o0_1 o0_2 o1 o1_1

def S_point_Search_Tell (l_point_Search_Tell_linear : {R : Type} → Bool → Int → Int → Int → (Int → Int → Int → Int → Option R) → Option R) (l_point_Search_Tell_binary : {R : Type} → Bool → Int → Int → Int → (Int → Int → Int → Int → Option R) → Option R) (l_point_Search_Tell_exponential : {R : Type} → Bool → Int → Int → Int → Int → Bool → (Int → Int → Int → Int → Int → Bool → Option R) → Option R) : Sum := ⟨[], fun {R} args ob K => match args, ob with
  | [.ptr 0 0, .v (.bool v)], [.box 110 [.ifc 102 (.agg []), .v (.int .i64 o0), .v (.int .i64 o0_1), .v (.int .i64 o0_2)]] => l_point_Search_Tell_linear v o0 o0_1 o0_2 (fun r0 r1 r2 r3 => K (.v (.int .i64 r0)) [.box 110 [.ifc 102 (.agg []), .v (.int .i64 r1), .v (.int .i64 r2), .v (.int .i64 r3)]])
  | [.ptr 0 0, .v (.bool v)], [.box 110 [.ifc 103 (.agg []), .v (.int .i64 o0), .v (.int .i64 o0_1), .v (.int .i64 o0_2)]] => l_point_Search_Tell_binary v o0 o0_1 o0_2 (fun r0 r1 r2 r3 => K (.v (.int .i64 r0)) [.box 110 [.ifc 103 (.agg []), .v (.int .i64 r1), .v (.int .i64 r2), .v (.int .i64 r3)]])
  | [.ptr 0 0, .v (.bool v)], [.box 110 [.ifc 104 (.ptr 1 0), .v (.int .i64 o0), .v (.int .i64 o0_1), .v (.int .i64 o0_2)], .box 106 [.v (.int .i64 o1), .v (.bool o1_1)]] => l_point_Search_Tell_exponential v o0 o0_1 o0_2 o1 o1_1 (fun r0 r1 r2 r3 r4 r5 => K (.v (.int .i64 r0)) [.box 110 [.ifc 104 (.ptr 1 0), .v (.int .i64 r1), .v (.int .i64 r2), .v (.int .i64 r3)], .box 106 [.v (.int .i64 r4), .v (.bool r5)]])
  | _, _ => none⟩

theorem sound_point_Search_Tell : Sound Try.prog 32 (S_point_Search_Tell @l_point_Search_Tell_linear @l_point_Search_Tell_binary @l_point_Search_Tell_exponential) := by
  refine fn_sound (cuts := cuts_point_Search_Tell_linear) (fn := Try.f32) (Γ := (T_point_Search_Tell @l_point_Search_Ask_linear @l_point_Search_Ask_binary @l_point_Search_Ask_exponential @l_point_binary_told @l_point_exponential_told)) wide right_T_point_Search_Tell Try.func32 fun {R} K r args ob h => ?_
  unfold S_point_Search_Tell at h
  dsimp only at h
  split at h
  · exact ⟨Nat.le_of_ble_eq_true (by kernel_rfl), 0, (entry_point_Search_Tell_linear K _ _ _ _).trans h⟩
  · exact ⟨Nat.le_of_ble_eq_true (by kernel_rfl), 0, (entry_point_Search_Tell_binary K _ _ _ _).trans h⟩
  · exact ⟨Nat.le_of_ble_eq_true (by kernel_rfl), 0, (entry_point_Search_Tell_exponential K _ _ _ _ _ _).trans h⟩
  · cases h

theorem call_point_Search_Tell : Callable Try.prog 32 := ⟨_, Try.func32, by kernel_rfl, by kernel_rfl⟩

def T_point_Search_Found (l_point_Search_ended_linear : {R : Type} → Int → Int → Int → (Bool → Int → Int → Int → Option R) → Option R) (l_point_Search_ended_binary : {R : Type} → Int → Int → Int → (Bool → Int → Int → Int → Option R) → Option R) (l_point_Search_ended_exponential : {R : Type} → Int → Int → Int → Int → Bool → (Bool → Int → Int → Int → Int → Bool → Option R) → Option R) : FuncId → Option Sum := (addS G0 58 (S_point_Search_ended @l_point_Search_ended_linear @l_point_Search_ended_binary @l_point_Search_ended_exponential))

theorem right_T_point_Search_Found : Right Try.prog (T_point_Search_Found @l_point_Search_ended_linear @l_point_Search_ended_binary @l_point_Search_ended_exponential) := (right_add right_G0 call_point_Search_ended sound_point_Search_ended)

abbrev cuts_point_Search_Found_linear : Cuts := []

theorem gentry_point_Search_Found_linear (l_point_Search_ended_linear : {R : Type} → Int → Int → Int → (Bool → Int → Int → Int → Option R) → Option R) (l_point_Search_ended_binary : {R : Type} → Int → Int → Int → (Bool → Int → Int → Int → Option R) → Option R) (l_point_Search_ended_exponential : {R : Type} → Int → Int → Int → Int → Bool → (Bool → Int → Int → Int → Int → Bool → Option R) → Option R) {R : Type} (K : AV → List O → Option R) (o0 : Int) (o0_1 : Int) (o0_2 : Int) :
    fnRun Try.prog (T_point_Search_Found @l_point_Search_ended_linear @l_point_Search_ended_binary @l_point_Search_ended_exponential) cuts_point_Search_Found_linear Try.f30 0 [.ptr 0 0] [.box 110 [.ifc 102 (.agg []), .v (.int .i64 o0), .v (.int .i64 o0_1), .v (.int .i64 o0_2)]] K =
    (fun (o0 : Int) (o0_1 : Int) (o0_2 : Int) (K0 : Int → Bool → Int → Int → Int → Option R) =>
    l_point_Search_ended_linear o0 o0_1 o0_2
     (fun r1 r2 r3 r4 =>
      bi (!r1)
       (K0 0 false r2 r3 r4)
       (K0 r2 true r2 r3 r4))) o0 o0_1 o0_2 (fun r0 r1 r2 r3 r4 => K (.tup [.v (.int .i64 r0), .v (.bool r1)]) [.box 110 [.ifc 102 (.agg []), .v (.int .i64 r2), .v (.int .i64 r3), .v (.int .i64 r4)]]) := by kernel_rfl

theorem entry_point_Search_Found_linear {R : Type} (K : AV → List O → Option R) (o0 : Int) (o0_1 : Int) (o0_2 : Int) :
    fnRun Try.prog (T_point_Search_Found @l_point_Search_ended_linear @l_point_Search_ended_binary @l_point_Search_ended_exponential) cuts_point_Search_Found_linear Try.f30 0 [.ptr 0 0] [.box 110 [.ifc 102 (.agg []), .v (.int .i64 o0), .v (.int .i64 o0_1), .v (.int .i64 o0_2)]] K =
    l_point_Search_Found_linear o0 o0_1 o0_2 (fun r0 r1 r2 r3 r4 => K (.tup [.v (.int .i64 r0), .v (.bool r1)]) [.box 110 [.ifc 102 (.agg []), .v (.int .i64 r2), .v (.int .i64 r3), .v (.int .i64 r4)]]) := gentry_point_Search_Found_linear @l_point_Search_ended_linear @l_point_Search_ended_binary @l_point_Search_ended_exponential K o0 o0_1 o0_2

abbrev cuts_point_Search_Found_binary : Cuts := []

theorem gentry_point_Search_Found_binary (l_point_Search_ended_linear : {R : Type} → Int → Int → Int → (Bool → Int → Int → Int → Option R) → Option R) (l_point_Search_ended_binary : {R : Type} → Int → Int → Int → (Bool → Int → Int → Int → Option R) → Option R) (l_point_Search_ended_exponential : {R : Type} → Int → Int → Int → Int → Bool → (Bool → Int → Int → Int → Int → Bool → Option R) → Option R) {R : Type} (K : AV → List O → Option R) (o0 : Int) (o0_1 : Int) (o0_2 : Int) :
    fnRun Try.prog (T_point_Search_Found @l_point_Search_ended_linear @l_point_Search_ended_binary @l_point_Search_ended_exponential) cuts_point_Search_Found_binary Try.f30 0 [.ptr 0 0] [.box 110 [.ifc 103 (.agg []), .v (.int .i64 o0), .v (.int .i64 o0_1), .v (.int .i64 o0_2)]] K =
    (fun (o0 : Int) (o0_1 : Int) (o0_2 : Int) (K0 : Int → Bool → Int → Int → Int → Option R) =>
    l_point_Search_ended_binary o0 o0_1 o0_2
     (fun r1 r2 r3 r4 =>
      bi (!r1)
       (K0 0 false r2 r3 r4)
       (K0 r2 true r2 r3 r4))) o0 o0_1 o0_2 (fun r0 r1 r2 r3 r4 => K (.tup [.v (.int .i64 r0), .v (.bool r1)]) [.box 110 [.ifc 103 (.agg []), .v (.int .i64 r2), .v (.int .i64 r3), .v (.int .i64 r4)]]) := by kernel_rfl

theorem entry_point_Search_Found_binary {R : Type} (K : AV → List O → Option R) (o0 : Int) (o0_1 : Int) (o0_2 : Int) :
    fnRun Try.prog (T_point_Search_Found @l_point_Search_ended_linear @l_point_Search_ended_binary @l_point_Search_ended_exponential) cuts_point_Search_Found_binary Try.f30 0 [.ptr 0 0] [.box 110 [.ifc 103 (.agg []), .v (.int .i64 o0), .v (.int .i64 o0_1), .v (.int .i64 o0_2)]] K =
    l_point_Search_Found_binary o0 o0_1 o0_2 (fun r0 r1 r2 r3 r4 => K (.tup [.v (.int .i64 r0), .v (.bool r1)]) [.box 110 [.ifc 103 (.agg []), .v (.int .i64 r2), .v (.int .i64 r3), .v (.int .i64 r4)]]) := gentry_point_Search_Found_binary @l_point_Search_ended_linear @l_point_Search_ended_binary @l_point_Search_ended_exponential K o0 o0_1 o0_2

abbrev cuts_point_Search_Found_exponential : Cuts := []

theorem gentry_point_Search_Found_exponential (l_point_Search_ended_linear : {R : Type} → Int → Int → Int → (Bool → Int → Int → Int → Option R) → Option R) (l_point_Search_ended_binary : {R : Type} → Int → Int → Int → (Bool → Int → Int → Int → Option R) → Option R) (l_point_Search_ended_exponential : {R : Type} → Int → Int → Int → Int → Bool → (Bool → Int → Int → Int → Int → Bool → Option R) → Option R) {R : Type} (K : AV → List O → Option R) (o0 : Int) (o0_1 : Int) (o0_2 : Int) (o1 : Int) (o1_1 : Bool) :
    fnRun Try.prog (T_point_Search_Found @l_point_Search_ended_linear @l_point_Search_ended_binary @l_point_Search_ended_exponential) cuts_point_Search_Found_exponential Try.f30 0 [.ptr 0 0] [.box 110 [.ifc 104 (.ptr 1 0), .v (.int .i64 o0), .v (.int .i64 o0_1), .v (.int .i64 o0_2)], .box 106 [.v (.int .i64 o1), .v (.bool o1_1)]] K =
    (fun (o0 : Int) (o0_1 : Int) (o0_2 : Int) (o1 : Int) (o1_1 : Bool) (K0 : Int → Bool → Int → Int → Int → Int → Bool → Option R) =>
    l_point_Search_ended_exponential o0 o0_1 o0_2 o1 o1_1
     (fun r1 r2 r3 r4 r5 r6 =>
      bi (!r1)
       (K0 0 false r2 r3 r4 r5 r6)
       (K0 r2 true r2 r3 r4 r5 r6))) o0 o0_1 o0_2 o1 o1_1 (fun r0 r1 r2 r3 r4 r5 r6 => K (.tup [.v (.int .i64 r0), .v (.bool r1)]) [.box 110 [.ifc 104 (.ptr 1 0), .v (.int .i64 r2), .v (.int .i64 r3), .v (.int .i64 r4)], .box 106 [.v (.int .i64 r5), .v (.bool r6)]]) := by kernel_rfl

theorem entry_point_Search_Found_exponential {R : Type} (K : AV → List O → Option R) (o0 : Int) (o0_1 : Int) (o0_2 : Int) (o1 : Int) (o1_1 : Bool) :
    fnRun Try.prog (T_point_Search_Found @l_point_Search_ended_linear @l_point_Search_ended_binary @l_point_Search_ended_exponential) cuts_point_Search_Found_exponential Try.f30 0 [.ptr 0 0] [.box 110 [.ifc 104 (.ptr 1 0), .v (.int .i64 o0), .v (.int .i64 o0_1), .v (.int .i64 o0_2)], .box 106 [.v (.int .i64 o1), .v (.bool o1_1)]] K =
    l_point_Search_Found_exponential o0 o0_1 o0_2 o1 o1_1 (fun r0 r1 r2 r3 r4 r5 r6 => K (.tup [.v (.int .i64 r0), .v (.bool r1)]) [.box 110 [.ifc 104 (.ptr 1 0), .v (.int .i64 r2), .v (.int .i64 r3), .v (.int .i64 r4)], .box 106 [.v (.int .i64 r5), .v (.bool r6)]]) := gentry_point_Search_Found_exponential @l_point_Search_ended_linear @l_point_Search_ended_binary @l_point_Search_ended_exponential K o0 o0_1 o0_2 o1 o1_1

def S_point_Search_Found (l_point_Search_Found_linear : {R : Type} → Int → Int → Int → (Int → Bool → Int → Int → Int → Option R) → Option R) (l_point_Search_Found_binary : {R : Type} → Int → Int → Int → (Int → Bool → Int → Int → Int → Option R) → Option R) (l_point_Search_Found_exponential : {R : Type} → Int → Int → Int → Int → Bool → (Int → Bool → Int → Int → Int → Int → Bool → Option R) → Option R) : Sum := ⟨[], fun {R} args ob K => match args, ob with
  | [.ptr 0 0], [.box 110 [.ifc 102 (.agg []), .v (.int .i64 o0), .v (.int .i64 o0_1), .v (.int .i64 o0_2)]] => l_point_Search_Found_linear o0 o0_1 o0_2 (fun r0 r1 r2 r3 r4 => K (.tup [.v (.int .i64 r0), .v (.bool r1)]) [.box 110 [.ifc 102 (.agg []), .v (.int .i64 r2), .v (.int .i64 r3), .v (.int .i64 r4)]])
  | [.ptr 0 0], [.box 110 [.ifc 103 (.agg []), .v (.int .i64 o0), .v (.int .i64 o0_1), .v (.int .i64 o0_2)]] => l_point_Search_Found_binary o0 o0_1 o0_2 (fun r0 r1 r2 r3 r4 => K (.tup [.v (.int .i64 r0), .v (.bool r1)]) [.box 110 [.ifc 103 (.agg []), .v (.int .i64 r2), .v (.int .i64 r3), .v (.int .i64 r4)]])
  | [.ptr 0 0], [.box 110 [.ifc 104 (.ptr 1 0), .v (.int .i64 o0), .v (.int .i64 o0_1), .v (.int .i64 o0_2)], .box 106 [.v (.int .i64 o1), .v (.bool o1_1)]] => l_point_Search_Found_exponential o0 o0_1 o0_2 o1 o1_1 (fun r0 r1 r2 r3 r4 r5 r6 => K (.tup [.v (.int .i64 r0), .v (.bool r1)]) [.box 110 [.ifc 104 (.ptr 1 0), .v (.int .i64 r2), .v (.int .i64 r3), .v (.int .i64 r4)], .box 106 [.v (.int .i64 r5), .v (.bool r6)]])
  | _, _ => none⟩

theorem sound_point_Search_Found : Sound Try.prog 30 (S_point_Search_Found @l_point_Search_Found_linear @l_point_Search_Found_binary @l_point_Search_Found_exponential) := by
  refine fn_sound (cuts := cuts_point_Search_Found_linear) (fn := Try.f30) (Γ := (T_point_Search_Found @l_point_Search_ended_linear @l_point_Search_ended_binary @l_point_Search_ended_exponential)) wide right_T_point_Search_Found Try.func30 fun {R} K r args ob h => ?_
  unfold S_point_Search_Found at h
  dsimp only at h
  split at h
  · exact ⟨Nat.le_of_ble_eq_true (by kernel_rfl), 0, (entry_point_Search_Found_linear K _ _ _).trans h⟩
  · exact ⟨Nat.le_of_ble_eq_true (by kernel_rfl), 0, (entry_point_Search_Found_binary K _ _ _).trans h⟩
  · exact ⟨Nat.le_of_ble_eq_true (by kernel_rfl), 0, (entry_point_Search_Found_exponential K _ _ _ _ _).trans h⟩
  · cases h

theorem call_point_Search_Found : Callable Try.prog 30 := ⟨_, Try.func30, by kernel_rfl, by kernel_rfl⟩

def T_point_Search_Asked : FuncId → Option Sum := G0

theorem right_T_point_Search_Asked : Right Try.prog T_point_Search_Asked := right_G0

abbrev cuts_point_Search_Asked_linear : Cuts := []

theorem gentry_point_Search_Asked_linear {R : Type} (K : AV → List O → Option R) (o0 : Int) (o0_1 : Int) (o0_2 : Int) :
    fnRun Try.prog T_point_Search_Asked cuts_point_Search_Asked_linear Try.f31 0 [.ptr 0 0] [.box 110 [.ifc 102 (.agg []), .v (.int .i64 o0), .v (.int .i64 o0_1), .v (.int .i64 o0_2)]] K =
    (fun (o0 : Int) (o0_1 : Int) (o0_2 : Int) (K0 : Int → Int → Int → Int → Option R) =>
    K0 o0_2 o0 o0_1 o0_2) o0 o0_1 o0_2 (fun r0 r1 r2 r3 => K (.v (.int .i64 r0)) [.box 110 [.ifc 102 (.agg []), .v (.int .i64 r1), .v (.int .i64 r2), .v (.int .i64 r3)]]) := by kernel_rfl

theorem entry_point_Search_Asked_linear {R : Type} (K : AV → List O → Option R) (o0 : Int) (o0_1 : Int) (o0_2 : Int) :
    fnRun Try.prog T_point_Search_Asked cuts_point_Search_Asked_linear Try.f31 0 [.ptr 0 0] [.box 110 [.ifc 102 (.agg []), .v (.int .i64 o0), .v (.int .i64 o0_1), .v (.int .i64 o0_2)]] K =
    l_point_Search_Asked_linear o0 o0_1 o0_2 (fun r0 r1 r2 r3 => K (.v (.int .i64 r0)) [.box 110 [.ifc 102 (.agg []), .v (.int .i64 r1), .v (.int .i64 r2), .v (.int .i64 r3)]]) := gentry_point_Search_Asked_linear K o0 o0_1 o0_2

abbrev cuts_point_Search_Asked_binary : Cuts := []

theorem gentry_point_Search_Asked_binary {R : Type} (K : AV → List O → Option R) (o0 : Int) (o0_1 : Int) (o0_2 : Int) :
    fnRun Try.prog T_point_Search_Asked cuts_point_Search_Asked_binary Try.f31 0 [.ptr 0 0] [.box 110 [.ifc 103 (.agg []), .v (.int .i64 o0), .v (.int .i64 o0_1), .v (.int .i64 o0_2)]] K =
    (fun (o0 : Int) (o0_1 : Int) (o0_2 : Int) (K0 : Int → Int → Int → Int → Option R) =>
    K0 o0_2 o0 o0_1 o0_2) o0 o0_1 o0_2 (fun r0 r1 r2 r3 => K (.v (.int .i64 r0)) [.box 110 [.ifc 103 (.agg []), .v (.int .i64 r1), .v (.int .i64 r2), .v (.int .i64 r3)]]) := by kernel_rfl

theorem entry_point_Search_Asked_binary {R : Type} (K : AV → List O → Option R) (o0 : Int) (o0_1 : Int) (o0_2 : Int) :
    fnRun Try.prog T_point_Search_Asked cuts_point_Search_Asked_binary Try.f31 0 [.ptr 0 0] [.box 110 [.ifc 103 (.agg []), .v (.int .i64 o0), .v (.int .i64 o0_1), .v (.int .i64 o0_2)]] K =
    l_point_Search_Asked_binary o0 o0_1 o0_2 (fun r0 r1 r2 r3 => K (.v (.int .i64 r0)) [.box 110 [.ifc 103 (.agg []), .v (.int .i64 r1), .v (.int .i64 r2), .v (.int .i64 r3)]]) := gentry_point_Search_Asked_binary K o0 o0_1 o0_2

abbrev cuts_point_Search_Asked_exponential : Cuts := []

theorem gentry_point_Search_Asked_exponential {R : Type} (K : AV → List O → Option R) (o0 : Int) (o0_1 : Int) (o0_2 : Int) (o1 : Int) (o1_1 : Bool) :
    fnRun Try.prog T_point_Search_Asked cuts_point_Search_Asked_exponential Try.f31 0 [.ptr 0 0] [.box 110 [.ifc 104 (.ptr 1 0), .v (.int .i64 o0), .v (.int .i64 o0_1), .v (.int .i64 o0_2)], .box 106 [.v (.int .i64 o1), .v (.bool o1_1)]] K =
    (fun (o0 : Int) (o0_1 : Int) (o0_2 : Int) (o1 : Int) (o1_1 : Bool) (K0 : Int → Int → Int → Int → Int → Bool → Option R) =>
    K0 o0_2 o0 o0_1 o0_2 o1 o1_1) o0 o0_1 o0_2 o1 o1_1 (fun r0 r1 r2 r3 r4 r5 => K (.v (.int .i64 r0)) [.box 110 [.ifc 104 (.ptr 1 0), .v (.int .i64 r1), .v (.int .i64 r2), .v (.int .i64 r3)], .box 106 [.v (.int .i64 r4), .v (.bool r5)]]) := by kernel_rfl

theorem entry_point_Search_Asked_exponential {R : Type} (K : AV → List O → Option R) (o0 : Int) (o0_1 : Int) (o0_2 : Int) (o1 : Int) (o1_1 : Bool) :
    fnRun Try.prog T_point_Search_Asked cuts_point_Search_Asked_exponential Try.f31 0 [.ptr 0 0] [.box 110 [.ifc 104 (.ptr 1 0), .v (.int .i64 o0), .v (.int .i64 o0_1), .v (.int .i64 o0_2)], .box 106 [.v (.int .i64 o1), .v (.bool o1_1)]] K =
    l_point_Search_Asked_exponential o0 o0_1 o0_2 o1 o1_1 (fun r0 r1 r2 r3 r4 r5 => K (.v (.int .i64 r0)) [.box 110 [.ifc 104 (.ptr 1 0), .v (.int .i64 r1), .v (.int .i64 r2), .v (.int .i64 r3)], .box 106 [.v (.int .i64 r4), .v (.bool r5)]]) := gentry_point_Search_Asked_exponential K o0 o0_1 o0_2 o1 o1_1

def S_point_Search_Asked (l_point_Search_Asked_linear : {R : Type} → Int → Int → Int → (Int → Int → Int → Int → Option R) → Option R) (l_point_Search_Asked_binary : {R : Type} → Int → Int → Int → (Int → Int → Int → Int → Option R) → Option R) (l_point_Search_Asked_exponential : {R : Type} → Int → Int → Int → Int → Bool → (Int → Int → Int → Int → Int → Bool → Option R) → Option R) : Sum := ⟨[], fun {R} args ob K => match args, ob with
  | [.ptr 0 0], [.box 110 [.ifc 102 (.agg []), .v (.int .i64 o0), .v (.int .i64 o0_1), .v (.int .i64 o0_2)]] => l_point_Search_Asked_linear o0 o0_1 o0_2 (fun r0 r1 r2 r3 => K (.v (.int .i64 r0)) [.box 110 [.ifc 102 (.agg []), .v (.int .i64 r1), .v (.int .i64 r2), .v (.int .i64 r3)]])
  | [.ptr 0 0], [.box 110 [.ifc 103 (.agg []), .v (.int .i64 o0), .v (.int .i64 o0_1), .v (.int .i64 o0_2)]] => l_point_Search_Asked_binary o0 o0_1 o0_2 (fun r0 r1 r2 r3 => K (.v (.int .i64 r0)) [.box 110 [.ifc 103 (.agg []), .v (.int .i64 r1), .v (.int .i64 r2), .v (.int .i64 r3)]])
  | [.ptr 0 0], [.box 110 [.ifc 104 (.ptr 1 0), .v (.int .i64 o0), .v (.int .i64 o0_1), .v (.int .i64 o0_2)], .box 106 [.v (.int .i64 o1), .v (.bool o1_1)]] => l_point_Search_Asked_exponential o0 o0_1 o0_2 o1 o1_1 (fun r0 r1 r2 r3 r4 r5 => K (.v (.int .i64 r0)) [.box 110 [.ifc 104 (.ptr 1 0), .v (.int .i64 r1), .v (.int .i64 r2), .v (.int .i64 r3)], .box 106 [.v (.int .i64 r4), .v (.bool r5)]])
  | _, _ => none⟩

theorem sound_point_Search_Asked : Sound Try.prog 31 (S_point_Search_Asked @l_point_Search_Asked_linear @l_point_Search_Asked_binary @l_point_Search_Asked_exponential) := by
  refine fn_sound (cuts := cuts_point_Search_Asked_linear) (fn := Try.f31) (Γ := T_point_Search_Asked) wide right_T_point_Search_Asked Try.func31 fun {R} K r args ob h => ?_
  unfold S_point_Search_Asked at h
  dsimp only at h
  split at h
  · exact ⟨Nat.le_of_ble_eq_true (by kernel_rfl), 0, (entry_point_Search_Asked_linear K _ _ _).trans h⟩
  · exact ⟨Nat.le_of_ble_eq_true (by kernel_rfl), 0, (entry_point_Search_Asked_binary K _ _ _).trans h⟩
  · exact ⟨Nat.le_of_ble_eq_true (by kernel_rfl), 0, (entry_point_Search_Asked_exponential K _ _ _ _ _).trans h⟩
  · cases h

theorem call_point_Search_Asked : Callable Try.prog 31 := ⟨_, Try.func31, by kernel_rfl, by kernel_rfl⟩

def T_tutorlaw12_live (l_tutorlaw12_num : {R : Type} → Int → (Int → Option R) → Option R) (l_point_Search_Asked_linear : {R : Type} → Int → Int → Int → (Int → Int → Int → Int → Option R) → Option R) (l_point_Search_Asked_binary : {R : Type} → Int → Int → Int → (Int → Int → Int → Int → Option R) → Option R) (l_point_Search_Asked_exponential : {R : Type} → Int → Int → Int → Int → Bool → (Int → Int → Int → Int → Int → Bool → Option R) → Option R) (l_point_Search_Found_linear : {R : Type} → Int → Int → Int → (Int → Bool → Int → Int → Int → Option R) → Option R) (l_point_Search_Found_binary : {R : Type} → Int → Int → Int → (Int → Bool → Int → Int → Int → Option R) → Option R) (l_point_Search_Found_exponential : {R : Type} → Int → Int → Int → Int → Bool → (Int → Bool → Int → Int → Int → Int → Bool → Option R) → Option R) (l_point_Search_Tell_linear : {R : Type} → Bool → Int → Int → Int → (Int → Int → Int → Int → Option R) → Option R) (l_point_Search_Tell_binary : {R : Type} → Bool → Int → Int → Int → (Int → Int → Int → Int → Option R) → Option R) (l_point_Search_Tell_exponential : {R : Type} → Bool → Int → Int → Int → Int → Bool → (Int → Int → Int → Int → Int → Bool → Option R) → Option R) (l_point_Search_Ask_linear : {R : Type} → Int → Int → Int → (Int → Bool → Int → Int → Int → Option R) → Option R) (l_point_Search_Ask_binary : {R : Type} → Int → Int → Int → (Int → Bool → Int → Int → Int → Option R) → Option R) (l_point_Search_Ask_exponential : {R : Type} → Int → Int → Int → Int → Bool → (Int → Bool → Int → Int → Int → Int → Bool → Option R) → Option R) (l_point_New : {R : Type} → Int → Int → (Int → Option R) → (Int → Int → Int → Int → Option R) → (Int → Int → Int → Int → Option R) → (Int → Int → Int → Int → Int → Bool → Option R) → Option R) : FuncId → Option Sum := (addS (addS (addS (addS (addS (addS G0 26 (S_tutorlaw12_num @l_tutorlaw12_num)) 31 (S_point_Search_Asked @l_point_Search_Asked_linear @l_point_Search_Asked_binary @l_point_Search_Asked_exponential)) 30 (S_point_Search_Found @l_point_Search_Found_linear @l_point_Search_Found_binary @l_point_Search_Found_exponential)) 32 (S_point_Search_Tell @l_point_Search_Tell_linear @l_point_Search_Tell_binary @l_point_Search_Tell_exponential)) 28 (S_point_Search_Ask @l_point_Search_Ask_linear @l_point_Search_Ask_binary @l_point_Search_Ask_exponential)) 24 (S_point_New @l_point_New))

theorem right_T_tutorlaw12_live : Right Try.prog (T_tutorlaw12_live @l_tutorlaw12_num @l_point_Search_Asked_linear @l_point_Search_Asked_binary @l_point_Search_Asked_exponential @l_point_Search_Found_linear @l_point_Search_Found_binary @l_point_Search_Found_exponential @l_point_Search_Tell_linear @l_point_Search_Tell_binary @l_point_Search_Tell_exponential @l_point_Search_Ask_linear @l_point_Search_Ask_binary @l_point_Search_Ask_exponential @l_point_New) := (right_add (right_add (right_add (right_add (right_add (right_add right_G0 call_tutorlaw12_num sound_tutorlaw12_num) call_point_Search_Asked sound_point_Search_Asked) call_point_Search_Found sound_point_Search_Found) call_point_Search_Tell sound_point_Search_Tell) call_point_Search_Ask sound_point_Search_Ask) call_point_New sound_point_New)

abbrev cuts_tutorlaw12_live : Cuts := []

theorem gentry_tutorlaw12_live (l_tutorlaw12_num : {R : Type} → Int → (Int → Option R) → Option R) (l_point_Search_Asked_linear : {R : Type} → Int → Int → Int → (Int → Int → Int → Int → Option R) → Option R) (l_point_Search_Asked_binary : {R : Type} → Int → Int → Int → (Int → Int → Int → Int → Option R) → Option R) (l_point_Search_Asked_exponential : {R : Type} → Int → Int → Int → Int → Bool → (Int → Int → Int → Int → Int → Bool → Option R) → Option R) (l_point_Search_Found_linear : {R : Type} → Int → Int → Int → (Int → Bool → Int → Int → Int → Option R) → Option R) (l_point_Search_Found_binary : {R : Type} → Int → Int → Int → (Int → Bool → Int → Int → Int → Option R) → Option R) (l_point_Search_Found_exponential : {R : Type} → Int → Int → Int → Int → Bool → (Int → Bool → Int → Int → Int → Int → Bool → Option R) → Option R) (l_point_Search_Tell_linear : {R : Type} → Bool → Int → Int → Int → (Int → Int → Int → Int → Option R) → Option R) (l_point_Search_Tell_binary : {R : Type} → Bool → Int → Int → Int → (Int → Int → Int → Int → Option R) → Option R) (l_point_Search_Tell_exponential : {R : Type} → Bool → Int → Int → Int → Int → Bool → (Int → Int → Int → Int → Int → Bool → Option R) → Option R) (l_point_Search_Ask_linear : {R : Type} → Int → Int → Int → (Int → Bool → Int → Int → Int → Option R) → Option R) (l_point_Search_Ask_binary : {R : Type} → Int → Int → Int → (Int → Bool → Int → Int → Int → Option R) → Option R) (l_point_Search_Ask_exponential : {R : Type} → Int → Int → Int → Int → Bool → (Int → Bool → Int → Int → Int → Int → Bool → Option R) → Option R) (l_point_New : {R : Type} → Int → Int → (Int → Option R) → (Int → Int → Int → Int → Option R) → (Int → Int → Int → Int → Option R) → (Int → Int → Int → Int → Int → Bool → Option R) → Option R) {R : Type} (K : AV → List O → Option R)  :
    fnRun Try.prog (T_tutorlaw12_live @l_tutorlaw12_num @l_point_Search_Asked_linear @l_point_Search_Asked_binary @l_point_Search_Asked_exponential @l_point_Search_Found_linear @l_point_Search_Found_binary @l_point_Search_Found_exponential @l_point_Search_Tell_linear @l_point_Search_Tell_binary @l_point_Search_Tell_exponential @l_point_Search_Ask_linear @l_point_Search_Ask_binary @l_point_Search_Ask_exponential @l_point_New) cuts_tutorlaw12_live Try.f27 0 [] [] K =
    (fun  (K0 : Bool → Option R) =>
    l_point_New 2 8
     (fun r1 =>
      l_tutorlaw12_num r1
       (fun r2 =>
        bi (r2 != 0)
         (K0 false)
         (K0 false)))
     (fun r3 r4 r5 r6 =>
      l_tutorlaw12_num r3
       (fun r7 =>
        bi (r7 != 0)
         (K0 false)
         (l_point_Search_Ask_linear r4 r5 r6
          (fun r8 r9 r10 r11 r12 =>
           l_point_Search_Tell_linear true r10 r11 r12
            (fun r13 r14 r15 r16 =>
             l_point_Search_Ask_linear r14 r15 r16
              (fun r17 r18 r19 r20 r21 =>
               l_point_Search_Tell_linear false r19 r20 r21
                (fun r22 r23 r24 r25 =>
                 l_point_Search_Ask_linear r23 r24 r25
                  (fun r26 r27 r28 r29 r30 =>
                   l_point_Search_Tell_linear false r28 r29 r30
                    (fun r31 r32 r33 r34 =>
                     l_point_Search_Found_linear r32 r33 r34
                      (fun r35 r36 r37 r38 r39 =>
                       bi (r8 == 4)
                        (bi (r17 == 2)
                         (bi (r26 == 3)
                          (bi (r35 == 3)
                           (bi r36
                            (l_point_Search_Asked_linear r37 r38 r39
                             (fun r40 r41 r42 r43 =>
                              K0 (r40 == 3)))
                            (K0 false))
                           (K0 false))
                          (K0 false))
                         (K0 false))
                        (K0 false)))))))))))
     (fun r44 r45 r46 r47 =>
      l_tutorlaw12_num r44
       (fun r48 =>
        bi (r48 != 0)
         (K0 false)
         (l_point_Search_Ask_binary r45 r46 r47
          (fun r49 r50 r51 r52 r53 =>
           l_point_Search_Tell_binary true r51 r52 r53
            (fun r54 r55 r56 r57 =>
             l_point_Search_Ask_binary r55 r56 r57
              (fun r58 r59 r60 r61 r62 =>
               l_point_Search_Tell_binary false r60 r61 r62
                (fun r63 r64 r65 r66 =>
                 l_point_Search_Ask_binary r64 r65 r66
                  (fun r67 r68 r69 r70 r71 =>
                   l_point_Search_Tell_binary false r69 r70 r71
                    (fun r72 r73 r74 r75 =>
                     l_point_Search_Found_binary r73 r74 r75
                      (fun r76 r77 r78 r79 r80 =>
                       bi (r49 == 4)
                        (bi (r58 == 2)
                         (bi (r67 == 3)
                          (bi (r76 == 3)
                           (bi r77
                            (l_point_Search_Asked_binary r78 r79 r80
                             (fun r81 r82 r83 r84 =>
                              K0 (r81 == 3)))
                            (K0 false))
                           (K0 false))
                          (K0 false))
                         (K0 false))
                        (K0 false)))))))))))
     (fun r85 r86 r87 r88 r89 r90 =>
      l_tutorlaw12_num r85
       (fun r91 =>
        bi (r91 != 0)
         (K0 false)
         (l_point_Search_Ask_exponential r86 r87 r88 r89 r90
          (fun r92 r93 r94 r95 r96 r97 r98 =>
           l_point_Search_Tell_exponential true r94 r95 r96 r97 r98
            (fun r99 r100 r101 r102 r103 r104 =>
             l_point_Search_Ask_exponential r100 r101 r102 r103 r104
              (fun r105 r106 r107 r108 r109 r110 r111 =>
               l_point_Search_Tell_exponential false r107 r108 r109 r110 r111
                (fun r112 r113 r114 r115 r116 r117 =>
                 l_point_Search_Ask_exponential r113 r114 r115 r116 r117
                  (fun r118 r119 r120 r121 r122 r123 r124 =>
                   l_point_Search_Tell_exponential false r120 r121 r122 r123 r124
                    (fun r125 r126 r127 r128 r129 r130 =>
                     l_point_Search_Found_exponential r126 r127 r128 r129 r130
                      (fun r131 r132 r133 r134 r135 r136 r137 =>
                       bi (r92 == 4)
                        (bi (r105 == 2)
                         (bi (r118 == 3)
                          (bi (r131 == 3)
                           (bi r132
                            (l_point_Search_Asked_exponential r133 r134 r135 r136 r137
                             (fun r138 r139 r140 r141 r142 r143 =>
                              K0 (r138 == 3)))
                            (K0 false))
                           (K0 false))
                          (K0 false))
                         (K0 false))
                        (K0 false))))))))))))  (fun r0 => K (.v (.bool r0)) []) := by kernel_rfl

theorem entry_tutorlaw12_live {R : Type} (K : AV → List O → Option R)  :
    fnRun Try.prog (T_tutorlaw12_live @l_tutorlaw12_num @l_point_Search_Asked_linear @l_point_Search_Asked_binary @l_point_Search_Asked_exponential @l_point_Search_Found_linear @l_point_Search_Found_binary @l_point_Search_Found_exponential @l_point_Search_Tell_linear @l_point_Search_Tell_binary @l_point_Search_Tell_exponential @l_point_Search_Ask_linear @l_point_Search_Ask_binary @l_point_Search_Ask_exponential @l_point_New) cuts_tutorlaw12_live Try.f27 0 [] [] K =
    l_tutorlaw12_live  (fun r0 => K (.v (.bool r0)) []) := gentry_tutorlaw12_live @l_tutorlaw12_num @l_point_Search_Asked_linear @l_point_Search_Asked_binary @l_point_Search_Asked_exponential @l_point_Search_Found_linear @l_point_Search_Found_binary @l_point_Search_Found_exponential @l_point_Search_Tell_linear @l_point_Search_Tell_binary @l_point_Search_Tell_exponential @l_point_Search_Ask_linear @l_point_Search_Ask_binary @l_point_Search_Ask_exponential @l_point_New K 

def S_tutorlaw12_live (l_tutorlaw12_live : {R : Type} → (Bool → Option R) → Option R) : Sum := ⟨[], fun {R} args ob K => match args, ob with
  | [], [] => l_tutorlaw12_live  (fun r0 => K (.v (.bool r0)) [])
  | _, _ => none⟩

theorem sound_tutorlaw12_live : Sound Try.prog 27 (S_tutorlaw12_live @l_tutorlaw12_live) := by
  refine fn_sound (cuts := cuts_tutorlaw12_live) (fn := Try.f27) (Γ := (T_tutorlaw12_live @l_tutorlaw12_num @l_point_Search_Asked_linear @l_point_Search_Asked_binary @l_point_Search_Asked_exponential @l_point_Search_Found_linear @l_point_Search_Found_binary @l_point_Search_Found_exponential @l_point_Search_Tell_linear @l_point_Search_Tell_binary @l_point_Search_Tell_exponential @l_point_Search_Ask_linear @l_point_Search_Ask_binary @l_point_Search_Ask_exponential @l_point_New)) wide right_T_tutorlaw12_live Try.func27 fun {R} K r args ob h => ?_
  unfold S_tutorlaw12_live at h
  dsimp only at h
  split at h
  · exact ⟨Nat.le_of_ble_eq_true (by kernel_rfl), 0, (entry_tutorlaw12_live K).trans h⟩
  · cases h

theorem call_tutorlaw12_live : Callable Try.prog 27 := ⟨_, Try.func27, by kernel_rfl, by kernel_rfl⟩

def T_tutorref12_Ask : FuncId → Option Sum := G0

theorem right_T_tutorref12_Ask : Right Try.prog T_tutorref12_Ask := right_G0

abbrev cuts_tutorref12_Ask : Cuts := []

theorem gentry_tutorref12_Ask {R : Type} (K : AV → List O → Option R) (s : Int) (s_1 : Int) (s_2 : Int) (s_3 : Int) (s_4 : Bool) (s_5 : Int) :
    fnRun Try.prog T_tutorref12_Ask cuts_tutorref12_Ask Try.f29 0 [.agg [.v (.int .i64 s), .v (.int .i64 s_1), .v (.int .i64 s_2), .v (.int .i64 s_3), .v (.bool s_4), .v (.int .i64 s_5)]] [] K =
    (fun (s : Int) (s_1 : Int) (s_2 : Int) (s_3 : Int) (s_4 : Bool) (s_5 : Int) (K0 : Int → Bool → Option R) =>
    bi (s_2 == (IntKind.i64.wrap (s_1 + 1)))
     (K0 0 false)
     (bi (s == 1)
      (K0 (IntKind.i64.wrap (s_1 + 1)) true)
      (bi (s == 3)
       (bi (!s_4)
        (bi (decide ((IntKind.i64.wrap (s_2 - s_1)) ≤ s_3))
         (K0 (IntKind.i64.wrap (s_1 + 1)) true)
         (K0 (IntKind.i64.wrap (s_2 - s_3)) true))
        (K0 (IntKind.i64.wrap ((IntKind.i64.wrap (s_1 + s_2)).tdiv 2)) true))
       (K0 (IntKind.i64.wrap ((IntKind.i64.wrap (s_1 + s_2)).tdiv 2)) true)))) s s_1 s_2 s_3 s_4 s_5 (fun r0 r1 => K (.tup [.v (.int .i64 r0), .v (.bool r1)]) []) := by kernel_rfl

theorem entry_tutorref12_Ask {R : Type} (K : AV → List O → Option R) (s : Int) (s_1 : Int) (s_2 : Int) (s_3 : Int) (s_4 : Bool) (s_5 : Int) :
    fnRun Try.prog T_tutorref12_Ask cuts_tutorref12_Ask Try.f29 0 [.agg [.v (.int .i64 s), .v (.int .i64 s_1), .v (.int .i64 s_2), .v (.int .i64 s_3), .v (.bool s_4), .v (.int .i64 s_5)]] [] K =
    l_tutorref12_Ask s s_1 s_2 s_3 s_4 s_5 (fun r0 r1 => K (.tup [.v (.int .i64 r0), .v (.bool r1)]) []) := gentry_tutorref12_Ask K s s_1 s_2 s_3 s_4 s_5

def S_tutorref12_Ask (l_tutorref12_Ask : {R : Type} → Int → Int → Int → Int → Bool → Int → (Int → Bool → Option R) → Option R) : Sum := ⟨[], fun {R} args ob K => match args, ob with
  | [.agg [.v (.int .i64 s), .v (.int .i64 s_1), .v (.int .i64 s_2), .v (.int .i64 s_3), .v (.bool s_4), .v (.int .i64 s_5)]], [] => l_tutorref12_Ask s s_1 s_2 s_3 s_4 s_5 (fun r0 r1 => K (.tup [.v (.int .i64 r0), .v (.bool r1)]) [])
  | _, _ => none⟩

theorem sound_tutorref12_Ask : Sound Try.prog 29 (S_tutorref12_Ask @l_tutorref12_Ask) := by
  refine fn_sound (cuts := cuts_tutorref12_Ask) (fn := Try.f29) (Γ := T_tutorref12_Ask) wide right_T_tutorref12_Ask Try.func29 fun {R} K r args ob h => ?_
  unfold S_tutorref12_Ask at h
  dsimp only at h
  split at h
  · exact ⟨Nat.le_of_ble_eq_true (by kernel_rfl), 0, (entry_tutorref12_Ask K _ _ _ _ _ _).trans h⟩
  · cases h

theorem call_tutorref12_Ask : Callable Try.prog 29 := ⟨_, Try.func29, by kernel_rfl, by kernel_rfl⟩

def T_tutorlaw12_told : FuncId → Option Sum := G0

theorem right_T_tutorlaw12_told : Right Try.prog T_tutorlaw12_told := right_G0

abbrev cuts_tutorlaw12_told : Cuts := []

theorem gentry_tutorlaw12_told {R : Type} (K : AV → List O → Option R) (v : List Bool) (i : Int) :
    fnRun Try.prog T_tutorlaw12_told cuts_tutorlaw12_told Try.f33 0 [.rd ⟨false, 4, .bool, v⟩, .v (.int .i64 i)] [] K =
    (fun (v : List Bool) (i : Int) (K0 : Bool → Option R) =>
    bi (decide ((v.length : Int) > 0))
     (bi (decide ((v.length : Int) = 0))
      none
      (bi (decide (0 ≤ (i.tmod (v.length : Int)) ∧ (i.tmod (v.length : Int)) < ((v.length : Nat) : Int)))
       (K0 (v.getD ((i.tmod (v.length : Int)).toNat) false))
       none))
     (K0 false)) v i (fun r0 => K (.v (.bool r0)) []) := by kernel_rfl

theorem entry_tutorlaw12_told {R : Type} (K : AV → List O → Option R) (v : List Bool) (i : Int) :
    fnRun Try.prog T_tutorlaw12_told cuts_tutorlaw12_told Try.f33 0 [.rd ⟨false, 4, .bool, v⟩, .v (.int .i64 i)] [] K =
    l_tutorlaw12_told v i (fun r0 => K (.v (.bool r0)) []) := gentry_tutorlaw12_told K v i

def S_tutorlaw12_told (l_tutorlaw12_told : {R : Type} → (List Bool) → Int → (Bool → Option R) → Option R) : Sum := ⟨[], fun {R} args ob K => match args, ob with
  | [.rd ⟨false, 4, .bool, v⟩, .v (.int .i64 i)], [] => l_tutorlaw12_told v i (fun r0 => K (.v (.bool r0)) [])
  | _, _ => none⟩

theorem sound_tutorlaw12_told : Sound Try.prog 33 (S_tutorlaw12_told @l_tutorlaw12_told) := by
  refine fn_sound (cuts := cuts_tutorlaw12_told) (fn := Try.f33) (Γ := T_tutorlaw12_told) wide right_T_tutorlaw12_told Try.func33 fun {R} K r args ob h => ?_
  unfold S_tutorlaw12_told at h
  dsimp only at h
  split at h
  · exact ⟨Nat.le_of_ble_eq_true (by kernel_rfl), 0, (entry_tutorlaw12_told K _ _).trans h⟩
  · cases h

theorem call_tutorlaw12_told : Callable Try.prog 33 := ⟨_, Try.func33, by kernel_rfl, by kernel_rfl⟩

def T_tutorref12_Tell (l_tutorref12_Ask : {R : Type} → Int → Int → Int → Int → Bool → Int → (Int → Bool → Option R) → Option R) : FuncId → Option Sum := (addS G0 29 (S_tutorref12_Ask @l_tutorref12_Ask))

theorem right_T_tutorref12_Tell : Right Try.prog (T_tutorref12_Tell @l_tutorref12_Ask) := (right_add right_G0 call_tutorref12_Ask sound_tutorref12_Ask)

abbrev cuts_tutorref12_Tell : Cuts := []

theorem gentry_tutorref12_Tell (l_tutorref12_Ask : {R : Type} → Int → Int → Int → Int → Bool → Int → (Int → Bool → Option R) → Option R) {R : Type} (K : AV → List O → Option R) (s : Int) (s_1 : Int) (s_2 : Int) (s_3 : Int) (s_4 : Bool) (s_5 : Int) (v : Bool) :
    fnRun Try.prog (T_tutorref12_Tell @l_tutorref12_Ask) cuts_tutorref12_Tell Try.f34 0 [.agg [.v (.int .i64 s), .v (.int .i64 s_1), .v (.int .i64 s_2), .v (.int .i64 s_3), .v (.bool s_4), .v (.int .i64 s_5)], .v (.bool v)] [] K =
    (fun (s : Int) (s_1 : Int) (s_2 : Int) (s_3 : Int) (s_4 : Bool) (s_5 : Int) (v : Bool) (K0 : Int → Int → Int → Int → Bool → Int → Int → Option R) =>
    l_tutorref12_Ask s s_1 s_2 s_3 s_4 s_5
     (fun r1 r2 =>
      bi (!r2)
       (K0 s s_1 s_2 s_3 s_4 s_5 7)
       (bi v
        (K0 s s_1 r1 (IntKind.i64.wrap (2 * s_3)) s_4 (IntKind.i64.wrap (s_5 + 1)) 0)
        (K0 s r1 s_2 (IntKind.i64.wrap (2 * s_3)) true (IntKind.i64.wrap (s_5 + 1)) 0)))) s s_1 s_2 s_3 s_4 s_5 v (fun r0 r1 r2 r3 r4 r5 r6 => K (.tup [.agg [.v (.int .i64 r0), .v (.int .i64 r1), .v (.int .i64 r2), .v (.int .i64 r3), .v (.bool r4), .v (.int .i64 r5)], .v (.int .i64 r6)]) []) := by kernel_rfl

theorem entry_tutorref12_Tell {R : Type} (K : AV → List O → Option R) (s : Int) (s_1 : Int) (s_2 : Int) (s_3 : Int) (s_4 : Bool) (s_5 : Int) (v : Bool) :
    fnRun Try.prog (T_tutorref12_Tell @l_tutorref12_Ask) cuts_tutorref12_Tell Try.f34 0 [.agg [.v (.int .i64 s), .v (.int .i64 s_1), .v (.int .i64 s_2), .v (.int .i64 s_3), .v (.bool s_4), .v (.int .i64 s_5)], .v (.bool v)] [] K =
    l_tutorref12_Tell s s_1 s_2 s_3 s_4 s_5 v (fun r0 r1 r2 r3 r4 r5 r6 => K (.tup [.agg [.v (.int .i64 r0), .v (.int .i64 r1), .v (.int .i64 r2), .v (.int .i64 r3), .v (.bool r4), .v (.int .i64 r5)], .v (.int .i64 r6)]) []) := gentry_tutorref12_Tell @l_tutorref12_Ask K s s_1 s_2 s_3 s_4 s_5 v

def S_tutorref12_Tell (l_tutorref12_Tell : {R : Type} → Int → Int → Int → Int → Bool → Int → Bool → (Int → Int → Int → Int → Bool → Int → Int → Option R) → Option R) : Sum := ⟨[], fun {R} args ob K => match args, ob with
  | [.agg [.v (.int .i64 s), .v (.int .i64 s_1), .v (.int .i64 s_2), .v (.int .i64 s_3), .v (.bool s_4), .v (.int .i64 s_5)], .v (.bool v)], [] => l_tutorref12_Tell s s_1 s_2 s_3 s_4 s_5 v (fun r0 r1 r2 r3 r4 r5 r6 => K (.tup [.agg [.v (.int .i64 r0), .v (.int .i64 r1), .v (.int .i64 r2), .v (.int .i64 r3), .v (.bool r4), .v (.int .i64 r5)], .v (.int .i64 r6)]) [])
  | _, _ => none⟩

theorem sound_tutorref12_Tell : Sound Try.prog 34 (S_tutorref12_Tell @l_tutorref12_Tell) := by
  refine fn_sound (cuts := cuts_tutorref12_Tell) (fn := Try.f34) (Γ := (T_tutorref12_Tell @l_tutorref12_Ask)) wide right_T_tutorref12_Tell Try.func34 fun {R} K r args ob h => ?_
  unfold S_tutorref12_Tell at h
  dsimp only at h
  split at h
  · exact ⟨Nat.le_of_ble_eq_true (by kernel_rfl), 0, (entry_tutorref12_Tell K _ _ _ _ _ _ _).trans h⟩
  · cases h

theorem call_tutorref12_Tell : Callable Try.prog 34 := ⟨_, Try.func34, by kernel_rfl, by kernel_rfl⟩

def T_tutorlaw12_PointPlays (l_tutorlaw12_live : {R : Type} → (Bool → Option R) → Option R) (l_tutorlaw12_num : {R : Type} → Int → (Int → Option R) → Option R) (l_tutorref12_New : {R : Type} → Int → Int → (Int → Int → Int → Int → Bool → Int → Int → Option R) → Option R) (l_point_New : {R : Type} → Int → Int → (Int → Option R) → (Int → Int → Int → Int → Option R) → (Int → Int → Int → Int → Option R) → (Int → Int → Int → Int → Int → Bool → Option R) → Option R) (l_tutorref12_Tell : {R : Type} → Int → Int → Int → Int → Bool → Int → Bool → (Int → Int → Int → Int → Bool → Int → Int → Option R) → Option R) (l_tutorlaw12_told : {R : Type} → (List Bool) → Int → (Bool → Option R) → Option R) (l_point_Search_Tell_linear : {R : Type} → Bool → Int → Int → Int → (Int → Int → Int → Int → Option R) → Option R) (l_point_Search_Tell_binary : {R : Type} → Bool → Int → Int → Int → (Int → Int → Int → Int → Option R) → Option R) (l_point_Search_Tell_exponential : {R : Type} → Bool → Int → Int → Int → Int → Bool → (Int → Int → Int → Int → Int → Bool → Option R) → Option R) (l_point_Search_Asked_linear : {R : Type} → Int → Int → Int → (Int → Int → Int → Int → Option R) → Option R) (l_point_Search_Asked_binary : {R : Type} → Int → Int → Int → (Int → Int → Int → Int → Option R) → Option R) (l_point_Search_Asked_exponential : {R : Type} → Int → Int → Int → Int → Bool → (Int → Int → Int → Int → Int → Bool → Option R) → Option R) (l_point_Search_Found_linear : {R : Type} → Int → Int → Int → (Int → Bool → Int → Int → Int → Option R) → Option R) (l_point_Search_Found_binary : {R : Type} → Int → Int → Int → (Int → Bool → Int → Int → Int → Option R) → Option R) (l_point_Search_Found_exponential : {R : Type} → Int → Int → Int → Int → Bool → (Int → Bool → Int → Int → Int → Int → Bool → Option R) → Option R) (l_point_Search_Ask_linear : {R : Type} → Int → Int → Int → (Int → Bool → Int → Int → Int → Option R) → Option R) (l_point_Search_Ask_binary : {R : Type} → Int → Int → Int → (Int → Bool → Int → Int → Int → Option R) → Option R) (l_point_Search_Ask_exponential : {R : Type} → Int → Int → Int → Int → Bool → (Int → Bool → Int → Int → Int → Int → Bool → Option R) → Option R) (l_tutorref12_Ask : {R : Type} → Int → Int → Int → Int → Bool → Int → (Int → Bool → Option R) → Option R) : FuncId → Option Sum := (addS (addS (addS (addS (addS (addS (addS (addS (addS (addS (addS G0 27 (S_tutorlaw12_live @l_tutorlaw12_live)) 26 (S_tutorlaw12_num @l_tutorlaw12_num)) 25 (S_tutorref12_New @l_tutorref12_New)) 24 (S_point_New @l_point_New)) 34 (S_tutorref12_Tell @l_tutorref12_Tell)) 33 (S_tutorlaw12_told @l_tutorlaw12_told)) 32 (S_point_Search_Tell @l_point_Search_Tell_linear @l_point_Search_Tell_binary @l_point_Search_Tell_exponential)) 31 (S_point_Search_Asked @l_point_Search_Asked_linear @l_point_Search_Asked_binary @l_point_Search_Asked_exponential)) 30 (S_point_Search_Found @l_point_Search_Found_linear @l_point_Search_Found_binary @l_point_Search_Found_exponential)) 28 (S_point_Search_Ask @l_point_Search_Ask_linear @l_point_Search_Ask_binary @l_point_Search_Ask_exponential)) 29 (S_tutorref12_Ask @l_tutorref12_Ask))

theorem right_T_tutorlaw12_PointPlays : Right Try.prog (T_tutorlaw12_PointPlays @l_tutorlaw12_live @l_tutorlaw12_num @l_tutorref12_New @l_point_New @l_tutorref12_Tell @l_tutorlaw12_told @l_point_Search_Tell_linear @l_point_Search_Tell_binary @l_point_Search_Tell_exponential @l_point_Search_Asked_linear @l_point_Search_Asked_binary @l_point_Search_Asked_exponential @l_point_Search_Found_linear @l_point_Search_Found_binary @l_point_Search_Found_exponential @l_point_Search_Ask_linear @l_point_Search_Ask_binary @l_point_Search_Ask_exponential @l_tutorref12_Ask) := (right_add (right_add (right_add (right_add (right_add (right_add (right_add (right_add (right_add (right_add (right_add right_G0 call_tutorlaw12_live sound_tutorlaw12_live) call_tutorlaw12_num sound_tutorlaw12_num) call_tutorref12_New sound_tutorref12_New) call_point_New sound_point_New) call_tutorref12_Tell sound_tutorref12_Tell) call_tutorlaw12_told sound_tutorlaw12_told) call_point_Search_Tell sound_point_Search_Tell) call_point_Search_Asked sound_point_Search_Asked) call_point_Search_Found sound_point_Search_Found) call_point_Search_Ask sound_point_Search_Ask) call_tutorref12_Ask sound_tutorref12_Ask)

abbrev cuts_tutorlaw12_PointPlays : Cuts := [(10, [1, 2, 7, 9, 11])]

theorem gstep_tutorlaw12_PointPlays_10a (l_tutorlaw12_live : {R : Type} → (Bool → Option R) → Option R) (l_tutorlaw12_num : {R : Type} → Int → (Int → Option R) → Option R) (l_tutorref12_New : {R : Type} → Int → Int → (Int → Int → Int → Int → Bool → Int → Int → Option R) → Option R) (l_point_New : {R : Type} → Int → Int → (Int → Option R) → (Int → Int → Int → Int → Option R) → (Int → Int → Int → Int → Option R) → (Int → Int → Int → Int → Int → Bool → Option R) → Option R) (l_tutorref12_Tell : {R : Type} → Int → Int → Int → Int → Bool → Int → Bool → (Int → Int → Int → Int → Bool → Int → Int → Option R) → Option R) (l_tutorlaw12_told : {R : Type} → (List Bool) → Int → (Bool → Option R) → Option R) (l_point_Search_Tell_linear : {R : Type} → Bool → Int → Int → Int → (Int → Int → Int → Int → Option R) → Option R) (l_point_Search_Tell_binary : {R : Type} → Bool → Int → Int → Int → (Int → Int → Int → Int → Option R) → Option R) (l_point_Search_Tell_exponential : {R : Type} → Bool → Int → Int → Int → Int → Bool → (Int → Int → Int → Int → Int → Bool → Option R) → Option R) (l_point_Search_Asked_linear : {R : Type} → Int → Int → Int → (Int → Int → Int → Int → Option R) → Option R) (l_point_Search_Asked_binary : {R : Type} → Int → Int → Int → (Int → Int → Int → Int → Option R) → Option R) (l_point_Search_Asked_exponential : {R : Type} → Int → Int → Int → Int → Bool → (Int → Int → Int → Int → Int → Bool → Option R) → Option R) (l_point_Search_Found_linear : {R : Type} → Int → Int → Int → (Int → Bool → Int → Int → Int → Option R) → Option R) (l_point_Search_Found_binary : {R : Type} → Int → Int → Int → (Int → Bool → Int → Int → Int → Option R) → Option R) (l_point_Search_Found_exponential : {R : Type} → Int → Int → Int → Int → Bool → (Int → Bool → Int → Int → Int → Int → Bool → Option R) → Option R) (l_point_Search_Ask_linear : {R : Type} → Int → Int → Int → (Int → Bool → Int → Int → Int → Option R) → Option R) (l_point_Search_Ask_binary : {R : Type} → Int → Int → Int → (Int → Bool → Int → Int → Int → Option R) → Option R) (l_point_Search_Ask_exponential : {R : Type} → Int → Int → Int → Int → Bool → (Int → Bool → Int → Int → Int → Int → Bool → Option R) → Option R) (l_tutorref12_Ask : {R : Type} → Int → Int → Int → Int → Bool → Int → (Int → Bool → Option R) → Option R) {R : Type} (g : List Item → St → Option R) (K : AV → List O → Option R) (n : Int) (v : List Bool) (i : Int) (o0 : Int) (o0_1 : Int) (o0_2 : Int) (o1 : Int) (o1_1 : Int) (o1_2 : Int) (o1_3 : Int) (o1_4 : Bool) (o1_5 : Int) :
    runSeg Try.prog (T_tutorlaw12_PointPlays @l_tutorlaw12_live @l_tutorlaw12_num @l_tutorref12_New @l_point_New @l_tutorref12_Tell @l_tutorlaw12_told @l_point_Search_Tell_linear @l_point_Search_Tell_binary @l_point_Search_Tell_exponential @l_point_Search_Asked_linear @l_point_Search_Asked_binary @l_point_Search_Asked_exponential @l_point_Search_Found_linear @l_point_Search_Found_binary @l_point_Search_Found_exponential @l_point_Search_Ask_linear @l_point_Search_Ask_binary @l_point_Search_Ask_exponential @l_tutorref12_Ask) cuts_tutorlaw12_PointPlays 0 g (finish Try.prog Try.f4 0 K) (at' Try.f4 10) ⟨fr0 142 [(1, .v (.int .i64 n)), (2, .rd ⟨false, 4, .bool, v⟩), (7, .ptr 0 0), (9, .ptr 1 0), (11, .v (.int .i64 i))], [.box 110 [.ifc 102 (.agg []), .v (.int .i64 o0), .v (.int .i64 o0_1), .v (.int .i64 o0_2)], .box 47 [.v (.int .i64 o1), .v (.int .i64 o1_1), .v (.int .i64 o1_2), .v (.int .i64 o1_3), .v (.bool o1_4), .v (.int .i64 o1_5)]]⟩ =
    (fun (g4_10 : Int → (List Bool) → Int → Int → Int → Int → Int → Int → Int → Int → Bool → Int → Option R) (g4_10b : Int → (List Bool) → Int → Int → Int → Int → Int → Int → Int → Int → Bool → Int → Option R) (g4_10c : Int → (List Bool) → Int → Int → Int → Int → Int → Bool → Int → Int → Int → Int → Bool → Int → Option R) (K0 : Bool → Option R) (n : Int) (v : List Bool) (i : Int) (o0 : Int) (o0_1 : Int) (o0_2 : Int) (o1 : Int) (o1_1 : Int) (o1_2 : Int) (o1_3 : Int) (o1_4 : Bool) (o1_5 : Int) =>
    bi (decide (i < (IntKind.i64.wrap (n + 2))))
     (l_point_Search_Ask_linear o0 o0_1 o0_2
      (fun r49 r50 r51 r52 r53 =>
       l_tutorref12_Ask o1 o1_1 o1_2 o1_3 o1_4 o1_5
        (fun r54 r55 =>
         l_point_Search_Ask_linear r51 r52 r53
          (fun r56 r57 r58 r59 r60 =>
           l_point_Search_Found_linear r58 r59 r60
            (fun r61 r62 r63 r64 r65 =>
             bi (r49 != r54)
              (K0 false)
              (bi (!(r50 == r55))
               (K0 false)
               (bi (r56 != r49)
                (K0 false)
                (bi (!(r57 == r50))
                 (K0 false)
                 (bi (r62 == r55)
                  (K0 false)
                  (bi r62
                   (bi (r61 != o1_1)
                    (K0 false)
                    (bi (!r62)
                     (bi (r61 != 0)
                      (K0 false)
                      (both
                       (l_point_Search_Asked_linear r63 r64 r65
                        (fun r66 r67 r68 r69 =>
                         bi (r66 != o1_5)
                          (K0 false)
                          (l_tutorlaw12_told v i
                           (fun r70 =>
                            l_point_Search_Tell_linear r70 r67 r68 r69
                             (fun r71 r72 r73 r74 =>
                              both
                               (l_tutorlaw12_told v i
                                (fun r75 =>
                                 both
                                  (l_tutorref12_Tell o1 o1_1 o1_2 o1_3 o1_4 o1_5 r75
                                   (fun r76 r77 r78 r79 r80 r81 r82 =>
                                    l_tutorlaw12_num r71
                                     (fun r83 =>
                                      bi (r83 != r82)
                                       (K0 false)
                                       (bi (r82 != 0)
                                        (l_tutorlaw12_live
                                         (fun r84 =>
                                          K0 r84))
                                        (g4_10 n v (IntKind.i64.wrap (i + 1)) r72 r73 r74 r76 r77 r78 r79 r80 r81)))))
                                  (l_tutorref12_Tell o1 o1_1 o1_2 o1_3 o1_4 o1_5 r75
                                   (fun r85 r86 r87 r88 r89 r90 r91 =>
                                    l_tutorlaw12_num r71
                                     (fun r92 =>
                                      bi (r92 != r91)
                                       (K0 false)
                                       (bi (r91 != 0)
                                        (l_tutorlaw12_live
                                         (fun r93 =>
                                          K0 r93))
                                        (g4_10 n v (IntKind.i64.wrap (i + 1)) r72 r73 r74 r85 r86 r87 r88 r89 r90)))))))
                               (l_tutorlaw12_told v i
                                (fun r94 =>
                                 l_tutorref12_Tell o1 o1_1 o1_2 o1_3 o1_4 o1_5 r94
                                  (fun r95 r96 r97 r98 r99 r100 r101 =>
                                   l_tutorlaw12_num r71
                                    (fun r102 =>
                                     bi (r102 != r101)
                                      (K0 false)
                                      (bi (r101 != 0)
                                       (l_tutorlaw12_live
                                        (fun r103 =>
                                         K0 r103))
                                       (g4_10 n v (IntKind.i64.wrap (i + 1)) r72 r73 r74 r95 r96 r97 r98 r99 r100)))))))))))
                       (l_point_Search_Asked_linear r63 r64 r65
                        (fun r104 r105 r106 r107 =>
                         bi (r104 != o1_5)
                          (K0 false)
                          (l_tutorlaw12_told v i
                           (fun r108 =>
                            l_point_Search_Tell_linear r108 r105 r106 r107
                             (fun r109 r110 r111 r112 =>
                              both
                               (l_tutorlaw12_told v i
                                (fun r113 =>
                                 both
                                  (l_tutorref12_Tell o1 o1_1 o1_2 o1_3 o1_4 o1_5 r113
                                   (fun r114 r115 r116 r117 r118 r119 r120 =>
                                    l_tutorlaw12_num r109
                                     (fun r121 =>
                                      bi (r121 != r120)
                                       (K0 false)
                                       (bi (r120 != 0)
                                        (l_tutorlaw12_live
                                         (fun r122 =>
                                          K0 r122))
                                        (g4_10 n v (IntKind.i64.wrap (i + 1)) r110 r111 r112 r114 r115 r116 r117 r118 r119)))))
                                  (l_tutorref12_Tell o1 o1_1 o1_2 o1_3 o1_4 o1_5 r113
                                   (fun r123 r124 r125 r126 r127 r128 r129 =>
                                    l_tutorlaw12_num r109
                                     (fun r130 =>
                                      bi (r130 != r129)
                                       (K0 false)
                                       (bi (r129 != 0)
                                        (l_tutorlaw12_live
                                         (fun r131 =>
                                          K0 r131))
                                        (g4_10 n v (IntKind.i64.wrap (i + 1)) r110 r111 r112 r123 r124 r125 r126 r127 r128)))))))
                               (l_tutorlaw12_told v i
                                (fun r132 =>
                                 l_tutorref12_Tell o1 o1_1 o1_2 o1_3 o1_4 o1_5 r132
                                  (fun r133 r134 r135 r136 r137 r138 r139 =>
                                   l_tutorlaw12_num r109
                                    (fun r140 =>
                                     bi (r140 != r139)
                                      (K0 false)
                                      (bi (r139 != 0)
                                       (l_tutorlaw12_live
                                        (fun r141 =>
                                         K0 r141))
                                       (g4_10 n v (IntKind.i64.wrap (i + 1)) r110 r111 r112 r133 r134 r135 r136 r137 r138)))))))))))))
                     (both
                      (l_point_Search_Asked_linear r63 r64 r65
                       (fun r142 r143 r144 r145 =>
                        bi (r142 != o1_5)
                         (K0 false)
                         (l_tutorlaw12_told v i
                          (fun r146 =>
                           l_point_Search_Tell_linear r146 r143 r144 r145
                            (fun r147 r148 r149 r150 =>
                             both
                              (l_tutorlaw12_told v i
                               (fun r151 =>
                                both
                                 (l_tutorref12_Tell o1 o1_1 o1_2 o1_3 o1_4 o1_5 r151
                                  (fun r152 r153 r154 r155 r156 r157 r158 =>
                                   l_tutorlaw12_num r147
                                    (fun r159 =>
                                     bi (r159 != r158)
                                      (K0 false)
                                      (bi (r158 != 0)
                                       (l_tutorlaw12_live
                                        (fun r160 =>
                                         K0 r160))
                                       (g4_10 n v (IntKind.i64.wrap (i + 1)) r148 r149 r150 r152 r153 r154 r155 r156 r157)))))
                                 (l_tutorref12_Tell o1 o1_1 o1_2 o1_3 o1_4 o1_5 r151
                                  (fun r161 r162 r163 r164 r165 r166 r167 =>
                                   l_tutorlaw12_num r147
                                    (fun r168 =>
                                     bi (r168 != r167)
                                      (K0 false)
                                      (bi (r167 != 0)
                                       (l_tutorlaw12_live
                                        (fun r169 =>
                                         K0 r169))
                                       (g4_10 n v (IntKind.i64.wrap (i + 1)) r148 r149 r150 r161 r162 r163 r164 r165 r166)))))))
                              (l_tutorlaw12_told v i
                               (fun r170 =>
                                l_tutorref12_Tell o1 o1_1 o1_2 o1_3 o1_4 o1_5 r170
                                 (fun r171 r172 r173 r174 r175 r176 r177 =>
                                  l_tutorlaw12_num r147
                                   (fun r178 =>
                                    bi (r178 != r177)
                                     (K0 false)
                                     (bi (r177 != 0)
                                      (l_tutorlaw12_live
                                       (fun r179 =>
                                        K0 r179))
                                      (g4_10 n v (IntKind.i64.wrap (i + 1)) r148 r149 r150 r171 r172 r173 r174 r175 r176)))))))))))
                      (l_point_Search_Asked_linear r63 r64 r65
                       (fun r180 r181 r182 r183 =>
                        bi (r180 != o1_5)
                         (K0 false)
                         (l_tutorlaw12_told v i
                          (fun r184 =>
                           l_point_Search_Tell_linear r184 r181 r182 r183
                            (fun r185 r186 r187 r188 =>
                             both
                              (l_tutorlaw12_told v i
                               (fun r189 =>
                                both
                                 (l_tutorref12_Tell o1 o1_1 o1_2 o1_3 o1_4 o1_5 r189
                                  (fun r190 r191 r192 r193 r194 r195 r196 =>
                                   l_tutorlaw12_num r185
                                    (fun r197 =>
                                     bi (r197 != r196)
                                      (K0 false)
                                      (bi (r196 != 0)
                                       (l_tutorlaw12_live
                                        (fun r198 =>
                                         K0 r198))
                                       (g4_10 n v (IntKind.i64.wrap (i + 1)) r186 r187 r188 r190 r191 r192 r193 r194 r195)))))
                                 (l_tutorref12_Tell o1 o1_1 o1_2 o1_3 o1_4 o1_5 r189
                                  (fun r199 r200 r201 r202 r203 r204 r205 =>
                                   l_tutorlaw12_num r185
                                    (fun r206 =>
                                     bi (r206 != r205)
                                      (K0 false)
                                      (bi (r205 != 0)
                                       (l_tutorlaw12_live
                                        (fun r207 =>
                                         K0 r207))
                                       (g4_10 n v (IntKind.i64.wrap (i + 1)) r186 r187 r188 r199 r200 r201 r202 r203 r204)))))))
                              (l_tutorlaw12_told v i
                               (fun r208 =>
                                l_tutorref12_Tell o1 o1_1 o1_2 o1_3 o1_4 o1_5 r208
                                 (fun r209 r210 r211 r212 r213 r214 r215 =>
                                  l_tutorlaw12_num r185
                                   (fun r216 =>
                                    bi (r216 != r215)
                                     (K0 false)
                                     (bi (r215 != 0)
                                      (l_tutorlaw12_live
                                       (fun r217 =>
                                        K0 r217))
                                      (g4_10 n v (IntKind.i64.wrap (i + 1)) r186 r187 r188 r209 r210 r211 r212 r213 r214))))))))))))))
                   (bi (!r62)
                    (bi (r61 != 0)
                     (K0 false)
                     (both
                      (l_point_Search_Asked_linear r63 r64 r65
                       (fun r218 r219 r220 r221 =>
                        bi (r218 != o1_5)
                         (K0 false)
                         (l_tutorlaw12_told v i
                          (fun r222 =>
                           l_point_Search_Tell_linear r222 r219 r220 r221
                            (fun r223 r224 r225 r226 =>
                             both
                              (l_tutorlaw12_told v i
                               (fun r227 =>
                                both
                                 (l_tutorref12_Tell o1 o1_1 o1_2 o1_3 o1_4 o1_5 r227
                                  (fun r228 r229 r230 r231 r232 r233 r234 =>
                                   l_tutorlaw12_num r223
                                    (fun r235 =>
                                     bi (r235 != r234)
                                      (K0 false)
                                      (bi (r234 != 0)
                                       (l_tutorlaw12_live
                                        (fun r236 =>
                                         K0 r236))
                                       (g4_10 n v (IntKind.i64.wrap (i + 1)) r224 r225 r226 r228 r229 r230 r231 r232 r233)))))
                                 (l_tutorref12_Tell o1 o1_1 o1_2 o1_3 o1_4 o1_5 r227
                                  (fun r237 r238 r239 r240 r241 r242 r243 =>
                                   l_tutorlaw12_num r223
                                    (fun r244 =>
                                     bi (r244 != r243)
                                      (K0 false)
                                      (bi (r243 != 0)
                                       (l_tutorlaw12_live
                                        (fun r245 =>
                                         K0 r245))
                                       (g4_10 n v (IntKind.i64.wrap (i + 1)) r224 r225 r226 r237 r238 r239 r240 r241 r242)))))))
                              (l_tutorlaw12_told v i
                               (fun r246 =>
                                l_tutorref12_Tell o1 o1_1 o1_2 o1_3 o1_4 o1_5 r246
                                 (fun r247 r248 r249 r250 r251 r252 r253 =>
                                  l_tutorlaw12_num r223
                                   (fun r254 =>
                                    bi (r254 != r253)
                                     (K0 false)
                                     (bi (r253 != 0)
                                      (l_tutorlaw12_live
                                       (fun r255 =>
                                        K0 r255))
                                      (g4_10 n v (IntKind.i64.wrap (i + 1)) r224 r225 r226 r247 r248 r249 r250 r251 r252)))))))))))
                      (l_point_Search_Asked_linear r63 r64 r65
                       (fun r256 r257 r258 r259 =>
                        bi (r256 != o1_5)
                         (K0 false)
                         (l_tutorlaw12_told v i
                          (fun r260 =>
                           l_point_Search_Tell_linear r260 r257 r258 r259
                            (fun r261 r262 r263 r264 =>
                             both
                              (l_tutorlaw12_told v i
                               (fun r265 =>
                                both
                                 (l_tutorref12_Tell o1 o1_1 o1_2 o1_3 o1_4 o1_5 r265
                                  (fun r266 r267 r268 r269 r270 r271 r272 =>
                                   l_tutorlaw12_num r261
                                    (fun r273 =>
                                     bi (r273 != r272)
                                      (K0 false)
                                      (bi (r272 != 0)
                                       (l_tutorlaw12_live
                                        (fun r274 =>
                                         K0 r274))
                                       (g4_10 n v (IntKind.i64.wrap (i + 1)) r262 r263 r264 r266 r267 r268 r269 r270 r271)))))
                                 (l_tutorref12_Tell o1 o1_1 o1_2 o1_3 o1_4 o1_5 r265
                                  (fun r275 r276 r277 r278 r279 r280 r281 =>
                                   l_tutorlaw12_num r261
                                    (fun r282 =>
                                     bi (r282 != r281)
                                      (K0 false)
                                      (bi (r281 != 0)
                                       (l_tutorlaw12_live
                                        (fun r283 =>
                                         K0 r283))
                                       (g4_10 n v (IntKind.i64.wrap (i + 1)) r262 r263 r264 r275 r276 r277 r278 r279 r280)))))))
                              (l_tutorlaw12_told v i
                               (fun r284 =>
                                l_tutorref12_Tell o1 o1_1 o1_2 o1_3 o1_4 o1_5 r284
                                 (fun r285 r286 r287 r288 r289 r290 r291 =>
                                  l_tutorlaw12_num r261
                                   (fun r292 =>
                                    bi (r292 != r291)
                                     (K0 false)
                                     (bi (r291 != 0)
                                      (l_tutorlaw12_live
                                       (fun r293 =>
                                        K0 r293))
                                      (g4_10 n v (IntKind.i64.wrap (i + 1)) r262 r263 r264 r285 r286 r287 r288 r289 r290)))))))))))))
                    (both
                     (l_point_Search_Asked_linear r63 r64 r65
                      (fun r294 r295 r296 r297 =>
                       bi (r294 != o1_5)
                        (K0 false)
                        (l_tutorlaw12_told v i
                         (fun r298 =>
                          l_point_Search_Tell_linear r298 r295 r296 r297
                           (fun r299 r300 r301 r302 =>
                            both
                             (l_tutorlaw12_told v i
                              (fun r303 =>
                               both
                                (l_tutorref12_Tell o1 o1_1 o1_2 o1_3 o1_4 o1_5 r303
                                 (fun r304 r305 r306 r307 r308 r309 r310 =>
                                  l_tutorlaw12_num r299
                                   (fun r311 =>
                                    bi (r311 != r310)
                                     (K0 false)
                                     (bi (r310 != 0)
                                      (l_tutorlaw12_live
                                       (fun r312 =>
                                        K0 r312))
                                      (g4_10 n v (IntKind.i64.wrap (i + 1)) r300 r301 r302 r304 r305 r306 r307 r308 r309)))))
                                (l_tutorref12_Tell o1 o1_1 o1_2 o1_3 o1_4 o1_5 r303
                                 (fun r313 r314 r315 r316 r317 r318 r319 =>
                                  l_tutorlaw12_num r299
                                   (fun r320 =>
                                    bi (r320 != r319)
                                     (K0 false)
                                     (bi (r319 != 0)
                                      (l_tutorlaw12_live
                                       (fun r321 =>
                                        K0 r321))
                                      (g4_10 n v (IntKind.i64.wrap (i + 1)) r300 r301 r302 r313 r314 r315 r316 r317 r318)))))))
                             (l_tutorlaw12_told v i
                              (fun r322 =>
                               l_tutorref12_Tell o1 o1_1 o1_2 o1_3 o1_4 o1_5 r322
                                (fun r323 r324 r325 r326 r327 r328 r329 =>
                                 l_tutorlaw12_num r299
                                  (fun r330 =>
                                   bi (r330 != r329)
                                    (K0 false)
                                    (bi (r329 != 0)
                                     (l_tutorlaw12_live
                                      (fun r331 =>
                                       K0 r331))
                                     (g4_10 n v (IntKind.i64.wrap (i + 1)) r300 r301 r302 r323 r324 r325 r326 r327 r328)))))))))))
                     (l_point_Search_Asked_linear r63 r64 r65
                      (fun r332 r333 r334 r335 =>
                       bi (r332 != o1_5)
                        (K0 false)
                        (l_tutorlaw12_told v i
                         (fun r336 =>
                          l_point_Search_Tell_linear r336 r333 r334 r335
                           (fun r337 r338 r339 r340 =>
                            both
                             (l_tutorlaw12_told v i
                              (fun r341 =>
                               both
                                (l_tutorref12_Tell o1 o1_1 o1_2 o1_3 o1_4 o1_5 r341
                                 (fun r342 r343 r344 r345 r346 r347 r348 =>
                                  l_tutorlaw12_num r337
                                   (fun r349 =>
                                    bi (r349 != r348)
                                     (K0 false)
                                     (bi (r348 != 0)
                                      (l_tutorlaw12_live
                                       (fun r350 =>
                                        K0 r350))
                                      (g4_10 n v (IntKind.i64.wrap (i + 1)) r338 r339 r340 r342 r343 r344 r345 r346 r347)))))
                                (l_tutorref12_Tell o1 o1_1 o1_2 o1_3 o1_4 o1_5 r341
                                 (fun r351 r352 r353 r354 r355 r356 r357 =>
                                  l_tutorlaw12_num r337
                                   (fun r358 =>
                                    bi (r358 != r357)
                                     (K0 false)
                                     (bi (r357 != 0)
                                      (l_tutorlaw12_live
                                       (fun r359 =>
                                        K0 r359))
                                      (g4_10 n v (IntKind.i64.wrap (i + 1)) r338 r339 r340 r351 r352 r353 r354 r355 r356)))))))
                             (l_tutorlaw12_told v i
                              (fun r360 =>
                               l_tutorref12_Tell o1 o1_1 o1_2 o1_3 o1_4 o1_5 r360
                                (fun r361 r362 r363 r364 r365 r366 r367 =>
                                 l_tutorlaw12_num r337
                                  (fun r368 =>
                                   bi (r368 != r367)
                                    (K0 false)
                                    (bi (r367 != 0)
                                     (l_tutorlaw12_live
                                      (fun r369 =>
                                       K0 r369))
                                     (g4_10 n v (IntKind.i64.wrap (i + 1)) r338 r339 r340 r361 r362 r363 r364 r365 r366)))))))))))))))))))))))
     (l_tutorlaw12_live
      (fun r370 =>
       K0 r370))) (fun n v i o0 o0_1 o0_2 o1 o1_1 o1_2 o1_3 o1_4 o1_5 => g (at' Try.f4 10) ⟨fr0 142 [(1, .v (.int .i64 n)), (2, .rd ⟨false, 4, .bool, v⟩), (7, .ptr 0 0), (9, .ptr 1 0), (11, .v (.int .i64 i))], [.box 110 [.ifc 102 (.agg []), .v (.int .i64 o0), .v (.int .i64 o0_1), .v (.int .i64 o0_2)], .box 47 [.v (.int .i64 o1), .v (.int .i64 o1_1), .v (.int .i64 o1_2), .v (.int .i64 o1_3), .v (.bool o1_4), .v (.int .i64 o1_5)]]⟩) (fun n v i o0 o0_1 o0_2 o1 o1_1 o1_2 o1_3 o1_4 o1_5 => g (at' Try.f4 10) ⟨fr0 142 [(1, .v (.int .i64 n)), (2, .rd ⟨false, 4, .bool, v⟩), (7, .ptr 0 0), (9, .ptr 1 0), (11, .v (.int .i64 i))], [.box 110 [.ifc 103 (.agg []), .v (.int .i64 o0), .v (.int .i64 o0_1), .v (.int .i64 o0_2)], .box 47 [.v (.int .i64 o1), .v (.int .i64 o1_1), .v (.int .i64 o1_2), .v (.int .i64 o1_3), .v (.bool o1_4), .v (.int .i64 o1_5)]]⟩) (fun n v i o0 o0_1 o0_2 o1 o1_1 o2 o2_1 o2_2 o2_3 o2_4 o2_5 => g (at' Try.f4 10) ⟨fr0 142 [(1, .v (.int .i64 n)), (2, .rd ⟨false, 4, .bool, v⟩), (7, .ptr 0 0), (9, .ptr 2 0), (11, .v (.int .i64 i))], [.box 110 [.ifc 104 (.ptr 1 0), .v (.int .i64 o0), .v (.int .i64 o0_1), .v (.int .i64 o0_2)], .box 106 [.v (.int .i64 o1), .v (.bool o1_1)], .box 47 [.v (.int .i64 o2), .v (.int .i64 o2_1), .v (.int .i64 o2_2), .v (.int .i64 o2_3), .v (.bool o2_4), .v (.int .i64 o2_5)]]⟩) (fun r0 => K (.v (.bool r0)) []) n v i o0 o0_1 o0_2 o1 o1_1 o1_2 o1_3 o1_4 o1_5 := by kernel_rfl

theorem step_tutorlaw12_PointPlays_10a {R : Type} (g : List Item → St → Option R) (K : AV → List O → Option R) (n : Int) (v : List Bool) (i : Int) (o0 : Int) (o0_1 : Int) (o0_2 : Int) (o1 : Int) (o1_1 : Int) (o1_2 : Int) (o1_3 : Int) (o1_4 : Bool) (o1_5 : Int) :
    runSeg Try.prog (T_tutorlaw12_PointPlays @l_tutorlaw12_live @l_tutorlaw12_num @l_tutorref12_New @l_point_New @l_tutorref12_Tell @l_tutorlaw12_told @l_point_Search_Tell_linear @l_point_Search_Tell_binary @l_point_Search_Tell_exponential @l_point_Search_Asked_linear @l_point_Search_Asked_binary @l_point_Search_Asked_exponential @l_point_Search_Found_linear @l_point_Search_Found_binary @l_point_Search_Found_exponential @l_point_Search_Ask_linear @l_point_Search_Ask_binary @l_point_Search_Ask_exponential @l_tutorref12_Ask) cuts_tutorlaw12_PointPlays 0 g (finish Try.prog Try.f4 0 K) (at' Try.f4 10) ⟨fr0 142 [(1, .v (.int .i64 n)), (2, .rd ⟨false, 4, .bool, v⟩), (7, .ptr 0 0), (9, .ptr 1 0), (11, .v (.int .i64 i))], [.box 110 [.ifc 102 (.agg []), .v (.int .i64 o0), .v (.int .i64 o0_1), .v (.int .i64 o0_2)], .box 47 [.v (.int .i64 o1), .v (.int .i64 o1_1), .v (.int .i64 o1_2), .v (.int .i64 o1_3), .v (.bool o1_4), .v (.int .i64 o1_5)]]⟩ =
    s_tutorlaw12_PointPlays_10a (fun n v i o0 o0_1 o0_2 o1 o1_1 o1_2 o1_3 o1_4 o1_5 => g (at' Try.f4 10) ⟨fr0 142 [(1, .v (.int .i64 n)), (2, .rd ⟨false, 4, .bool, v⟩), (7, .ptr 0 0), (9, .ptr 1 0), (11, .v (.int .i64 i))], [.box 110 [.ifc 102 (.agg []), .v (.int .i64 o0), .v (.int .i64 o0_1), .v (.int .i64 o0_2)], .box 47 [.v (.int .i64 o1), .v (.int .i64 o1_1), .v (.int .i64 o1_2), .v (.int .i64 o1_3), .v (.bool o1_4), .v (.int .i64 o1_5)]]⟩) (fun n v i o0 o0_1 o0_2 o1 o1_1 o1_2 o1_3 o1_4 o1_5 => g (at' Try.f4 10) ⟨fr0 142 [(1, .v (.int .i64 n)), (2, .rd ⟨false, 4, .bool, v⟩), (7, .ptr 0 0), (9, .ptr 1 0), (11, .v (.int .i64 i))], [.box 110 [.ifc 103 (.agg []), .v (.int .i64 o0), .v (.int .i64 o0_1), .v (.int .i64 o0_2)], .box 47 [.v (.int .i64 o1), .v (.int .i64 o1_1), .v (.int .i64 o1_2), .v (.int .i64 o1_3), .v (.bool o1_4), .v (.int .i64 o1_5)]]⟩) (fun n v i o0 o0_1 o0_2 o1 o1_1 o2 o2_1 o2_2 o2_3 o2_4 o2_5 => g (at' Try.f4 10) ⟨fr0 142 [(1, .v (.int .i64 n)), (2, .rd ⟨false, 4, .bool, v⟩), (7, .ptr 0 0), (9, .ptr 2 0), (11, .v (.int .i64 i))], [.box 110 [.ifc 104 (.ptr 1 0), .v (.int .i64 o0), .v (.int .i64 o0_1), .v (.int .i64 o0_2)], .box 106 [.v (.int .i64 o1), .v (.bool o1_1)], .box 47 [.v (.int .i64 o2), .v (.int .i64 o2_1), .v (.int .i64 o2_2), .v (.int .i64 o2_3), .v (.bool o2_4), .v (.int .i64 o2_5)]]⟩) (fun r0 => K (.v (.bool r0)) []) n v i o0 o0_1 o0_2 o1 o1_1 o1_2 o1_3 o1_4 o1_5 := gstep_tutorlaw12_PointPlays_10a @l_tutorlaw12_live @l_tutorlaw12_num @l_tutorref12_New @l_point_New @l_tutorref12_Tell @l_tutorlaw12_told @l_point_Search_Tell_linear @l_point_Search_Tell_binary @l_point_Search_Tell_exponential @l_point_Search_Asked_linear @l_point_Search_Asked_binary @l_point_Search_Asked_exponential @l_point_Search_Found_linear @l_point_Search_Found_binary @l_point_Search_Found_exponential @l_point_Search_Ask_linear @l_point_Search_Ask_binary @l_point_Search_Ask_exponential @l_tutorref12_Ask g K n v i o0 o0_1 o0_2 o1 o1_1 o1_2 o1_3 o1_4 o1_5

theorem gstep_tutorlaw12_PointPlays_10b (l_tutorlaw12_live : {R : Type} → (Bool → Option R) → Option R) (l_tutorlaw12_num : {R : Type} → Int → (Int → Option R) → Option R) (l_tutorref12_New : {R : Type} → Int → Int → (Int → Int → Int → Int → Bool → Int → Int → Option R) → Option R) (l_point_New : {R : Type} → Int → Int → (Int → Option R) → (Int → Int → Int → Int → Option R) → (Int → Int → Int → Int → Option R) → (Int → Int → Int → Int → Int → Bool → Option R) → Option R) (l_tutorref12_Tell : {R : Type} → Int → Int → Int → Int → Bool → Int → Bool → (Int → Int → Int → Int → Bool → Int → Int → Option R) → Option R) (l_tutorlaw12_told : {R : Type} → (List Bool) → Int → (Bool → Option R) → Option R) (l_point_Search_Tell_linear : {R : Type} → Bool → Int → Int → Int → (Int → Int → Int → Int → Option R) → Option R) (l_point_Search_Tell_binary : {R : Type} → Bool → Int → Int → Int → (Int → Int → Int → Int → Option R) → Option R) (l_point_Search_Tell_exponential : {R : Type} → Bool → Int → Int → Int → Int → Bool → (Int → Int → Int → Int → Int → Bool → Option R) → Option R) (l_point_Search_Asked_linear : {R : Type} → Int → Int → Int → (Int → Int → Int → Int → Option R) → Option R) (l_point_Search_Asked_binary : {R : Type} → Int → Int → Int → (Int → Int → Int → Int → Option R) → Option R) (l_point_Search_Asked_exponential : {R : Type} → Int → Int → Int → Int → Bool → (Int → Int → Int → Int → Int → Bool → Option R) → Option R) (l_point_Search_Found_linear : {R : Type} → Int → Int → Int → (Int → Bool → Int → Int → Int → Option R) → Option R) (l_point_Search_Found_binary : {R : Type} → Int → Int → Int → (Int → Bool → Int → Int → Int → Option R) → Option R) (l_point_Search_Found_exponential : {R : Type} → Int → Int → Int → Int → Bool → (Int → Bool → Int → Int → Int → Int → Bool → Option R) → Option R) (l_point_Search_Ask_linear : {R : Type} → Int → Int → Int → (Int → Bool → Int → Int → Int → Option R) → Option R) (l_point_Search_Ask_binary : {R : Type} → Int → Int → Int → (Int → Bool → Int → Int → Int → Option R) → Option R) (l_point_Search_Ask_exponential : {R : Type} → Int → Int → Int → Int → Bool → (Int → Bool → Int → Int → Int → Int → Bool → Option R) → Option R) (l_tutorref12_Ask : {R : Type} → Int → Int → Int → Int → Bool → Int → (Int → Bool → Option R) → Option R) {R : Type} (g : List Item → St → Option R) (K : AV → List O → Option R) (n : Int) (v : List Bool) (i : Int) (o0 : Int) (o0_1 : Int) (o0_2 : Int) (o1 : Int) (o1_1 : Int) (o1_2 : Int) (o1_3 : Int) (o1_4 : Bool) (o1_5 : Int) :
    runSeg Try.prog (T_tutorlaw12_PointPlays @l_tutorlaw12_live @l_tutorlaw12_num @l_tutorref12_New @l_point_New @l_tutorref12_Tell @l_tutorlaw12_told @l_point_Search_Tell_linear @l_point_Search_Tell_binary @l_point_Search_Tell_exponential @l_point_Search_Asked_linear @l_point_Search_Asked_binary @l_point_Search_Asked_exponential @l_point_Search_Found_linear @l_point_Search_Found_binary @l_point_Search_Found_exponential @l_point_Search_Ask_linear @l_point_Search_Ask_binary @l_point_Search_Ask_exponential @l_tutorref12_Ask) cuts_tutorlaw12_PointPlays 0 g (finish Try.prog Try.f4 0 K) (at' Try.f4 10) ⟨fr0 142 [(1, .v (.int .i64 n)), (2, .rd ⟨false, 4, .bool, v⟩), (7, .ptr 0 0), (9, .ptr 1 0), (11, .v (.int .i64 i))], [.box 110 [.ifc 103 (.agg []), .v (.int .i64 o0), .v (.int .i64 o0_1), .v (.int .i64 o0_2)], .box 47 [.v (.int .i64 o1), .v (.int .i64 o1_1), .v (.int .i64 o1_2), .v (.int .i64 o1_3), .v (.bool o1_4), .v (.int .i64 o1_5)]]⟩ =
    (fun (g4_10 : Int → (List Bool) → Int → Int → Int → Int → Int → Int → Int → Int → Bool → Int → Option R) (g4_10b : Int → (List Bool) → Int → Int → Int → Int → Int → Int → Int → Int → Bool → Int → Option R) (g4_10c : Int → (List Bool) → Int → Int → Int → Int → Int → Bool → Int → Int → Int → Int → Bool → Int → Option R) (K0 : Bool → Option R) (n : Int) (v : List Bool) (i : Int) (o0 : Int) (o0_1 : Int) (o0_2 : Int) (o1 : Int) (o1_1 : Int) (o1_2 : Int) (o1_3 : Int) (o1_4 : Bool) (o1_5 : Int) =>
    bi (decide (i < (IntKind.i64.wrap (n + 2))))
     (l_point_Search_Ask_binary o0 o0_1 o0_2
      (fun r371 r372 r373 r374 r375 =>
       l_tutorref12_Ask o1 o1_1 o1_2 o1_3 o1_4 o1_5
        (fun r376 r377 =>
         l_point_Search_Ask_binary r373 r374 r375
          (fun r378 r379 r380 r381 r382 =>
           l_point_Search_Found_binary r380 r381 r382
            (fun r383 r384 r385 r386 r387 =>
             bi (r371 != r376)
              (K0 false)
              (bi (!(r372 == r377))
               (K0 false)
               (bi (r378 != r371)
                (K0 false)
                (bi (!(r379 == r372))
                 (K0 false)
                 (bi (r384 == r377)
                  (K0 false)
                  (bi r384
                   (bi (r383 != o1_1)
                    (K0 false)
                    (bi (!r384)
                     (bi (r383 != 0)
                      (K0 false)
                      (both
                       (l_point_Search_Asked_binary r385 r386 r387
                        (fun r388 r389 r390 r391 =>
                         bi (r388 != o1_5)
                          (K0 false)
                          (l_tutorlaw12_told v i
                           (fun r392 =>
                            l_point_Search_Tell_binary r392 r389 r390 r391
                             (fun r393 r394 r395 r396 =>
                              both
                               (l_tutorlaw12_told v i
                                (fun r397 =>
                                 both
                                  (l_tutorref12_Tell o1 o1_1 o1_2 o1_3 o1_4 o1_5 r397
                                   (fun r398 r399 r400 r401 r402 r403 r404 =>
                                    l_tutorlaw12_num r393
                                     (fun r405 =>
                                      bi (r405 != r404)
                                       (K0 false)
                                       (bi (r404 != 0)
                                        (l_tutorlaw12_live
                                         (fun r406 =>
                                          K0 r406))
                                        (g4_10b n v (IntKind.i64.wrap (i + 1)) r394 r395 r396 r398 r399 r400 r401 r402 r403)))))
                                  (l_tutorref12_Tell o1 o1_1 o1_2 o1_3 o1_4 o1_5 r397
                                   (fun r407 r408 r409 r410 r411 r412 r413 =>
                                    l_tutorlaw12_num r393
                                     (fun r414 =>
                                      bi (r414 != r413)
                                       (K0 false)
                                       (bi (r413 != 0)
                                        (l_tutorlaw12_live
                                         (fun r415 =>
                                          K0 r415))
                                        (g4_10b n v (IntKind.i64.wrap (i + 1)) r394 r395 r396 r407 r408 r409 r410 r411 r412)))))))
                               (l_tutorlaw12_told v i
                                (fun r416 =>
                                 l_tutorref12_Tell o1 o1_1 o1_2 o1_3 o1_4 o1_5 r416
                                  (fun r417 r418 r419 r420 r421 r422 r423 =>
                                   l_tutorlaw12_num r393
                                    (fun r424 =>
                                     bi (r424 != r423)
                                      (K0 false)
                                      (bi (r423 != 0)
                                       (l_tutorlaw12_live
                                        (fun r425 =>
                                         K0 r425))
                                       (g4_10b n v (IntKind.i64.wrap (i + 1)) r394 r395 r396 r417 r418 r419 r420 r421 r422)))))))))))
                       (l_point_Search_Asked_binary r385 r386 r387
                        (fun r426 r427 r428 r429 =>
                         bi (r426 != o1_5)
                          (K0 false)
                          (l_tutorlaw12_told v i
                           (fun r430 =>
                            l_point_Search_Tell_binary r430 r427 r428 r429
                             (fun r431 r432 r433 r434 =>
                              both
                               (l_tutorlaw12_told v i
                                (fun r435 =>
                                 both
                                  (l_tutorref12_Tell o1 o1_1 o1_2 o1_3 o1_4 o1_5 r435
                                   (fun r436 r437 r438 r439 r440 r441 r442 =>
                                    l_tutorlaw12_num r431
                                     (fun r443 =>
                                      bi (r443 != r442)
                                       (K0 false)
                                       (bi (r442 != 0)
                                        (l_tutorlaw12_live
                                         (fun r444 =>
                                          K0 r444))
                                        (g4_10b n v (IntKind.i64.wrap (i + 1)) r432 r433 r434 r436 r437 r438 r439 r440 r441)))))
                                  (l_tutorref12_Tell o1 o1_1 o1_2 o1_3 o1_4 o1_5 r435
                                   (fun r445 r446 r447 r448 r449 r450 r451 =>
                                    l_tutorlaw12_num r431
                                     (fun r452 =>
                                      bi (r452 != r451)
                                       (K0 false)
                                       (bi (r451 != 0)
                                        (l_tutorlaw12_live
                                         (fun r453 =>
                                          K0 r453))
                                        (g4_10b n v (IntKind.i64.wrap (i + 1)) r432 r433 r434 r445 r446 r447 r448 r449 r450)))))))
                               (l_tutorlaw12_told v i
                                (fun r454 =>
                                 l_tutorref12_Tell o1 o1_1 o1_2 o1_3 o1_4 o1_5 r454
                                  (fun r455 r456 r457 r458 r459 r460 r461 =>
                                   l_tutorlaw12_num r431
                                    (fun r462 =>
                                     bi (r462 != r461)
                                      (K0 false)
                                      (bi (r461 != 0)
                                       (l_tutorlaw12_live
                                        (fun r463 =>
                                         K0 r463))
                                       (g4_10b n v (IntKind.i64.wrap (i + 1)) r432 r433 r434 r455 r456 r457 r458 r459 r460)))))))))))))
                     (both
                      (l_point_Search_Asked_binary r385 r386 r387
                       (fun r464 r465 r466 r467 =>
                        bi (r464 != o1_5)
                         (K0 false)
                         (l_tutorlaw12_told v i
                          (fun r468 =>
                           l_point_Search_Tell_binary r468 r465 r466 r467
                            (fun r469 r470 r471 r472 =>
                             both
                              (l_tutorlaw12_told v i
                               (fun r473 =>
                                both
                                 (l_tutorref12_Tell o1 o1_1 o1_2 o1_3 o1_4 o1_5 r473
                                  (fun r474 r475 r476 r477 r478 r479 r480 =>
                                   l_tutorlaw12_num r469
                                    (fun r481 =>
                                     bi (r481 != r480)
                                      (K0 false)
                                      (bi (r480 != 0)
                                       (l_tutorlaw12_live
                                        (fun r482 =>
                                         K0 r482))
                                       (g4_10b n v (IntKind.i64.wrap (i + 1)) r470 r471 r472 r474 r475 r476 r477 r478 r479)))))
                                 (l_tutorref12_Tell o1 o1_1 o1_2 o1_3 o1_4 o1_5 r473
                                  (fun r483 r484 r485 r486 r487 r488 r489 =>
                                   l_tutorlaw12_num r469
                                    (fun r490 =>
                                     bi (r490 != r489)
                                      (K0 false)
                                      (bi (r489 != 0)
                                       (l_tutorlaw12_live
                                        (fun r491 =>
                                         K0 r491))
                                       (g4_10b n v (IntKind.i64.wrap (i + 1)) r470 r471 r472 r483 r484 r485 r486 r487 r488)))))))
                              (l_tutorlaw12_told v i
                               (fun r492 =>
                                l_tutorref12_Tell o1 o1_1 o1_2 o1_3 o1_4 o1_5 r492
                                 (fun r493 r494 r495 r496 r497 r498 r499 =>
                                  l_tutorlaw12_num r469
                                   (fun r500 =>
                                    bi (r500 != r499)
                                     (K0 false)
                                     (bi (r499 != 0)
                                      (l_tutorlaw12_live
                                       (fun r501 =>
                                        K0 r501))
                                      (g4_10b n v (IntKind.i64.wrap (i + 1)) r470 r471 r472 r493 r494 r495 r496 r497 r498)))))))))))
                      (l_point_Search_Asked_binary r385 r386 r387
                       (fun r502 r503 r504 r505 =>
                        bi (r502 != o1_5)
                         (K0 false)
                         (l_tutorlaw12_told v i
                          (fun r506 =>
                           l_point_Search_Tell_binary r506 r503 r504 r505
                            (fun r507 r508 r509 r510 =>
                             both
                              (l_tutorlaw12_told v i
                               (fun r511 =>
                                both
                                 (l_tutorref12_Tell o1 o1_1 o1_2 o1_3 o1_4 o1_5 r511
                                  (fun r512 r513 r514 r515 r516 r517 r518 =>
                                   l_tutorlaw12_num r507
                                    (fun r519 =>
                                     bi (r519 != r518)
                                      (K0 false)
                                      (bi (r518 != 0)
                                       (l_tutorlaw12_live
                                        (fun r520 =>
                                         K0 r520))
                                       (g4_10b n v (IntKind.i64.wrap (i + 1)) r508 r509 r510 r512 r513 r514 r515 r516 r517)))))
                                 (l_tutorref12_Tell o1 o1_1 o1_2 o1_3 o1_4 o1_5 r511
                                  (fun r521 r522 r523 r524 r525 r526 r527 =>
                                   l_tutorlaw12_num r507
                                    (fun r528 =>
                                     bi (r528 != r527)
                                      (K0 false)
                                      (bi (r527 != 0)
                                       (l_tutorlaw12_live
                                        (fun r529 =>
                                         K0 r529))
                                       (g4_10b n v (IntKind.i64.wrap (i + 1)) r508 r509 r510 r521 r522 r523 r524 r525 r526)))))))
                              (l_tutorlaw12_told v i
                               (fun r530 =>
                                l_tutorref12_Tell o1 o1_1 o1_2 o1_3 o1_4 o1_5 r530
                                 (fun r531 r532 r533 r534 r535 r536 r537 =>
                                  l_tutorlaw12_num r507
                                   (fun r538 =>
                                    bi (r538 != r537)
                                     (K0 false)
                                     (bi (r537 != 0)
                                      (l_tutorlaw12_live
                                       (fun r539 =>
                                        K0 r539))
                                      (g4_10b n v (IntKind.i64.wrap (i + 1)) r508 r509 r510 r531 r532 r533 r534 r535 r536))))))))))))))
                   (bi (!r384)
                    (bi (r383 != 0)
                     (K0 false)
                     (both
                      (l_point_Search_Asked_binary r385 r386 r387
                       (fun r540 r541 r542 r543 =>
                        bi (r540 != o1_5)
                         (K0 false)
                         (l_tutorlaw12_told v i
                          (fun r544 =>
                           l_point_Search_Tell_binary r544 r541 r542 r543
                            (fun r545 r546 r547 r548 =>
                             both
                              (l_tutorlaw12_told v i
                               (fun r549 =>
                                both
                                 (l_tutorref12_Tell o1 o1_1 o1_2 o1_3 o1_4 o1_5 r549
                                  (fun r550 r551 r552 r553 r554 r555 r556 =>
                                   l_tutorlaw12_num r545
                                    (fun r557 =>
                                     bi (r557 != r556)
                                      (K0 false)
                                      (bi (r556 != 0)
                                       (l_tutorlaw12_live
                                        (fun r558 =>
                                         K0 r558))
                                       (g4_10b n v (IntKind.i64.wrap (i + 1)) r546 r547 r548 r550 r551 r552 r553 r554 r555)))))
                                 (l_tutorref12_Tell o1 o1_1 o1_2 o1_3 o1_4 o1_5 r549
                                  (fun r559 r560 r561 r562 r563 r564 r565 =>
                                   l_tutorlaw12_num r545
                                    (fun r566 =>
                                     bi (r566 != r565)
                                      (K0 false)
                                      (bi (r565 != 0)
                                       (l_tutorlaw12_live
                                        (fun r567 =>
                                         K0 r567))
                                       (g4_10b n v (IntKind.i64.wrap (i + 1)) r546 r547 r548 r559 r560 r561 r562 r563 r564)))))))
                              (l_tutorlaw12_told v i
                               (fun r568 =>
                                l_tutorref12_Tell o1 o1_1 o1_2 o1_3 o1_4 o1_5 r568
                                 (fun r569 r570 r571 r572 r573 r574 r575 =>
                                  l_tutorlaw12_num r545
                                   (fun r576 =>
                                    bi (r576 != r575)
                                     (K0 false)
                                     (bi (r575 != 0)
                                      (l_tutorlaw12_live
                                       (fun r577 =>
                                        K0 r577))
                                      (g4_10b n v (IntKind.i64.wrap (i + 1)) r546 r547 r548 r569 r570 r571 r572 r573 r574)))))))))))
                      (l_point_Search_Asked_binary r385 r386 r387
                       (fun r578 r579 r580 r581 =>
                        bi (r578 != o1_5)
                         (K0 false)
                         (l_tutorlaw12_told v i
                          (fun r582 =>
                           l_point_Search_Tell_binary r582 r579 r580 r581
                            (fun r583 r584 r585 r586 =>
                             both
                              (l_tutorlaw12_told v i
                               (fun r587 =>
                                both
                                 (l_tutorref12_Tell o1 o1_1 o1_2 o1_3 o1_4 o1_5 r587
                                  (fun r588 r589 r590 r591 r592 r593 r594 =>
                                   l_tutorlaw12_num r583
                                    (fun r595 =>
                                     bi (r595 != r594)
                                      (K0 false)
                                      (bi (r594 != 0)
                                       (l_tutorlaw12_live
                                        (fun r596 =>
                                         K0 r596))
                                       (g4_10b n v (IntKind.i64.wrap (i + 1)) r584 r585 r586 r588 r589 r590 r591 r592 r593)))))
                                 (l_tutorref12_Tell o1 o1_1 o1_2 o1_3 o1_4 o1_5 r587
                                  (fun r597 r598 r599 r600 r601 r602 r603 =>
                                   l_tutorlaw12_num r583
                                    (fun r604 =>
                                     bi (r604 != r603)
                                      (K0 false)
                                      (bi (r603 != 0)
                                       (l_tutorlaw12_live
                                        (fun r605 =>
                                         K0 r605))
                                       (g4_10b n v (IntKind.i64.wrap (i + 1)) r584 r585 r586 r597 r598 r599 r600 r601 r602)))))))
                              (l_tutorlaw12_told v i
                               (fun r606 =>
                                l_tutorref12_Tell o1 o1_1 o1_2 o1_3 o1_4 o1_5 r606
                                 (fun r607 r608 r609 r610 r611 r612 r613 =>
                                  l_tutorlaw12_num r583
                                   (fun r614 =>
                                    bi (r614 != r613)
                                     (K0 false)
                                     (bi (r613 != 0)
                                      (l_tutorlaw12_live
                                       (fun r615 =>
                                        K0 r615))
                                      (g4_10b n v (IntKind.i64.wrap (i + 1)) r584 r585 r586 r607 r608 r609 r610 r611 r612)))))))))))))
                    (both
                     (l_point_Search_Asked_binary r385 r386 r387
                      (fun r616 r617 r618 r619 =>
                       bi (r616 != o1_5)
                        (K0 false)
                        (l_tutorlaw12_told v i
                         (fun r620 =>
                          l_point_Search_Tell_binary r620 r617 r618 r619
                           (fun r621 r622 r623 r624 =>
                            both
                             (l_tutorlaw12_told v i
                              (fun r625 =>
                               both
                                (l_tutorref12_Tell o1 o1_1 o1_2 o1_3 o1_4 o1_5 r625
                                 (fun r626 r627 r628 r629 r630 r631 r632 =>
                                  l_tutorlaw12_num r621
                                   (fun r633 =>
                                    bi (r633 != r632)
                                     (K0 false)
                                     (bi (r632 != 0)
                                      (l_tutorlaw12_live
                                       (fun r634 =>
                                        K0 r634))
                                      (g4_10b n v (IntKind.i64.wrap (i + 1)) r622 r623 r624 r626 r627 r628 r629 r630 r631)))))
                                (l_tutorref12_Tell o1 o1_1 o1_2 o1_3 o1_4 o1_5 r625
                                 (fun r635 r636 r637 r638 r639 r640 r641 =>
                                  l_tutorlaw12_num r621
                                   (fun r642 =>
                                    bi (r642 != r641)
                                     (K0 false)
                                     (bi (r641 != 0)
                                      (l_tutorlaw12_live
                                       (fun r643 =>
                                        K0 r643))
                                      (g4_10b n v (IntKind.i64.wrap (i + 1)) r622 r623 r624 r635 r636 r637 r638 r639 r640)))))))
                             (l_tutorlaw12_told v i
                              (fun r644 =>
                               l_tutorref12_Tell o1 o1_1 o1_2 o1_3 o1_4 o1_5 r644
                                (fun r645 r646 r647 r648 r649 r650 r651 =>
                                 l_tutorlaw12_num r621
                                  (fun r652 =>
                                   bi (r652 != r651)
                                    (K0 false)
                                    (bi (r651 != 0)
                                     (l_tutorlaw12_live
                                      (fun r653 =>
                                       K0 r653))
                                     (g4_10b n v (IntKind.i64.wrap (i + 1)) r622 r623 r624 r645 r646 r647 r648 r649 r650)))))))))))
                     (l_point_Search_Asked_binary r385 r386 r387
                      (fun r654 r655 r656 r657 =>
                       bi (r654 != o1_5)
                        (K0 false)
                        (l_tutorlaw12_told v i
                         (fun r658 =>
                          l_point_Search_Tell_binary r658 r655 r656 r657
                           (fun r659 r660 r661 r662 =>
                            both
                             (l_tutorlaw12_told v i
                              (fun r663 =>
                               both
                                (l_tutorref12_Tell o1 o1_1 o1_2 o1_3 o1_4 o1_5 r663
                                 (fun r664 r665 r666 r667 r668 r669 r670 =>
                                  l_tutorlaw12_num r659
                                   (fun r671 =>
                                    bi (r671 != r670)
                                     (K0 false)
                                     (bi (r670 != 0)
                                      (l_tutorlaw12_live
                                       (fun r672 =>
                                        K0 r672))
                                      (g4_10b n v (IntKind.i64.wrap (i + 1)) r660 r661 r662 r664 r665 r666 r667 r668 r669)))))
                                (l_tutorref12_Tell o1 o1_1 o1_2 o1_3 o1_4 o1_5 r663
                                 (fun r673 r674 r675 r676 r677 r678 r679 =>
                                  l_tutorlaw12_num r659
                                   (fun r680 =>
                                    bi (r680 != r679)
                                     (K0 false)
                                     (bi (r679 != 0)
                                      (l_tutorlaw12_live
                                       (fun r681 =>
                                        K0 r681))
                                      (g4_10b n v (IntKind.i64.wrap (i + 1)) r660 r661 r662 r673 r674 r675 r676 r677 r678)))))))
                             (l_tutorlaw12_told v i
                              (fun r682 =>
                               l_tutorref12_Tell o1 o1_1 o1_2 o1_3 o1_4 o1_5 r682
                                (fun r683 r684 r685 r686 r687 r688 r689 =>
                                 l_tutorlaw12_num r659
                                  (fun r690 =>
                                   bi (r690 != r689)
                                    (K0 false)
                                    (bi (r689 != 0)
                                     (l_tutorlaw12_live
                                      (fun r691 =>
                                       K0 r691))
                                     (g4_10b n v (IntKind.i64.wrap (i + 1)) r660 r661 r662 r683 r684 r685 r686 r687 r688)))))))))))))))))))))))
     (l_tutorlaw12_live
      (fun r692 =>
       K0 r692))) (fun n v i o0 o0_1 o0_2 o1 o1_1 o1_2 o1_3 o1_4 o1_5 => g (at' Try.f4 10) ⟨fr0 142 [(1, .v (.int .i64 n)), (2, .rd ⟨false, 4, .bool, v⟩), (7, .ptr 0 0), (9, .ptr 1 0), (11, .v (.int .i64 i))], [.box 110 [.ifc 102 (.agg []), .v (.int .i64 o0), .v (.int .i64 o0_1), .v (.int .i64 o0_2)], .box 47 [.v (.int .i64 o1), .v (.int .i64 o1_1), .v (.int .i64 o1_2), .v (.int .i64 o1_3), .v (.bool o1_4), .v (.int .i64 o1_5)]]⟩) (fun n v i o0 o0_1 o0_2 o1 o1_1 o1_2 o1_3 o1_4 o1_5 => g (at' Try.f4 10) ⟨fr0 142 [(1, .v (.int .i64 n)), (2, .rd ⟨false, 4, .bool, v⟩), (7, .ptr 0 0), (9, .ptr 1 0), (11, .v (.int .i64 i))], [.box 110 [.ifc 103 (.agg []), .v (.int .i64 o0), .v (.int .i64 o0_1), .v (.int .i64 o0_2)], .box 47 [.v (.int .i64 o1), .v (.int .i64 o1_1), .v (.int .i64 o1_2), .v (.int .i64 o1_3), .v (.bool o1_4), .v (.int .i64 o1_5)]]⟩) (fun n v i o0 o0_1 o0_2 o1 o1_1 o2 o2_1 o2_2 o2_3 o2_4 o2_5 => g (at' Try.f4 10) ⟨fr0 142 [(1, .v (.int .i64 n)), (2, .rd ⟨false, 4, .bool, v⟩), (7, .ptr 0 0), (9, .ptr 2 0), (11, .v (.int .i64 i))], [.box 110 [.ifc 104 (.ptr 1 0), .v (.int .i64 o0), .v (.int .i64 o0_1), .v (.int .i64 o0_2)], .box 106 [.v (.int .i64 o1), .v (.bool o1_1)], .box 47 [.v (.int .i64 o2), .v (.int .i64 o2_1), .v (.int .i64 o2_2), .v (.int .i64 o2_3), .v (.bool o2_4), .v (.int .i64 o2_5)]]⟩) (fun r0 => K (.v (.bool r0)) []) n v i o0 o0_1 o0_2 o1 o1_1 o1_2 o1_3 o1_4 o1_5 := by kernel_rfl

theorem step_tutorlaw12_PointPlays_10b {R : Type} (g : List Item → St → Option R) (K : AV → List O → Option R) (n : Int) (v : List Bool) (i : Int) (o0 : Int) (o0_1 : Int) (o0_2 : Int) (o1 : Int) (o1_1 : Int) (o1_2 : Int) (o1_3 : Int) (o1_4 : Bool) (o1_5 : Int) :
    runSeg Try.prog (T_tutorlaw12_PointPlays @l_tutorlaw12_live @l_tutorlaw12_num @l_tutorref12_New @l_point_New @l_tutorref12_Tell @l_tutorlaw12_told @l_point_Search_Tell_linear @l_point_Search_Tell_binary @l_point_Search_Tell_exponential @l_point_Search_Asked_linear @l_point_Search_Asked_binary @l_point_Search_Asked_exponential @l_point_Search_Found_linear @l_point_Search_Found_binary @l_point_Search_Found_exponential @l_point_Search_Ask_linear @l_point_Search_Ask_binary @l_point_Search_Ask_exponential @l_tutorref12_Ask) cuts_tutorlaw12_PointPlays 0 g (finish Try.prog Try.f4 0 K) (at' Try.f4 10) ⟨fr0 142 [(1, .v (.int .i64 n)), (2, .rd ⟨false, 4, .bool, v⟩), (7, .ptr 0 0), (9, .ptr 1 0), (11, .v (.int .i64 i))], [.box 110 [.ifc 103 (.agg []), .v (.int .i64 o0), .v (.int .i64 o0_1), .v (.int .i64 o0_2)], .box 47 [.v (.int .i64 o1), .v (.int .i64 o1_1), .v (.int .i64 o1_2), .v (.int .i64 o1_3), .v (.bool o1_4), .v (.int .i64 o1_5)]]⟩ =
    s_tutorlaw12_PointPlays_10b (fun n v i o0 o0_1 o0_2 o1 o1_1 o1_2 o1_3 o1_4 o1_5 => g (at' Try.f4 10) ⟨fr0 142 [(1, .v (.int .i64 n)), (2, .rd ⟨false, 4, .bool, v⟩), (7, .ptr 0 0), (9, .ptr 1 0), (11, .v (.int .i64 i))], [.box 110 [.ifc 102 (.agg []), .v (.int .i64 o0), .v (.int .i64 o0_1), .v (.int .i64 o0_2)], .box 47 [.v (.int .i64 o1), .v (.int .i64 o1_1), .v (.int .i64 o1_2), .v (.int .i64 o1_3), .v (.bool o1_4), .v (.int .i64 o1_5)]]⟩) (fun n v i o0 o0_1 o0_2 o1 o1_1 o1_2 o1_3 o1_4 o1_5 => g (at' Try.f4 10) ⟨fr0 142 [(1, .v (.int .i64 n)), (2, .rd ⟨false, 4, .bool, v⟩), (7, .ptr 0 0), (9, .ptr 1 0), (11, .v (.int .i64 i))], [.box 110 [.ifc 103 (.agg []), .v (.int .i64 o0), .v (.int .i64 o0_1), .v (.int .i64 o0_2)], .box 47 [.v (.int .i64 o1), .v (.int .i64 o1_1), .v (.int .i64 o1_2), .v (.int .i64 o1_3), .v (.bool o1_4), .v (.int .i64 o1_5)]]⟩) (fun n v i o0 o0_1 o0_2 o1 o1_1 o2 o2_1 o2_2 o2_3 o2_4 o2_5 => g (at' Try.f4 10) ⟨fr0 142 [(1, .v (.int .i64 n)), (2, .rd ⟨false, 4, .bool, v⟩), (7, .ptr 0 0), (9, .ptr 2 0), (11, .v (.int .i64 i))], [.box 110 [.ifc 104 (.ptr 1 0), .v (.int .i64 o0), .v (.int .i64 o0_1), .v (.int .i64 o0_2)], .box 106 [.v (.int .i64 o1), .v (.bool o1_1)], .box 47 [.v (.int .i64 o2), .v (.int .i64 o2_1), .v (.int .i64 o2_2), .v (.int .i64 o2_3), .v (.bool o2_4), .v (.int .i64 o2_5)]]⟩) (fun r0 => K (.v (.bool r0)) []) n v i o0 o0_1 o0_2 o1 o1_1 o1_2 o1_3 o1_4 o1_5 := gstep_tutorlaw12_PointPlays_10b @l_tutorlaw12_live @l_tutorlaw12_num @l_tutorref12_New @l_point_New @l_tutorref12_Tell @l_tutorlaw12_told @l_point_Search_Tell_linear @l_point_Search_Tell_binary @l_point_Search_Tell_exponential @l_point_Search_Asked_linear @l_point_Search_Asked_binary @l_point_Search_Asked_exponential @l_point_Search_Found_linear @l_point_Search_Found_binary @l_point_Search_Found_exponential @l_point_Search_Ask_linear @l_point_Search_Ask_binary @l_point_Search_Ask_exponential @l_tutorref12_Ask g K n v i o0 o0_1 o0_2 o1 o1_1 o1_2 o1_3 o1_4 o1_5

theorem gstep_tutorlaw12_PointPlays_10c (l_tutorlaw12_live : {R : Type} → (Bool → Option R) → Option R) (l_tutorlaw12_num : {R : Type} → Int → (Int → Option R) → Option R) (l_tutorref12_New : {R : Type} → Int → Int → (Int → Int → Int → Int → Bool → Int → Int → Option R) → Option R) (l_point_New : {R : Type} → Int → Int → (Int → Option R) → (Int → Int → Int → Int → Option R) → (Int → Int → Int → Int → Option R) → (Int → Int → Int → Int → Int → Bool → Option R) → Option R) (l_tutorref12_Tell : {R : Type} → Int → Int → Int → Int → Bool → Int → Bool → (Int → Int → Int → Int → Bool → Int → Int → Option R) → Option R) (l_tutorlaw12_told : {R : Type} → (List Bool) → Int → (Bool → Option R) → Option R) (l_point_Search_Tell_linear : {R : Type} → Bool → Int → Int → Int → (Int → Int → Int → Int → Option R) → Option R) (l_point_Search_Tell_binary : {R : Type} → Bool → Int → Int → Int → (Int → Int → Int → Int → Option R) → Option R) (l_point_Search_Tell_exponential : {R : Type} → Bool → Int → Int → Int → Int → Bool → (Int → Int → Int → Int → Int → Bool → Option R) → Option R) (l_point_Search_Asked_linear : {R : Type} → Int → Int → Int → (Int → Int → Int → Int → Option R) → Option R) (l_point_Search_Asked_binary : {R : Type} → Int → Int → Int → (Int → Int → Int → Int → Option R) → Option R) (l_point_Search_Asked_exponential : {R : Type} → Int → Int → Int → Int → Bool → (Int → Int → Int → Int → Int → Bool → Option R) → Option R) (l_point_Search_Found_linear : {R : Type} → Int → Int → Int → (Int → Bool → Int → Int → Int → Option R) → Option R) (l_point_Search_Found_binary : {R : Type} → Int → Int → Int → (Int → Bool → Int → Int → Int → Option R) → Option R) (l_point_Search_Found_exponential : {R : Type} → Int → Int → Int → Int → Bool → (Int → Bool → Int → Int → Int → Int → Bool → Option R) → Option R) (l_point_Search_Ask_linear : {R : Type} → Int → Int → Int → (Int → Bool → Int → Int → Int → Option R) → Option R) (l_point_Search_Ask_binary : {R : Type} → Int → Int → Int → (Int → Bool → Int → Int → Int → Option R) → Option R) (l_point_Search_Ask_exponential : {R : Type} → Int → Int → Int → Int → Bool → (Int → Bool → Int → Int → Int → Int → Bool → Option R) → Option R) (l_tutorref12_Ask : {R : Type} → Int → Int → Int → Int → Bool → Int → (Int → Bool → Option R) → Option R) {R : Type} (g : List Item → St → Option R) (K : AV → List O → Option R) (n : Int) (v : List Bool) (i : Int) (o0 : Int) (o0_1 : Int) (o0_2 : Int) (o1 : Int) (o1_1 : Bool) (o2 : Int) (o2_1 : Int) (o2_2 : Int) (o2_3 : Int) (o2_4 : Bool) (o2_5 : Int) :
    runSeg Try.prog (T_tutorlaw12_PointPlays @l_tutorlaw12_live @l_tutorlaw12_num @l_tutorref12_New @l_point_New @l_tutorref12_Tell @l_tutorlaw12_told @l_point_Search_Tell_linear @l_point_Search_Tell_binary @l_point_Search_Tell_exponential @l_point_Search_Asked_linear @l_point_Search_Asked_binary @l_point_Search_Asked_exponential @l_point_Search_Found_linear @l_point_Search_Found_binary @l_point_Search_Found_exponential @l_point_Search_Ask_linear @l_point_Search_Ask_binary @l_point_Search_Ask_exponential @l_tutorref12_Ask) cuts_tutorlaw12_PointPlays 0 g (finish Try.prog Try.f4 0 K) (at' Try.f4 10) ⟨fr0 142 [(1, .v (.int .i64 n)), (2, .rd ⟨false, 4, .bool, v⟩), (7, .ptr 0 0), (9, .ptr 2 0), (11, .v (.int .i64 i))], [.box 110 [.ifc 104 (.ptr 1 0), .v (.int .i64 o0), .v (.int .i64 o0_1), .v (.int .i64 o0_2)], .box 106 [.v (.int .i64 o1), .v (.bool o1_1)], .box 47 [.v (.int .i64 o2), .v (.int .i64 o2_1), .v (.int .i64 o2_2), .v (.int .i64 o2_3), .v (.bool o2_4), .v (.int .i64 o2_5)]]⟩ =
    (fun (g4_10 : Int → (List Bool) → Int → Int → Int → Int → Int → Int → Int → Int → Bool → Int → Option R) (g4_10b : Int → (List Bool) → Int → Int → Int → Int → Int → Int → Int → Int → Bool → Int → Option R) (g4_10c : Int → (List Bool) → Int → Int → Int → Int → Int → Bool → Int → Int → Int → Int → Bool → Int → Option R) (K0 : Bool → Option R) (n : Int) (v : List Bool) (i : Int) (o0 : Int) (o0_1 : Int) (o0_2 : Int) (o1 : Int) (o1_1 : Bool) (o2 : Int) (o2_1 : Int) (o2_2 : Int) (o2_3 : Int) (o2_4 : Bool) (o2_5 : Int) =>
    bi (decide (i < (IntKind.i64.wrap (n + 2))))
     (l_point_Search_Ask_exponential o0 o0_1 o0_2 o1 o1_1
      (fun r693 r694 r695 r696 r697 r698 r699 =>
       l_tutorref12_Ask o2 o2_1 o2_2 o2_3 o2_4 o2_5
        (fun r700 r701 =>
         l_point_Search_Ask_exponential r695 r696 r697 r698 r699
          (fun r702 r703 r704 r705 r706 r707 r708 =>
           l_point_Search_Found_exponential r704 r705 r706 r707 r708
            (fun r709 r710 r711 r712 r713 r714 r715 =>
             bi (r693 != r700)
              (K0 false)
              (bi (!(r694 == r701))
               (K0 false)
               (bi (r702 != r693)
                (K0 false)
                (bi (!(r703 == r694))
                 (K0 false)
                 (bi (r710 == r701)
                  (K0 false)
                  (bi r710
                   (bi (r709 != o2_1)
                    (K0 false)
                    (bi (!r710)
                     (bi (r709 != 0)
                      (K0 false)
                      (both
                       (l_point_Search_Asked_exponential r711 r712 r713 r714 r715
                        (fun r716 r717 r718 r719 r720 r721 =>
                         bi (r716 != o2_5)
                          (K0 false)
                          (l_tutorlaw12_told v i
                           (fun r722 =>
                            l_point_Search_Tell_exponential r722 r717 r718 r719 r720 r721
                             (fun r723 r724 r725 r726 r727 r728 =>
                              both
                               (l_tutorlaw12_told v i
                                (fun r729 =>
                                 both
                                  (l_tutorref12_Tell o2 o2_1 o2_2 o2_3 o2_4 o2_5 r729
                                   (fun r730 r731 r732 r733 r734 r735 r736 =>
                                    l_tutorlaw12_num r723
                                     (fun r737 =>
                                      bi (r737 != r736)
                                       (K0 false)
                                       (bi (r736 != 0)
                                        (l_tutorlaw12_live
                                         (fun r738 =>
                                          K0 r738))
                                        (g4_10c n v (IntKind.i64.wrap (i + 1)) r724 r725 r726 r727 r728 r730 r731 r732 r733 r734 r735)))))
                                  (l_tutorref12_Tell o2 o2_1 o2_2 o2_3 o2_4 o2_5 r729
                                   (fun r739 r740 r741 r742 r743 r744 r745 =>
                                    l_tutorlaw12_num r723
                                     (fun r746 =>
                                      bi (r746 != r745)
                                       (K0 false)
                                       (bi (r745 != 0)
                                        (l_tutorlaw12_live
                                         (fun r747 =>
                                          K0 r747))
                                        (g4_10c n v (IntKind.i64.wrap (i + 1)) r724 r725 r726 r727 r728 r739 r740 r741 r742 r743 r744)))))))
                               (l_tutorlaw12_told v i
                                (fun r748 =>
                                 l_tutorref12_Tell o2 o2_1 o2_2 o2_3 o2_4 o2_5 r748
                                  (fun r749 r750 r751 r752 r753 r754 r755 =>
                                   l_tutorlaw12_num r723
                                    (fun r756 =>
                                     bi (r756 != r755)
                                      (K0 false)
                                      (bi (r755 != 0)
                                       (l_tutorlaw12_live
                                        (fun r757 =>
                                         K0 r757))
                                       (g4_10c n v (IntKind.i64.wrap (i + 1)) r724 r725 r726 r727 r728 r749 r750 r751 r752 r753 r754)))))))))))
                       (l_point_Search_Asked_exponential r711 r712 r713 r714 r715
                        (fun r758 r759 r760 r761 r762 r763 =>
                         bi (r758 != o2_5)
                          (K0 false)
                          (l_tutorlaw12_told v i
                           (fun r764 =>
                            l_point_Search_Tell_exponential r764 r759 r760 r761 r762 r763
                             (fun r765 r766 r767 r768 r769 r770 =>
                              both
                               (l_tutorlaw12_told v i
                                (fun r771 =>
                                 both
                                  (l_tutorref12_Tell o2 o2_1 o2_2 o2_3 o2_4 o2_5 r771
                                   (fun r772 r773 r774 r775 r776 r777 r778 =>
                                    l_tutorlaw12_num r765
                                     (fun r779 =>
                                      bi (r779 != r778)
                                       (K0 false)
                                       (bi (r778 != 0)
                                        (l_tutorlaw12_live
                                         (fun r780 =>
                                          K0 r780))
                                        (g4_10c n v (IntKind.i64.wrap (i + 1)) r766 r767 r768 r769 r770 r772 r773 r774 r775 r776 r777)))))
                                  (l_tutorref12_Tell o2 o2_1 o2_2 o2_3 o2_4 o2_5 r771
                                   (fun r781 r782 r783 r784 r785 r786 r787 =>
                                    l_tutorlaw12_num r765
                                     (fun r788 =>
                                      bi (r788 != r787)
                                       (K0 false)
                                       (bi (r787 != 0)
                                        (l_tutorlaw12_live
                                         (fun r789 =>
                                          K0 r789))
                                        (g4_10c n v (IntKind.i64.wrap (i + 1)) r766 r767 r768 r769 r770 r781 r782 r783 r784 r785 r786)))))))
                               (l_tutorlaw12_told v i
                                (fun r790 =>
                                 l_tutorref12_Tell o2 o2_1 o2_2 o2_3 o2_4 o2_5 r790
                                  (fun r791 r792 r793 r794 r795 r796 r797 =>
                                   l_tutorlaw12_num r765
                                    (fun r798 =>
                                     bi (r798 != r797)
                                      (K0 false)
                                      (bi (r797 != 0)
                                       (l_tutorlaw12_live
                                        (fun r799 =>
                                         K0 r799))
                                       (g4_10c n v (IntKind.i64.wrap (i + 1)) r766 r767 r768 r769 r770 r791 r792 r793 r794 r795 r796)))))))))))))
                     (both
                      (l_point_Search_Asked_exponential r711 r712 r713 r714 r715
                       (fun r800 r801 r802 r803 r804 r805 =>
                        bi (r800 != o2_5)
                         (K0 false)
                         (l_tutorlaw12_told v i
                          (fun r806 =>
                           l_point_Search_Tell_exponential r806 r801 r802 r803 r804 r805
                            (fun r807 r808 r809 r810 r811 r812 =>
                             both
                              (l_tutorlaw12_told v i
                               (fun r813 =>
                                both
                                 (l_tutorref12_Tell o2 o2_1 o2_2 o2_3 o2_4 o2_5 r813
                                  (fun r814 r815 r816 r817 r818 r819 r820 =>
                                   l_tutorlaw12_num r807
                                    (fun r821 =>
                                     bi (r821 != r820)
                                      (K0 false)
                                      (bi (r820 != 0)
                                       (l_tutorlaw12_live
                                        (fun r822 =>
                                         K0 r822))
                                       (g4_10c n v (IntKind.i64.wrap (i + 1)) r808 r809 r810 r811 r812 r814 r815 r816 r817 r818 r819)))))
                                 (l_tutorref12_Tell o2 o2_1 o2_2 o2_3 o2_4 o2_5 r813
                                  (fun r823 r824 r825 r826 r827 r828 r829 =>
                                   l_tutorlaw12_num r807
                                    (fun r830 =>
                                     bi (r830 != r829)
                                      (K0 false)
                                      (bi (r829 != 0)
                                       (l_tutorlaw12_live
                                        (fun r831 =>
                                         K0 r831))
                                       (g4_10c n v (IntKind.i64.wrap (i + 1)) r808 r809 r810 r811 r812 r823 r824 r825 r826 r827 r828)))))))
                              (l_tutorlaw12_told v i
                               (fun r832 =>
                                l_tutorref12_Tell o2 o2_1 o2_2 o2_3 o2_4 o2_5 r832
                                 (fun r833 r834 r835 r836 r837 r838 r839 =>
                                  l_tutorlaw12_num r807
                                   (fun r840 =>
                                    bi (r840 != r839)
                                     (K0 false)
                                     (bi (r839 != 0)
                                      (l_tutorlaw12_live
                                       (fun r841 =>
                                        K0 r841))
                                      (g4_10c n v (IntKind.i64.wrap (i + 1)) r808 r809 r810 r811 r812 r833 r834 r835 r836 r837 r838)))))))))))
                      (l_point_Search_Asked_exponential r711 r712 r713 r714 r715
                       (fun r842 r843 r844 r845 r846 r847 =>
                        bi (r842 != o2_5)
                         (K0 false)
                         (l_tutorlaw12_told v i
                          (fun r848 =>
                           l_point_Search_Tell_exponential r848 r843 r844 r845 r846 r847
                            (fun r849 r850 r851 r852 r853 r854 =>
                             both
                              (l_tutorlaw12_told v i
                               (fun r855 =>
                                both
                                 (l_tutorref12_Tell o2 o2_1 o2_2 o2_3 o2_4 o2_5 r855
                                  (fun r856 r857 r858 r859 r860 r861 r862 =>
                                   l_tutorlaw12_num r849
                                    (fun r863 =>
                                     bi (r863 != r862)
                                      (K0 false)
                                      (bi (r862 != 0)
                                       (l_tutorlaw12_live
                                        (fun r864 =>
                                         K0 r864))
                                       (g4_10c n v (IntKind.i64.wrap (i + 1)) r850 r851 r852 r853 r854 r856 r857 r858 r859 r860 r861)))))
                                 (l_tutorref12_Tell o2 o2_1 o2_2 o2_3 o2_4 o2_5 r855
                                  (fun r865 r866 r867 r868 r869 r870 r871 =>
                                   l_tutorlaw12_num r849
                                    (fun r872 =>
                                     bi (r872 != r871)
                                      (K0 false)
                                      (bi (r871 != 0)
                                       (l_tutorlaw12_live
                                        (fun r873 =>
                                         K0 r873))
                                       (g4_10c n v (IntKind.i64.wrap (i + 1)) r850 r851 r852 r853 r854 r865 r866 r867 r868 r869 r870)))))))
                              (l_tutorlaw12_told v i
                               (fun r874 =>
                                l_tutorref12_Tell o2 o2_1 o2_2 o2_3 o2_4 o2_5 r874
                                 (fun r875 r876 r877 r878 r879 r880 r881 =>
                                  l_tutorlaw12_num r849
                                   (fun r882 =>
                                    bi (r882 != r881)
                                     (K0 false)
                                     (bi (r881 != 0)
                                      (l_tutorlaw12_live
                                       (fun r883 =>
                                        K0 r883))
                                      (g4_10c n v (IntKind.i64.wrap (i + 1)) r850 r851 r852 r853 r854 r875 r876 r877 r878 r879 r880))))))))))))))
                   (bi (!r710)
                    (bi (r709 != 0)
                     (K0 false)
                     (both
                      (l_point_Search_Asked_exponential r711 r712 r713 r714 r715
                       (fun r884 r885 r886 r887 r888 r889 =>
                        bi (r884 != o2_5)
                         (K0 false)
                         (l_tutorlaw12_told v i
                          (fun r890 =>
                           l_point_Search_Tell_exponential r890 r885 r886 r887 r888 r889
                            (fun r891 r892 r893 r894 r895 r896 =>
                             both
                              (l_tutorlaw12_told v i
                               (fun r897 =>
                                both
                                 (l_tutorref12_Tell o2 o2_1 o2_2 o2_3 o2_4 o2_5 r897
                                  (fun r898 r899 r900 r901 r902 r903 r904 =>
                                   l_tutorlaw12_num r891
                                    (fun r905 =>
                                     bi (r905 != r904)
                                      (K0 false)
                                      (bi (r904 != 0)
                                       (l_tutorlaw12_live
                                        (fun r906 =>
                                         K0 r906))
                                       (g4_10c n v (IntKind.i64.wrap (i + 1)) r892 r893 r894 r895 r896 r898 r899 r900 r901 r902 r903)))))
                                 (l_tutorref12_Tell o2 o2_1 o2_2 o2_3 o2_4 o2_5 r897
                                  (fun r907 r908 r909 r910 r911 r912 r913 =>
                                   l_tutorlaw12_num r891
                                    (fun r914 =>
                                     bi (r914 != r913)
                                      (K0 false)
                                      (bi (r913 != 0)
                                       (l_tutorlaw12_live
                                        (fun r915 =>
                                         K0 r915))
                                       (g4_10c n v (IntKind.i64.wrap (i + 1)) r892 r893 r894 r895 r896 r907 r908 r909 r910 r911 r912)))))))
                              (l_tutorlaw12_told v i
                               (fun r916 =>
                                l_tutorref12_Tell o2 o2_1 o2_2 o2_3 o2_4 o2_5 r916
                                 (fun r917 r918 r919 r920 r921 r922 r923 =>
                                  l_tutorlaw12_num r891
                                   (fun r924 =>
                                    bi (r924 != r923)
                                     (K0 false)
                                     (bi (r923 != 0)
                                      (l_tutorlaw12_live
                                       (fun r925 =>
                                        K0 r925))
                                      (g4_10c n v (IntKind.i64.wrap (i + 1)) r892 r893 r894 r895 r896 r917 r918 r919 r920 r921 r922)))))))))))
                      (l_point_Search_Asked_exponential r711 r712 r713 r714 r715
                       (fun r926 r927 r928 r929 r930 r931 =>
                        bi (r926 != o2_5)
                         (K0 false)
                         (l_tutorlaw12_told v i
                          (fun r932 =>
                           l_point_Search_Tell_exponential r932 r927 r928 r929 r930 r931
                            (fun r933 r934 r935 r936 r937 r938 =>
                             both
                              (l_tutorlaw12_told v i
                               (fun r939 =>
                                both
                                 (l_tutorref12_Tell o2 o2_1 o2_2 o2_3 o2_4 o2_5 r939
                                  (fun r940 r941 r942 r943 r944 r945 r946 =>
                                   l_tutorlaw12_num r933
                                    (fun r947 =>
                                     bi (r947 != r946)
                                      (K0 false)
                                      (bi (r946 != 0)
                                       (l_tutorlaw12_live
                                        (fun r948 =>
                                         K0 r948))
                                       (g4_10c n v (IntKind.i64.wrap (i + 1)) r934 r935 r936 r937 r938 r940 r941 r942 r943 r944 r945)))))
                                 (l_tutorref12_Tell o2 o2_1 o2_2 o2_3 o2_4 o2_5 r939
                                  (fun r949 r950 r951 r952 r953 r954 r955 =>
                                   l_tutorlaw12_num r933
                                    (fun r956 =>
                                     bi (r956 != r955)
                                      (K0 false)
                                      (bi (r955 != 0)
                                       (l_tutorlaw12_live
                                        (fun r957 =>
                                         K0 r957))
                                       (g4_10c n v (IntKind.i64.wrap (i + 1)) r934 r935 r936 r937 r938 r949 r950 r951 r952 r953 r954)))))))
                              (l_tutorlaw12_told v i
                               (fun r958 =>
                                l_tutorref12_Tell o2 o2_1 o2_2 o2_3 o2_4 o2_5 r958
                                 (fun r959 r960 r961 r962 r963 r964 r965 =>
                                  l_tutorlaw12_num r933
                                   (fun r966 =>
                                    bi (r966 != r965)
                                     (K0 false)
                                     (bi (r965 != 0)
                                      (l_tutorlaw12_live
                                       (fun r967 =>
                                        K0 r967))
                                      (g4_10c n v (IntKind.i64.wrap (i + 1)) r934 r935 r936 r937 r938 r959 r960 r961 r962 r963 r964)))))))))))))
                    (both
                     (l_point_Search_Asked_exponential r711 r712 r713 r714 r715
                      (fun r968 r969 r970 r971 r972 r973 =>
                       bi (r968 != o2_5)
                        (K0 false)
                        (l_tutorlaw12_told v i
                         (fun r974 =>
                          l_point_Search_Tell_exponential r974 r969 r970 r971 r972 r973
                           (fun r975 r976 r977 r978 r979 r980 =>
                            both
                             (l_tutorlaw12_told v i
                              (fun r981 =>
                               both
                                (l_tutorref12_Tell o2 o2_1 o2_2 o2_3 o2_4 o2_5 r981
                                 (fun r982 r983 r984 r985 r986 r987 r988 =>
                                  l_tutorlaw12_num r975
                                   (fun r989 =>
                                    bi (r989 != r988)
                                     (K0 false)
                                     (bi (r988 != 0)
                                      (l_tutorlaw12_live
                                       (fun r990 =>
                                        K0 r990))
                                      (g4_10c n v (IntKind.i64.wrap (i + 1)) r976 r977 r978 r979 r980 r982 r983 r984 r985 r986 r987)))))
                                (l_tutorref12_Tell o2 o2_1 o2_2 o2_3 o2_4 o2_5 r981
                                 (fun r991 r992 r993 r994 r995 r996 r997 =>
                                  l_tutorlaw12_num r975
                                   (fun r998 =>
                                    bi (r998 != r997)
                                     (K0 false)
                                     (bi (r997 != 0)
                                      (l_tutorlaw12_live
                                       (fun r999 =>
                                        K0 r999))
                                      (g4_10c n v (IntKind.i64.wrap (i + 1)) r976 r977 r978 r979 r980 r991 r992 r993 r994 r995 r996)))))))
                             (l_tutorlaw12_told v i
                              (fun r1000 =>
                               l_tutorref12_Tell o2 o2_1 o2_2 o2_3 o2_4 o2_5 r1000
                                (fun r1001 r1002 r1003 r1004 r1005 r1006 r1007 =>
                                 l_tutorlaw12_num r975
                                  (fun r1008 =>
                                   bi (r1008 != r1007)
                                    (K0 false)
                                    (bi (r1007 != 0)
                                     (l_tutorlaw12_live
                                      (fun r1009 =>
                                       K0 r1009))
                                     (g4_10c n v (IntKind.i64.wrap (i + 1)) r976 r977 r978 r979 r980 r1001 r1002 r1003 r1004 r1005 r1006)))))))))))
                     (l_point_Search_Asked_exponential r711 r712 r713 r714 r715
                      (fun r1010 r1011 r1012 r1013 r1014 r1015 =>
                       bi (r1010 != o2_5)
                        (K0 false)
                        (l_tutorlaw12_told v i
                         (fun r1016 =>
                          l_point_Search_Tell_exponential r1016 r1011 r1012 r1013 r1014 r1015
                           (fun r1017 r1018 r1019 r1020 r1021 r1022 =>
                            both
                             (l_tutorlaw12_told v i
                              (fun r1023 =>
                               both
                                (l_tutorref12_Tell o2 o2_1 o2_2 o2_3 o2_4 o2_5 r1023
                                 (fun r1024 r1025 r1026 r1027 r1028 r1029 r1030 =>
                                  l_tutorlaw12_num r1017
                                   (fun r1031 =>
                                    bi (r1031 != r1030)
                                     (K0 false)
                                     (bi (r1030 != 0)
                                      (l_tutorlaw12_live
                                       (fun r1032 =>
                                        K0 r1032))
                                      (g4_10c n v (IntKind.i64.wrap (i + 1)) r1018 r1019 r1020 r1021 r1022 r1024 r1025 r1026 r1027 r1028 r1029)))))
                                (l_tutorref12_Tell o2 o2_1 o2_2 o2_3 o2_4 o2_5 r1023
                                 (fun r1033 r1034 r1035 r1036 r1037 r1038 r1039 =>
                                  l_tutorlaw12_num r1017
                                   (fun r1040 =>
                                    bi (r1040 != r1039)
                                     (K0 false)
                                     (bi (r1039 != 0)
                                      (l_tutorlaw12_live
                                       (fun r1041 =>
                                        K0 r1041))
                                      (g4_10c n v (IntKind.i64.wrap (i + 1)) r1018 r1019 r1020 r1021 r1022 r1033 r1034 r1035 r1036 r1037 r1038)))))))
                             (l_tutorlaw12_told v i
                              (fun r1042 =>
                               l_tutorref12_Tell o2 o2_1 o2_2 o2_3 o2_4 o2_5 r1042
                                (fun r1043 r1044 r1045 r1046 r1047 r1048 r1049 =>
                                 l_tutorlaw12_num r1017
                                  (fun r1050 =>
                                   bi (r1050 != r1049)
                                    (K0 false)
                                    (bi (r1049 != 0)
                                     (l_tutorlaw12_live
                                      (fun r1051 =>
                                       K0 r1051))
                                     (g4_10c n v (IntKind.i64.wrap (i + 1)) r1018 r1019 r1020 r1021 r1022 r1043 r1044 r1045 r1046 r1047 r1048)))))))))))))))))))))))
     (l_tutorlaw12_live
      (fun r1052 =>
       K0 r1052))) (fun n v i o0 o0_1 o0_2 o1 o1_1 o1_2 o1_3 o1_4 o1_5 => g (at' Try.f4 10) ⟨fr0 142 [(1, .v (.int .i64 n)), (2, .rd ⟨false, 4, .bool, v⟩), (7, .ptr 0 0), (9, .ptr 1 0), (11, .v (.int .i64 i))], [.box 110 [.ifc 102 (.agg []), .v (.int .i64 o0), .v (.int .i64 o0_1), .v (.int .i64 o0_2)], .box 47 [.v (.int .i64 o1), .v (.int .i64 o1_1), .v (.int .i64 o1_2), .v (.int .i64 o1_3), .v (.bool o1_4), .v (.int .i64 o1_5)]]⟩) (fun n v i o0 o0_1 o0_2 o1 o1_1 o1_2 o1_3 o1_4 o1_5 => g (at' Try.f4 10) ⟨fr0 142 [(1, .v (.int .i64 n)), (2, .rd ⟨false, 4, .bool, v⟩), (7, .ptr 0 0), (9, .ptr 1 0), (11, .v (.int .i64 i))], [.box 110 [.ifc 103 (.agg []), .v (.int .i64 o0), .v (.int .i64 o0_1), .v (.int .i64 o0_2)], .box 47 [.v (.int .i64 o1), .v (.int .i64 o1_1), .v (.int .i64 o1_2), .v (.int .i64 o1_3), .v (.bool o1_4), .v (.int .i64 o1_5)]]⟩) (fun n v i o0 o0_1 o0_2 o1 o1_1 o2 o2_1 o2_2 o2_3 o2_4 o2_5 => g (at' Try.f4 10) ⟨fr0 142 [(1, .v (.int .i64 n)), (2, .rd ⟨false, 4, .bool, v⟩), (7, .ptr 0 0), (9, .ptr 2 0), (11, .v (.int .i64 i))], [.box 110 [.ifc 104 (.ptr 1 0), .v (.int .i64 o0), .v (.int .i64 o0_1), .v (.int .i64 o0_2)], .box 106 [.v (.int .i64 o1), .v (.bool o1_1)], .box 47 [.v (.int .i64 o2), .v (.int .i64 o2_1), .v (.int .i64 o2_2), .v (.int .i64 o2_3), .v (.bool o2_4), .v (.int .i64 o2_5)]]⟩) (fun r0 => K (.v (.bool r0)) []) n v i o0 o0_1 o0_2 o1 o1_1 o2 o2_1 o2_2 o2_3 o2_4 o2_5 := by kernel_rfl

theorem step_tutorlaw12_PointPlays_10c {R : Type} (g : List Item → St → Option R) (K : AV → List O → Option R) (n : Int) (v : List Bool) (i : Int) (o0 : Int) (o0_1 : Int) (o0_2 : Int) (o1 : Int) (o1_1 : Bool) (o2 : Int) (o2_1 : Int) (o2_2 : Int) (o2_3 : Int) (o2_4 : Bool) (o2_5 : Int) :
    runSeg Try.prog (T_tutorlaw12_PointPlays @l_tutorlaw12_live @l_tutorlaw12_num @l_tutorref12_New @l_point_New @l_tutorref12_Tell @l_tutorlaw12_told @l_point_Search_Tell_linear @l_point_Search_Tell_binary @l_point_Search_Tell_exponential @l_point_Search_Asked_linear @l_point_Search_Asked_binary @l_point_Search_Asked_exponential @l_point_Search_Found_linear @l_point_Search_Found_binary @l_point_Search_Found_exponential @l_point_Search_Ask_linear @l_point_Search_Ask_binary @l_point_Search_Ask_exponential @l_tutorref12_Ask) cuts_tutorlaw12_PointPlays 0 g (finish Try.prog Try.f4 0 K) (at' Try.f4 10) ⟨fr0 142 [(1, .v (.int .i64 n)), (2, .rd ⟨false, 4, .bool, v⟩), (7, .ptr 0 0), (9, .ptr 2 0), (11, .v (.int .i64 i))], [.box 110 [.ifc 104 (.ptr 1 0), .v (.int .i64 o0), .v (.int .i64 o0_1), .v (.int .i64 o0_2)], .box 106 [.v (.int .i64 o1), .v (.bool o1_1)], .box 47 [.v (.int .i64 o2), .v (.int .i64 o2_1), .v (.int .i64 o2_2), .v (.int .i64 o2_3), .v (.bool o2_4), .v (.int .i64 o2_5)]]⟩ =
    s_tutorlaw12_PointPlays_10c (fun n v i o0 o0_1 o0_2 o1 o1_1 o1_2 o1_3 o1_4 o1_5 => g (at' Try.f4 10) ⟨fr0 142 [(1, .v (.int .i64 n)), (2, .rd ⟨false, 4, .bool, v⟩), (7, .ptr 0 0), (9, .ptr 1 0), (11, .v (.int .i64 i))], [.box 110 [.ifc 102 (.agg []), .v (.int .i64 o0), .v (.int .i64 o0_1), .v (.int .i64 o0_2)], .box 47 [.v (.int .i64 o1), .v (.int .i64 o1_1), .v (.int .i64 o1_2), .v (.int .i64 o1_3), .v (.bool o1_4), .v (.int .i64 o1_5)]]⟩) (fun n v i o0 o0_1 o0_2 o1 o1_1 o1_2 o1_3 o1_4 o1_5 => g (at' Try.f4 10) ⟨fr0 142 [(1, .v (.int .i64 n)), (2, .rd ⟨false, 4, .bool, v⟩), (7, .ptr 0 0), (9, .ptr 1 0), (11, .v (.int .i64 i))], [.box 110 [.ifc 103 (.agg []), .v (.int .i64 o0), .v (.int .i64 o0_1), .v (.int .i64 o0_2)], .box 47 [.v (.int .i64 o1), .v (.int .i64 o1_1), .v (.int .i64 o1_2), .v (.int .i64 o1_3), .v (.bool o1_4), .v (.int .i64 o1_5)]]⟩) (fun n v i o0 o0_1 o0_2 o1 o1_1 o2 o2_1 o2_2 o2_3 o2_4 o2_5 => g (at' Try.f4 10) ⟨fr0 142 [(1, .v (.int .i64 n)), (2, .rd ⟨false, 4, .bool, v⟩), (7, .ptr 0 0), (9, .ptr 2 0), (11, .v (.int .i64 i))], [.box 110 [.ifc 104 (.ptr 1 0), .v (.int .i64 o0), .v (.int .i64 o0_1), .v (.int .i64 o0_2)], .box 106 [.v (.int .i64 o1), .v (.bool o1_1)], .box 47 [.v (.int .i64 o2), .v (.int .i64 o2_1), .v (.int .i64 o2_2), .v (.int .i64 o2_3), .v (.bool o2_4), .v (.int .i64 o2_5)]]⟩) (fun r0 => K (.v (.bool r0)) []) n v i o0 o0_1 o0_2 o1 o1_1 o2 o2_1 o2_2 o2_3 o2_4 o2_5 := gstep_tutorlaw12_PointPlays_10c @l_tutorlaw12_live @l_tutorlaw12_num @l_tutorref12_New @l_point_New @l_tutorref12_Tell @l_tutorlaw12_told @l_point_Search_Tell_linear @l_point_Search_Tell_binary @l_point_Search_Tell_exponential @l_point_Search_Asked_linear @l_point_Search_Asked_binary @l_point_Search_Asked_exponential @l_point_Search_Found_linear @l_point_Search_Found_binary @l_point_Search_Found_exponential @l_point_Search_Ask_linear @l_point_Search_Ask_binary @l_point_Search_Ask_exponential @l_tutorref12_Ask g K n v i o0 o0_1 o0_2 o1 o1_1 o2 o2_1 o2_2 o2_3 o2_4 o2_5

theorem gentry_tutorlaw12_PointPlays (l_tutorlaw12_live : {R : Type} → (Bool → Option R) → Option R) (l_tutorlaw12_num : {R : Type} → Int → (Int → Option R) → Option R) (l_tutorref12_New : {R : Type} → Int → Int → (Int → Int → Int → Int → Bool → Int → Int → Option R) → Option R) (l_point_New : {R : Type} → Int → Int → (Int → Option R) → (Int → Int → Int → Int → Option R) → (Int → Int → Int → Int → Option R) → (Int → Int → Int → Int → Int → Bool → Option R) → Option R) (l_tutorref12_Tell : {R : Type} → Int → Int → Int → Int → Bool → Int → Bool → (Int → Int → Int → Int → Bool → Int → Int → Option R) → Option R) (l_tutorlaw12_told : {R : Type} → (List Bool) → Int → (Bool → Option R) → Option R) (l_point_Search_Tell_linear : {R : Type} → Bool → Int → Int → Int → (Int → Int → Int → Int → Option R) → Option R) (l_point_Search_Tell_binary : {R : Type} → Bool → Int → Int → Int → (Int → Int → Int → Int → Option R) → Option R) (l_point_Search_Tell_exponential : {R : Type} → Bool → Int → Int → Int → Int → Bool → (Int → Int → Int → Int → Int → Bool → Option R) → Option R) (l_point_Search_Asked_linear : {R : Type} → Int → Int → Int → (Int → Int → Int → Int → Option R) → Option R) (l_point_Search_Asked_binary : {R : Type} → Int → Int → Int → (Int → Int → Int → Int → Option R) → Option R) (l_point_Search_Asked_exponential : {R : Type} → Int → Int → Int → Int → Bool → (Int → Int → Int → Int → Int → Bool → Option R) → Option R) (l_point_Search_Found_linear : {R : Type} → Int → Int → Int → (Int → Bool → Int → Int → Int → Option R) → Option R) (l_point_Search_Found_binary : {R : Type} → Int → Int → Int → (Int → Bool → Int → Int → Int → Option R) → Option R) (l_point_Search_Found_exponential : {R : Type} → Int → Int → Int → Int → Bool → (Int → Bool → Int → Int → Int → Int → Bool → Option R) → Option R) (l_point_Search_Ask_linear : {R : Type} → Int → Int → Int → (Int → Bool → Int → Int → Int → Option R) → Option R) (l_point_Search_Ask_binary : {R : Type} → Int → Int → Int → (Int → Bool → Int → Int → Int → Option R) → Option R) (l_point_Search_Ask_exponential : {R : Type} → Int → Int → Int → Int → Bool → (Int → Bool → Int → Int → Int → Int → Bool → Option R) → Option R) (l_tutorref12_Ask : {R : Type} → Int → Int → Int → Int → Bool → Int → (Int → Bool → Option R) → Option R) {R : Type} (fuel : Nat) (K : AV → List O → Option R) (how : Int) (n : Int) (v : List Bool) :
    fnRun Try.prog (T_tutorlaw12_PointPlays @l_tutorlaw12_live @l_tutorlaw12_num @l_tutorref12_New @l_point_New @l_tutorref12_Tell @l_tutorlaw12_told @l_point_Search_Tell_linear @l_point_Search_Tell_binary @l_point_Search_Tell_exponential @l_point_Search_Asked_linear @l_point_Search_Asked_binary @l_point_Search_Asked_exponential @l_point_Search_Found_linear @l_point_Search_Found_binary @l_point_Search_Found_exponential @l_point_Search_Ask_linear @l_point_Search_Ask_binary @l_point_Search_Ask_exponential @l_tutorref12_Ask) cuts_tutorlaw12_PointPlays Try.f4 fuel [.v (.int .i64 how), .v (.int .i64 n), .rd ⟨false, 4, .bool, v⟩] [] K =
    (fun (g4_10 : Int → (List Bool) → Int → Int → Int → Int → Int → Int → Int → Int → Bool → Int → Option R) (g4_10b : Int → (List Bool) → Int → Int → Int → Int → Int → Int → Int → Int → Bool → Int → Option R) (g4_10c : Int → (List Bool) → Int → Int → Int → Int → Int → Bool → Int → Int → Int → Int → Bool → Int → Option R) (K0 : Bool → Option R) (how : Int) (n : Int) (v : List Bool) =>
    l_point_New how n
     (fun r1 =>
      l_tutorref12_New how n
       (fun r2 r3 r4 r5 r6 r7 r8 =>
        l_tutorlaw12_num r1
         (fun r9 =>
          bi (r9 != r8)
           (K0 false)
           (bi (r8 != 0)
            (l_tutorlaw12_live
             (fun r10 =>
              K0 r10))
            (K0 false)))))
     (fun r11 r12 r13 r14 =>
      l_tutorref12_New how n
       (fun r15 r16 r17 r18 r19 r20 r21 =>
        l_tutorlaw12_num r11
         (fun r22 =>
          bi (r22 != r21)
           (K0 false)
           (bi (r21 != 0)
            (K0 false)
            (g4_10 n v 0 r12 r13 r14 r15 r16 r17 r18 r19 r20)))))
     (fun r23 r24 r25 r26 =>
      l_tutorref12_New how n
       (fun r27 r28 r29 r30 r31 r32 r33 =>
        l_tutorlaw12_num r23
         (fun r34 =>
          bi (r34 != r33)
           (K0 false)
           (bi (r33 != 0)
            (K0 false)
            (g4_10b n v 0 r24 r25 r26 r27 r28 r29 r30 r31 r32)))))
     (fun r35 r36 r37 r38 r39 r40 =>
      l_tutorref12_New how n
       (fun r41 r42 r43 r44 r45 r46 r47 =>
        l_tutorlaw12_num r35
         (fun r48 =>
          bi (r48 != r47)
           (K0 false)
           (bi (r47 != 0)
            (K0 false)
            (g4_10c n v 0 r36 r37 r38 r39 r40 r41 r42 r43 r44 r45 r46)))))) (fun n v i o0 o0_1 o0_2 o1 o1_1 o1_2 o1_3 o1_4 o1_5 => (runO Try.prog (T_tutorlaw12_PointPlays @l_tutorlaw12_live @l_tutorlaw12_num @l_tutorref12_New @l_point_New @l_tutorref12_Tell @l_tutorlaw12_told @l_point_Search_Tell_linear @l_point_Search_Tell_binary @l_point_Search_Tell_exponential @l_point_Search_Asked_linear @l_point_Search_Asked_binary @l_point_Search_Asked_exponential @l_point_Search_Found_linear @l_point_Search_Found_binary @l_point_Search_Found_exponential @l_point_Search_Ask_linear @l_point_Search_Ask_binary @l_point_Search_Ask_exponential @l_tutorref12_Ask) cuts_tutorlaw12_PointPlays 0 (finish Try.prog Try.f4 0 K) fuel) (at' Try.f4 10) ⟨fr0 142 [(1, .v (.int .i64 n)), (2, .rd ⟨false, 4, .bool, v⟩), (7, .ptr 0 0), (9, .ptr 1 0), (11, .v (.int .i64 i))], [.box 110 [.ifc 102 (.agg []), .v (.int .i64 o0), .v (.int .i64 o0_1), .v (.int .i64 o0_2)], .box 47 [.v (.int .i64 o1), .v (.int .i64 o1_1), .v (.int .i64 o1_2), .v (.int .i64 o1_3), .v (.bool o1_4), .v (.int .i64 o1_5)]]⟩) (fun n v i o0 o0_1 o0_2 o1 o1_1 o1_2 o1_3 o1_4 o1_5 => (runO Try.prog (T_tutorlaw12_PointPlays @l_tutorlaw12_live @l_tutorlaw12_num @l_tutorref12_New @l_point_New @l_tutorref12_Tell @l_tutorlaw12_told @l_point_Search_Tell_linear @l_point_Search_Tell_binary @l_point_Search_Tell_exponential @l_point_Search_Asked_linear @l_point_Search_Asked_binary @l_point_Search_Asked_exponential @l_point_Search_Found_linear @l_point_Search_Found_binary @l_point_Search_Found_exponential @l_point_Search_Ask_linear @l_point_Search_Ask_binary @l_point_Search_Ask_exponential @l_tutorref12_Ask) cuts_tutorlaw12_PointPlays 0 (finish Try.prog Try.f4 0 K) fuel) (at' Try.f4 10) ⟨fr0 142 [(1, .v (.int .i64 n)), (2, .rd ⟨false, 4, .bool, v⟩), (7, .ptr 0 0), (9, .ptr 1 0), (11, .v (.int .i64 i))], [.box 110 [.ifc 103 (.agg []), .v (.int .i64 o0), .v (.int .i64 o0_1), .v (.int .i64 o0_2)], .box 47 [.v (.int .i64 o1), .v (.int .i64 o1_1), .v (.int .i64 o1_2), .v (.int .i64 o1_3), .v (.bool o1_4), .v (.int .i64 o1_5)]]⟩) (fun n v i o0 o0_1 o0_2 o1 o1_1 o2 o2_1 o2_2 o2_3 o2_4 o2_5 => (runO Try.prog (T_tutorlaw12_PointPlays @l_tutorlaw12_live @l_tutorlaw12_num @l_tutorref12_New @l_point_New @l_tutorref12_Tell @l_tutorlaw12_told @l_point_Search_Tell_linear @l_point_Search_Tell_binary @l_point_Search_Tell_exponential @l_point_Search_Asked_linear @l_point_Search_Asked_binary @l_point_Search_Asked_exponential @l_point_Search_Found_linear @l_point_Search_Found_binary @l_point_Search_Found_exponential @l_point_Search_Ask_linear @l_point_Search_Ask_binary @l_point_Search_Ask_exponential @l_tutorref12_Ask) cuts_tutorlaw12_PointPlays 0 (finish Try.prog Try.f4 0 K) fuel) (at' Try.f4 10) ⟨fr0 142 [(1, .v (.int .i64 n)), (2, .rd ⟨false, 4, .bool, v⟩), (7, .ptr 0 0), (9, .ptr 2 0), (11, .v (.int .i64 i))], [.box 110 [.ifc 104 (.ptr 1 0), .v (.int .i64 o0), .v (.int .i64 o0_1), .v (.int .i64 o0_2)], .box 106 [.v (.int .i64 o1), .v (.bool o1_1)], .box 47 [.v (.int .i64 o2), .v (.int .i64 o2_1), .v (.int .i64 o2_2), .v (.int .i64 o2_3), .v (.bool o2_4), .v (.int .i64 o2_5)]]⟩) (fun r0 => K (.v (.bool r0)) []) how n v := by kernel_rfl

theorem entry_tutorlaw12_PointPlays {R : Type} (fuel : Nat) (K : AV → List O → Option R) (how : Int) (n : Int) (v : List Bool) :
    fnRun Try.prog (T_tutorlaw12_PointPlays @l_tutorlaw12_live @l_tutorlaw12_num @l_tutorref12_New @l_point_New @l_tutorref12_Tell @l_tutorlaw12_told @l_point_Search_Tell_linear @l_point_Search_Tell_binary @l_point_Search_Tell_exponential @l_point_Search_Asked_linear @l_point_Search_Asked_binary @l_point_Search_Asked_exponential @l_point_Search_Found_linear @l_point_Search_Found_binary @l_point_Search_Found_exponential @l_point_Search_Ask_linear @l_point_Search_Ask_binary @l_point_Search_Ask_exponential @l_tutorref12_Ask) cuts_tutorlaw12_PointPlays Try.f4 fuel [.v (.int .i64 how), .v (.int .i64 n), .rd ⟨false, 4, .bool, v⟩] [] K =
    e_tutorlaw12_PointPlays (fun n v i o0 o0_1 o0_2 o1 o1_1 o1_2 o1_3 o1_4 o1_5 => (runO Try.prog (T_tutorlaw12_PointPlays @l_tutorlaw12_live @l_tutorlaw12_num @l_tutorref12_New @l_point_New @l_tutorref12_Tell @l_tutorlaw12_told @l_point_Search_Tell_linear @l_point_Search_Tell_binary @l_point_Search_Tell_exponential @l_point_Search_Asked_linear @l_point_Search_Asked_binary @l_point_Search_Asked_exponential @l_point_Search_Found_linear @l_point_Search_Found_binary @l_point_Search_Found_exponential @l_point_Search_Ask_linear @l_point_Search_Ask_binary @l_point_Search_Ask_exponential @l_tutorref12_Ask) cuts_tutorlaw12_PointPlays 0 (finish Try.prog Try.f4 0 K) fuel) (at' Try.f4 10) ⟨fr0 142 [(1, .v (.int .i64 n)), (2, .rd ⟨false, 4, .bool, v⟩), (7, .ptr 0 0), (9, .ptr 1 0), (11, .v (.int .i64 i))], [.box 110 [.ifc 102 (.agg []), .v (.int .i64 o0), .v (.int .i64 o0_1), .v (.int .i64 o0_2)], .box 47 [.v (.int .i64 o1), .v (.int .i64 o1_1), .v (.int .i64 o1_2), .v (.int .i64 o1_3), .v (.bool o1_4), .v (.int .i64 o1_5)]]⟩) (fun n v i o0 o0_1 o0_2 o1 o1_1 o1_2 o1_3 o1_4 o1_5 => (runO Try.prog (T_tutorlaw12_PointPlays @l_tutorlaw12_live @l_tutorlaw12_num @l_tutorref12_New @l_point_New @l_tutorref12_Tell @l_tutorlaw12_told @l_point_Search_Tell_linear @l_point_Search_Tell_binary @l_point_Search_Tell_exponential @l_point_Search_Asked_linear @l_point_Search_Asked_binary @l_point_Search_Asked_exponential @l_point_Search_Found_linear @l_point_Search_Found_binary @l_point_Search_Found_exponential @l_point_Search_Ask_linear @l_point_Search_Ask_binary @l_point_Search_Ask_exponential @l_tutorref12_Ask) cuts_tutorlaw12_PointPlays 0 (finish Try.prog Try.f4 0 K) fuel) (at' Try.f4 10) ⟨fr0 142 [(1, .v (.int .i64 n)), (2, .rd ⟨false, 4, .bool, v⟩), (7, .ptr 0 0), (9, .ptr 1 0), (11, .v (.int .i64 i))], [.box 110 [.ifc 103 (.agg []), .v (.int .i64 o0), .v (.int .i64 o0_1), .v (.int .i64 o0_2)], .box 47 [.v (.int .i64 o1), .v (.int .i64 o1_1), .v (.int .i64 o1_2), .v (.int .i64 o1_3), .v (.bool o1_4), .v (.int .i64 o1_5)]]⟩) (fun n v i o0 o0_1 o0_2 o1 o1_1 o2 o2_1 o2_2 o2_3 o2_4 o2_5 => (runO Try.prog (T_tutorlaw12_PointPlays @l_tutorlaw12_live @l_tutorlaw12_num @l_tutorref12_New @l_point_New @l_tutorref12_Tell @l_tutorlaw12_told @l_point_Search_Tell_linear @l_point_Search_Tell_binary @l_point_Search_Tell_exponential @l_point_Search_Asked_linear @l_point_Search_Asked_binary @l_point_Search_Asked_exponential @l_point_Search_Found_linear @l_point_Search_Found_binary @l_point_Search_Found_exponential @l_point_Search_Ask_linear @l_point_Search_Ask_binary @l_point_Search_Ask_exponential @l_tutorref12_Ask) cuts_tutorlaw12_PointPlays 0 (finish Try.prog Try.f4 0 K) fuel) (at' Try.f4 10) ⟨fr0 142 [(1, .v (.int .i64 n)), (2, .rd ⟨false, 4, .bool, v⟩), (7, .ptr 0 0), (9, .ptr 2 0), (11, .v (.int .i64 i))], [.box 110 [.ifc 104 (.ptr 1 0), .v (.int .i64 o0), .v (.int .i64 o0_1), .v (.int .i64 o0_2)], .box 106 [.v (.int .i64 o1), .v (.bool o1_1)], .box 47 [.v (.int .i64 o2), .v (.int .i64 o2_1), .v (.int .i64 o2_2), .v (.int .i64 o2_3), .v (.bool o2_4), .v (.int .i64 o2_5)]]⟩) (fun r0 => K (.v (.bool r0)) []) how n v := gentry_tutorlaw12_PointPlays @l_tutorlaw12_live @l_tutorlaw12_num @l_tutorref12_New @l_point_New @l_tutorref12_Tell @l_tutorlaw12_told @l_point_Search_Tell_linear @l_point_Search_Tell_binary @l_point_Search_Tell_exponential @l_point_Search_Asked_linear @l_point_Search_Asked_binary @l_point_Search_Asked_exponential @l_point_Search_Found_linear @l_point_Search_Found_binary @l_point_Search_Found_exponential @l_point_Search_Ask_linear @l_point_Search_Ask_binary @l_point_Search_Ask_exponential @l_tutorref12_Ask fuel K how n v

theorem runs_tutorlaw12_PointPlays {R : Type} (K : AV → List O → Option R) : ∀ fuel : Nat,
    (fun n v i o0 o0_1 o0_2 o1 o1_1 o1_2 o1_3 o1_4 o1_5 => (runO Try.prog (T_tutorlaw12_PointPlays @l_tutorlaw12_live @l_tutorlaw12_num @l_tutorref12_New @l_point_New @l_tutorref12_Tell @l_tutorlaw12_told @l_point_Search_Tell_linear @l_point_Search_Tell_binary @l_point_Search_Tell_exponential @l_point_Search_Asked_linear @l_point_Search_Asked_binary @l_point_Search_Asked_exponential @l_point_Search_Found_linear @l_point_Search_Found_binary @l_point_Search_Found_exponential @l_point_Search_Ask_linear @l_point_Search_Ask_binary @l_point_Search_Ask_exponential @l_tutorref12_Ask) cuts_tutorlaw12_PointPlays 0 (finish Try.prog Try.f4 0 K) fuel) (at' Try.f4 10) ⟨fr0 142 [(1, .v (.int .i64 n)), (2, .rd ⟨false, 4, .bool, v⟩), (7, .ptr 0 0), (9, .ptr 1 0), (11, .v (.int .i64 i))], [.box 110 [.ifc 102 (.agg []), .v (.int .i64 o0), .v (.int .i64 o0_1), .v (.int .i64 o0_2)], .box 47 [.v (.int .i64 o1), .v (.int .i64 o1_1), .v (.int .i64 o1_2), .v (.int .i64 o1_3), .v (.bool o1_4), .v (.int .i64 o1_5)]]⟩) = (run_tutorlaw12_PointPlays (fun r0 => K (.v (.bool r0)) []) fuel).1 ∧
    (fun n v i o0 o0_1 o0_2 o1 o1_1 o1_2 o1_3 o1_4 o1_5 => (runO Try.prog (T_tutorlaw12_PointPlays @l_tutorlaw12_live @l_tutorlaw12_num @l_tutorref12_New @l_point_New @l_tutorref12_Tell @l_tutorlaw12_told @l_point_Search_Tell_linear @l_point_Search_Tell_binary @l_point_Search_Tell_exponential @l_point_Search_Asked_linear @l_point_Search_Asked_binary @l_point_Search_Asked_exponential @l_point_Search_Found_linear @l_point_Search_Found_binary @l_point_Search_Found_exponential @l_point_Search_Ask_linear @l_point_Search_Ask_binary @l_point_Search_Ask_exponential @l_tutorref12_Ask) cuts_tutorlaw12_PointPlays 0 (finish Try.prog Try.f4 0 K) fuel) (at' Try.f4 10) ⟨fr0 142 [(1, .v (.int .i64 n)), (2, .rd ⟨false, 4, .bool, v⟩), (7, .ptr 0 0), (9, .ptr 1 0), (11, .v (.int .i64 i))], [.box 110 [.ifc 103 (.agg []), .v (.int .i64 o0), .v (.int .i64 o0_1), .v (.int .i64 o0_2)], .box 47 [.v (.int .i64 o1), .v (.int .i64 o1_1), .v (.int .i64 o1_2), .v (.int .i64 o1_3), .v (.bool o1_4), .v (.int .i64 o1_5)]]⟩) = (run_tutorlaw12_PointPlays (fun r0 => K (.v (.bool r0)) []) fuel).2.1 ∧
    (fun n v i o0 o0_1 o0_2 o1 o1_1 o2 o2_1 o2_2 o2_3 o2_4 o2_5 => (runO Try.prog (T_tutorlaw12_PointPlays @l_tutorlaw12_live @l_tutorlaw12_num @l_tutorref12_New @l_point_New @l_tutorref12_Tell @l_tutorlaw12_told @l_point_Search_Tell_linear @l_point_Search_Tell_binary @l_point_Search_Tell_exponential @l_point_Search_Asked_linear @l_point_Search_Asked_binary @l_point_Search_Asked_exponential @l_point_Search_Found_linear @l_point_Search_Found_binary @l_point_Search_Found_exponential @l_point_Search_Ask_linear @l_point_Search_Ask_binary @l_point_Search_Ask_exponential @l_tutorref12_Ask) cuts_tutorlaw12_PointPlays 0 (finish Try.prog Try.f4 0 K) fuel) (at' Try.f4 10) ⟨fr0 142 [(1, .v (.int .i64 n)), (2, .rd ⟨false, 4, .bool, v⟩), (7, .ptr 0 0), (9, .ptr 2 0), (11, .v (.int .i64 i))], [.box 110 [.ifc 104 (.ptr 1 0), .v (.int .i64 o0), .v (.int .i64 o0_1), .v (.int .i64 o0_2)], .box 106 [.v (.int .i64 o1), .v (.bool o1_1)], .box 47 [.v (.int .i64 o2), .v (.int .i64 o2_1), .v (.int .i64 o2_2), .v (.int .i64 o2_3), .v (.bool o2_4), .v (.int .i64 o2_5)]]⟩) = (run_tutorlaw12_PointPlays (fun r0 => K (.v (.bool r0)) []) fuel).2.2
  | 0 => ⟨rfl, rfl, rfl⟩
  | fuel + 1 => by
    have ih := runs_tutorlaw12_PointPlays K fuel
    refine ⟨?_, ?_, ?_⟩
    · funext n v i o0 o0_1 o0_2 o1 o1_1 o1_2 o1_3 o1_4 o1_5
      refine (step_tutorlaw12_PointPlays_10a _ K n v i o0 o0_1 o0_2 o1 o1_1 o1_2 o1_3 o1_4 o1_5).trans ?_
      rw [ih.1, ih.2.1, ih.2.2]
      rfl
    · funext n v i o0 o0_1 o0_2 o1 o1_1 o1_2 o1_3 o1_4 o1_5
      refine (step_tutorlaw12_PointPlays_10b _ K n v i o0 o0_1 o0_2 o1 o1_1 o1_2 o1_3 o1_4 o1_5).trans ?_
      rw [ih.1, ih.2.1, ih.2.2]
      rfl
    · funext n v i o0 o0_1 o0_2 o1 o1_1 o2 o2_1 o2_2 o2_3 o2_4 o2_5
      refine (step_tutorlaw12_PointPlays_10c _ K n v i o0 o0_1 o0_2 o1 o1_1 o2 o2_1 o2_2 o2_3 o2_4 o2_5).trans ?_
      rw [ih.1, ih.2.1, ih.2.2]
      rfl

def S_tutorlaw12_PointPlays (l_tutorlaw12_PointPlays : {R : Type} → Int → Int → (List Bool) → (Bool → Option R) → Option R) : Sum := ⟨[], fun {R} args ob K => match args, ob with
  | [.v (.int .i64 how), .v (.int .i64 n), .rd ⟨false, 4, .bool, v⟩], [] => l_tutorlaw12_PointPlays how n v (fun r0 => K (.v (.bool r0)) [])
  | _, _ => none⟩

theorem sound_tutorlaw12_PointPlays : Sound Try.prog 4 (S_tutorlaw12_PointPlays @l_tutorlaw12_PointPlays) := by
  refine fn_sound (cuts := cuts_tutorlaw12_PointPlays) (fn := Try.f4) (Γ := (T_tutorlaw12_PointPlays @l_tutorlaw12_live @l_tutorlaw12_num @l_tutorref12_New @l_point_New @l_tutorref12_Tell @l_tutorlaw12_told @l_point_Search_Tell_linear @l_point_Search_Tell_binary @l_point_Search_Tell_exponential @l_point_Search_Asked_linear @l_point_Search_Asked_binary @l_point_Search_Asked_exponential @l_point_Search_Found_linear @l_point_Search_Found_binary @l_point_Search_Found_exponential @l_point_Search_Ask_linear @l_point_Search_Ask_binary @l_point_Search_Ask_exponential @l_tutorref12_Ask)) wide right_T_tutorlaw12_PointPlays Try.func4 fun {R} K r args ob h => ?_
  unfold S_tutorlaw12_PointPlays at h
  dsimp only at h
  split at h
  · obtain ⟨n, hn⟩ := ok_tutorlaw12_PointPlays _ _ _ _ h
    refine ⟨Nat.le_of_ble_eq_true (by kernel_rfl), n, (entry_tutorlaw12_PointPlays n K _ _ _).trans ?_⟩
    rw [(runs_tutorlaw12_PointPlays K n).1, (runs_tutorlaw12_PointPlays K n).2.1, (runs_tutorlaw12_PointPlays K n).2.2]
    exact hn
  · cases h

theorem call_tutorlaw12_PointPlays : Callable Try.prog 4 := ⟨_, Try.func4, by kernel_rfl, by kernel_rfl⟩

end
end Go.Ev
