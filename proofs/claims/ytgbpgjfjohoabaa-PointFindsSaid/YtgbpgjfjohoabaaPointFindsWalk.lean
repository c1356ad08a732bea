/- Each function of the program is its tree. -/
import Derived.Test.YtgbpgjfjohoabaaProg
import Derived.Test.YtgbpgjfjohoabaaEvFn
import Derived.Test.YtgbpgjfjohoabaaPointFindsPure
namespace Go.Ev
open Go.Proofs
set_option linter.unusedVariables false
set_option linter.unusedSimpArgs false
set_option maxRecDepth 100000
set_option maxHeartbeats 4000000

theorem wide : Tables.follows Try.prog.toTables .mixedOrders = true := by kernel_rfl

def G0 : FuncId → Option Sum := fun _ => none
theorem right_G0 : Right Try.prog G0 := fun f S h => by cases h

def T_point_New : FuncId → Option Sum := G0

theorem right_T_point_New : Right Try.prog T_point_New := right_G0

abbrev cuts_point_New : Cuts := []

theorem gentry_point_New {R : Type} (K : AV → List O → Option R) (how : Int) (n : Int) :
    fnRun Try.prog T_point_New cuts_point_New Try.f24 0 [.v (.int .i64 how), .v (.int .i64 n)] [] K =
    (fun (how : Int) (n : Int) (K0 : Int → Option R) (K1 : Int → Int → Int → Int → Option R) (K2 : Int → Int → Int → Int → Option R) (K3 : Int → Int → Int → Int → Int → Bool → Option R) =>
    bi (how == 1)
     (bi (decide (n < 1))
      (K0 1)
      (bi (decide (n > 4096))
       (K0 3)
       (K1 0 0 n 0)))
     (bi (how == 2)
      (bi (decide (n < 1))
       (K0 1)
       (bi (decide (n > 4096))
        (K0 3)
        (K2 0 0 n 0)))
      (bi (how == 3)
       (bi (decide (n < 1))
        (K0 1)
        (bi (decide (n > 4096))
         (K0 3)
         (K3 0 0 n 0 1 false)))
       (K0 1)))) how n (fun r0 => K (.tup [.v (.pointer none), .v (.int .i64 r0)]) []) (fun r0 r1 r2 r3 => K (.tup [.ptr 0 0, .v (.int .i64 r0)]) [.box 110 [.ifc 102 (.agg []), .v (.int .i64 r1), .v (.int .i64 r2), .v (.int .i64 r3)]]) (fun r0 r1 r2 r3 => K (.tup [.ptr 0 0, .v (.int .i64 r0)]) [.box 110 [.ifc 103 (.agg []), .v (.int .i64 r1), .v (.int .i64 r2), .v (.int .i64 r3)]]) (fun r0 r1 r2 r3 r4 r5 => K (.tup [.ptr 0 0, .v (.int .i64 r0)]) [.box 110 [.ifc 104 (.ptr 1 0), .v (.int .i64 r1), .v (.int .i64 r2), .v (.int .i64 r3)], .box 106 [.v (.int .i64 r4), .v (.bool r5)]]) := by kernel_rfl

theorem entry_point_New {R : Type} (K : AV → List O → Option R) (how : Int) (n : Int) :
    fnRun Try.prog T_point_New cuts_point_New Try.f24 0 [.v (.int .i64 how), .v (.int .i64 n)] [] K =
    l_point_New how n (fun r0 => K (.tup [.v (.pointer none), .v (.int .i64 r0)]) []) (fun r0 r1 r2 r3 => K (.tup [.ptr 0 0, .v (.int .i64 r0)]) [.box 110 [.ifc 102 (.agg []), .v (.int .i64 r1), .v (.int .i64 r2), .v (.int .i64 r3)]]) (fun r0 r1 r2 r3 => K (.tup [.ptr 0 0, .v (.int .i64 r0)]) [.box 110 [.ifc 103 (.agg []), .v (.int .i64 r1), .v (.int .i64 r2), .v (.int .i64 r3)]]) (fun r0 r1 r2 r3 r4 r5 => K (.tup [.ptr 0 0, .v (.int .i64 r0)]) [.box 110 [.ifc 104 (.ptr 1 0), .v (.int .i64 r1), .v (.int .i64 r2), .v (.int .i64 r3)], .box 106 [.v (.int .i64 r4), .v (.bool r5)]]) := gentry_point_New K how n

def S_point_New (l_point_New : {R : Type} → Int → Int → (Int → Option R) → (Int → Int → Int → Int → Option R) → (Int → Int → Int → Int → Option R) → (Int → Int → Int → Int → Int → Bool → Option R) → Option R) : Sum := ⟨[], fun {R} args ob K => match args, ob with
  | [.v (.int .i64 how), .v (.int .i64 n)], [] => l_point_New how n (fun r0 => K (.tup [.v (.pointer none), .v (.int .i64 r0)]) []) (fun r0 r1 r2 r3 => K (.tup [.ptr 0 0, .v (.int .i64 r0)]) [.box 110 [.ifc 102 (.agg []), .v (.int .i64 r1), .v (.int .i64 r2), .v (.int .i64 r3)]]) (fun r0 r1 r2 r3 => K (.tup [.ptr 0 0, .v (.int .i64 r0)]) [.box 110 [.ifc 103 (.agg []), .v (.int .i64 r1), .v (.int .i64 r2), .v (.int .i64 r3)]]) (fun r0 r1 r2 r3 r4 r5 => K (.tup [.ptr 0 0, .v (.int .i64 r0)]) [.box 110 [.ifc 104 (.ptr 1 0), .v (.int .i64 r1), .v (.int .i64 r2), .v (.int .i64 r3)], .box 106 [.v (.int .i64 r4), .v (.bool r5)]])
  | _, _ => none⟩

theorem sound_point_New : Sound Try.prog 24 (S_point_New @l_point_New) := by
  refine fn_sound (cuts := cuts_point_New) (fn := Try.f24) (Γ := T_point_New) wide right_T_point_New Try.func24 fun {R} K r args ob h => ?_
  unfold S_point_New at h
  dsimp only at h
  split at h
  · exact ⟨Nat.le_of_ble_eq_true (by kernel_rfl), 0, (entry_point_New K _ _).trans h⟩
  · cases h

theorem call_point_New : Callable Try.prog 24 := ⟨_, Try.func24, by kernel_rfl, by kernel_rfl⟩

def T_tutorlaw12_num : FuncId → Option Sum := G0

theorem right_T_tutorlaw12_num : Right Try.prog T_tutorlaw12_num := right_G0

abbrev cuts_tutorlaw12_num : Cuts := []

theorem gentry_tutorlaw12_num {R : Type} (K : AV → List O → Option R) (e : Int) :
    fnRun Try.prog T_tutorlaw12_num cuts_tutorlaw12_num Try.f26 0 [.v (.int .i64 e)] [] K =
    (fun (e : Int) (K0 : Int → Option R) =>
    K0 e) e (fun r0 => K (.v (.int .i64 r0)) []) := by kernel_rfl

theorem entry_tutorlaw12_num {R : Type} (K : AV → List O → Option R) (e : Int) :
    fnRun Try.prog T_tutorlaw12_num cuts_tutorlaw12_num Try.f26 0 [.v (.int .i64 e)] [] K =
    l_tutorlaw12_num e (fun r0 => K (.v (.int .i64 r0)) []) := gentry_tutorlaw12_num K e

def S_tutorlaw12_num (l_tutorlaw12_num : {R : Type} → Int → (Int → Option R) → Option R) : Sum := ⟨[], fun {R} args ob K => match args, ob with
  | [.v (.int .i64 e)], [] => l_tutorlaw12_num e (fun r0 => K (.v (.int .i64 r0)) [])
  | _, _ => none⟩

theorem sound_tutorlaw12_num : Sound Try.prog 26 (S_tutorlaw12_num @l_tutorlaw12_num) := by
  refine fn_sound (cuts := cuts_tutorlaw12_num) (fn := Try.f26) (Γ := T_tutorlaw12_num) wide right_T_tutorlaw12_num Try.func26 fun {R} K r args ob h => ?_
  unfold S_tutorlaw12_num at h
  dsimp only at h
  split at h
  · exact ⟨Nat.le_of_ble_eq_true (by kernel_rfl), 0, (entry_tutorlaw12_num K _).trans h⟩
  · cases h

theorem call_tutorlaw12_num : Callable Try.prog 26 := ⟨_, Try.func26, by kernel_rfl, by kernel_rfl⟩

def T_point_Search_ended : FuncId → Option Sum := G0

theorem right_T_point_Search_ended : Right Try.prog T_point_Search_ended := right_G0

abbrev cuts_point_Search_ended_linear : Cuts := []

theorem gentry_point_Search_ended_linear {R : Type} (K : AV → List O → Option R) (o0 : Int) (o0_1 : Int) (o0_2 : Int) :
    fnRun Try.prog T_point_Search_ended cuts_point_Search_ended_linear Try.f58 0 [.ptr 0 0] [.box 110 [.ifc 102 (.agg []), .v (.int .i64 o0), .v (.int .i64 o0_1), .v (.int .i64 o0_2)]] K =
    (fun (o0 : Int) (o0_1 : Int) (o0_2 : Int) (K0 : Bool → Int → Int → Int → Option R) =>
    K0 (o0_1 == (IntKind.i64.wrap (o0 + 1))) o0 o0_1 o0_2) o0 o0_1 o0_2 (fun r0 r1 r2 r3 => K (.v (.bool r0)) [.box 110 [.ifc 102 (.agg []), .v (.int .i64 r1), .v (.int .i64 r2), .v (.int .i64 r3)]]) := by kernel_rfl

theorem entry_point_Search_ended_linear {R : Type} (K : AV → List O → Option R) (o0 : Int) (o0_1 : Int) (o0_2 : Int) :
    fnRun Try.prog T_point_Search_ended cuts_point_Search_ended_linear Try.f58 0 [.ptr 0 0] [.box 110 [.ifc 102 (.agg []), .v (.int .i64 o0), .v (.int .i64 o0_1), .v (.int .i64 o0_2)]] K =
    l_point_Search_ended_linear o0 o0_1 o0_2 (fun r0 r1 r2 r3 => K (.v (.bool r0)) [.box 110 [.ifc 102 (.agg []), .v (.int .i64 r1), .v (.int .i64 r2), .v (.int .i64 r3)]]) := gentry_point_Search_ended_linear K o0 o0_1 o0_2

abbrev cuts_point_Search_ended_binary : Cuts := []

theorem gentry_point_Search_ended_binary {R : Type} (K : AV → List O → Option R) (o0 : Int) (o0_1 : Int) (o0_2 : Int) :
    fnRun Try.prog T_point_Search_ended cuts_point_Search_ended_binary Try.f58 0 [.ptr 0 0] [.box 110 [.ifc 103 (.agg []), .v (.int .i64 o0), .v (.int .i64 o0_1), .v (.int .i64 o0_2)]] K =
    (fun (o0 : Int) (o0_1 : Int) (o0_2 : Int) (K0 : Bool → Int → Int → Int → Option R) =>
    K0 (o0_1 == (IntKind.i64.wrap (o0 + 1))) o0 o0_1 o0_2) o0 o0_1 o0_2 (fun r0 r1 r2 r3 => K (.v (.bool r0)) [.box 110 [.ifc 103 (.agg []), .v (.int .i64 r1), .v (.int .i64 r2), .v (.int .i64 r3)]]) := by kernel_rfl

theorem entry_point_Search_ended_binary {R : Type} (K : AV → List O → Option R) (o0 : Int) (o0_1 : Int) (o0_2 : Int) :
    fnRun Try.prog T_point_Search_ended cuts_point_Search_ended_binary Try.f58 0 [.ptr 0 0] [.box 110 [.ifc 103 (.agg []), .v (.int .i64 o0), .v (.int .i64 o0_1), .v (.int .i64 o0_2)]] K =
    l_point_Search_ended_binary o0 o0_1 o0_2 (fun r0 r1 r2 r3 => K (.v (.bool r0)) [.box 110 [.ifc 103 (.agg []), .v (.int .i64 r1), .v (.int .i64 r2), .v (.int .i64 r3)]]) := gentry_point_Search_ended_binary K o0 o0_1 o0_2

abbrev cuts_point_Search_ended_exponential : Cuts := []

theorem gentry_point_Search_ended_exponential {R : Type} (K : AV → List O → Option R) (o0 : Int) (o0_1 : Int) (o0_2 : Int) (o1 : Int) (o1_1 : Bool) :
    fnRun Try.prog T_point_Search_ended cuts_point_Search_ended_exponential Try.f58 0 [.ptr 0 0] [.box 110 [.ifc 104 (.ptr 1 0), .v (.int .i64 o0), .v (.int .i64 o0_1), .v (.int .i64 o0_2)], .box 106 [.v (.int .i64 o1), .v (.bool o1_1)]] K =
    (fun (o0 : Int) (o0_1 : Int) (o0_2 : Int) (o1 : Int) (o1_1 : Bool) (K0 : Bool → Int → Int → Int → Int → Bool → Option R) =>
    K0 (o0_1 == (IntKind.i64.wrap (o0 + 1))) o0 o0_1 o0_2 o1 o1_1) o0 o0_1 o0_2 o1 o1_1 (fun r0 r1 r2 r3 r4 r5 => K (.v (.bool r0)) [.box 110 [.ifc 104 (.ptr 1 0), .v (.int .i64 r1), .v (.int .i64 r2), .v (.int .i64 r3)], .box 106 [.v (.int .i64 r4), .v (.bool r5)]]) := by kernel_rfl

theorem entry_point_Search_ended_exponential {R : Type} (K : AV → List O → Option R) (o0 : Int) (o0_1 : Int) (o0_2 : Int) (o1 : Int) (o1_1 : Bool) :
    fnRun Try.prog T_point_Search_ended cuts_point_Search_ended_exponential Try.f58 0 [.ptr 0 0] [.box 110 [.ifc 104 (.ptr 1 0), .v (.int .i64 o0), .v (.int .i64 o0_1), .v (.int .i64 o0_2)], .box 106 [.v (.int .i64 o1), .v (.bool o1_1)]] K =
    l_point_Search_ended_exponential o0 o0_1 o0_2 o1 o1_1 (fun r0 r1 r2 r3 r4 r5 => K (.v (.bool r0)) [.box 110 [.ifc 104 (.ptr 1 0), .v (.int .i64 r1), .v (.int .i64 r2), .v (.int .i64 r3)], .box 106 [.v (.int .i64 r4), .v (.bool r5)]]) := gentry_point_Search_ended_exponential K o0 o0_1 o0_2 o1 o1_1

def S_point_Search_ended (l_point_Search_ended_linear : {R : Type} → Int → Int → Int → (Bool → Int → Int → Int → Option R) → Option R) (l_point_Search_ended_binary : {R : Type} → Int → Int → Int → (Bool → Int → Int → Int → Option R) → Option R) (l_point_Search_ended_exponential : {R : Type} → Int → Int → Int → Int → Bool → (Bool → Int → Int → Int → Int → Bool → Option R) → Option R) : Sum := ⟨[], fun {R} args ob K => match args, ob with
  | [.ptr 0 0], [.box 110 [.ifc 102 (.agg []), .v (.int .i64 o0), .v (.int .i64 o0_1), .v (.int .i64 o0_2)]] => l_point_Search_ended_linear o0 o0_1 o0_2 (fun r0 r1 r2 r3 => K (.v (.bool r0)) [.box 110 [.ifc 102 (.agg []), .v (.int .i64 r1), .v (.int .i64 r2), .v (.int .i64 r3)]])
  | [.ptr 0 0], [.box 110 [.ifc 103 (.agg []), .v (.int .i64 o0), .v (.int .i64 o0_1), .v (.int .i64 o0_2)]] => l_point_Search_ended_binary o0 o0_1 o0_2 (fun r0 r1 r2 r3 => K (.v (.bool r0)) [.box 110 [.ifc 103 (.agg []), .v (.int .i64 r1), .v (.int .i64 r2), .v (.int .i64 r3)]])
  | [.ptr 0 0], [.box 110 [.ifc 104 (.ptr 1 0), .v (.int .i64 o0), .v (.int .i64 o0_1), .v (.int .i64 o0_2)], .box 106 [.v (.int .i64 o1), .v (.bool o1_1)]] => l_point_Search_ended_exponential o0 o0_1 o0_2 o1 o1_1 (fun r0 r1 r2 r3 r4 r5 => K (.v (.bool r0)) [.box 110 [.ifc 104 (.ptr 1 0), .v (.int .i64 r1), .v (.int .i64 r2), .v (.int .i64 r3)], .box 106 [.v (.int .i64 r4), .v (.bool r5)]])
  | _, _ => none⟩

theorem sound_point_Search_ended : Sound Try.prog 58 (S_point_Search_ended @l_point_Search_ended_linear @l_point_Search_ended_binary @l_point_Search_ended_exponential) := by
  refine fn_sound (cuts := cuts_point_Search_ended_linear) (fn := Try.f58) (Γ := T_point_Search_ended) wide right_T_point_Search_ended Try.func58 fun {R} K r args ob h => ?_
  unfold S_point_Search_ended at h
  dsimp only at h
  split at h
  · exact ⟨Nat.le_of_ble_eq_true (by kernel_rfl), 0, (entry_point_Search_ended_linear K _ _ _).trans h⟩
  · exact ⟨Nat.le_of_ble_eq_true (by kernel_rfl), 0, (entry_point_Search_ended_binary K _ _ _).trans h⟩
  · exact ⟨Nat.le_of_ble_eq_true (by kernel_rfl), 0, (entry_point_Search_ended_exponential K _ _ _ _ _).trans h⟩
  · cases h

theorem call_point_Search_ended : Callable Try.prog 58 := ⟨_, Try.func58, by kernel_rfl, by kernel_rfl⟩

def T_point_linear_next : FuncId → Option Sum := G0

theorem right_T_point_linear_next : Right Try.prog T_point_linear_next := right_G0

abbrev cuts_point_linear_next : Cuts := []

theorem gentry_point_linear_next {R : Type} (K : AV → List O → Option R) (s : Int) (s_1 : Int) :
    fnRun Try.prog T_point_linear_next cuts_point_linear_next Try.f86 0 [.agg [], .agg [.v (.int .i64 s), .v (.int .i64 s_1)]] [] K =
    (fun (s : Int) (s_1 : Int) (K0 : Int → Option R) =>
    K0 (IntKind.i64.wrap (s + 1))) s s_1 (fun r0 => K (.v (.int .i64 r0)) []) := by kernel_rfl

theorem entry_point_linear_next {R : Type} (K : AV → List O → Option R) (s : Int) (s_1 : Int) :
    fnRun Try.prog T_point_linear_next cuts_point_linear_next Try.f86 0 [.agg [], .agg [.v (.int .i64 s), .v (.int .i64 s_1)]] [] K =
    l_point_linear_next s s_1 (fun r0 => K (.v (.int .i64 r0)) []) := gentry_point_linear_next K s s_1

def S_point_linear_next (l_point_linear_next : {R : Type} → Int → Int → (Int → Option R) → Option R) : Sum := ⟨[], fun {R} args ob K => match args, ob with
  | [.agg [], .agg [.v (.int .i64 s), .v (.int .i64 s_1)]], [] => l_point_linear_next s s_1 (fun r0 => K (.v (.int .i64 r0)) [])
  | _, _ => none⟩

theorem sound_point_linear_next : Sound Try.prog 86 (S_point_linear_next @l_point_linear_next) := by
  refine fn_sound (cuts := cuts_point_linear_next) (fn := Try.f86) (Γ := T_point_linear_next) wide right_T_point_linear_next Try.func86 fun {R} K r args ob h => ?_
  unfold S_point_linear_next at h
  dsimp only at h
  split at h
  · exact ⟨Nat.le_of_ble_eq_true (by kernel_rfl), 0, (entry_point_linear_next K _ _).trans h⟩
  · cases h

theorem call_point_linear_next : Callable Try.prog 86 := ⟨_, Try.func86, by kernel_rfl, by kernel_rfl⟩

def T_point_binary_next : FuncId → Option Sum := G0

theorem right_T_point_binary_next : Right Try.prog T_point_binary_next := right_G0

abbrev cuts_point_binary_next : Cuts := []

theorem gentry_point_binary_next {R : Type} (K : AV → List O → Option R) (s : Int) (s_1 : Int) :
    fnRun Try.prog T_point_binary_next cuts_point_binary_next Try.f88 0 [.agg [], .agg [.v (.int .i64 s), .v (.int .i64 s_1)]] [] K =
    (fun (s : Int) (s_1 : Int) (K0 : Int → Option R) =>
    K0 (IntKind.i64.wrap (s + (IntKind.i64.wrap ((IntKind.i64.wrap (s_1 - s)).tdiv 2))))) s s_1 (fun r0 => K (.v (.int .i64 r0)) []) := by kernel_rfl

theorem entry_point_binary_next {R : Type} (K : AV → List O → Option R) (s : Int) (s_1 : Int) :
    fnRun Try.prog T_point_binary_next cuts_point_binary_next Try.f88 0 [.agg [], .agg [.v (.int .i64 s), .v (.int .i64 s_1)]] [] K =
    l_point_binary_next s s_1 (fun r0 => K (.v (.int .i64 r0)) []) := gentry_point_binary_next K s s_1

def S_point_binary_next (l_point_binary_next : {R : Type} → Int → Int → (Int → Option R) → Option R) : Sum := ⟨[], fun {R} args ob K => match args, ob with
  | [.agg [], .agg [.v (.int .i64 s), .v (.int .i64 s_1)]], [] => l_point_binary_next s s_1 (fun r0 => K (.v (.int .i64 r0)) [])
  | _, _ => none⟩

theorem sound_point_binary_next : Sound Try.prog 88 (S_point_binary_next @l_point_binary_next) := by
  refine fn_sound (cuts := cuts_point_binary_next) (fn := Try.f88) (Γ := T_point_binary_next) wide right_T_point_binary_next Try.func88 fun {R} K r args ob h => ?_
  unfold S_point_binary_next at h
  dsimp only at h
  split at h
  · exact ⟨Nat.le_of_ble_eq_true (by kernel_rfl), 0, (entry_point_binary_next K _ _).trans h⟩
  · cases h

theorem call_point_binary_next : Callable Try.prog 88 := ⟨_, Try.func88, by kernel_rfl, by kernel_rfl⟩

def T_point_exponential_next (l_point_binary_next : {R : Type} → Int → Int → (Int → Option R) → Option R) : FuncId → Option Sum := (addS G0 88 (S_point_binary_next @l_point_binary_next))

theorem right_T_point_exponential_next : Right Try.prog (T_point_exponential_next @l_point_binary_next) := (right_add right_G0 call_point_binary_next sound_point_binary_next)

abbrev cuts_point_exponential_next : Cuts := []

theorem gentry_point_exponential_next (l_point_binary_next : {R : Type} → Int → Int → (Int → Option R) → Option R) {R : Type} (K : AV → List O → Option R) (s : Int) (s_1 : Int) (o0 : Int) (o0_1 : Bool) :
    fnRun Try.prog (T_point_exponential_next @l_point_binary_next) cuts_point_exponential_next Try.f90 0 [.ptr 0 0, .agg [.v (.int .i64 s), .v (.int .i64 s_1)]] [.box 106 [.v (.int .i64 o0), .v (.bool o0_1)]] K =
    (fun (s : Int) (s_1 : Int) (o0 : Int) (o0_1 : Bool) (K0 : Int → Int → Bool → Option R) =>
    bi o0_1
     (l_point_binary_next s s_1
      (fun r1 =>
       K0 r1 o0 o0_1))
     (K0 (if (IntKind.i64.wrap (s + 1)) > (IntKind.i64.wrap (s_1 - o0)) then (IntKind.i64.wrap (s + 1)) else (IntKind.i64.wrap (s_1 - o0))) o0 o0_1)) s s_1 o0 o0_1 (fun r0 r1 r2 => K (.v (.int .i64 r0)) [.box 106 [.v (.int .i64 r1), .v (.bool r2)]]) := by kernel_rfl

theorem entry_point_exponential_next {R : Type} (K : AV → List O → Option R) (s : Int) (s_1 : Int) (o0 : Int) (o0_1 : Bool) :
    fnRun Try.prog (T_point_exponential_next @l_point_binary_next) cuts_point_exponential_next Try.f90 0 [.ptr 0 0, .agg [.v (.int .i64 s), .v (.int .i64 s_1)]] [.box 106 [.v (.int .i64 o0), .v (.bool o0_1)]] K =
    l_point_exponential_next s s_1 o0 o0_1 (fun r0 r1 r2 => K (.v (.int .i64 r0)) [.box 106 [.v (.int .i64 r1), .v (.bool r2)]]) := gentry_point_exponential_next @l_point_binary_next K s s_1 o0 o0_1

def S_point_exponential_next (l_point_exponential_next : {R : Type} → Int → Int → Int → Bool → (Int → Int → Bool → Option R) → Option R) : Sum := ⟨[], fun {R} args ob K => match args, ob with
  | [.ptr 0 0, .agg [.v (.int .i64 s), .v (.int .i64 s_1)]], [.box 106 [.v (.int .i64 o0), .v (.bool o0_1)]] => l_point_exponential_next s s_1 o0 o0_1 (fun r0 r1 r2 => K (.v (.int .i64 r0)) [.box 106 [.v (.int .i64 r1), .v (.bool r2)]])
  | _, _ => none⟩

theorem sound_point_exponential_next : Sound Try.prog 90 (S_point_exponential_next @l_point_exponential_next) := by
  refine fn_sound (cuts := cuts_point_exponential_next) (fn := Try.f90) (Γ := (T_point_exponential_next @l_point_binary_next)) wide right_T_point_exponential_next Try.func90 fun {R} K r args ob h => ?_
  unfold S_point_exponential_next at h
  dsimp only at h
  split at h
  · exact ⟨Nat.le_of_ble_eq_true (by kernel_rfl), 0, (entry_point_exponential_next K _ _ _ _).trans h⟩
  · cases h

theorem call_point_exponential_next : Callable Try.prog 90 := ⟨_, Try.func90, by kernel_rfl, by kernel_rfl⟩

def T_point_Search_Ask (l_point_linear_next : {R : Type} → Int → Int → (Int → Option R) → Option R) (l_point_Search_ended_linear : {R : Type} → Int → Int → Int → (Bool → Int → Int → Int → Option R) → Option R) (l_point_Search_ended_binary : {R : Type} → Int → Int → Int → (Bool → Int → Int → Int → Option R) → Option R) (l_point_Search_ended_exponential : {R : Type} → Int → Int → Int → Int → Bool → (Bool → Int → Int → Int → Int → Bool → Option R) → Option R) (l_point_binary_next : {R : Type} → Int → Int → (Int → Option R) → Option R) (l_point_exponential_next : {R : Type} → Int → Int → Int → Bool → (Int → Int → Bool → Option R) → Option R) : FuncId → Option Sum := (addS (addS (addS (addS G0 86 (S_point_linear_next @l_point_linear_next)) 58 (S_point_Search_ended @l_point_Search_ended_linear @l_point_Search_ended_binary @l_point_Search_ended_exponential)) 88 (S_point_binary_next @l_point_binary_next)) 90 (S_point_exponential_next @l_point_exponential_next))

theorem right_T_point_Search_Ask : Right Try.prog (T_point_Search_Ask @l_point_linear_next @l_point_Search_ended_linear @l_point_Search_ended_binary @l_point_Search_ended_exponential @l_point_binary_next @l_point_exponential_next) := (right_add (right_add (right_add (right_add right_G0 call_point_linear_next sound_point_linear_next) call_point_Search_ended sound_point_Search_ended) call_point_binary_next sound_point_binary_next) call_point_exponential_next sound_point_exponential_next)

abbrev cuts_point_Search_Ask_linear : Cuts := []

theorem gentry_point_Search_Ask_linear (l_point_linear_next : {R : Type} → Int → Int → (Int → Option R) → Option R) (l_point_Search_ended_linear : {R : Type} → Int → Int → Int → (Bool → Int → Int → Int → Option R) → Option R) (l_point_Search_ended_binary : {R : Type} → Int → Int → Int → (Bool → Int → Int → Int → Option R) → Option R) (l_point_Search_ended_exponential : {R : Type} → Int → Int → Int → Int → Bool → (Bool → Int → Int → Int → Int → Bool → Option R) → Option R) (l_point_binary_next : {R : Type} → Int → Int → (Int → Option R) → Option R) (l_point_exponential_next : {R : Type} → Int → Int → Int → Bool → (Int → Int → Bool → Option R) → Option R) {R : Type} (K : AV → List O → Option R) (o0 : Int) (o0_1 : Int) (o0_2 : Int) :
    fnRun Try.prog (T_point_Search_Ask @l_point_linear_next @l_point_Search_ended_linear @l_point_Search_ended_binary @l_point_Search_ended_exponential @l_point_binary_next @l_point_exponential_next) cuts_point_Search_Ask_linear Try.f28 0 [.ptr 0 0] [.box 110 [.ifc 102 (.agg []), .v (.int .i64 o0), .v (.int .i64 o0_1), .v (.int .i64 o0_2)]] K =
    (fun (o0 : Int) (o0_1 : Int) (o0_2 : Int) (K0 : Int → Bool → Int → Int → Int → Option R) =>
    l_point_Search_ended_linear o0 o0_1 o0_2
     (fun r1 r2 r3 r4 =>
      bi r1
       (K0 0 false r2 r3 r4)
       (l_point_linear_next r2 r3
        (fun r5 =>
         K0 r5 true r2 r3 r4)))) o0 o0_1 o0_2 (fun r0 r1 r2 r3 r4 => K (.tup [.v (.int .i64 r0), .v (.bool r1)]) [.box 110 [.ifc 102 (.agg []), .v (.int .i64 r2), .v (.int .i64 r3), .v (.int .i64 r4)]]) := by kernel_rfl

theorem entry_point_Search_Ask_linear {R : Type} (K : AV → List O → Option R) (o0 : Int) (o0_1 : Int) (o0_2 : Int) :
    fnRun Try.prog (T_point_Search_Ask @l_point_linear_next @l_point_Search_ended_linear @l_point_Search_ended_binary @l_point_Search_ended_exponential @l_point_binary_next @l_point_exponential_next) cuts_point_Search_Ask_linear Try.f28 0 [.ptr 0 0] [.box 110 [.ifc 102 (.agg []), .v (.int .i64 o0), .v (.int .i64 o0_1), .v (.int .i64 o0_2)]] K =
    l_point_Search_Ask_linear o0 o0_1 o0_2 (fun r0 r1 r2 r3 r4 => K (.tup [.v (.int .i64 r0), .v (.bool r1)]) [.box 110 [.ifc 102 (.agg []), .v (.int .i64 r2), .v (.int .i64 r3), .v (.int .i64 r4)]]) := gentry_point_Search_Ask_linear @l_point_linear_next @l_point_Search_ended_linear @l_point_Search_ended_binary @l_point_Search_ended_exponential @l_point_binary_next @l_point_exponential_next K o0 o0_1 o0_2

abbrev cuts_point_Search_Ask_binary : Cuts := []

theorem gentry_point_Search_Ask_binary (l_point_linear_next : {R : Type} → Int → Int → (Int → Option R) → Option R) (l_point_Search_ended_linear : {R : Type} → Int → Int → Int → (Bool → Int → Int → Int → Option R) → Option R) (l_point_Search_ended_binary : {R : Type} → Int → Int → Int → (Bool → Int → Int → Int → Option R) → Option R) (l_point_Search_ended_exponential : {R : Type} → Int → Int → Int → Int → Bool → (Bool → Int → Int → Int → Int → Bool → Option R) → Option R) (l_point_binary_next : {R : Type} → Int → Int → (Int → Option R) → Option R) (l_point_exponential_next : {R : Type} → Int → Int → Int → Bool → (Int → Int → Bool → Option R) → Option R) {R : Type} (K : AV → List O → Option R) (o0 : Int) (o0_1 : Int) (o0_2 : Int) :
    fnRun Try.prog (T_point_Search_Ask @l_point_linear_next @l_point_Search_ended_linear @l_point_Search_ended_binary @l_point_Search_ended_exponential @l_point_binary_next @l_point_exponential_next) cuts_point_Search_Ask_binary Try.f28 0 [.ptr 0 0] [.box 110 [.ifc 103 (.agg []), .v (.int .i64 o0), .v (.int .i64 o0_1), .v (.int .i64 o0_2)]] K =
    (fun (o0 : Int) (o0_1 : Int) (o0_2 : Int) (K0 : Int → Bool → Int → Int → Int → Option R) =>
    l_point_Search_ended_binary o0 o0_1 o0_2
     (fun r1 r2 r3 r4 =>
      bi r1
       (K0 0 false r2 r3 r4)
       (l_point_binary_next r2 r3
        (fun r5 =>
         K0 r5 true r2 r3 r4)))) o0 o0_1 o0_2 (fun r0 r1 r2 r3 r4 => K (.tup [.v (.int .i64 r0), .v (.bool r1)]) [.box 110 [.ifc 103 (.agg []), .v (.int .i64 r2), .v (.int .i64 r3), .v (.int .i64 r4)]]) := by kernel_rfl

theorem entry_point_Search_Ask_binary {R : Type} (K : AV → List O → Option R) (o0 : Int) (o0_1 : Int) (o0_2 : Int) :
    fnRun Try.prog (T_point_Search_Ask @l_point_linear_next @l_point_Search_ended_linear @l_point_Search_ended_binary @l_point_Search_ended_exponential @l_point_binary_next @l_point_exponential_next) cuts_point_Search_Ask_binary Try.f28 0 [.ptr 0 0] [.box 110 [.ifc 103 (.agg []), .v (.int .i64 o0), .v (.int .i64 o0_1), .v (.int .i64 o0_2)]] K =
    l_point_Search_Ask_binary o0 o0_1 o0_2 (fun r0 r1 r2 r3 r4 => K (.tup [.v (.int .i64 r0), .v (.bool r1)]) [.box 110 [.ifc 103 (.agg []), .v (.int .i64 r2), .v (.int .i64 r3), .v (.int .i64 r4)]]) := gentry_point_Search_Ask_binary @l_point_linear_next @l_point_Search_ended_linear @l_point_Search_ended_binary @l_point_Search_ended_exponential @l_point_binary_next @l_point_exponential_next K o0 o0_1 o0_2

abbrev cuts_point_Search_Ask_exponential : Cuts := []

theorem gentry_point_Search_Ask_exponential (l_point_linear_next : {R : Type} → Int → Int → (Int → Option R) → Option R) (l_point_Search_ended_linear : {R : Type} → Int → Int → Int → (Bool → Int → Int → Int → Option R) → Option R) (l_point_Search_ended_binary : {R : Type} → Int → Int → Int → (Bool → Int → Int → Int → Option R) → Option R) (l_point_Search_ended_exponential : {R : Type} → Int → Int → Int → Int → Bool → (Bool → Int → Int → Int → Int → Bool → Option R) → Option R) (l_point_binary_next : {R : Type} → Int → Int → (Int → Option R) → Option R) (l_point_exponential_next : {R : Type} → Int → Int → Int → Bool → (Int → Int → Bool → Option R) → Option R) {R : Type} (K : AV → List O → Option R) (o0 : Int) (o0_1 : Int) (o0_2 : Int) (o1 : Int) (o1_1 : Bool) :
    fnRun Try.prog (T_point_Search_Ask @l_point_linear_next @l_point_Search_ended_linear @l_point_Search_ended_binary @l_point_Search_ended_exponential @l_point_binary_next @l_point_exponential_next) cuts_point_Search_Ask_exponential Try.f28 0 [.ptr 0 0] [.box 110 [.ifc 104 (.ptr 1 0), .v (.int .i64 o0), .v (.int .i64 o0_1), .v (.int .i64 o0_2)], .box 106 [.v (.int .i64 o1), .v (.bool o1_1)]] K =
    (fun (o0 : Int) (o0_1 : Int) (o0_2 : Int) (o1 : Int) (o1_1 : Bool) (K0 : Int → Bool → Int → Int → Int → Int → Bool → Option R) =>
    l_point_Search_ended_exponential o0 o0_1 o0_2 o1 o1_1
     (fun r1 r2 r3 r4 r5 r6 =>
      bi r1
       (K0 0 false r2 r3 r4 r5 r6)
       (l_point_exponential_next r2 r3 r5 r6
        (fun r7 r8 r9 =>
         K0 r7 true r2 r3 r4 r8 r9)))) o0 o0_1 o0_2 o1 o1_1 (fun r0 r1 r2 r3 r4 r5 r6 => K (.tup [.v (.int .i64 r0), .v (.bool r1)]) [.box 110 [.ifc 104 (.ptr 1 0), .v (.int .i64 r2), .v (.int .i64 r3), .v (.int .i64 r4)], .box 106 [.v (.int .i64 r5), .v (.bool r6)]]) := by kernel_rfl

theorem entry_point_Search_Ask_exponential {R : Type} (K : AV → List O → Option R) (o0 : Int) (o0_1 : Int) (o0_2 : Int) (o1 : Int) (o1_1 : Bool) :
    fnRun Try.prog (T_point_Search_Ask @l_point_linear_next @l_point_Search_ended_linear @l_point_Search_ended_binary @l_point_Search_ended_exponential @l_point_binary_next @l_point_exponential_next) cuts_point_Search_Ask_exponential Try.f28 0 [.ptr 0 0] [.box 110 [.ifc 104 (.ptr 1 0), .v (.int .i64 o0), .v (.int .i64 o0_1), .v (.int .i64 o0_2)], .box 106 [.v (.int .i64 o1), .v (.bool o1_1)]] K =
    l_point_Search_Ask_exponential o0 o0_1 o0_2 o1 o1_1 (fun r0 r1 r2 r3 r4 r5 r6 => K (.tup [.v (.int .i64 r0), .v (.bool r1)]) [.box 110 [.ifc 104 (.ptr 1 0), .v (.int .i64 r2), .v (.int .i64 r3), .v (.int .i64 r4)], .box 106 [.v (.int .i64 r5), .v (.bool r6)]]) := gentry_point_Search_Ask_exponential @l_point_linear_next @l_point_Search_ended_linear @l_point_Search_ended_binary @l_point_Search_ended_exponential @l_point_binary_next @l_point_exponential_next K o0 o0_1 o0_2 o1 o1_1

def S_point_Search_Ask (l_point_Search_Ask_linear : {R : Type} → Int → Int → Int → (Int → Bool → Int → Int → Int → Option R) → Option R) (l_point_Search_Ask_binary : {R : Type} → Int → Int → Int → (Int → Bool → Int → Int → Int → Option R) → Option R) (l_point_Search_Ask_exponential : {R : Type} → Int → Int → Int → Int → Bool → (Int → Bool → Int → Int → Int → Int → Bool → Option R) → Option R) : Sum := ⟨[], fun {R} args ob K => match args, ob with
  | [.ptr 0 0], [.box 110 [.ifc 102 (.agg []), .v (.int .i64 o0), .v (.int .i64 o0_1), .v (.int .i64 o0_2)]] => l_point_Search_Ask_linear o0 o0_1 o0_2 (fun r0 r1 r2 r3 r4 => K (.tup [.v (.int .i64 r0), .v (.bool r1)]) [.box 110 [.ifc 102 (.agg []), .v (.int .i64 r2), .v (.int .i64 r3), .v (.int .i64 r4)]])
  | [.ptr 0 0], [.box 110 [.ifc 103 (.agg []), .v (.int .i64 o0), .v (.int .i64 o0_1), .v (.int .i64 o0_2)]] => l_point_Search_Ask_binary o0 o0_1 o0_2 (fun r0 r1 r2 r3 r4 => K (.tup [.v (.int .i64 r0), .v (.bool r1)]) [.box 110 [.ifc 103 (.agg []), .v (.int .i64 r2), .v (.int .i64 r3), .v (.int .i64 r4)]])
  | [.ptr 0 0], [.box 110 [.ifc 104 (.ptr 1 0), .v (.int .i64 o0), .v (.int .i64 o0_1), .v (.int .i64 o0_2)], .box 106 [.v (.int .i64 o1), .v (.bool o1_1)]] => l_point_Search_Ask_exponential o0 o0_1 o0_2 o1 o1_1 (fun r0 r1 r2 r3 r4 r5 r6 => K (.tup [.v (.int .i64 r0), .v (.bool r1)]) [.box 110 [.ifc 104 (.ptr 1 0), .v (.int .i64 r2), .v (.int .i64 r3), .v (.int .i64 r4)], .box 106 [.v (.int .i64 r5), .v (.bool r6)]])
  | _, _ => none⟩

theorem sound_point_Search_Ask : Sound Try.prog 28 (S_point_Search_Ask @l_point_Search_Ask_linear @l_point_Search_Ask_binary @l_point_Search_Ask_exponential) := by
  refine fn_sound (cuts := cuts_point_Search_Ask_linear) (fn := Try.f28) (Γ := (T_point_Search_Ask @l_point_linear_next @l_point_Search_ended_linear @l_point_Search_ended_binary @l_point_Search_ended_exponential @l_point_binary_next @l_point_exponential_next)) wide right_T_point_Search_Ask Try.func28 fun {R} K r args ob h => ?_
  unfold S_point_Search_Ask at h
  dsimp only at h
  split at h
  · exact ⟨Nat.le_of_ble_eq_true (by kernel_rfl), 0, (entry_point_Search_Ask_linear K _ _ _).trans h⟩
  · exact ⟨Nat.le_of_ble_eq_true (by kernel_rfl), 0, (entry_point_Search_Ask_binary K _ _ _).trans h⟩
  · exact ⟨Nat.le_of_ble_eq_true (by kernel_rfl), 0, (entry_point_Search_Ask_exponential K _ _ _ _ _).trans h⟩
  · cases h

theorem call_point_Search_Ask : Callable Try.prog 28 := ⟨_, Try.func28, by kernel_rfl, by kernel_rfl⟩

def T_point_binary_told : FuncId → Option Sum := G0

theorem right_T_point_binary_told : Right Try.prog T_point_binary_told := right_G0

abbrev cuts_point_binary_told : Cuts := []

theorem gentry_point_binary_told {R : Type} (K : AV → List O → Option R) (x1 : Bool) :
    fnRun Try.prog T_point_binary_told cuts_point_binary_told Try.f89 0 [.agg [], .v (.bool x1)] [] K =
    (fun (x1 : Bool) (K0 : Option R) =>
    K0) x1 (K (.tup []) []) := by kernel_rfl

theorem entry_point_binary_told {R : Type} (K : AV → List O → Option R) (x1 : Bool) :
    fnRun Try.prog T_point_binary_told cuts_point_binary_told Try.f89 0 [.agg [], .v (.bool x1)] [] K =
    l_point_binary_told x1 (K (.tup []) []) := gentry_point_binary_told K x1

def S_point_binary_told (l_point_binary_told : {R : Type} → Bool → (Option R) → Option R) : Sum := ⟨[], fun {R} args ob K => match args, ob with
  | [.agg [], .v (.bool x1)], [] => l_point_binary_told x1 (K (.tup []) [])
  | _, _ => none⟩

theorem sound_point_binary_told : Sound Try.prog 89 (S_point_binary_told @l_point_binary_told) := by
  refine fn_sound (cuts := cuts_point_binary_told) (fn := Try.f89) (Γ := T_point_binary_told) wide right_T_point_binary_told Try.func89 fun {R} K r args ob h => ?_
  unfold S_point_binary_told at h
  dsimp only at h
  split at h
  · exact ⟨Nat.le_of_ble_eq_true (by kernel_rfl), 0, (entry_point_binary_told K _).trans h⟩
  · cases h

theorem call_point_binary_told : Callable Try.prog 89 := ⟨_, Try.func89, by kernel_rfl, by kernel_rfl⟩

def T_point_exponential_told : FuncId → Option Sum := G0

theorem right_T_point_exponential_told : Right Try.prog T_point_exponential_told := right_G0

abbrev cuts_point_exponential_told : Cuts := []

theorem gentry_point_exponential_told {R : Type} (K : AV → List O → Option R) (v : Bool) (o0 : Int) (o0_1 : Bool) :
    fnRun Try.prog T_point_exponential_told cuts_point_exponential_told Try.f91 0 [.ptr 0 0, .v (.bool v)] [.box 106 [.v (.int .i64 o0), .v (.bool o0_1)]] K =
    (fun (v : Bool) (o0 : Int) (o0_1 : Bool) (K0 : Int → Bool → Option R) =>
    bi o0_1
     (K0 (IntKind.i64.wrap (o0 * 2)) true)
     (K0 (IntKind.i64.wrap (o0 * 2)) (!v))) v o0 o0_1 (fun r0 r1 => K (.tup []) [.box 106 [.v (.int .i64 r0), .v (.bool r1)]]) := by kernel_rfl

theorem entry_point_exponential_told {R : Type} (K : AV → List O → Option R) (v : Bool) (o0 : Int) (o0_1 : Bool) :
    fnRun Try.prog T_point_exponential_told cuts_point_exponential_told Try.f91 0 [.ptr 0 0, .v (.bool v)] [.box 106 [.v (.int .i64 o0), .v (.bool o0_1)]] K =
    l_point_exponential_told v o0 o0_1 (fun r0 r1 => K (.tup []) [.box 106 [.v (.int .i64 r0), .v (.bool r1)]]) := gentry_point_exponential_told K v o0 o0_1

def S_point_exponential_told (l_point_exponential_told : {R : Type} → Bool → Int → Bool → (Int → Bool → Option R) → Option R) : Sum := ⟨[], fun {R} args ob K => match args, ob with
  | [.ptr 0 0, .v (.bool v)], [.box 106 [.v (.int .i64 o0), .v (.bool o0_1)]] => l_point_exponential_told v o0 o0_1 (fun r0 r1 => K (.tup []) [.box 106 [.v (.int .i64 r0), .v (.bool r1)]])
  | _, _ => none⟩

theorem sound_point_exponential_told : Sound Try.prog 91 (S_point_exponential_told @l_point_exponential_told) := by
  refine fn_sound (cuts := cuts_point_exponential_told) (fn := Try.f91) (Γ := T_point_exponential_told) wide right_T_point_exponential_told Try.func91 fun {R} K r args ob h => ?_
  unfold S_point_exponential_told at h
  dsimp only at h
  split at h
  · exact ⟨Nat.le_of_ble_eq_true (by kernel_rfl), 0, (entry_point_exponential_told K _ _ _).trans h⟩
  · cases h

theorem call_point_exponential_told : Callable Try.prog 91 := ⟨_, Try.func91, by kernel_rfl, by kernel_rfl⟩

def T_point_Search_Tell (l_point_Search_Ask_linear : {R : Type} → Int → Int → Int → (Int → Bool → Int → Int → Int → Option R) → Option R) (l_point_Search_Ask_binary : {R : Type} → Int → Int → Int → (Int → Bool → Int → Int → Int → Option R) → Option R) (l_point_Search_Ask_exponential : {R : Type} → Int → Int → Int → Int → Bool → (Int → Bool → Int → Int → Int → Int → Bool → Option R) → Option R) (l_point_binary_told : {R : Type} → Bool → (Option R) → Option R) (l_point_exponential_told : {R : Type} → Bool → Int → Bool → (Int → Bool → Option R) → Option R) : FuncId → Option Sum := (addS (addS (addS G0 28 (S_point_Search_Ask @l_point_Search_Ask_linear @l_point_Search_Ask_binary @l_point_Search_Ask_exponential)) 89 (S_point_binary_told @l_point_binary_told)) 91 (S_point_exponential_told @l_point_exponential_told))

theorem right_T_point_Search_Tell : Right Try.prog (T_point_Search_Tell @l_point_Search_Ask_linear @l_point_Search_Ask_binary @l_point_Search_Ask_exponential @l_point_binary_told @l_point_exponential_told) := (right_add (right_add (right_add right_G0 call_point_Search_Ask sound_point_Search_Ask) call_point_binary_told sound_point_binary_told) call_point_exponential_told sound_point_exponential_told)

abbrev cuts_point_Search_Tell_linear : Cuts := []

theorem gentry_point_Search_Tell_linear (l_point_Search_Ask_linear : {R : Type} → Int → Int → Int → (Int → Bool → Int → Int → Int → Option R) → Option R) (l_point_Search_Ask_binary : {R : Type} → Int → Int → Int → (Int → Bool → Int → Int → Int → Option R) → Option R) (l_point_Search_Ask_exponential : {R : Type} → Int → Int → Int → Int → Bool → (Int → Bool → Int → Int → Int → Int → Bool → Option R) → Option R) (l_point_binary_told : {R : Type} → Bool → (Option R) → Option R) (l_point_exponential_told : {R : Type} → Bool → Int → Bool → (Int → Bool → Option R) → Option R) {R : Type} (K : AV → List O → Option R) (v : Bool) (o0 : Int) (o0_1 : Int) (o0_2 : Int) :
    fnRun Try.prog (T_point_Search_Tell @l_point_Search_Ask_linear @l_point_Search_Ask_binary @l_point_Search_Ask_exponential @l_point_binary_told @l_point_exponential_told) cuts_point_Search_Tell_linear Try.f32 0 [.ptr 0 0, .v (.bool v)] [.box 110 [.ifc 102 (.agg []), .v (.int .i64 o0), .v (.int .i64 o0_1), .v (.int .i64 o0_2)]] K =
    (fun (v : Bool) (o0 : Int) (o0_1 : Int) (o0_2 : Int) (K0 : Int → Int → Int → Int → Option R) =>
    l_point_Search_Ask_linear o0 o0_1 o0_2
     (fun r1 r2 r3 r4 r5 =>
      bi (!r2)
       (K0 7 r3 r4 r5)
       (bi v
        (K0 0 r3 r1 (IntKind.i64.wrap (r5 + 1)))
        (K0 0 r1 r4 (IntKind.i64.wrap (r5 + 1)))))) v o0 o0_1 o0_2 (fun r0 r1 r2 r3 => K (.v (.int .i64 r0)) [.box 110 [.ifc 102 (.agg []), .v (.int .i64 r1), .v (.int .i64 r2), .v (.int .i64 r3)]]) := by kernel_rfl

theorem entry_point_Search_Tell_linear {R : Type} (K : AV → List O → Option R) (v : Bool) (o0 : Int) (o0_1 : Int) (o0_2 : Int) :
    fnRun Try.prog (T_point_Search_Tell @l_point_Search_Ask_linear @l_point_Search_Ask_binary @l_point_Search_Ask_exponential @l_point_binary_told @l_point_exponential_told) cuts_point_Search_Tell_linear Try.f32 0 [.ptr 0 0, .v (.bool v)] [.box 110 [.ifc 102 (.agg []), .v (.int .i64 o0), .v (.int .i64 o0_1), .v (.int .i64 o0_2)]] K =
    l_point_Search_Tell_linear v o0 o0_1 o0_2 (fun r0 r1 r2 r3 => K (.v (.int .i64 r0)) [.box 110 [.ifc 102 (.agg []), .v (.int .i64 r1), .v (.int .i64 r2), .v (.int .i64 r3)]]) := gentry_point_Search_Tell_linear @l_point_Search_Ask_linear @l_point_Search_Ask_binary @l_point_Search_Ask_exponential @l_point_binary_told @l_point_exponential_told K v o0 o0_1 o0_2

abbrev cuts_point_Search_Tell_binary : Cuts := []

theorem gentry_point_Search_Tell_binary (l_point_Search_Ask_linear : {R : Type} → Int → Int → Int → (Int → Bool → Int → Int → Int → Option R) → Option R) (l_point_Search_Ask_binary : {R : Type} → Int → Int → Int → (Int → Bool → Int → Int → Int → Option R) → Option R) (l_point_Search_Ask_exponential : {R : Type} → Int → Int → Int → Int → Bool → (Int → Bool → Int → Int → Int → Int → Bool → Option R) → Option R) (l_point_binary_told : {R : Type} → Bool → (Option R) → Option R) (l_point_exponential_told : {R : Type} → Bool → Int → Bool → (Int → Bool → Option R) → Option R) {R : Type} (K : AV → List O → Option R) (v : Bool) (o0 : Int) (o0_1 : Int) (o0_2 : Int) :
    fnRun Try.prog (T_point_Search_Tell @l_point_Search_Ask_linear @l_point_Search_Ask_binary @l_point_Search_Ask_exponential @l_point_binary_told @l_point_exponential_told) cuts_point_Search_Tell_binary Try.f32 0 [.ptr 0 0, .v (.bool v)] [.box 110 [.ifc 103 (.agg []), .v (.int .i64 o0), .v (.int .i64 o0_1), .v (.int .i64 o0_2)]] K =
    (fun (v : Bool) (o0 : Int) (o0_1 : Int) (o0_2 : Int) (K0 : Int → Int → Int → Int → Option R) =>
    l_point_Search_Ask_binary o0 o0_1 o0_2
     (fun r1 r2 r3 r4 r5 =>
      bi (!r2)
       (K0 7 r3 r4 r5)
       (bi v
        (l_point_binary_told v
         (K0 0 r3 r1 (IntKind.i64.wrap (r5 + 1))))
        (l_point_binary_told v
         (K0 0 r1 r4 (IntKind.i64.wrap (r5 + 1))))))) v o0 o0_1 o0_2 (fun r0 r1 r2 r3 => K (.v (.int .i64 r0)) [.box 110 [.ifc 103 (.agg []), .v (.int .i64 r1), .v (.int .i64 r2), .v (.int .i64 r3)]]) := by kernel_rfl

theorem entry_point_Search_Tell_binary {R : Type} (K : AV → List O → Option R) (v : Bool) (o0 : Int) (o0_1 : Int) (o0_2 : Int) :
    fnRun Try.prog (T_point_Search_Tell @l_point_Search_Ask_linear @l_point_Search_Ask_binary @l_point_Search_Ask_exponential @l_point_binary_told @l_point_exponential_told) cuts_point_Search_Tell_binary Try.f32 0 [.ptr 0 0, .v (.bool v)] [.box 110 [.ifc 103 (.agg []), .v (.int .i64 o0), .v (.int .i64 o0_1), .v (.int .i64 o0_2)]] K =
    l_point_Search_Tell_binary v o0 o0_1 o0_2 (fun r0 r1 r2 r3 => K (.v (.int .i64 r0)) [.box 110 [.ifc 103 (.agg []), .v (.int .i64 r1), .v (.int .i64 r2), .v (.int .i64 r3)]]) := gentry_point_Search_Tell_binary @l_point_Search_Ask_linear @l_point_Search_Ask_binary @l_point_Search_Ask_exponential @l_point_binary_told @l_point_exponential_told K v o0 o0_1 o0_2

abbrev cuts_point_Search_Tell_exponential : Cuts := []

theorem gentry_point_Search_Tell_exponential (l_point_Search_Ask_linear : {R : Type} → Int → Int → Int → (Int → Bool → Int → Int → Int → Option R) → Option R) (l_point_Search_Ask_binary : {R : Type} → Int → Int → Int → (Int → Bool → Int → Int → Int → Option R) → Option R) (l_point_Search_Ask_exponential : {R : Type} → Int → Int → Int → Int → Bool → (Int → Bool → Int → Int → Int → Int → Bool → Option R) → Option R) (l_point_binary_told : {R : Type} → Bool → (Option R) → Option R) (l_point_exponential_told : {R : Type} → Bool → Int → Bool → (Int → Bool → Option R) → Option R) {R : Type} (K : AV → List O → Option R) (v : Bool) (o0 : Int) (o0_1 : Int) (o0_2 : Int) (o1 : Int) (o1_1 : Bool) :
    fnRun Try.prog (T_point_Search_Tell @l_point_Search_Ask_linear @l_point_Search_Ask_binary @l_point_Search_Ask_exponential @l_point_binary_told @l_point_exponential_told) cuts_point_Search_Tell_exponential Try.f32 0 [.ptr 0 0, .v (.bool v)] [.box 110 [.ifc 104 (.ptr 1 0), .v (.int .i64 o0), .v (.int .i64 o0_1), .v (.int .i64 o0_2)], .box 106 [.v (.int .i64 o1), .v (.bool o1_1)]] K =
    (fun (v : Bool) (o0 : Int) (o0_1 : Int) (o0_2 : Int) (o1 : Int) (o1_1 : Bool) (K0 : Int → Int → Int → Int → Int → Bool → Option R) =>
    l_point_Search_Ask_exponential o0 o0_1 o0_2 o1 o1_1
     (fun r1 r2 r3 r4 r5 r6 r7 =>
      bi (!r2)
       (K0 7 r3 r4 r5 r6 r7)
       (bi v
        (l_point_exponential_told v r6 r7
         (fun r8 r9 =>
          K0 0 r3 r1 (IntKind.i64.wrap (r5 + 1)) r8 r9))
        (l_point_exponential_told v r6 r7
         (fun r10 r11 =>
          K0 0 r1 r4 (IntKind.i64.wrap (r5 + 1)) r10 r11))))) v o0 o0_1 o0_2 o1 o1_1 (fun r0 r1 r2 r3 r4 r5 => K (.v (.int .i64 r0)) [.box 110 [.ifc 104 (.ptr 1 0), .v (.int .i64 r1), .v (.int .i64 r2), .v (.int .i64 r3)], .box 106 [.v (.int .i64 r4), .v (.bool r5)]]) := by kernel_rfl

theorem entry_point_Search_Tell_exponential {R : Type} (K : AV → List O → Option R) (v : Bool) (o0 : Int) (o0_1 : Int) (o0_2 : Int) (o1 : Int) (o1_1 : Bool) :
    fnRun Try.prog (T_point_Search_Tell @l_point_Search_Ask_linear @l_point_Search_Ask_binary @l_point_Search_Ask_exponential @l_point_binary_told @l_point_exponential_told) cuts_point_Search_Tell_exponential Try.f32 0 [.ptr 0 0, .v (.bool v)] [.box 110 [.ifc 104 (.ptr 1 0), .v (.int .i64 o0), .v (.int .i64 o0_1), .v (.int .i64 o0_2)], .box 106 [.v (.int .i64 o1), .v (.bool o1_1)]] K =
    l_point_Search_Tell_exponential v o0 o0_1 o0_2 o1 o1_1 (fun r0 r1 r2 r3 r4 r5 => K (.v (.int .i64 r0)) [.box 110 [.ifc 104 (.ptr 1 0), .v (.int .i64 r1), .v (.int .i64 r2), .v (.int .i64 r3)], .box 106 [.v (.int .i64 r4), .v (.bool r5)]]) := gentry_point_Search_Tell_exponential @l_point_Search_Ask_linear @l_point_Search_Ask_binary @l_point_Search_Ask_exponential @l_point_binary_told @l_point_exponential_told K v o0 o0_1 o0_2 o1 o1_1

def S_point_Search_Tell (l_point_Search_Tell_linear : {R : Type} → Bool → Int → Int → Int → (Int → Int → Int → Int → Option R) → Option R) (l_point_Search_Tell_binary : {R : Type} → Bool → Int → Int → Int → (Int → Int → Int → Int → Option R) → Option R) (l_point_Search_Tell_exponential : {R : Type} → Bool → Int → Int → Int → Int → Bool → (Int → Int → Int → Int → Int → Bool → Option R) → Option R) : Sum := ⟨[], fun {R} args ob K => match args, ob with
  | [.ptr 0 0, .v (.bool v)], [.box 110 [.ifc 102 (.agg []), .v (.int .i64 o0), .v (.int .i64 o0_1), .v (.int .i64 o0_2)]] => l_point_Search_Tell_linear v o0 o0_1 o0_2 (fun r0 r1 r2 r3 => K (.v (.int .i64 r0)) [.box 110 [.ifc 102 (.agg []), .v (.int .i64 r1), .v (.int .i64 r2), .v (.int .i64 r3)]])
  | [.ptr 0 0, .v (.bool v)], [.box 110 [.ifc 103 (.agg []), .v (.int .i64 o0), .v (.int .i64 o0_1), .v (.int .i64 o0_2)]] => l_point_Search_Tell_binary v o0 o0_1 o0_2 (fun r0 r1 r2 r3 => K (.v (.int .i64 r0)) [.box 110 [.ifc 103 (.agg []), .v (.int .i64 r1), .v (.int .i64 r2), .v (.int .i64 r3)]])
  | [.ptr 0 0, .v (.bool v)], [.box 110 [.ifc 104 (.ptr 1 0), .v (.int .i64 o0), .v (.int .i64 o0_1), .v (.int .i64 o0_2)], .box 106 [.v (.int .i64 o1), .v (.bool o1_1)]] => l_point_Search_Tell_exponential v o0 o0_1 o0_2 o1 o1_1 (fun r0 r1 r2 r3 r4 r5 => K (.v (.int .i64 r0)) [.box 110 [.ifc 104 (.ptr 1 0), .v (.int .i64 r1), .v (.int .i64 r2), .v (.int .i64 r3)], .box 106 [.v (.int .i64 r4), .v (.bool r5)]])
  | _, _ => none⟩

theorem sound_point_Search_Tell : Sound Try.prog 32 (S_point_Search_Tell @l_point_Search_Tell_linear @l_point_Search_Tell_binary @l_point_Search_Tell_exponential) := by
  refine fn_sound (cuts := cuts_point_Search_Tell_linear) (fn := Try.f32) (Γ := (T_point_Search_Tell @l_point_Search_Ask_linear @l_point_Search_Ask_binary @l_point_Search_Ask_exponential @l_point_binary_told @l_point_exponential_told)) wide right_T_point_Search_Tell Try.func32 fun {R} K r args ob h => ?_
  unfold S_point_Search_Tell at h
  dsimp only at h
  split at h
  · exact ⟨Nat.le_of_ble_eq_true (by kernel_rfl), 0, (entry_point_Search_Tell_linear K _ _ _ _).trans h⟩
  · exact ⟨Nat.le_of_ble_eq_true (by kernel_rfl), 0, (entry_point_Search_Tell_binary K _ _ _ _).trans h⟩
  · exact ⟨Nat.le_of_ble_eq_true (by kernel_rfl), 0, (entry_point_Search_Tell_exponential K _ _ _ _ _ _).trans h⟩
  · cases h

theorem call_point_Search_Tell : Callable Try.prog 32 := ⟨_, Try.func32, by kernel_rfl, by kernel_rfl⟩

def T_point_Search_Found (l_point_Search_ended_linear : {R : Type} → Int → Int → Int → (Bool → Int → Int → Int → Option R) → Option R) (l_point_Search_ended_binary : {R : Type} → Int → Int → Int → (Bool → Int → Int → Int → Option R) → Option R) (l_point_Search_ended_exponential : {R : Type} → Int → Int → Int → Int → Bool → (Bool → Int → Int → Int → Int → Bool → Option R) → Option R) : FuncId → Option Sum := (addS G0 58 (S_point_Search_ended @l_point_Search_ended_linear @l_point_Search_ended_binary @l_point_Search_ended_exponential))

theorem right_T_point_Search_Found : Right Try.prog (T_point_Search_Found @l_point_Search_ended_linear @l_point_Search_ended_binary @l_point_Search_ended_exponential) := (right_add right_G0 call_point_Search_ended sound_point_Search_ended)

abbrev cuts_point_Search_Found_linear : Cuts := []

theorem gentry_point_Search_Found_linear (l_point_Search_ended_linear : {R : Type} → Int → Int → Int → (Bool → Int → Int → Int → Option R) → Option R) (l_point_Search_ended_binary : {R : Type} → Int → Int → Int → (Bool → Int → Int → Int → Option R) → Option R) (l_point_Search_ended_exponential : {R : Type} → Int → Int → Int → Int → Bool → (Bool → Int → Int → Int → Int → Bool → Option R) → Option R) {R : Type} (K : AV → List O → Option R) (o0 : Int) (o0_1 : Int) (o0_2 : Int) :
    fnRun Try.prog (T_point_Search_Found @l_point_Search_ended_linear @l_point_Search_ended_binary @l_point_Search_ended_exponential) cuts_point_Search_Found_linear Try.f30 0 [.ptr 0 0] [.box 110 [.ifc 102 (.agg []), .v (.int .i64 o0), .v (.int .i64 o0_1), .v (.int .i64 o0_2)]] K =
    (fun (o0 : Int) (o0_1 : Int) (o0_2 : Int) (K0 : Int → Bool → Int → Int → Int → Option R) =>
    l_point_Search_ended_linear o0 o0_1 o0_2
     (fun r1 r2 r3 r4 =>
      bi (!r1)
       (K0 0 false r2 r3 r4)
       (K0 r2 true r2 r3 r4))) o0 o0_1 o0_2 (fun r0 r1 r2 r3 r4 => K (.tup [.v (.int .i64 r0), .v (.bool r1)]) [.box 110 [.ifc 102 (.agg []), .v (.int .i64 r2), .v (.int .i64 r3), .v (.int .i64 r4)]]) := by kernel_rfl

theorem entry_point_Search_Found_linear {R : Type} (K : AV → List O → Option R) (o0 : Int) (o0_1 : Int) (o0_2 : Int) :
    fnRun Try.prog (T_point_Search_Found @l_point_Search_ended_linear @l_point_Search_ended_binary @l_point_Search_ended_exponential) cuts_point_Search_Found_linear Try.f30 0 [.ptr 0 0] [.box 110 [.ifc 102 (.agg []), .v (.int .i64 o0), .v (.int .i64 o0_1), .v (.int .i64 o0_2)]] K =
    l_point_Search_Found_linear o0 o0_1 o0_2 (fun r0 r1 r2 r3 r4 => K (.tup [.v (.int .i64 r0), .v (.bool r1)]) [.box 110 [.ifc 102 (.agg []), .v (.int .i64 r2), .v (.int .i64 r3), .v (.int .i64 r4)]]) := gentry_point_Search_Found_linear @l_point_Search_ended_linear @l_point_Search_ended_binary @l_point_Search_ended_exponential K o0 o0_1 o0_2

abbrev cuts_point_Search_Found_binary : Cuts := []

theorem gentry_point_Search_Found_binary (l_point_Search_ended_linear : {R : Type} → Int → Int → Int → (Bool → Int → Int → Int → Option R) → Option R) (l_point_Search_ended_binary : {R : Type} → Int → Int → Int → (Bool → Int → Int → Int → Option R) → Option R) (l_point_Search_ended_exponential : {R : Type} → Int → Int → Int → Int → Bool → (Bool → Int → Int → Int → Int → Bool → Option R) → Option R) {R : Type} (K : AV → List O → Option R) (o0 : Int) (o0_1 : Int) (o0_2 : Int) :
    fnRun Try.prog (T_point_Search_Found @l_point_Search_ended_linear @l_point_Search_ended_binary @l_point_Search_ended_exponential) cuts_point_Search_Found_binary Try.f30 0 [.ptr 0 0] [.box 110 [.ifc 103 (.agg []), .v (.int .i64 o0), .v (.int .i64 o0_1), .v (.int .i64 o0_2)]] K =
    (fun (o0 : Int) (o0_1 : Int) (o0_2 : Int) (K0 : Int → Bool → Int → Int → Int → Option R) =>
    l_point_Search_ended_binary o0 o0_1 o0_2
     (fun r1 r2 r3 r4 =>
      bi (!r1)
       (K0 0 false r2 r3 r4)
       (K0 r2 true r2 r3 r4))) o0 o0_1 o0_2 (fun r0 r1 r2 r3 r4 => K (.tup [.v (.int .i64 r0), .v (.bool r1)]) [.box 110 [.ifc 103 (.agg []), .v (.int .i64 r2), .v (.int .i64 r3), .v (.int .i64 r4)]]) := by kernel_rfl

theorem entry_point_Search_Found_binary {R : Type} (K : AV → List O → Option R) (o0 : Int) (o0_1 : Int) (o0_2 : Int) :
    fnRun Try.prog (T_point_Search_Found @l_point_Search_ended_linear @l_point_Search_ended_binary @l_point_Search_ended_exponential) cuts_point_Search_Found_binary Try.f30 0 [.ptr 0 0] [.box 110 [.ifc 103 (.agg []), .v (.int .i64 o0), .v (.int .i64 o0_1), .v (.int .i64 o0_2)]] K =
    l_point_Search_Found_binary o0 o0_1 o0_2 (fun r0 r1 r2 r3 r4 => K (.tup [.v (.int .i64 r0), .v (.bool r1)]) [.box 110 [.ifc 103 (.agg []), .v (.int .i64 r2), .v (.int .i64 r3), .v (.int .i64 r4)]]) := gentry_point_Search_Found_binary @l_point_Search_ended_linear @l_point_Search_ended_binary @l_point_Search_ended_exponential K o0 o0_1 o0_2

abbrev cuts_point_Search_Found_exponential : Cuts := []

theorem gentry_point_Search_Found_exponential (l_point_Search_ended_linear : {R : Type} → Int → Int → Int → (Bool → Int → Int → Int → Option R) → Option R) (l_point_Search_ended_binary : {R : Type} → Int → Int → Int → (Bool → Int → Int → Int → Option R) → Option R) (l_point_Search_ended_exponential : {R : Type} → Int → Int → Int → Int → Bool → (Bool → Int → Int → Int → Int → Bool → Option R) → Option R) {R : Type} (K : AV → List O → Option R) (o0 : Int) (o0_1 : Int) (o0_2 : Int) (o1 : Int) (o1_1 : Bool) :
    fnRun Try.prog (T_point_Search_Found @l_point_Search_ended_linear @l_point_Search_ended_binary @l_point_Search_ended_exponential) cuts_point_Search_Found_exponential Try.f30 0 [.ptr 0 0] [.box 110 [.ifc 104 (.ptr 1 0), .v (.int .i64 o0), .v (.int .i64 o0_1), .v (.int .i64 o0_2)], .box 106 [.v (.int .i64 o1), .v (.bool o1_1)]] K =
    (fun (o0 : Int) (o0_1 : Int) (o0_2 : Int) (o1 : Int) (o1_1 : Bool) (K0 : Int → Bool → Int → Int → Int → Int → Bool → Option R) =>
    l_point_Search_ended_exponential o0 o0_1 o0_2 o1 o1_1
     (fun r1 r2 r3 r4 r5 r6 =>
      bi (!r1)
       (K0 0 false r2 r3 r4 r5 r6)
       (K0 r2 true r2 r3 r4 r5 r6))) o0 o0_1 o0_2 o1 o1_1 (fun r0 r1 r2 r3 r4 r5 r6 => K (.tup [.v (.int .i64 r0), .v (.bool r1)]) [.box 110 [.ifc 104 (.ptr 1 0), .v (.int .i64 r2), .v (.int .i64 r3), .v (.int .i64 r4)], .box 106 [.v (.int .i64 r5), .v (.bool r6)]]) := by kernel_rfl

theorem entry_point_Search_Found_exponential {R : Type} (K : AV → List O → Option R) (o0 : Int) (o0_1 : Int) (o0_2 : Int) (o1 : Int) (o1_1 : Bool) :
    fnRun Try.prog (T_point_Search_Found @l_point_Search_ended_linear @l_point_Search_ended_binary @l_point_Search_ended_exponential) cuts_point_Search_Found_exponential Try.f30 0 [.ptr 0 0] [.box 110 [.ifc 104 (.ptr 1 0), .v (.int .i64 o0), .v (.int .i64 o0_1), .v (.int .i64 o0_2)], .box 106 [.v (.int .i64 o1), .v (.bool o1_1)]] K =
    l_point_Search_Found_exponential o0 o0_1 o0_2 o1 o1_1 (fun r0 r1 r2 r3 r4 r5 r6 => K (.tup [.v (.int .i64 r0), .v (.bool r1)]) [.box 110 [.ifc 104 (.ptr 1 0), .v (.int .i64 r2), .v (.int .i64 r3), .v (.int .i64 r4)], .box 106 [.v (.int .i64 r5), .v (.bool r6)]]) := gentry_point_Search_Found_exponential @l_point_Search_ended_linear @l_point_Search_ended_binary @l_point_Search_ended_exponential K o0 o0_1 o0_2 o1 o1_1

def S_point_Search_Found (l_point_Search_Found_linear : {R : Type} → Int → Int → Int → (Int → Bool → Int → Int → Int → Option R) → Option R) (l_point_Search_Found_binary : {R : Type} → Int → Int → Int → (Int → Bool → Int → Int → Int → Option R) → Option R) (l_point_Search_Found_exponential : {R : Type} → Int → Int → Int → Int → Bool → (Int → Bool → Int → Int → Int → Int → Bool → Option R) → Option R) : Sum := ⟨[], fun {R} args ob K => match args, ob with
  | [.ptr 0 0], [.box 110 [.ifc 102 (.agg []), .v (.int .i64 o0), .v (.int .i64 o0_1), .v (.int .i64 o0_2)]] => l_point_Search_Found_linear o0 o0_1 o0_2 (fun r0 r1 r2 r3 r4 => K (.tup [.v (.int .i64 r0), .v (.bool r1)]) [.box 110 [.ifc 102 (.agg []), .v (.int .i64 r2), .v (.int .i64 r3), .v (.int .i64 r4)]])
  | [.ptr 0 0], [.box 110 [.ifc 103 (.agg []), .v (.int .i64 o0), .v (.int .i64 o0_1), .v (.int .i64 o0_2)]] => l_point_Search_Found_binary o0 o0_1 o0_2 (fun r0 r1 r2 r3 r4 => K (.tup [.v (.int .i64 r0), .v (.bool r1)]) [.box 110 [.ifc 103 (.agg []), .v (.int .i64 r2), .v (.int .i64 r3), .v (.int .i64 r4)]])
  | [.ptr 0 0], [.box 110 [.ifc 104 (.ptr 1 0), .v (.int .i64 o0), .v (.int .i64 o0_1), .v (.int .i64 o0_2)], .box 106 [.v (.int .i64 o1), .v (.bool o1_1)]] => l_point_Search_Found_exponential o0 o0_1 o0_2 o1 o1_1 (fun r0 r1 r2 r3 r4 r5 r6 => K (.tup [.v (.int .i64 r0), .v (.bool r1)]) [.box 110 [.ifc 104 (.ptr 1 0), .v (.int .i64 r2), .v (.int .i64 r3), .v (.int .i64 r4)], .box 106 [.v (.int .i64 r5), .v (.bool r6)]])
  | _, _ => none⟩

theorem sound_point_Search_Found : Sound Try.prog 30 (S_point_Search_Found @l_point_Search_Found_linear @l_point_Search_Found_binary @l_point_Search_Found_exponential) := by
  refine fn_sound (cuts := cuts_point_Search_Found_linear) (fn := Try.f30) (Γ := (T_point_Search_Found @l_point_Search_ended_linear @l_point_Search_ended_binary @l_point_Search_ended_exponential)) wide right_T_point_Search_Found Try.func30 fun {R} K r args ob h => ?_
  unfold S_point_Search_Found at h
  dsimp only at h
  split at h
  · exact ⟨Nat.le_of_ble_eq_true (by kernel_rfl), 0, (entry_point_Search_Found_linear K _ _ _).trans h⟩
  · exact ⟨Nat.le_of_ble_eq_true (by kernel_rfl), 0, (entry_point_Search_Found_binary K _ _ _).trans h⟩
  · exact ⟨Nat.le_of_ble_eq_true (by kernel_rfl), 0, (entry_point_Search_Found_exponential K _ _ _ _ _).trans h⟩
  · cases h

theorem call_point_Search_Found : Callable Try.prog 30 := ⟨_, Try.func30, by kernel_rfl, by kernel_rfl⟩

def T_point_Search_Asked : FuncId → Option Sum := G0

theorem right_T_point_Search_Asked : Right Try.prog T_point_Search_Asked := right_G0

abbrev cuts_point_Search_Asked_linear : Cuts := []

theorem gentry_point_Search_Asked_linear {R : Type} (K : AV → List O → Option R) (o0 : Int) (o0_1 : Int) (o0_2 : Int) :
    fnRun Try.prog T_point_Search_Asked cuts_point_Search_Asked_linear Try.f31 0 [.ptr 0 0] [.box 110 [.ifc 102 (.agg []), .v (.int .i64 o0), .v (.int .i64 o0_1), .v (.int .i64 o0_2)]] K =
    (fun (o0 : Int) (o0_1 : Int) (o0_2 : Int) (K0 : Int → Int → Int → Int → Option R) =>
    K0 o0_2 o0 o0_1 o0_2) o0 o0_1 o0_2 (fun r0 r1 r2 r3 => K (.v (.int .i64 r0)) [.box 110 [.ifc 102 (.agg []), .v (.int .i64 r1), .v (.int .i64 r2), .v (.int .i64 r3)]]) := by kernel_rfl

theorem entry_point_Search_Asked_linear {R : Type} (K : AV → List O → Option R) (o0 : Int) (o0_1 : Int) (o0_2 : Int) :
    fnRun Try.prog T_point_Search_Asked cuts_point_Search_Asked_linear Try.f31 0 [.ptr 0 0] [.box 110 [.ifc 102 (.agg []), .v (.int .i64 o0), .v (.int .i64 o0_1), .v (.int .i64 o0_2)]] K =
    l_point_Search_Asked_linear o0 o0_1 o0_2 (fun r0 r1 r2 r3 => K (.v (.int .i64 r0)) [.box 110 [.ifc 102 (.agg []), .v (.int .i64 r1), .v (.int .i64 r2), .v (.int .i64 r3)]]) := gentry_point_Search_Asked_linear K o0 o0_1 o0_2

abbrev cuts_point_Search_Asked_binary : Cuts := []

theorem gentry_point_Search_Asked_binary {R : Type} (K : AV → List O → Option R) (o0 : Int) (o0_1 : Int) (o0_2 : Int) :
    fnRun Try.prog T_point_Search_Asked cuts_point_Search_Asked_binary Try.f31 0 [.ptr 0 0] [.box 110 [.ifc 103 (.agg []), .v (.int .i64 o0), .v (.int .i64 o0_1), .v (.int .i64 o0_2)]] K =
    (fun (o0 : Int) (o0_1 : Int) (o0_2 : Int) (K0 : Int → Int → Int → Int → Option R) =>
    K0 o0_2 o0 o0_1 o0_2) o0 o0_1 o0_2 (fun r0 r1 r2 r3 => K (.v (.int .i64 r0)) [.box 110 [.ifc 103 (.agg []), .v (.int .i64 r1), .v (.int .i64 r2), .v (.int .i64 r3)]]) := by kernel_rfl

theorem entry_point_Search_Asked_binary {R : Type} (K : AV → List O → Option R) (o0 : Int) (o0_1 : Int) (o0_2 : Int) :
    fnRun Try.prog T_point_Search_Asked cuts_point_Search_Asked_binary Try.f31 0 [.ptr 0 0] [.box 110 [.ifc 103 (.agg []), .v (.int .i64 o0), .v (.int .i64 o0_1), .v (.int .i64 o0_2)]] K =
    l_point_Search_Asked_binary o0 o0_1 o0_2 (fun r0 r1 r2 r3 => K (.v (.int .i64 r0)) [.box 110 [.ifc 103 (.agg []), .v (.int .i64 r1), .v (.int .i64 r2), .v (.int .i64 r3)]]) := gentry_point_Search_Asked_binary K o0 o0_1 o0_2

abbrev cuts_point_Search_Asked_exponential : Cuts := []

theorem gentry_point_Search_Asked_exponential {R : Type} (K : AV → List O → Option R) (o0 : Int) (o0_1 : Int) (o0_2 : Int) (o1 : Int) (o1_1 : Bool) :
    fnRun Try.prog T_point_Search_Asked cuts_point_Search_Asked_exponential Try.f31 0 [.ptr 0 0] [.box 110 [.ifc 104 (.ptr 1 0), .v (.int .i64 o0), .v (.int .i64 o0_1), .v (.int .i64 o0_2)], .box 106 [.v (.int .i64 o1), .v (.bool o1_1)]] K =
    (fun (o0 : Int) (o0_1 : Int) (o0_2 : Int) (o1 : Int) (o1_1 : Bool) (K0 : Int → Int → Int → Int → Int → Bool → Option R) =>
    K0 o0_2 o0 o0_1 o0_2 o1 o1_1) o0 o0_1 o0_2 o1 o1_1 (fun r0 r1 r2 r3 r4 r5 => K (.v (.int .i64 r0)) [.box 110 [.ifc 104 (.ptr 1 0), .v (.int .i64 r1), .v (.int .i64 r2), .v (.int .i64 r3)], .box 106 [.v (.int .i64 r4), .v (.bool r5)]]) := by kernel_rfl

theorem entry_point_Search_Asked_exponential {R : Type} (K : AV → List O → Option R) (o0 : Int) (o0_1 : Int) (o0_2 : Int) (o1 : Int) (o1_1 : Bool) :
    fnRun Try.prog T_point_Search_Asked cuts_point_Search_Asked_exponential Try.f31 0 [.ptr 0 0] [.box 110 [.ifc 104 (.ptr 1 0), .v (.int .i64 o0), .v (.int .i64 o0_1), .v (.int .i64 o0_2)], .box 106 [.v (.int .i64 o1), .v (.bool o1_1)]] K =
    l_point_Search_Asked_exponential o0 o0_1 o0_2 o1 o1_1 (fun r0 r1 r2 r3 r4 r5 => K (.v (.int .i64 r0)) [.box 110 [.ifc 104 (.ptr 1 0), .v (.int .i64 r1), .v (.int .i64 r2), .v (.int .i64 r3)], .box 106 [.v (.int .i64 r4), .v (.bool r5)]]) := gentry_point_Search_Asked_exponential K o0 o0_1 o0_2 o1 o1_1

def S_point_Search_Asked (l_point_Search_Asked_linear : {R : Type} → Int → Int → Int → (Int → Int → Int → Int → Option R) → Option R) (l_point_Search_Asked_binary : {R : Type} → Int → Int → Int → (Int → Int → Int → Int → Option R) → Option R) (l_point_Search_Asked_exponential : {R : Type} → Int → Int → Int → Int → Bool → (Int → Int → Int → Int → Int → Bool → Option R) → Option R) : Sum := ⟨[], fun {R} args ob K => match args, ob with
  | [.ptr 0 0], [.box 110 [.ifc 102 (.agg []), .v (.int .i64 o0), .v (.int .i64 o0_1), .v (.int .i64 o0_2)]] => l_point_Search_Asked_linear o0 o0_1 o0_2 (fun r0 r1 r2 r3 => K (.v (.int .i64 r0)) [.box 110 [.ifc 102 (.agg []), .v (.int .i64 r1), .v (.int .i64 r2), .v (.int .i64 r3)]])
  | [.ptr 0 0], [.box 110 [.ifc 103 (.agg []), .v (.int .i64 o0), .v (.int .i64 o0_1), .v (.int .i64 o0_2)]] => l_point_Search_Asked_binary o0 o0_1 o0_2 (fun r0 r1 r2 r3 => K (.v (.int .i64 r0)) [.box 110 [.ifc 103 (.agg []), .v (.int .i64 r1), .v (.int .i64 r2), .v (.int .i64 r3)]])
  | [.ptr 0 0], [.box 110 [.ifc 104 (.ptr 1 0), .v (.int .i64 o0), .v (.int .i64 o0_1), .v (.int .i64 o0_2)], .box 106 [.v (.int .i64 o1), .v (.bool o1_1)]] => l_point_Search_Asked_exponential o0 o0_1 o0_2 o1 o1_1 (fun r0 r1 r2 r3 r4 r5 => K (.v (.int .i64 r0)) [.box 110 [.ifc 104 (.ptr 1 0), .v (.int .i64 r1), .v (.int .i64 r2), .v (.int .i64 r3)], .box 106 [.v (.int .i64 r4), .v (.bool r5)]])
  | _, _ => none⟩

theorem sound_point_Search_Asked : Sound Try.prog 31 (S_point_Search_Asked @l_point_Search_Asked_linear @l_point_Search_Asked_binary @l_point_Search_Asked_exponential) := by
  refine fn_sound (cuts := cuts_point_Search_Asked_linear) (fn := Try.f31) (Γ := T_point_Search_Asked) wide right_T_point_Search_Asked Try.func31 fun {R} K r args ob h => ?_
  unfold S_point_Search_Asked at h
  dsimp only at h
  split at h
  · exact ⟨Nat.le_of_ble_eq_true (by kernel_rfl), 0, (entry_point_Search_Asked_linear K _ _ _).trans h⟩
  · exact ⟨Nat.le_of_ble_eq_true (by kernel_rfl), 0, (entry_point_Search_Asked_binary K _ _ _).trans h⟩
  · exact ⟨Nat.le_of_ble_eq_true (by kernel_rfl), 0, (entry_point_Search_Asked_exponential K _ _ _ _ _).trans h⟩
  · cases h

theorem call_point_Search_Asked : Callable Try.prog 31 := ⟨_, Try.func31, by kernel_rfl, by kernel_rfl⟩

def T_tutorlaw12_live (l_tutorlaw12_num : {R : Type} → Int → (Int → Option R) → Option R) (l_point_Search_Asked_linear : {R : Type} → Int → Int → Int → (Int → Int → Int → Int → Option R) → Option R) (l_point_Search_Asked_binary : {R : Type} → Int → Int → Int → (Int → Int → Int → Int → Option R) → Option R) (l_point_Search_Asked_exponential : {R : Type} → Int → Int → Int → Int → Bool → (Int → Int → Int → Int → Int → Bool → Option R) → Option R) (l_point_Search_Found_linear : {R : Type} → Int → Int → Int → (Int → Bool → Int → Int → Int → Option R) → Option R) (l_point_Search_Found_binary : {R : Type} → Int → Int → Int → (Int → Bool → Int → Int → Int → Option R) → Option R) (l_point_Search_Found_exponential : {R : Type} → Int → Int → Int → Int → Bool → (Int → Bool → Int → Int → Int → Int → Bool → Option R) → Option R) (l_point_Search_Tell_linear : {R : Type} → Bool → Int → Int → Int → (Int → Int → Int → Int → Option R) → Option R) (l_point_Search_Tell_binary : {R : Type} → Bool → Int → Int → Int → (Int → Int → Int → Int → Option R) → Option R) (l_point_Search_Tell_exponential : {R : Type} → Bool → Int → Int → Int → Int → Bool → (Int → Int → Int → Int → Int → Bool → Option R) → Option R) (l_point_Search_Ask_linear : {R : Type} → Int → Int → Int → (Int → Bool → Int → Int → Int → Option R) → Option R) (l_point_Search_Ask_binary : {R : Type} → Int → Int → Int → (Int → Bool → Int → Int → Int → Option R) → Option R) (l_point_Search_Ask_exponential : {R : Type} → Int → Int → Int → Int → Bool → (Int → Bool → Int → Int → Int → Int → Bool → Option R) → Option R) (l_point_New : {R : Type} → Int → Int → (Int → Option R) → (Int → Int → Int → Int → Option R) → (Int → Int → Int → Int → Option R) → (Int → Int → Int → Int → Int → Bool → Option R) → Option R) : FuncId → Option Sum := (addS (addS (addS (addS (addS (addS G0 26 (S_tutorlaw12_num @l_tutorlaw12_num)) 31 (S_point_Search_Asked @l_point_Search_Asked_linear @l_point_Search_Asked_binary @l_point_Search_Asked_exponential)) 30 (S_point_Search_Found @l_point_Search_Found_linear @l_point_Search_Found_binary @l_point_Search_Found_exponential)) 32 (S_point_Search_Tell @l_point_Search_Tell_linear @l_point_Search_Tell_binary @l_point_Search_Tell_exponential)) 28 (S_point_Search_Ask @l_point_Search_Ask_linear @l_point_Search_Ask_binary @l_point_Search_Ask_exponential)) 24 (S_point_New @l_point_New))

theorem right_T_tutorlaw12_live : Right Try.prog (T_tutorlaw12_live @l_tutorlaw12_num @l_point_Search_Asked_linear @l_point_Search_Asked_binary @l_point_Search_Asked_exponential @l_point_Search_Found_linear @l_point_Search_Found_binary @l_point_Search_Found_exponential @l_point_Search_Tell_linear @l_point_Search_Tell_binary @l_point_Search_Tell_exponential @l_point_Search_Ask_linear @l_point_Search_Ask_binary @l_point_Search_Ask_exponential @l_point_New) := (right_add (right_add (right_add (right_add (right_add (right_add right_G0 call_tutorlaw12_num sound_tutorlaw12_num) call_point_Search_Asked sound_point_Search_Asked) call_point_Search_Found sound_point_Search_Found) call_point_Search_Tell sound_point_Search_Tell) call_point_Search_Ask sound_point_Search_Ask) call_point_New sound_point_New)

abbrev cuts_tutorlaw12_live : Cuts := []

theorem gentry_tutorlaw12_live (l_tutorlaw12_num : {R : Type} → Int → (Int → Option R) → Option R) (l_point_Search_Asked_linear : {R : Type} → Int → Int → Int → (Int → Int → Int → Int → Option R) → Option R) (l_point_Search_Asked_binary : {R : Type} → Int → Int → Int → (Int → Int → Int → Int → Option R) → Option R) (l_point_Search_Asked_exponential : {R : Type} → Int → Int → Int → Int → Bool → (Int → Int → Int → Int → Int → Bool → Option R) → Option R) (l_point_Search_Found_linear : {R : Type} → Int → Int → Int → (Int → Bool → Int → Int → Int → Option R) → Option R) (l_point_Search_Found_binary : {R : Type} → Int → Int → Int → (Int → Bool → Int → Int → Int → Option R) → Option R) (l_point_Search_Found_exponential : {R : Type} → Int → Int → Int → Int → Bool → (Int → Bool → Int → Int → Int → Int → Bool → Option R) → Option R) (l_point_Search_Tell_linear : {R : Type} → Bool → Int → Int → Int → (Int → Int → Int → Int → Option R) → Option R) (l_point_Search_Tell_binary : {R : Type} → Bool → Int → Int → Int → (Int → Int → Int → Int → Option R) → Option R) (l_point_Search_Tell_exponential : {R : Type} → Bool → Int → Int → Int → Int → Bool → (Int → Int → Int → Int → Int → Bool → Option R) → Option R) (l_point_Search_Ask_linear : {R : Type} → Int → Int → Int → (Int → Bool → Int → Int → Int → Option R) → Option R) (l_point_Search_Ask_binary : {R : Type} → Int → Int → Int → (Int → Bool → Int → Int → Int → Option R) → Option R) (l_point_Search_Ask_exponential : {R : Type} → Int → Int → Int → Int → Bool → (Int → Bool → Int → Int → Int → Int → Bool → Option R) → Option R) (l_point_New : {R : Type} → Int → Int → (Int → Option R) → (Int → Int → Int → Int → Option R) → (Int → Int → Int → Int → Option R) → (Int → Int → Int → Int → Int → Bool → Option R) → Option R) {R : Type} (K : AV → List O → Option R)  :
    fnRun Try.prog (T_tutorlaw12_live @l_tutorlaw12_num @l_point_Search_Asked_linear @l_point_Search_Asked_binary @l_point_Search_Asked_exponential @l_point_Search_Found_linear @l_point_Search_Found_binary @l_point_Search_Found_exponential @l_point_Search_Tell_linear @l_point_Search_Tell_binary @l_point_Search_Tell_exponential @l_point_Search_Ask_linear @l_point_Search_Ask_binary @l_point_Search_Ask_exponential @l_point_New) cuts_tutorlaw12_live Try.f27 0 [] [] K =
    (fun  (K0 : Bool → Option R) =>
    l_point_New 2 8
     (fun r1 =>
      l_tutorlaw12_num r1
       (fun r2 =>
        bi (r2 != 0)
         (K0 false)
         (K0 false)))
     (fun r3 r4 r5 r6 =>
      l_tutorlaw12_num r3
       (fun r7 =>
        bi (r7 != 0)
         (K0 false)
         (l_point_Search_Ask_linear r4 r5 r6
          (fun r8 r9 r10 r11 r12 =>
           l_point_Search_Tell_linear true r10 r11 r12
            (fun r13 r14 r15 r16 =>
             l_point_Search_Ask_linear r14 r15 r16
              (fun r17 r18 r19 r20 r21 =>
               l_point_Search_Tell_linear false r19 r20 r21
                (fun r22 r23 r24 r25 =>
                 l_point_Search_Ask_linear r23 r24 r25
                  (fun r26 r27 r28 r29 r30 =>
                   l_point_Search_Tell_linear false r28 r29 r30
                    (fun r31 r32 r33 r34 =>
                     l_point_Search_Found_linear r32 r33 r34
                      (fun r35 r36 r37 r38 r39 =>
                       bi (r8 == 4)
                        (bi (r17 == 2)
                         (bi (r26 == 3)
                          (bi (r35 == 3)
                           (bi r36
                            (l_point_Search_Asked_linear r37 r38 r39
                             (fun r40 r41 r42 r43 =>
                              K0 (r40 == 3)))
                            (K0 false))
                           (K0 false))
                          (K0 false))
                         (K0 false))
                        (K0 false)))))))))))
     (fun r44 r45 r46 r47 =>
      l_tutorlaw12_num r44
       (fun r48 =>
        bi (r48 != 0)
         (K0 false)
         (l_point_Search_Ask_binary r45 r46 r47
          (fun r49 r50 r51 r52 r53 =>
           l_point_Search_Tell_binary true r51 r52 r53
            (fun r54 r55 r56 r57 =>
             l_point_Search_Ask_binary r55 r56 r57
              (fun r58 r59 r60 r61 r62 =>
               l_point_Search_Tell_binary false r60 r61 r62
                (fun r63 r64 r65 r66 =>
                 l_point_Search_Ask_binary r64 r65 r66
                  (fun r67 r68 r69 r70 r71 =>
                   l_point_Search_Tell_binary false r69 r70 r71
                    (fun r72 r73 r74 r75 =>
                     l_point_Search_Found_binary r73 r74 r75
                      (fun r76 r77 r78 r79 r80 =>
                       bi (r49 == 4)
                        (bi (r58 == 2)
                         (bi (r67 == 3)
                          (bi (r76 == 3)
                           (bi r77
                            (l_point_Search_Asked_binary r78 r79 r80
                             (fun r81 r82 r83 r84 =>
                              K0 (r81 == 3)))
                            (K0 false))
                           (K0 false))
                          (K0 false))
                         (K0 false))
                        (K0 false)))))))))))
     (fun r85 r86 r87 r88 r89 r90 =>
      l_tutorlaw12_num r85
       (fun r91 =>
        bi (r91 != 0)
         (K0 false)
         (l_point_Search_Ask_exponential r86 r87 r88 r89 r90
          (fun r92 r93 r94 r95 r96 r97 r98 =>
           l_point_Search_Tell_exponential true r94 r95 r96 r97 r98
            (fun r99 r100 r101 r102 r103 r104 =>
             l_point_Search_Ask_exponential r100 r101 r102 r103 r104
              (fun r105 r106 r107 r108 r109 r110 r111 =>
               l_point_Search_Tell_exponential false r107 r108 r109 r110 r111
                (fun r112 r113 r114 r115 r116 r117 =>
                 l_point_Search_Ask_exponential r113 r114 r115 r116 r117
                  (fun r118 r119 r120 r121 r122 r123 r124 =>
                   l_point_Search_Tell_exponential false r120 r121 r122 r123 r124
                    (fun r125 r126 r127 r128 r129 r130 =>
                     l_point_Search_Found_exponential r126 r127 r128 r129 r130
                      (fun r131 r132 r133 r134 r135 r136 r137 =>
                       bi (r92 == 4)
                        (bi (r105 == 2)
                         (bi (r118 == 3)
                          (bi (r131 == 3)
                           (bi r132
                            (l_point_Search_Asked_exponential r133 r134 r135 r136 r137
                             (fun r138 r139 r140 r141 r142 r143 =>
                              K0 (r138 == 3)))
                            (K0 false))
                           (K0 false))
                          (K0 false))
                         (K0 false))
                        (K0 false))))))))))))  (fun r0 => K (.v (.bool r0)) []) := by kernel_rfl

theorem entry_tutorlaw12_live {R : Type} (K : AV → List O → Option R)  :
    fnRun Try.prog (T_tutorlaw12_live @l_tutorlaw12_num @l_point_Search_Asked_linear @l_point_Search_Asked_binary @l_point_Search_Asked_exponential @l_point_Search_Found_linear @l_point_Search_Found_binary @l_point_Search_Found_exponential @l_point_Search_Tell_linear @l_point_Search_Tell_binary @l_point_Search_Tell_exponential @l_point_Search_Ask_linear @l_point_Search_Ask_binary @l_point_Search_Ask_exponential @l_point_New) cuts_tutorlaw12_live Try.f27 0 [] [] K =
    l_tutorlaw12_live  (fun r0 => K (.v (.bool r0)) []) := gentry_tutorlaw12_live @l_tutorlaw12_num @l_point_Search_Asked_linear @l_point_Search_Asked_binary @l_point_Search_Asked_exponential @l_point_Search_Found_linear @l_point_Search_Found_binary @l_point_Search_Found_exponential @l_point_Search_Tell_linear @l_point_Search_Tell_binary @l_point_Search_Tell_exponential @l_point_Search_Ask_linear @l_point_Search_Ask_binary @l_point_Search_Ask_exponential @l_point_New K 

def S_tutorlaw12_live (l_tutorlaw12_live : {R : Type} → (Bool → Option R) → Option R) : Sum := ⟨[], fun {R} args ob K => match args, ob with
  | [], [] => l_tutorlaw12_live  (fun r0 => K (.v (.bool r0)) [])
  | _, _ => none⟩

theorem sound_tutorlaw12_live : Sound Try.prog 27 (S_tutorlaw12_live @l_tutorlaw12_live) := by
  refine fn_sound (cuts := cuts_tutorlaw12_live) (fn := Try.f27) (Γ := (T_tutorlaw12_live @l_tutorlaw12_num @l_point_Search_Asked_linear @l_point_Search_Asked_binary @l_point_Search_Asked_exponential @l_point_Search_Found_linear @l_point_Search_Found_binary @l_point_Search_Found_exponential @l_point_Search_Tell_linear @l_point_Search_Tell_binary @l_point_Search_Tell_exponential @l_point_Search_Ask_linear @l_point_Search_Ask_binary @l_point_Search_Ask_exponential @l_point_New)) wide right_T_tutorlaw12_live Try.func27 fun {R} K r args ob h => ?_
  unfold S_tutorlaw12_live at h
  dsimp only at h
  split at h
  · exact ⟨Nat.le_of_ble_eq_true (by kernel_rfl), 0, (entry_tutorlaw12_live K).trans h⟩
  · cases h

theorem call_tutorlaw12_live : Callable Try.prog 27 := ⟨_, Try.func27, by kernel_rfl, by kernel_rfl⟩

def T_tutorref12_Digits : FuncId → Option Sum := G0

theorem right_T_tutorref12_Digits : Right Try.prog T_tutorref12_Digits := right_G0

abbrev cuts_tutorref12_Digits : Cuts := [(2, [0, 3])]

theorem gstep_tutorref12_Digits_2 {R : Type} (g : List Item → St → Option R) (K : AV → List O → Option R) (n : Int) (k : Int) :
    runSeg Try.prog T_tutorref12_Digits cuts_tutorref12_Digits 0 g (finish Try.prog Try.f35 0 K) (at' Try.f35 2) ⟨fr0 11 [(0, .v (.int .i64 n)), (3, .v (.int .i64 k))], []⟩ =
    (fun (g35_2 : Int → Int → Option R) (K0 : Int → Option R) (n : Int) (k : Int) =>
    bi (decide (n > 0))
     (g35_2 (IntKind.i64.wrap (n.tdiv 2)) (IntKind.i64.wrap (k + 1)))
     (K0 k)) (fun n k => g (at' Try.f35 2) ⟨fr0 11 [(0, .v (.int .i64 n)), (3, .v (.int .i64 k))], []⟩) (fun r0 => K (.v (.int .i64 r0)) []) n k := by kernel_rfl

theorem step_tutorref12_Digits_2 {R : Type} (g : List Item → St → Option R) (K : AV → List O → Option R) (n : Int) (k : Int) :
    runSeg Try.prog T_tutorref12_Digits cuts_tutorref12_Digits 0 g (finish Try.prog Try.f35 0 K) (at' Try.f35 2) ⟨fr0 11 [(0, .v (.int .i64 n)), (3, .v (.int .i64 k))], []⟩ =
    s_tutorref12_Digits_2 (fun n k => g (at' Try.f35 2) ⟨fr0 11 [(0, .v (.int .i64 n)), (3, .v (.int .i64 k))], []⟩) (fun r0 => K (.v (.int .i64 r0)) []) n k := gstep_tutorref12_Digits_2 g K n k

theorem gentry_tutorref12_Digits {R : Type} (fuel : Nat) (K : AV → List O → Option R) (n : Int) :
    fnRun Try.prog T_tutorref12_Digits cuts_tutorref12_Digits Try.f35 fuel [.v (.int .i64 n)] [] K =
    (fun (g35_2 : Int → Int → Option R) (K0 : Int → Option R) (n : Int) =>
    g35_2 n 0) (fun n k => (runO Try.prog T_tutorref12_Digits cuts_tutorref12_Digits 0 (finish Try.prog Try.f35 0 K) fuel) (at' Try.f35 2) ⟨fr0 11 [(0, .v (.int .i64 n)), (3, .v (.int .i64 k))], []⟩) (fun r0 => K (.v (.int .i64 r0)) []) n := by kernel_rfl

theorem entry_tutorref12_Digits {R : Type} (fuel : Nat) (K : AV → List O → Option R) (n : Int) :
    fnRun Try.prog T_tutorref12_Digits cuts_tutorref12_Digits Try.f35 fuel [.v (.int .i64 n)] [] K =
    e_tutorref12_Digits (fun n k => (runO Try.prog T_tutorref12_Digits cuts_tutorref12_Digits 0 (finish Try.prog Try.f35 0 K) fuel) (at' Try.f35 2) ⟨fr0 11 [(0, .v (.int .i64 n)), (3, .v (.int .i64 k))], []⟩) (fun r0 => K (.v (.int .i64 r0)) []) n := gentry_tutorref12_Digits fuel K n

theorem runs_tutorref12_Digits {R : Type} (K : AV → List O → Option R) : ∀ fuel : Nat,
    (fun n k => (runO Try.prog T_tutorref12_Digits cuts_tutorref12_Digits 0 (finish Try.prog Try.f35 0 K) fuel) (at' Try.f35 2) ⟨fr0 11 [(0, .v (.int .i64 n)), (3, .v (.int .i64 k))], []⟩) = (run_tutorref12_Digits (fun r0 => K (.v (.int .i64 r0)) []) fuel)
  | 0 => rfl
  | fuel + 1 => by
    have ih := runs_tutorref12_Digits K fuel
    funext n k
    refine (step_tutorref12_Digits_2 _ K n k).trans ?_
    rw [ih]
    rfl

def S_tutorref12_Digits (l_tutorref12_Digits : {R : Type} → Int → (Int → Option R) → Option R) : Sum := ⟨[], fun {R} args ob K => match args, ob with
  | [.v (.int .i64 n)], [] => l_tutorref12_Digits n (fun r0 => K (.v (.int .i64 r0)) [])
  | _, _ => none⟩

theorem sound_tutorref12_Digits : Sound Try.prog 35 (S_tutorref12_Digits @l_tutorref12_Digits) := by
  refine fn_sound (cuts := cuts_tutorref12_Digits) (fn := Try.f35) (Γ := T_tutorref12_Digits) wide right_T_tutorref12_Digits Try.func35 fun {R} K r args ob h => ?_
  unfold S_tutorref12_Digits at h
  dsimp only at h
  split at h
  · obtain ⟨n, hn⟩ := ok_tutorref12_Digits _ _ h
    refine ⟨Nat.le_of_ble_eq_true (by kernel_rfl), n, (entry_tutorref12_Digits n K _).trans ?_⟩
    rw [(runs_tutorref12_Digits K n)]
    exact hn
  · cases h

theorem call_tutorref12_Digits : Callable Try.prog 35 := ⟨_, Try.func35, by kernel_rfl, by kernel_rfl⟩

def T_tutorlaw12_told : FuncId → Option Sum := G0

theorem right_T_tutorlaw12_told : Right Try.prog T_tutorlaw12_told := right_G0

abbrev cuts_tutorlaw12_told : Cuts := []

theorem gentry_tutorlaw12_told {R : Type} (K : AV → List O → Option R) (v : List Bool) (i : Int) :
    fnRun Try.prog T_tutorlaw12_told cuts_tutorlaw12_told Try.f33 0 [.rd ⟨false, 4, .bool, v⟩, .v (.int .i64 i)] [] K =
    (fun (v : List Bool) (i : Int) (K0 : Bool → Option R) =>
    bi (decide ((v.length : Int) > 0))
     (bi (decide ((v.length : Int) = 0))
      none
      (bi (decide (0 ≤ (i.tmod (v.length : Int)) ∧ (i.tmod (v.length : Int)) < ((v.length : Nat) : Int)))
       (K0 (v.getD ((i.tmod (v.length : Int)).toNat) false))
       none))
     (K0 false)) v i (fun r0 => K (.v (.bool r0)) []) := by kernel_rfl

theorem entry_tutorlaw12_told {R : Type} (K : AV → List O → Option R) (v : List Bool) (i : Int) :
    fnRun Try.prog T_tutorlaw12_told cuts_tutorlaw12_told Try.f33 0 [.rd ⟨false, 4, .bool, v⟩, .v (.int .i64 i)] [] K =
    l_tutorlaw12_told v i (fun r0 => K (.v (.bool r0)) []) := gentry_tutorlaw12_told K v i

def S_tutorlaw12_told (l_tutorlaw12_told : {R : Type} → (List Bool) → Int → (Bool → Option R) → Option R) : Sum := ⟨[], fun {R} args ob K => match args, ob with
  | [.rd ⟨false, 4, .bool, v⟩, .v (.int .i64 i)], [] => l_tutorlaw12_told v i (fun r0 => K (.v (.bool r0)) [])
  | _, _ => none⟩

theorem sound_tutorlaw12_told : Sound Try.prog 33 (S_tutorlaw12_told @l_tutorlaw12_told) := by
  refine fn_sound (cuts := cuts_tutorlaw12_told) (fn := Try.f33) (Γ := T_tutorlaw12_told) wide right_T_tutorlaw12_told Try.func33 fun {R} K r args ob h => ?_
  unfold S_tutorlaw12_told at h
  dsimp only at h
  split at h
  · exact ⟨Nat.le_of_ble_eq_true (by kernel_rfl), 0, (entry_tutorlaw12_told K _ _).trans h⟩
  · cases h

theorem call_tutorlaw12_told : Callable Try.prog 33 := ⟨_, Try.func33, by kernel_rfl, by kernel_rfl⟩

def T_tutorlaw12_PointFinds (l_tutorlaw12_live : {R : Type} → (Bool → Option R) → Option R) (l_tutorlaw12_num : {R : Type} → Int → (Int → Option R) → Option R) (l_point_New : {R : Type} → Int → Int → (Int → Option R) → (Int → Int → Int → Int → Option R) → (Int → Int → Int → Int → Option R) → (Int → Int → Int → Int → Int → Bool → Option R) → Option R) (l_point_Search_Asked_linear : {R : Type} → Int → Int → Int → (Int → Int → Int → Int → Option R) → Option R) (l_point_Search_Asked_binary : {R : Type} → Int → Int → Int → (Int → Int → Int → Int → Option R) → Option R) (l_point_Search_Asked_exponential : {R : Type} → Int → Int → Int → Int → Bool → (Int → Int → Int → Int → Int → Bool → Option R) → Option R) (l_tutorref12_Digits : {R : Type} → Int → (Int → Option R) → Option R) (l_point_Search_Found_linear : {R : Type} → Int → Int → Int → (Int → Bool → Int → Int → Int → Option R) → Option R) (l_point_Search_Found_binary : {R : Type} → Int → Int → Int → (Int → Bool → Int → Int → Int → Option R) → Option R) (l_point_Search_Found_exponential : {R : Type} → Int → Int → Int → Int → Bool → (Int → Bool → Int → Int → Int → Int → Bool → Option R) → Option R) (l_tutorlaw12_told : {R : Type} → (List Bool) → Int → (Bool → Option R) → Option R) (l_point_Search_Tell_linear : {R : Type} → Bool → Int → Int → Int → (Int → Int → Int → Int → Option R) → Option R) (l_point_Search_Tell_binary : {R : Type} → Bool → Int → Int → Int → (Int → Int → Int → Int → Option R) → Option R) (l_point_Search_Tell_exponential : {R : Type} → Bool → Int → Int → Int → Int → Bool → (Int → Int → Int → Int → Int → Bool → Option R) → Option R) (l_point_Search_Ask_linear : {R : Type} → Int → Int → Int → (Int → Bool → Int → Int → Int → Option R) → Option R) (l_point_Search_Ask_binary : {R : Type} → Int → Int → Int → (Int → Bool → Int → Int → Int → Option R) → Option R) (l_point_Search_Ask_exponential : {R : Type} → Int → Int → Int → Int → Bool → (Int → Bool → Int → Int → Int → Int → Bool → Option R) → Option R) : FuncId → Option Sum := (addS (addS (addS (addS (addS (addS (addS (addS (addS G0 27 (S_tutorlaw12_live @l_tutorlaw12_live)) 26 (S_tutorlaw12_num @l_tutorlaw12_num)) 24 (S_point_New @l_point_New)) 31 (S_point_Search_Asked @l_point_Search_Asked_linear @l_point_Search_Asked_binary @l_point_Search_Asked_exponential)) 35 (S_tutorref12_Digits @l_tutorref12_Digits)) 30 (S_point_Search_Found @l_point_Search_Found_linear @l_point_Search_Found_binary @l_point_Search_Found_exponential)) 33 (S_tutorlaw12_told @l_tutorlaw12_told)) 32 (S_point_Search_Tell @l_point_Search_Tell_linear @l_point_Search_Tell_binary @l_point_Search_Tell_exponential)) 28 (S_point_Search_Ask @l_point_Search_Ask_linear @l_point_Search_Ask_binary @l_point_Search_Ask_exponential))

theorem right_T_tutorlaw12_PointFinds : Right Try.prog (T_tutorlaw12_PointFinds @l_tutorlaw12_live @l_tutorlaw12_num @l_point_New @l_point_Search_Asked_linear @l_point_Search_Asked_binary @l_point_Search_Asked_exponential @l_tutorref12_Digits @l_point_Search_Found_linear @l_point_Search_Found_binary @l_point_Search_Found_exponential @l_tutorlaw12_told @l_point_Search_Tell_linear @l_point_Search_Tell_binary @l_point_Search_Tell_exponential @l_point_Search_Ask_linear @l_point_Search_Ask_binary @l_point_Search_Ask_exponential) := (right_add (right_add (right_add (right_add (right_add (right_add (right_add (right_add (right_add right_G0 call_tutorlaw12_live sound_tutorlaw12_live) call_tutorlaw12_num sound_tutorlaw12_num) call_point_New sound_point_New) call_point_Search_Asked sound_point_Search_Asked) call_tutorref12_Digits sound_tutorref12_Digits) call_point_Search_Found sound_point_Search_Found) call_tutorlaw12_told sound_tutorlaw12_told) call_point_Search_Tell sound_point_Search_Tell) call_point_Search_Ask sound_point_Search_Ask)

abbrev cuts_tutorlaw12_PointFinds : Cuts := [(10, [1, 2, 7, 8, 10, 11])]

theorem gstep_tutorlaw12_PointFinds_10a (l_tutorlaw12_live : {R : Type} → (Bool → Option R) → Option R) (l_tutorlaw12_num : {R : Type} → Int → (Int → Option R) → Option R) (l_point_New : {R : Type} → Int → Int → (Int → Option R) → (Int → Int → Int → Int → Option R) → (Int → Int → Int → Int → Option R) → (Int → Int → Int → Int → Int → Bool → Option R) → Option R) (l_point_Search_Asked_linear : {R : Type} → Int → Int → Int → (Int → Int → Int → Int → Option R) → Option R) (l_point_Search_Asked_binary : {R : Type} → Int → Int → Int → (Int → Int → Int → Int → Option R) → Option R) (l_point_Search_Asked_exponential : {R : Type} → Int → Int → Int → Int → Bool → (Int → Int → Int → Int → Int → Bool → Option R) → Option R) (l_tutorref12_Digits : {R : Type} → Int → (Int → Option R) → Option R) (l_point_Search_Found_linear : {R : Type} → Int → Int → Int → (Int → Bool → Int → Int → Int → Option R) → Option R) (l_point_Search_Found_binary : {R : Type} → Int → Int → Int → (Int → Bool → Int → Int → Int → Option R) → Option R) (l_point_Search_Found_exponential : {R : Type} → Int → Int → Int → Int → Bool → (Int → Bool → Int → Int → Int → Int → Bool → Option R) → Option R) (l_tutorlaw12_told : {R : Type} → (List Bool) → Int → (Bool → Option R) → Option R) (l_point_Search_Tell_linear : {R : Type} → Bool → Int → Int → Int → (Int → Int → Int → Int → Option R) → Option R) (l_point_Search_Tell_binary : {R : Type} → Bool → Int → Int → Int → (Int → Int → Int → Int → Option R) → Option R) (l_point_Search_Tell_exponential : {R : Type} → Bool → Int → Int → Int → Int → Bool → (Int → Int → Int → Int → Int → Bool → Option R) → Option R) (l_point_Search_Ask_linear : {R : Type} → Int → Int → Int → (Int → Bool → Int → Int → Int → Option R) → Option R) (l_point_Search_Ask_binary : {R : Type} → Int → Int → Int → (Int → Bool → Int → Int → Int → Option R) → Option R) (l_point_Search_Ask_exponential : {R : Type} → Int → Int → Int → Int → Bool → (Int → Bool → Int → Int → Int → Int → Bool → Option R) → Option R) {R : Type} (g : List Item → St → Option R) (K : AV → List O → Option R) (n : Int) (v : List Bool) (h : Int) (i : Int) (o0 : Int) (o0_1 : Int) (o0_2 : Int) (o1 : List Int) :
    runSeg Try.prog (T_tutorlaw12_PointFinds @l_tutorlaw12_live @l_tutorlaw12_num @l_point_New @l_point_Search_Asked_linear @l_point_Search_Asked_binary @l_point_Search_Asked_exponential @l_tutorref12_Digits @l_point_Search_Found_linear @l_point_Search_Found_binary @l_point_Search_Found_exponential @l_tutorlaw12_told @l_point_Search_Tell_linear @l_point_Search_Tell_binary @l_point_Search_Tell_exponential @l_point_Search_Ask_linear @l_point_Search_Ask_binary @l_point_Search_Ask_exponential) cuts_tutorlaw12_PointFinds 0 g (finish Try.prog Try.f6 0 K) (at' Try.f6 10) ⟨fr0 145 [(1, .v (.int .i64 n)), (2, .rd ⟨false, 4, .bool, v⟩), (7, .v (.int .i64 h)), (8, .ptr 0 0), (10, .own 1), (11, .v (.int .i64 i))], [.box 110 [.ifc 102 (.agg []), .v (.int .i64 o0), .v (.int .i64 o0_1), .v (.int .i64 o0_2)], .row ⟨true, 3, (.int .i64), o1⟩]⟩ =
    (fun (g6_10 : Int → (List Bool) → Int → Int → Int → Int → Int → (List Int) → Option R) (g6_10b : Int → (List Bool) → Int → Int → Int → Int → Int → (List Int) → Option R) (g6_10c : Int → (List Bool) → Int → Int → Int → Int → Int → Int → Bool → (List Int) → Option R) (K0 : Bool → Option R) (n : Int) (v : List Bool) (h : Int) (i : Int) (o0 : Int) (o0_1 : Int) (o0_2 : Int) (o1 : List Int) =>
    bi (decide (i ≤ n))
     (l_point_Search_Ask_linear o0 o0_1 o0_2
      (fun r22 r23 r24 r25 r26 =>
       bi (!r23)
        (l_point_Search_Found_linear r24 r25 r26
         (fun r27 r28 r29 r30 r31 =>
          bi (h == 2)
           (l_tutorref12_Digits (IntKind.i64.wrap (n - 1))
            (fun r32 =>
             bi (h == 3)
              (l_tutorref12_Digits n
               (fun r33 =>
                bi r28
                 (bi (decide (r27 ≥ 0))
                  (bi (decide (r27 < n))
                   (bi (decide (0 ≤ r27 ∧ r27 < ((o1.length : Nat) : Int)))
                    (bi ((o1.getD r27.toNat 0) == 1)
                     (bi (decide (0 ≤ (IntKind.i64.wrap (r27 + 1)) ∧ (IntKind.i64.wrap (r27 + 1)) < ((o1.length : Nat) : Int)))
                      (bi ((o1.getD ((IntKind.i64.wrap (r27 + 1)).toNat) 0) == 2)
                       (l_point_Search_Asked_linear r29 r30 r31
                        (fun r34 r35 r36 r37 =>
                         bi (decide (r34 ≤ (IntKind.i64.wrap ((IntKind.i64.wrap (2 * r33)) + 1))))
                          (l_tutorlaw12_live
                           (fun r38 =>
                            K0 r38))
                          (K0 false)))
                       (K0 false))
                      none)
                     (K0 false))
                    none)
                   (K0 false))
                  (K0 false))
                 (K0 false)))
              (bi r28
               (bi (decide (r27 ≥ 0))
                (bi (decide (r27 < n))
                 (bi (decide (0 ≤ r27 ∧ r27 < ((o1.length : Nat) : Int)))
                  (bi ((o1.getD r27.toNat 0) == 1)
                   (bi (decide (0 ≤ (IntKind.i64.wrap (r27 + 1)) ∧ (IntKind.i64.wrap (r27 + 1)) < ((o1.length : Nat) : Int)))
                    (bi ((o1.getD ((IntKind.i64.wrap (r27 + 1)).toNat) 0) == 2)
                     (l_point_Search_Asked_linear r29 r30 r31
                      (fun r39 r40 r41 r42 =>
                       bi (decide (r39 ≤ r32))
                        (l_tutorlaw12_live
                         (fun r43 =>
                          K0 r43))
                        (K0 false)))
                     (K0 false))
                    none)
                   (K0 false))
                  none)
                 (K0 false))
                (K0 false))
               (K0 false))))
           (bi (h == 3)
            (l_tutorref12_Digits n
             (fun r44 =>
              bi r28
               (bi (decide (r27 ≥ 0))
                (bi (decide (r27 < n))
                 (bi (decide (0 ≤ r27 ∧ r27 < ((o1.length : Nat) : Int)))
                  (bi ((o1.getD r27.toNat 0) == 1)
                   (bi (decide (0 ≤ (IntKind.i64.wrap (r27 + 1)) ∧ (IntKind.i64.wrap (r27 + 1)) < ((o1.length : Nat) : Int)))
                    (bi ((o1.getD ((IntKind.i64.wrap (r27 + 1)).toNat) 0) == 2)
                     (l_point_Search_Asked_linear r29 r30 r31
                      (fun r45 r46 r47 r48 =>
                       bi (decide (r45 ≤ (IntKind.i64.wrap ((IntKind.i64.wrap (2 * r44)) + 1))))
                        (l_tutorlaw12_live
                         (fun r49 =>
                          K0 r49))
                        (K0 false)))
                     (K0 false))
                    none)
                   (K0 false))
                  none)
                 (K0 false))
                (K0 false))
               (K0 false)))
            (bi r28
             (bi (decide (r27 ≥ 0))
              (bi (decide (r27 < n))
               (bi (decide (0 ≤ r27 ∧ r27 < ((o1.length : Nat) : Int)))
                (bi ((o1.getD r27.toNat 0) == 1)
                 (bi (decide (0 ≤ (IntKind.i64.wrap (r27 + 1)) ∧ (IntKind.i64.wrap (r27 + 1)) < ((o1.length : Nat) : Int)))
                  (bi ((o1.getD ((IntKind.i64.wrap (r27 + 1)).toNat) 0) == 2)
                   (l_point_Search_Asked_linear r29 r30 r31
                    (fun r50 r51 r52 r53 =>
                     bi (decide (r50 ≤ (IntKind.i64.wrap (n - 1))))
                      (l_tutorlaw12_live
                       (fun r54 =>
                        K0 r54))
                      (K0 false)))
                   (K0 false))
                  none)
                 (K0 false))
                none)
               (K0 false))
              (K0 false))
             (K0 false)))))
        (bi (decide (r22 < 1))
         (K0 false)
         (bi (decide (r22 ≥ n))
          (K0 false)
          (bi (decide (0 ≤ r22 ∧ r22 < ((o1.length : Nat) : Int)))
           (bi ((o1.getD r22.toNat 0) != 0)
            (K0 false)
            (l_tutorlaw12_told v r22
             (fun r55 =>
              l_point_Search_Tell_linear r55 r24 r25 r26
               (fun r56 r57 r58 r59 =>
                l_tutorlaw12_num r56
                 (fun r60 =>
                  bi (r60 != 0)
                   (K0 false)
                   (bi (decide (0 ≤ r22 ∧ r22 < ((o1.length : Nat) : Int)))
                    (l_tutorlaw12_told v r22
                     (fun r61 =>
                      bi r61
                       (bi (decide (0 ≤ r22 ∧ r22 < (((o1.set r22.toNat 1).length : Nat) : Int)))
                        (g6_10 n v h (IntKind.i64.wrap (i + 1)) r57 r58 r59 ((o1.set r22.toNat 1).set r22.toNat 2))
                        none)
                       (g6_10 n v h (IntKind.i64.wrap (i + 1)) r57 r58 r59 (o1.set r22.toNat 1))))
                    none))))))
           none)))))
     (l_point_Search_Found_linear o0 o0_1 o0_2
      (fun r62 r63 r64 r65 r66 =>
       bi (h == 2)
        (l_tutorref12_Digits (IntKind.i64.wrap (n - 1))
         (fun r67 =>
          bi (h == 3)
           (l_tutorref12_Digits n
            (fun r68 =>
             bi r63
              (bi (decide (r62 ≥ 0))
               (bi (decide (r62 < n))
                (bi (decide (0 ≤ r62 ∧ r62 < ((o1.length : Nat) : Int)))
                 (bi ((o1.getD r62.toNat 0) == 1)
                  (bi (decide (0 ≤ (IntKind.i64.wrap (r62 + 1)) ∧ (IntKind.i64.wrap (r62 + 1)) < ((o1.length : Nat) : Int)))
                   (bi ((o1.getD ((IntKind.i64.wrap (r62 + 1)).toNat) 0) == 2)
                    (l_point_Search_Asked_linear r64 r65 r66
                     (fun r69 r70 r71 r72 =>
                      bi (decide (r69 ≤ (IntKind.i64.wrap ((IntKind.i64.wrap (2 * r68)) + 1))))
                       (l_tutorlaw12_live
                        (fun r73 =>
                         K0 r73))
                       (K0 false)))
                    (K0 false))
                   none)
                  (K0 false))
                 none)
                (K0 false))
               (K0 false))
              (K0 false)))
           (bi r63
            (bi (decide (r62 ≥ 0))
             (bi (decide (r62 < n))
              (bi (decide (0 ≤ r62 ∧ r62 < ((o1.length : Nat) : Int)))
               (bi ((o1.getD r62.toNat 0) == 1)
                (bi (decide (0 ≤ (IntKind.i64.wrap (r62 + 1)) ∧ (IntKind.i64.wrap (r62 + 1)) < ((o1.length : Nat) : Int)))
                 (bi ((o1.getD ((IntKind.i64.wrap (r62 + 1)).toNat) 0) == 2)
                  (l_point_Search_Asked_linear r64 r65 r66
                   (fun r74 r75 r76 r77 =>
                    bi (decide (r74 ≤ r67))
                     (l_tutorlaw12_live
                      (fun r78 =>
                       K0 r78))
                     (K0 false)))
                  (K0 false))
                 none)
                (K0 false))
               none)
              (K0 false))
             (K0 false))
            (K0 false))))
        (bi (h == 3)
         (l_tutorref12_Digits n
          (fun r79 =>
           bi r63
            (bi (decide (r62 ≥ 0))
             (bi (decide (r62 < n))
              (bi (decide (0 ≤ r62 ∧ r62 < ((o1.length : Nat) : Int)))
               (bi ((o1.getD r62.toNat 0) == 1)
                (bi (decide (0 ≤ (IntKind.i64.wrap (r62 + 1)) ∧ (IntKind.i64.wrap (r62 + 1)) < ((o1.length : Nat) : Int)))
                 (bi ((o1.getD ((IntKind.i64.wrap (r62 + 1)).toNat) 0) == 2)
                  (l_point_Search_Asked_linear r64 r65 r66
                   (fun r80 r81 r82 r83 =>
                    bi (decide (r80 ≤ (IntKind.i64.wrap ((IntKind.i64.wrap (2 * r79)) + 1))))
                     (l_tutorlaw12_live
                      (fun r84 =>
                       K0 r84))
                     (K0 false)))
                  (K0 false))
                 none)
                (K0 false))
               none)
              (K0 false))
             (K0 false))
            (K0 false)))
         (bi r63
          (bi (decide (r62 ≥ 0))
           (bi (decide (r62 < n))
            (bi (decide (0 ≤ r62 ∧ r62 < ((o1.length : Nat) : Int)))
             (bi ((o1.getD r62.toNat 0) == 1)
              (bi (decide (0 ≤ (IntKind.i64.wrap (r62 + 1)) ∧ (IntKind.i64.wrap (r62 + 1)) < ((o1.length : Nat) : Int)))
               (bi ((o1.getD ((IntKind.i64.wrap (r62 + 1)).toNat) 0) == 2)
                (l_point_Search_Asked_linear r64 r65 r66
                 (fun r85 r86 r87 r88 =>
                  bi (decide (r85 ≤ (IntKind.i64.wrap (n - 1))))
                   (l_tutorlaw12_live
                    (fun r89 =>
                     K0 r89))
                   (K0 false)))
                (K0 false))
               none)
              (K0 false))
             none)
            (K0 false))
           (K0 false))
          (K0 false)))))) (fun n v h i o0 o0_1 o0_2 o1 => g (at' Try.f6 10) ⟨fr0 145 [(1, .v (.int .i64 n)), (2, .rd ⟨false, 4, .bool, v⟩), (7, .v (.int .i64 h)), (8, .ptr 0 0), (10, .own 1), (11, .v (.int .i64 i))], [.box 110 [.ifc 102 (.agg []), .v (.int .i64 o0), .v (.int .i64 o0_1), .v (.int .i64 o0_2)], .row ⟨true, 3, (.int .i64), o1⟩]⟩) (fun n v h i o0 o0_1 o0_2 o1 => g (at' Try.f6 10) ⟨fr0 145 [(1, .v (.int .i64 n)), (2, .rd ⟨false, 4, .bool, v⟩), (7, .v (.int .i64 h)), (8, .ptr 0 0), (10, .own 1), (11, .v (.int .i64 i))], [.box 110 [.ifc 103 (.agg []), .v (.int .i64 o0), .v (.int .i64 o0_1), .v (.int .i64 o0_2)], .row ⟨true, 3, (.int .i64), o1⟩]⟩) (fun n v h i o0 o0_1 o0_2 o1 o1_1 o2 => g (at' Try.f6 10) ⟨fr0 145 [(1, .v (.int .i64 n)), (2, .rd ⟨false, 4, .bool, v⟩), (7, .v (.int .i64 h)), (8, .ptr 0 0), (10, .own 2), (11, .v (.int .i64 i))], [.box 110 [.ifc 104 (.ptr 1 0), .v (.int .i64 o0), .v (.int .i64 o0_1), .v (.int .i64 o0_2)], .box 106 [.v (.int .i64 o1), .v (.bool o1_1)], .row ⟨true, 3, (.int .i64), o2⟩]⟩) (fun r0 => K (.v (.bool r0)) []) n v h i o0 o0_1 o0_2 o1 := by kernel_rfl

theorem step_tutorlaw12_PointFinds_10a {R : Type} (g : List Item → St → Option R) (K : AV → List O → Option R) (n : Int) (v : List Bool) (h : Int) (i : Int) (o0 : Int) (o0_1 : Int) (o0_2 : Int) (o1 : List Int) :
    runSeg Try.prog (T_tutorlaw12_PointFinds @l_tutorlaw12_live @l_tutorlaw12_num @l_point_New @l_point_Search_Asked_linear @l_point_Search_Asked_binary @l_point_Search_Asked_exponential @l_tutorref12_Digits @l_point_Search_Found_linear @l_point_Search_Found_binary @l_point_Search_Found_exponential @l_tutorlaw12_told @l_point_Search_Tell_linear @l_point_Search_Tell_binary @l_point_Search_Tell_exponential @l_point_Search_Ask_linear @l_point_Search_Ask_binary @l_point_Search_Ask_exponential) cuts_tutorlaw12_PointFinds 0 g (finish Try.prog Try.f6 0 K) (at' Try.f6 10) ⟨fr0 145 [(1, .v (.int .i64 n)), (2, .rd ⟨false, 4, .bool, v⟩), (7, .v (.int .i64 h)), (8, .ptr 0 0), (10, .own 1), (11, .v (.int .i64 i))], [.box 110 [.ifc 102 (.agg []), .v (.int .i64 o0), .v (.int .i64 o0_1), .v (.int .i64 o0_2)], .row ⟨true, 3, (.int .i64), o1⟩]⟩ =
    s_tutorlaw12_PointFinds_10a (fun n v h i o0 o0_1 o0_2 o1 => g (at' Try.f6 10) ⟨fr0 145 [(1, .v (.int .i64 n)), (2, .rd ⟨false, 4, .bool, v⟩), (7, .v (.int .i64 h)), (8, .ptr 0 0), (10, .own 1), (11, .v (.int .i64 i))], [.box 110 [.ifc 102 (.agg []), .v (.int .i64 o0), .v (.int .i64 o0_1), .v (.int .i64 o0_2)], .row ⟨true, 3, (.int .i64), o1⟩]⟩) (fun n v h i o0 o0_1 o0_2 o1 => g (at' Try.f6 10) ⟨fr0 145 [(1, .v (.int .i64 n)), (2, .rd ⟨false, 4, .bool, v⟩), (7, .v (.int .i64 h)), (8, .ptr 0 0), (10, .own 1), (11, .v (.int .i64 i))], [.box 110 [.ifc 103 (.agg []), .v (.int .i64 o0), .v (.int .i64 o0_1), .v (.int .i64 o0_2)], .row ⟨true, 3, (.int .i64), o1⟩]⟩) (fun n v h i o0 o0_1 o0_2 o1 o1_1 o2 => g (at' Try.f6 10) ⟨fr0 145 [(1, .v (.int .i64 n)), (2, .rd ⟨false, 4, .bool, v⟩), (7, .v (.int .i64 h)), (8, .ptr 0 0), (10, .own 2), (11, .v (.int .i64 i))], [.box 110 [.ifc 104 (.ptr 1 0), .v (.int .i64 o0), .v (.int .i64 o0_1), .v (.int .i64 o0_2)], .box 106 [.v (.int .i64 o1), .v (.bool o1_1)], .row ⟨true, 3, (.int .i64), o2⟩]⟩) (fun r0 => K (.v (.bool r0)) []) n v h i o0 o0_1 o0_2 o1 := gstep_tutorlaw12_PointFinds_10a @l_tutorlaw12_live @l_tutorlaw12_num @l_point_New @l_point_Search_Asked_linear @l_point_Search_Asked_binary @l_point_Search_Asked_exponential @l_tutorref12_Digits @l_point_Search_Found_linear @l_point_Search_Found_binary @l_point_Search_Found_exponential @l_tutorlaw12_told @l_point_Search_Tell_linear @l_point_Search_Tell_binary @l_point_Search_Tell_exponential @l_point_Search_Ask_linear @l_point_Search_Ask_binary @l_point_Search_Ask_exponential g K n v h i o0 o0_1 o0_2 o1

theorem gstep_tutorlaw12_PointFinds_10b (l_tutorlaw12_live : {R : Type} → (Bool → Option R) → Option R) (l_tutorlaw12_num : {R : Type} → Int → (Int → Option R) → Option R) (l_point_New : {R : Type} → Int → Int → (Int → Option R) → (Int → Int → Int → Int → Option R) → (Int → Int → Int → Int → Option R) → (Int → Int → Int → Int → Int → Bool → Option R) → Option R) (l_point_Search_Asked_linear : {R : Type} → Int → Int → Int → (Int → Int → Int → Int → Option R) → Option R) (l_point_Search_Asked_binary : {R : Type} → Int → Int → Int → (Int → Int → Int → Int → Option R) → Option R) (l_point_Search_Asked_exponential : {R : Type} → Int → Int → Int → Int → Bool → (Int → Int → Int → Int → Int → Bool → Option R) → Option R) (l_tutorref12_Digits : {R : Type} → Int → (Int → Option R) → Option R) (l_point_Search_Found_linear : {R : Type} → Int → Int → Int → (Int → Bool → Int → Int → Int → Option R) → Option R) (l_point_Search_Found_binary : {R : Type} → Int → Int → Int → (Int → Bool → Int → Int → Int → Option R) → Option R) (l_point_Search_Found_exponential : {R : Type} → Int → Int → Int → Int → Bool → (Int → Bool → Int → Int → Int → Int → Bool → Option R) → Option R) (l_tutorlaw12_told : {R : Type} → (List Bool) → Int → (Bool → Option R) → Option R) (l_point_Search_Tell_linear : {R : Type} → Bool → Int → Int → Int → (Int → Int → Int → Int → Option R) → Option R) (l_point_Search_Tell_binary : {R : Type} → Bool → Int → Int → Int → (Int → Int → Int → Int → Option R) → Option R) (l_point_Search_Tell_exponential : {R : Type} → Bool → Int → Int → Int → Int → Bool → (Int → Int → Int → Int → Int → Bool → Option R) → Option R) (l_point_Search_Ask_linear : {R : Type} → Int → Int → Int → (Int → Bool → Int → Int → Int → Option R) → Option R) (l_point_Search_Ask_binary : {R : Type} → Int → Int → Int → (Int → Bool → Int → Int → Int → Option R) → Option R) (l_point_Search_Ask_exponential : {R : Type} → Int → Int → Int → Int → Bool → (Int → Bool → Int → Int → Int → Int → Bool → Option R) → Option R) {R : Type} (g : List Item → St → Option R) (K : AV → List O → Option R) (n : Int) (v : List Bool) (h : Int) (i : Int) (o0 : Int) (o0_1 : Int) (o0_2 : Int) (o1 : List Int) :
    runSeg Try.prog (T_tutorlaw12_PointFinds @l_tutorlaw12_live @l_tutorlaw12_num @l_point_New @l_point_Search_Asked_linear @l_point_Search_Asked_binary @l_point_Search_Asked_exponential @l_tutorref12_Digits @l_point_Search_Found_linear @l_point_Search_Found_binary @l_point_Search_Found_exponential @l_tutorlaw12_told @l_point_Search_Tell_linear @l_point_Search_Tell_binary @l_point_Search_Tell_exponential @l_point_Search_Ask_linear @l_point_Search_Ask_binary @l_point_Search_Ask_exponential) cuts_tutorlaw12_PointFinds 0 g (finish Try.prog Try.f6 0 K) (at' Try.f6 10) ⟨fr0 145 [(1, .v (.int .i64 n)), (2, .rd ⟨false, 4, .bool, v⟩), (7, .v (.int .i64 h)), (8, .ptr 0 0), (10, .own 1), (11, .v (.int .i64 i))], [.box 110 [.ifc 103 (.agg []), .v (.int .i64 o0), .v (.int .i64 o0_1), .v (.int .i64 o0_2)], .row ⟨true, 3, (.int .i64), o1⟩]⟩ =
    (fun (g6_10 : Int → (List Bool) → Int → Int → Int → Int → Int → (List Int) → Option R) (g6_10b : Int → (List Bool) → Int → Int → Int → Int → Int → (List Int) → Option R) (g6_10c : Int → (List Bool) → Int → Int → Int → Int → Int → Int → Bool → (List Int) → Option R) (K0 : Bool → Option R) (n : Int) (v : List Bool) (h : Int) (i : Int) (o0 : Int) (o0_1 : Int) (o0_2 : Int) (o1 : List Int) =>
    bi (decide (i ≤ n))
     (l_point_Search_Ask_binary o0 o0_1 o0_2
      (fun r90 r91 r92 r93 r94 =>
       bi (!r91)
        (l_point_Search_Found_binary r92 r93 r94
         (fun r95 r96 r97 r98 r99 =>
          bi (h == 2)
           (l_tutorref12_Digits (IntKind.i64.wrap (n - 1))
            (fun r100 =>
             bi (h == 3)
              (l_tutorref12_Digits n
               (fun r101 =>
                bi r96
                 (bi (decide (r95 ≥ 0))
                  (bi (decide (r95 < n))
                   (bi (decide (0 ≤ r95 ∧ r95 < ((o1.length : Nat) : Int)))
                    (bi ((o1.getD r95.toNat 0) == 1)
                     (bi (decide (0 ≤ (IntKind.i64.wrap (r95 + 1)) ∧ (IntKind.i64.wrap (r95 + 1)) < ((o1.length : Nat) : Int)))
                      (bi ((o1.getD ((IntKind.i64.wrap (r95 + 1)).toNat) 0) == 2)
                       (l_point_Search_Asked_binary r97 r98 r99
                        (fun r102 r103 r104 r105 =>
                         bi (decide (r102 ≤ (IntKind.i64.wrap ((IntKind.i64.wrap (2 * r101)) + 1))))
                          (l_tutorlaw12_live
                           (fun r106 =>
                            K0 r106))
                          (K0 false)))
                       (K0 false))
                      none)
                     (K0 false))
                    none)
                   (K0 false))
                  (K0 false))
                 (K0 false)))
              (bi r96
               (bi (decide (r95 ≥ 0))
                (bi (decide (r95 < n))
                 (bi (decide (0 ≤ r95 ∧ r95 < ((o1.length : Nat) : Int)))
                  (bi ((o1.getD r95.toNat 0) == 1)
                   (bi (decide (0 ≤ (IntKind.i64.wrap (r95 + 1)) ∧ (IntKind.i64.wrap (r95 + 1)) < ((o1.length : Nat) : Int)))
                    (bi ((o1.getD ((IntKind.i64.wrap (r95 + 1)).toNat) 0) == 2)
                     (l_point_Search_Asked_binary r97 r98 r99
                      (fun r107 r108 r109 r110 =>
                       bi (decide (r107 ≤ r100))
                        (l_tutorlaw12_live
                         (fun r111 =>
                          K0 r111))
                        (K0 false)))
                     (K0 false))
                    none)
                   (K0 false))
                  none)
                 (K0 false))
                (K0 false))
               (K0 false))))
           (bi (h == 3)
            (l_tutorref12_Digits n
             (fun r112 =>
              bi r96
               (bi (decide (r95 ≥ 0))
                (bi (decide (r95 < n))
                 (bi (decide (0 ≤ r95 ∧ r95 < ((o1.length : Nat) : Int)))
                  (bi ((o1.getD r95.toNat 0) == 1)
                   (bi (decide (0 ≤ (IntKind.i64.wrap (r95 + 1)) ∧ (IntKind.i64.wrap (r95 + 1)) < ((o1.length : Nat) : Int)))
                    (bi ((o1.getD ((IntKind.i64.wrap (r95 + 1)).toNat) 0) == 2)
                     (l_point_Search_Asked_binary r97 r98 r99
                      (fun r113 r114 r115 r116 =>
                       bi (decide (r113 ≤ (IntKind.i64.wrap ((IntKind.i64.wrap (2 * r112)) + 1))))
                        (l_tutorlaw12_live
                         (fun r117 =>
                          K0 r117))
                        (K0 false)))
                     (K0 false))
                    none)
                   (K0 false))
                  none)
                 (K0 false))
                (K0 false))
               (K0 false)))
            (bi r96
             (bi (decide (r95 ≥ 0))
              (bi (decide (r95 < n))
               (bi (decide (0 ≤ r95 ∧ r95 < ((o1.length : Nat) : Int)))
                (bi ((o1.getD r95.toNat 0) == 1)
                 (bi (decide (0 ≤ (IntKind.i64.wrap (r95 + 1)) ∧ (IntKind.i64.wrap (r95 + 1)) < ((o1.length : Nat) : Int)))
                  (bi ((o1.getD ((IntKind.i64.wrap (r95 + 1)).toNat) 0) == 2)
                   (l_point_Search_Asked_binary r97 r98 r99
                    (fun r118 r119 r120 r121 =>
                     bi (decide (r118 ≤ (IntKind.i64.wrap (n - 1))))
                      (l_tutorlaw12_live
                       (fun r122 =>
                        K0 r122))
                      (K0 false)))
                   (K0 false))
                  none)
                 (K0 false))
                none)
               (K0 false))
              (K0 false))
             (K0 false)))))
        (bi (decide (r90 < 1))
         (K0 false)
         (bi (decide (r90 ≥ n))
          (K0 false)
          (bi (decide (0 ≤ r90 ∧ r90 < ((o1.length : Nat) : Int)))
           (bi ((o1.getD r90.toNat 0) != 0)
            (K0 false)
            (l_tutorlaw12_told v r90
             (fun r123 =>
              l_point_Search_Tell_binary r123 r92 r93 r94
               (fun r124 r125 r126 r127 =>
                l_tutorlaw12_num r124
                 (fun r128 =>
                  bi (r128 != 0)
                   (K0 false)
                   (bi (decide (0 ≤ r90 ∧ r90 < ((o1.length : Nat) : Int)))
                    (l_tutorlaw12_told v r90
                     (fun r129 =>
                      bi r129
                       (bi (decide (0 ≤ r90 ∧ r90 < (((o1.set r90.toNat 1).length : Nat) : Int)))
                        (g6_10b n v h (IntKind.i64.wrap (i + 1)) r125 r126 r127 ((o1.set r90.toNat 1).set r90.toNat 2))
                        none)
                       (g6_10b n v h (IntKind.i64.wrap (i + 1)) r125 r126 r127 (o1.set r90.toNat 1))))
                    none))))))
           none)))))
     (l_point_Search_Found_binary o0 o0_1 o0_2
      (fun r130 r131 r132 r133 r134 =>
       bi (h == 2)
        (l_tutorref12_Digits (IntKind.i64.wrap (n - 1))
         (fun r135 =>
          bi (h == 3)
           (l_tutorref12_Digits n
            (fun r136 =>
             bi r131
              (bi (decide (r130 ≥ 0))
               (bi (decide (r130 < n))
                (bi (decide (0 ≤ r130 ∧ r130 < ((o1.length : Nat) : Int)))
                 (bi ((o1.getD r130.toNat 0) == 1)
                  (bi (decide (0 ≤ (IntKind.i64.wrap (r130 + 1)) ∧ (IntKind.i64.wrap (r130 + 1)) < ((o1.length : Nat) : Int)))
                   (bi ((o1.getD ((IntKind.i64.wrap (r130 + 1)).toNat) 0) == 2)
                    (l_point_Search_Asked_binary r132 r133 r134
                     (fun r137 r138 r139 r140 =>
                      bi (decide (r137 ≤ (IntKind.i64.wrap ((IntKind.i64.wrap (2 * r136)) + 1))))
                       (l_tutorlaw12_live
                        (fun r141 =>
                         K0 r141))
                       (K0 false)))
                    (K0 false))
                   none)
                  (K0 false))
                 none)
                (K0 false))
               (K0 false))
              (K0 false)))
           (bi r131
            (bi (decide (r130 ≥ 0))
             (bi (decide (r130 < n))
              (bi (decide (0 ≤ r130 ∧ r130 < ((o1.length : Nat) : Int)))
               (bi ((o1.getD r130.toNat 0) == 1)
                (bi (decide (0 ≤ (IntKind.i64.wrap (r130 + 1)) ∧ (IntKind.i64.wrap (r130 + 1)) < ((o1.length : Nat) : Int)))
                 (bi ((o1.getD ((IntKind.i64.wrap (r130 + 1)).toNat) 0) == 2)
                  (l_point_Search_Asked_binary r132 r133 r134
                   (fun r142 r143 r144 r145 =>
                    bi (decide (r142 ≤ r135))
                     (l_tutorlaw12_live
                      (fun r146 =>
                       K0 r146))
                     (K0 false)))
                  (K0 false))
                 none)
                (K0 false))
               none)
              (K0 false))
             (K0 false))
            (K0 false))))
        (bi (h == 3)
         (l_tutorref12_Digits n
          (fun r147 =>
           bi r131
            (bi (decide (r130 ≥ 0))
             (bi (decide (r130 < n))
              (bi (decide (0 ≤ r130 ∧ r130 < ((o1.length : Nat) : Int)))
               (bi ((o1.getD r130.toNat 0) == 1)
                (bi (decide (0 ≤ (IntKind.i64.wrap (r130 + 1)) ∧ (IntKind.i64.wrap (r130 + 1)) < ((o1.length : Nat) : Int)))
                 (bi ((o1.getD ((IntKind.i64.wrap (r130 + 1)).toNat) 0) == 2)
                  (l_point_Search_Asked_binary r132 r133 r134
                   (fun r148 r149 r150 r151 =>
                    bi (decide (r148 ≤ (IntKind.i64.wrap ((IntKind.i64.wrap (2 * r147)) + 1))))
                     (l_tutorlaw12_live
                      (fun r152 =>
                       K0 r152))
                     (K0 false)))
                  (K0 false))
                 none)
                (K0 false))
               none)
              (K0 false))
             (K0 false))
            (K0 false)))
         (bi r131
          (bi (decide (r130 ≥ 0))
           (bi (decide (r130 < n))
            (bi (decide (0 ≤ r130 ∧ r130 < ((o1.length : Nat) : Int)))
             (bi ((o1.getD r130.toNat 0) == 1)
              (bi (decide (0 ≤ (IntKind.i64.wrap (r130 + 1)) ∧ (IntKind.i64.wrap (r130 + 1)) < ((o1.length : Nat) : Int)))
               (bi ((o1.getD ((IntKind.i64.wrap (r130 + 1)).toNat) 0) == 2)
                (l_point_Search_Asked_binary r132 r133 r134
                 (fun r153 r154 r155 r156 =>
                  bi (decide (r153 ≤ (IntKind.i64.wrap (n - 1))))
                   (l_tutorlaw12_live
                    (fun r157 =>
                     K0 r157))
                   (K0 false)))
                (K0 false))
               none)
              (K0 false))
             none)
            (K0 false))
           (K0 false))
          (K0 false)))))) (fun n v h i o0 o0_1 o0_2 o1 => g (at' Try.f6 10) ⟨fr0 145 [(1, .v (.int .i64 n)), (2, .rd ⟨false, 4, .bool, v⟩), (7, .v (.int .i64 h)), (8, .ptr 0 0), (10, .own 1), (11, .v (.int .i64 i))], [.box 110 [.ifc 102 (.agg []), .v (.int .i64 o0), .v (.int .i64 o0_1), .v (.int .i64 o0_2)], .row ⟨true, 3, (.int .i64), o1⟩]⟩) (fun n v h i o0 o0_1 o0_2 o1 => g (at' Try.f6 10) ⟨fr0 145 [(1, .v (.int .i64 n)), (2, .rd ⟨false, 4, .bool, v⟩), (7, .v (.int .i64 h)), (8, .ptr 0 0), (10, .own 1), (11, .v (.int .i64 i))], [.box 110 [.ifc 103 (.agg []), .v (.int .i64 o0), .v (.int .i64 o0_1), .v (.int .i64 o0_2)], .row ⟨true, 3, (.int .i64), o1⟩]⟩) (fun n v h i o0 o0_1 o0_2 o1 o1_1 o2 => g (at' Try.f6 10) ⟨fr0 145 [(1, .v (.int .i64 n)), (2, .rd ⟨false, 4, .bool, v⟩), (7, .v (.int .i64 h)), (8, .ptr 0 0), (10, .own 2), (11, .v (.int .i64 i))], [.box 110 [.ifc 104 (.ptr 1 0), .v (.int .i64 o0), .v (.int .i64 o0_1), .v (.int .i64 o0_2)], .box 106 [.v (.int .i64 o1), .v (.bool o1_1)], .row ⟨true, 3, (.int .i64), o2⟩]⟩) (fun r0 => K (.v (.bool r0)) []) n v h i o0 o0_1 o0_2 o1 := by kernel_rfl

theorem step_tutorlaw12_PointFinds_10b {R : Type} (g : List Item → St → Option R) (K : AV → List O → Option R) (n : Int) (v : List Bool) (h : Int) (i : Int) (o0 : Int) (o0_1 : Int) (o0_2 : Int) (o1 : List Int) :
    runSeg Try.prog (T_tutorlaw12_PointFinds @l_tutorlaw12_live @l_tutorlaw12_num @l_point_New @l_point_Search_Asked_linear @l_point_Search_Asked_binary @l_point_Search_Asked_exponential @l_tutorref12_Digits @l_point_Search_Found_linear @l_point_Search_Found_binary @l_point_Search_Found_exponential @l_tutorlaw12_told @l_point_Search_Tell_linear @l_point_Search_Tell_binary @l_point_Search_Tell_exponential @l_point_Search_Ask_linear @l_point_Search_Ask_binary @l_point_Search_Ask_exponential) cuts_tutorlaw12_PointFinds 0 g (finish Try.prog Try.f6 0 K) (at' Try.f6 10) ⟨fr0 145 [(1, .v (.int .i64 n)), (2, .rd ⟨false, 4, .bool, v⟩), (7, .v (.int .i64 h)), (8, .ptr 0 0), (10, .own 1), (11, .v (.int .i64 i))], [.box 110 [.ifc 103 (.agg []), .v (.int .i64 o0), .v (.int .i64 o0_1), .v (.int .i64 o0_2)], .row ⟨true, 3, (.int .i64), o1⟩]⟩ =
    s_tutorlaw12_PointFinds_10b (fun n v h i o0 o0_1 o0_2 o1 => g (at' Try.f6 10) ⟨fr0 145 [(1, .v (.int .i64 n)), (2, .rd ⟨false, 4, .bool, v⟩), (7, .v (.int .i64 h)), (8, .ptr 0 0), (10, .own 1), (11, .v (.int .i64 i))], [.box 110 [.ifc 102 (.agg []), .v (.int .i64 o0), .v (.int .i64 o0_1), .v (.int .i64 o0_2)], .row ⟨true, 3, (.int .i64), o1⟩]⟩) (fun n v h i o0 o0_1 o0_2 o1 => g (at' Try.f6 10) ⟨fr0 145 [(1, .v (.int .i64 n)), (2, .rd ⟨false, 4, .bool, v⟩), (7, .v (.int .i64 h)), (8, .ptr 0 0), (10, .own 1), (11, .v (.int .i64 i))], [.box 110 [.ifc 103 (.agg []), .v (.int .i64 o0), .v (.int .i64 o0_1), .v (.int .i64 o0_2)], .row ⟨true, 3, (.int .i64), o1⟩]⟩) (fun n v h i o0 o0_1 o0_2 o1 o1_1 o2 => g (at' Try.f6 10) ⟨fr0 145 [(1, .v (.int .i64 n)), (2, .rd ⟨false, 4, .bool, v⟩), (7, .v (.int .i64 h)), (8, .ptr 0 0), (10, .own 2), (11, .v (.int .i64 i))], [.box 110 [.ifc 104 (.ptr 1 0), .v (.int .i64 o0), .v (.int .i64 o0_1), .v (.int .i64 o0_2)], .box 106 [.v (.int .i64 o1), .v (.bool o1_1)], .row ⟨true, 3, (.int .i64), o2⟩]⟩) (fun r0 => K (.v (.bool r0)) []) n v h i o0 o0_1 o0_2 o1 := gstep_tutorlaw12_PointFinds_10b @l_tutorlaw12_live @l_tutorlaw12_num @l_point_New @l_point_Search_Asked_linear @l_point_Search_Asked_binary @l_point_Search_Asked_exponential @l_tutorref12_Digits @l_point_Search_Found_linear @l_point_Search_Found_binary @l_point_Search_Found_exponential @l_tutorlaw12_told @l_point_Search_Tell_linear @l_point_Search_Tell_binary @l_point_Search_Tell_exponential @l_point_Search_Ask_linear @l_point_Search_Ask_binary @l_point_Search_Ask_exponential g K n v h i o0 o0_1 o0_2 o1

theorem gstep_tutorlaw12_PointFinds_10c (l_tutorlaw12_live : {R : Type} → (Bool → Option R) → Option R) (l_tutorlaw12_num : {R : Type} → Int → (Int → Option R) → Option R) (l_point_New : {R : Type} → Int → Int → (Int → Option R) → (Int → Int → Int → Int → Option R) → (Int → Int → Int → Int → Option R) → (Int → Int → Int → Int → Int → Bool → Option R) → Option R) (l_point_Search_Asked_linear : {R : Type} → Int → Int → Int → (Int → Int → Int → Int → Option R) → Option R) (l_point_Search_Asked_binary : {R : Type} → Int → Int → Int → (Int → Int → Int → Int → Option R) → Option R) (l_point_Search_Asked_exponential : {R : Type} → Int → Int → Int → Int → Bool → (Int → Int → Int → Int → Int → Bool → Option R) → Option R) (l_tutorref12_Digits : {R : Type} → Int → (Int → Option R) → Option R) (l_point_Search_Found_linear : {R : Type} → Int → Int → Int → (Int → Bool → Int → Int → Int → Option R) → Option R) (l_point_Search_Found_binary : {R : Type} → Int → Int → Int → (Int → Bool → Int → Int → Int → Option R) → Option R) (l_point_Search_Found_exponential : {R : Type} → Int → Int → Int → Int → Bool → (Int → Bool → Int → Int → Int → Int → Bool → Option R) → Option R) (l_tutorlaw12_told : {R : Type} → (List Bool) → Int → (Bool → Option R) → Option R) (l_point_Search_Tell_linear : {R : Type} → Bool → Int → Int → Int → (Int → Int → Int → Int → Option R) → Option R) (l_point_Search_Tell_binary : {R : Type} → Bool → Int → Int → Int → (Int → Int → Int → Int → Option R) → Option R) (l_point_Search_Tell_exponential : {R : Type} → Bool → Int → Int → Int → Int → Bool → (Int → Int → Int → Int → Int → Bool → Option R) → Option R) (l_point_Search_Ask_linear : {R : Type} → Int → Int → Int → (Int → Bool → Int → Int → Int → Option R) → Option R) (l_point_Search_Ask_binary : {R : Type} → Int → Int → Int → (Int → Bool → Int → Int → Int → Option R) → Option R) (l_point_Search_Ask_exponential : {R : Type} → Int → Int → Int → Int → Bool → (Int → Bool → Int → Int → Int → Int → Bool → Option R) → Option R) {R : Type} (g : List Item → St → Option R) (K : AV → List O → Option R) (n : Int) (v : List Bool) (h : Int) (i : Int) (o0 : Int) (o0_1 : Int) (o0_2 : Int) (o1 : Int) (o1_1 : Bool) (o2 : List Int) :
    runSeg Try.prog (T_tutorlaw12_PointFinds @l_tutorlaw12_live @l_tutorlaw12_num @l_point_New @l_point_Search_Asked_linear @l_point_Search_Asked_binary @l_point_Search_Asked_exponential @l_tutorref12_Digits @l_point_Search_Found_linear @l_point_Search_Found_binary @l_point_Search_Found_exponential @l_tutorlaw12_told @l_point_Search_Tell_linear @l_point_Search_Tell_binary @l_point_Search_Tell_exponential @l_point_Search_Ask_linear @l_point_Search_Ask_binary @l_point_Search_Ask_exponential) cuts_tutorlaw12_PointFinds 0 g (finish Try.prog Try.f6 0 K) (at' Try.f6 10) ⟨fr0 145 [(1, .v (.int .i64 n)), (2, .rd ⟨false, 4, .bool, v⟩), (7, .v (.int .i64 h)), (8, .ptr 0 0), (10, .own 2), (11, .v (.int .i64 i))], [.box 110 [.ifc 104 (.ptr 1 0), .v (.int .i64 o0), .v (.int .i64 o0_1), .v (.int .i64 o0_2)], .box 106 [.v (.int .i64 o1), .v (.bool o1_1)], .row ⟨true, 3, (.int .i64), o2⟩]⟩ =
    (fun (g6_10 : Int → (List Bool) → Int → Int → Int → Int → Int → (List Int) → Option R) (g6_10b : Int → (List Bool) → Int → Int → Int → Int → Int → (List Int) → Option R) (g6_10c : Int → (List Bool) → Int → Int → Int → Int → Int → Int → Bool → (List Int) → Option R) (K0 : Bool → Option R) (n : Int) (v : List Bool) (h : Int) (i : Int) (o0 : Int) (o0_1 : Int) (o0_2 : Int) (o1 : Int) (o1_1 : Bool) (o2 : List Int) =>
    bi (decide (i ≤ n))
     (l_point_Search_Ask_exponential o0 o0_1 o0_2 o1 o1_1
      (fun r158 r159 r160 r161 r162 r163 r164 =>
       bi (!r159)
        (l_point_Search_Found_exponential r160 r161 r162 r163 r164
         (fun r165 r166 r167 r168 r169 r170 r171 =>
          bi (h == 2)
           (l_tutorref12_Digits (IntKind.i64.wrap (n - 1))
            (fun r172 =>
             bi (h == 3)
              (l_tutorref12_Digits n
               (fun r173 =>
                bi r166
                 (bi (decide (r165 ≥ 0))
                  (bi (decide (r165 < n))
                   (bi (decide (0 ≤ r165 ∧ r165 < ((o2.length : Nat) : Int)))
                    (bi ((o2.getD r165.toNat 0) == 1)
                     (bi (decide (0 ≤ (IntKind.i64.wrap (r165 + 1)) ∧ (IntKind.i64.wrap (r165 + 1)) < ((o2.length : Nat) : Int)))
                      (bi ((o2.getD ((IntKind.i64.wrap (r165 + 1)).toNat) 0) == 2)
                       (l_point_Search_Asked_exponential r167 r168 r169 r170 r171
                        (fun r174 r175 r176 r177 r178 r179 =>
                         bi (decide (r174 ≤ (IntKind.i64.wrap ((IntKind.i64.wrap (2 * r173)) + 1))))
                          (l_tutorlaw12_live
                           (fun r180 =>
                            K0 r180))
                          (K0 false)))
                       (K0 false))
                      none)
                     (K0 false))
                    none)
                   (K0 false))
                  (K0 false))
                 (K0 false)))
              (bi r166
               (bi (decide (r165 ≥ 0))
                (bi (decide (r165 < n))
                 (bi (decide (0 ≤ r165 ∧ r165 < ((o2.length : Nat) : Int)))
                  (bi ((o2.getD r165.toNat 0) == 1)
                   (bi (decide (0 ≤ (IntKind.i64.wrap (r165 + 1)) ∧ (IntKind.i64.wrap (r165 + 1)) < ((o2.length : Nat) : Int)))
                    (bi ((o2.getD ((IntKind.i64.wrap (r165 + 1)).toNat) 0) == 2)
                     (l_point_Search_Asked_exponential r167 r168 r169 r170 r171
                      (fun r181 r182 r183 r184 r185 r186 =>
                       bi (decide (r181 ≤ r172))
                        (l_tutorlaw12_live
                         (fun r187 =>
                          K0 r187))
                        (K0 false)))
                     (K0 false))
                    none)
                   (K0 false))
                  none)
                 (K0 false))
                (K0 false))
               (K0 false))))
           (bi (h == 3)
            (l_tutorref12_Digits n
             (fun r188 =>
              bi r166
               (bi (decide (r165 ≥ 0))
                (bi (decide (r165 < n))
                 (bi (decide (0 ≤ r165 ∧ r165 < ((o2.length : Nat) : Int)))
                  (bi ((o2.getD r165.toNat 0) == 1)
                   (bi (decide (0 ≤ (IntKind.i64.wrap (r165 + 1)) ∧ (IntKind.i64.wrap (r165 + 1)) < ((o2.length : Nat) : Int)))
                    (bi ((o2.getD ((IntKind.i64.wrap (r165 + 1)).toNat) 0) == 2)
                     (l_point_Search_Asked_exponential r167 r168 r169 r170 r171
                      (fun r189 r190 r191 r192 r193 r194 =>
                       bi (decide (r189 ≤ (IntKind.i64.wrap ((IntKind.i64.wrap (2 * r188)) + 1))))
                        (l_tutorlaw12_live
                         (fun r195 =>
                          K0 r195))
                        (K0 false)))
                     (K0 false))
                    none)
                   (K0 false))
                  none)
                 (K0 false))
                (K0 false))
               (K0 false)))
            (bi r166
             (bi (decide (r165 ≥ 0))
              (bi (decide (r165 < n))
               (bi (decide (0 ≤ r165 ∧ r165 < ((o2.length : Nat) : Int)))
                (bi ((o2.getD r165.toNat 0) == 1)
                 (bi (decide (0 ≤ (IntKind.i64.wrap (r165 + 1)) ∧ (IntKind.i64.wrap (r165 + 1)) < ((o2.length : Nat) : Int)))
                  (bi ((o2.getD ((IntKind.i64.wrap (r165 + 1)).toNat) 0) == 2)
                   (l_point_Search_Asked_exponential r167 r168 r169 r170 r171
                    (fun r196 r197 r198 r199 r200 r201 =>
                     bi (decide (r196 ≤ (IntKind.i64.wrap (n - 1))))
                      (l_tutorlaw12_live
                       (fun r202 =>
                        K0 r202))
                      (K0 false)))
                   (K0 false))
                  none)
                 (K0 false))
                none)
               (K0 false))
              (K0 false))
             (K0 false)))))
        (bi (decide (r158 < 1))
         (K0 false)
         (bi (decide (r158 ≥ n))
          (K0 false)
          (bi (decide (0 ≤ r158 ∧ r158 < ((o2.length : Nat) : Int)))
           (bi ((o2.getD r158.toNat 0) != 0)
            (K0 false)
            (l_tutorlaw12_told v r158
             (fun r203 =>
              l_point_Search_Tell_exponential r203 r160 r161 r162 r163 r164
               (fun r204 r205 r206 r207 r208 r209 =>
                l_tutorlaw12_num r204
                 (fun r210 =>
                  bi (r210 != 0)
                   (K0 false)
                   (bi (decide (0 ≤ r158 ∧ r158 < ((o2.length : Nat) : Int)))
                    (l_tutorlaw12_told v r158
                     (fun r211 =>
                      bi r211
                       (bi (decide (0 ≤ r158 ∧ r158 < (((o2.set r158.toNat 1).length : Nat) : Int)))
                        (g6_10c n v h (IntKind.i64.wrap (i + 1)) r205 r206 r207 r208 r209 ((o2.set r158.toNat 1).set r158.toNat 2))
                        none)
                       (g6_10c n v h (IntKind.i64.wrap (i + 1)) r205 r206 r207 r208 r209 (o2.set r158.toNat 1))))
                    none))))))
           none)))))
     (l_point_Search_Found_exponential o0 o0_1 o0_2 o1 o1_1
      (fun r212 r213 r214 r215 r216 r217 r218 =>
       bi (h == 2)
        (l_tutorref12_Digits (IntKind.i64.wrap (n - 1))
         (fun r219 =>
          bi (h == 3)
           (l_tutorref12_Digits n
            (fun r220 =>
             bi r213
              (bi (decide (r212 ≥ 0))
               (bi (decide (r212 < n))
                (bi (decide (0 ≤ r212 ∧ r212 < ((o2.length : Nat) : Int)))
                 (bi ((o2.getD r212.toNat 0) == 1)
                  (bi (decide (0 ≤ (IntKind.i64.wrap (r212 + 1)) ∧ (IntKind.i64.wrap (r212 + 1)) < ((o2.length : Nat) : Int)))
                   (bi ((o2.getD ((IntKind.i64.wrap (r212 + 1)).toNat) 0) == 2)
                    (l_point_Search_Asked_exponential r214 r215 r216 r217 r218
                     (fun r221 r222 r223 r224 r225 r226 =>
                      bi (decide (r221 ≤ (IntKind.i64.wrap ((IntKind.i64.wrap (2 * r220)) + 1))))
                       (l_tutorlaw12_live
                        (fun r227 =>
                         K0 r227))
                       (K0 false)))
                    (K0 false))
                   none)
                  (K0 false))
                 none)
                (K0 false))
               (K0 false))
              (K0 false)))
           (bi r213
            (bi (decide (r212 ≥ 0))
             (bi (decide (r212 < n))
              (bi (decide (0 ≤ r212 ∧ r212 < ((o2.length : Nat) : Int)))
               (bi ((o2.getD r212.toNat 0) == 1)
                (bi (decide (0 ≤ (IntKind.i64.wrap (r212 + 1)) ∧ (IntKind.i64.wrap (r212 + 1)) < ((o2.length : Nat) : Int)))
                 (bi ((o2.getD ((IntKind.i64.wrap (r212 + 1)).toNat) 0) == 2)
                  (l_point_Search_Asked_exponential r214 r215 r216 r217 r218
                   (fun r228 r229 r230 r231 r232 r233 =>
                    bi (decide (r228 ≤ r219))
                     (l_tutorlaw12_live
                      (fun r234 =>
                       K0 r234))
                     (K0 false)))
                  (K0 false))
                 none)
                (K0 false))
               none)
              (K0 false))
             (K0 false))
            (K0 false))))
        (bi (h == 3)
         (l_tutorref12_Digits n
          (fun r235 =>
           bi r213
            (bi (decide (r212 ≥ 0))
             (bi (decide (r212 < n))
              (bi (decide (0 ≤ r212 ∧ r212 < ((o2.length : Nat) : Int)))
               (bi ((o2.getD r212.toNat 0) == 1)
                (bi (decide (0 ≤ (IntKind.i64.wrap (r212 + 1)) ∧ (IntKind.i64.wrap (r212 + 1)) < ((o2.length : Nat) : Int)))
                 (bi ((o2.getD ((IntKind.i64.wrap (r212 + 1)).toNat) 0) == 2)
                  (l_point_Search_Asked_exponential r214 r215 r216 r217 r218
                   (fun r236 r237 r238 r239 r240 r241 =>
                    bi (decide (r236 ≤ (IntKind.i64.wrap ((IntKind.i64.wrap (2 * r235)) + 1))))
                     (l_tutorlaw12_live
                      (fun r242 =>
                       K0 r242))
                     (K0 false)))
                  (K0 false))
                 none)
                (K0 false))
               none)
              (K0 false))
             (K0 false))
            (K0 false)))
         (bi r213
          (bi (decide (r212 ≥ 0))
           (bi (decide (r212 < n))
            (bi (decide (0 ≤ r212 ∧ r212 < ((o2.length : Nat) : Int)))
             (bi ((o2.getD r212.toNat 0) == 1)
              (bi (decide (0 ≤ (IntKind.i64.wrap (r212 + 1)) ∧ (IntKind.i64.wrap (r212 + 1)) < ((o2.length : Nat) : Int)))
               (bi ((o2.getD ((IntKind.i64.wrap (r212 + 1)).toNat) 0) == 2)
                (l_point_Search_Asked_exponential r214 r215 r216 r217 r218
                 (fun r243 r244 r245 r246 r247 r248 =>
                  bi (decide (r243 ≤ (IntKind.i64.wrap (n - 1))))
                   (l_tutorlaw12_live
                    (fun r249 =>
                     K0 r249))
                   (K0 false)))
                (K0 false))
               none)
              (K0 false))
             none)
            (K0 false))
           (K0 false))
          (K0 false)))))) (fun n v h i o0 o0_1 o0_2 o1 => g (at' Try.f6 10) ⟨fr0 145 [(1, .v (.int .i64 n)), (2, .rd ⟨false, 4, .bool, v⟩), (7, .v (.int .i64 h)), (8, .ptr 0 0), (10, .own 1), (11, .v (.int .i64 i))], [.box 110 [.ifc 102 (.agg []), .v (.int .i64 o0), .v (.int .i64 o0_1), .v (.int .i64 o0_2)], .row ⟨true, 3, (.int .i64), o1⟩]⟩) (fun n v h i o0 o0_1 o0_2 o1 => g (at' Try.f6 10) ⟨fr0 145 [(1, .v (.int .i64 n)), (2, .rd ⟨false, 4, .bool, v⟩), (7, .v (.int .i64 h)), (8, .ptr 0 0), (10, .own 1), (11, .v (.int .i64 i))], [.box 110 [.ifc 103 (.agg []), .v (.int .i64 o0), .v (.int .i64 o0_1), .v (.int .i64 o0_2)], .row ⟨true, 3, (.int .i64), o1⟩]⟩) (fun n v h i o0 o0_1 o0_2 o1 o1_1 o2 => g (at' Try.f6 10) ⟨fr0 145 [(1, .v (.int .i64 n)), (2, .rd ⟨false, 4, .bool, v⟩), (7, .v (.int .i64 h)), (8, .ptr 0 0), (10, .own 2), (11, .v (.int .i64 i))], [.box 110 [.ifc 104 (.ptr 1 0), .v (.int .i64 o0), .v (.int .i64 o0_1), .v (.int .i64 o0_2)], .box 106 [.v (.int .i64 o1), .v (.bool o1_1)], .row ⟨true, 3, (.int .i64), o2⟩]⟩) (fun r0 => K (.v (.bool r0)) []) n v h i o0 o0_1 o0_2 o1 o1_1 o2 := by kernel_rfl

theorem step_tutorlaw12_PointFinds_10c {R : Type} (g : List Item → St → Option R) (K : AV → List O → Option R) (n : Int) (v : List Bool) (h : Int) (i : Int) (o0 : Int) (o0_1 : Int) (o0_2 : Int) (o1 : Int) (o1_1 : Bool) (o2 : List Int) :
    runSeg Try.prog (T_tutorlaw12_PointFinds @l_tutorlaw12_live @l_tutorlaw12_num @l_point_New @l_point_Search_Asked_linear @l_point_Search_Asked_binary @l_point_Search_Asked_exponential @l_tutorref12_Digits @l_point_Search_Found_linear @l_point_Search_Found_binary @l_point_Search_Found_exponential @l_tutorlaw12_told @l_point_Search_Tell_linear @l_point_Search_Tell_binary @l_point_Search_Tell_exponential @l_point_Search_Ask_linear @l_point_Search_Ask_binary @l_point_Search_Ask_exponential) cuts_tutorlaw12_PointFinds 0 g (finish Try.prog Try.f6 0 K) (at' Try.f6 10) ⟨fr0 145 [(1, .v (.int .i64 n)), (2, .rd ⟨false, 4, .bool, v⟩), (7, .v (.int .i64 h)), (8, .ptr 0 0), (10, .own 2), (11, .v (.int .i64 i))], [.box 110 [.ifc 104 (.ptr 1 0), .v (.int .i64 o0), .v (.int .i64 o0_1), .v (.int .i64 o0_2)], .box 106 [.v (.int .i64 o1), .v (.bool o1_1)], .row ⟨true, 3, (.int .i64), o2⟩]⟩ =
    s_tutorlaw12_PointFinds_10c (fun n v h i o0 o0_1 o0_2 o1 => g (at' Try.f6 10) ⟨fr0 145 [(1, .v (.int .i64 n)), (2, .rd ⟨false, 4, .bool, v⟩), (7, .v (.int .i64 h)), (8, .ptr 0 0), (10, .own 1), (11, .v (.int .i64 i))], [.box 110 [.ifc 102 (.agg []), .v (.int .i64 o0), .v (.int .i64 o0_1), .v (.int .i64 o0_2)], .row ⟨true, 3, (.int .i64), o1⟩]⟩) (fun n v h i o0 o0_1 o0_2 o1 => g (at' Try.f6 10) ⟨fr0 145 [(1, .v (.int .i64 n)), (2, .rd ⟨false, 4, .bool, v⟩), (7, .v (.int .i64 h)), (8, .ptr 0 0), (10, .own 1), (11, .v (.int .i64 i))], [.box 110 [.ifc 103 (.agg []), .v (.int .i64 o0), .v (.int .i64 o0_1), .v (.int .i64 o0_2)], .row ⟨true, 3, (.int .i64), o1⟩]⟩) (fun n v h i o0 o0_1 o0_2 o1 o1_1 o2 => g (at' Try.f6 10) ⟨fr0 145 [(1, .v (.int .i64 n)), (2, .rd ⟨false, 4, .bool, v⟩), (7, .v (.int .i64 h)), (8, .ptr 0 0), (10, .own 2), (11, .v (.int .i64 i))], [.box 110 [.ifc 104 (.ptr 1 0), .v (.int .i64 o0), .v (.int .i64 o0_1), .v (.int .i64 o0_2)], .box 106 [.v (.int .i64 o1), .v (.bool o1_1)], .row ⟨true, 3, (.int .i64), o2⟩]⟩) (fun r0 => K (.v (.bool r0)) []) n v h i o0 o0_1 o0_2 o1 o1_1 o2 := gstep_tutorlaw12_PointFinds_10c @l_tutorlaw12_live @l_tutorlaw12_num @l_point_New @l_point_Search_Asked_linear @l_point_Search_Asked_binary @l_point_Search_Asked_exponential @l_tutorref12_Digits @l_point_Search_Found_linear @l_point_Search_Found_binary @l_point_Search_Found_exponential @l_tutorlaw12_told @l_point_Search_Tell_linear @l_point_Search_Tell_binary @l_point_Search_Tell_exponential @l_point_Search_Ask_linear @l_point_Search_Ask_binary @l_point_Search_Ask_exponential g K n v h i o0 o0_1 o0_2 o1 o1_1 o2

theorem gentry_tutorlaw12_PointFinds (l_tutorlaw12_live : {R : Type} → (Bool → Option R) → Option R) (l_tutorlaw12_num : {R : Type} → Int → (Int → Option R) → Option R) (l_point_New : {R : Type} → Int → Int → (Int → Option R) → (Int → Int → Int → Int → Option R) → (Int → Int → Int → Int → Option R) → (Int → Int → Int → Int → Int → Bool → Option R) → Option R) (l_point_Search_Asked_linear : {R : Type} → Int → Int → Int → (Int → Int → Int → Int → Option R) → Option R) (l_point_Search_Asked_binary : {R : Type} → Int → Int → Int → (Int → Int → Int → Int → Option R) → Option R) (l_point_Search_Asked_exponential : {R : Type} → Int → Int → Int → Int → Bool → (Int → Int → Int → Int → Int → Bool → Option R) → Option R) (l_tutorref12_Digits : {R : Type} → Int → (Int → Option R) → Option R) (l_point_Search_Found_linear : {R : Type} → Int → Int → Int → (Int → Bool → Int → Int → Int → Option R) → Option R) (l_point_Search_Found_binary : {R : Type} → Int → Int → Int → (Int → Bool → Int → Int → Int → Option R) → Option R) (l_point_Search_Found_exponential : {R : Type} → Int → Int → Int → Int → Bool → (Int → Bool → Int → Int → Int → Int → Bool → Option R) → Option R) (l_tutorlaw12_told : {R : Type} → (List Bool) → Int → (Bool → Option R) → Option R) (l_point_Search_Tell_linear : {R : Type} → Bool → Int → Int → Int → (Int → Int → Int → Int → Option R) → Option R) (l_point_Search_Tell_binary : {R : Type} → Bool → Int → Int → Int → (Int → Int → Int → Int → Option R) → Option R) (l_point_Search_Tell_exponential : {R : Type} → Bool → Int → Int → Int → Int → Bool → (Int → Int → Int → Int → Int → Bool → Option R) → Option R) (l_point_Search_Ask_linear : {R : Type} → Int → Int → Int → (Int → Bool → Int → Int → Int → Option R) → Option R) (l_point_Search_Ask_binary : {R : Type} → Int → Int → Int → (Int → Bool → Int → Int → Int → Option R) → Option R) (l_point_Search_Ask_exponential : {R : Type} → Int → Int → Int → Int → Bool → (Int → Bool → Int → Int → Int → Int → Bool → Option R) → Option R) {R : Type} (fuel : Nat) (K : AV → List O → Option R) (how : Int) (n : Int) (v : List Bool) :
    fnRun Try.prog (T_tutorlaw12_PointFinds @l_tutorlaw12_live @l_tutorlaw12_num @l_point_New @l_point_Search_Asked_linear @l_point_Search_Asked_binary @l_point_Search_Asked_exponential @l_tutorref12_Digits @l_point_Search_Found_linear @l_point_Search_Found_binary @l_point_Search_Found_exponential @l_tutorlaw12_told @l_point_Search_Tell_linear @l_point_Search_Tell_binary @l_point_Search_Tell_exponential @l_point_Search_Ask_linear @l_point_Search_Ask_binary @l_point_Search_Ask_exponential) cuts_tutorlaw12_PointFinds Try.f6 fuel [.v (.int .u8 how), .v (.int .i64 n), .rd ⟨false, 4, .bool, v⟩] [] K =
    (fun (g6_10 : Int → (List Bool) → Int → Int → Int → Int → Int → (List Int) → Option R) (g6_10b : Int → (List Bool) → Int → Int → Int → Int → Int → (List Int) → Option R) (g6_10c : Int → (List Bool) → Int → Int → Int → Int → Int → Int → Bool → (List Int) → Option R) (K0 : Bool → Option R) (how : Int) (n : Int) (v : List Bool) =>
    bi (decide (n < 1))
     (l_tutorlaw12_live
      (fun r1 =>
       K0 r1))
     (bi (decide (n > 300))
      (l_tutorlaw12_live
       (fun r2 =>
        K0 r2))
      (l_point_New (IntKind.i64.wrap (1 + (IntKind.i64.wrap (how.tmod 3)))) n
       (fun r3 =>
        l_tutorlaw12_num r3
         (fun r4 =>
          bi (r4 != 0)
           (K0 false)
           (K0 false)))
       (fun r5 r6 r7 r8 =>
        l_tutorlaw12_num r5
         (fun r9 =>
          bi (r9 != 0)
           (K0 false)
           (bi (decide (0 ≤ (IntKind.i64.wrap (n + 1)) ∧ (IntKind.i64.wrap (n + 1)) ≤ (IntKind.i64.wrap (n + 1)) ∧ (IntKind.i64.wrap (n + 1)) ≤ 1073741824))
            (bi (decide (0 ≤ (0 : Int) ∧ (0 : Int) < (((List.replicate (IntKind.i64.wrap (n + 1)).toNat (0 : Int)).length : Nat) : Int)))
             (bi (decide (0 ≤ n ∧ n < ((((List.replicate (IntKind.i64.wrap (n + 1)).toNat (0 : Int)).set 0 1).length : Nat) : Int)))
              (g6_10 n v (IntKind.i64.wrap (1 + (IntKind.i64.wrap (how.tmod 3)))) 0 r6 r7 r8 (((List.replicate (IntKind.i64.wrap (n + 1)).toNat (0 : Int)).set 0 1).set n.toNat 2))
              none)
             none)
            none)))
       (fun r10 r11 r12 r13 =>
        l_tutorlaw12_num r10
         (fun r14 =>
          bi (r14 != 0)
           (K0 false)
           (bi (decide (0 ≤ (IntKind.i64.wrap (n + 1)) ∧ (IntKind.i64.wrap (n + 1)) ≤ (IntKind.i64.wrap (n + 1)) ∧ (IntKind.i64.wrap (n + 1)) ≤ 1073741824))
            (bi (decide (0 ≤ (0 : Int) ∧ (0 : Int) < (((List.replicate (IntKind.i64.wrap (n + 1)).toNat (0 : Int)).length : Nat) : Int)))
             (bi (decide (0 ≤ n ∧ n < ((((List.replicate (IntKind.i64.wrap (n + 1)).toNat (0 : Int)).set 0 1).length : Nat) : Int)))
              (g6_10b n v (IntKind.i64.wrap (1 + (IntKind.i64.wrap (how.tmod 3)))) 0 r11 r12 r13 (((List.replicate (IntKind.i64.wrap (n + 1)).toNat (0 : Int)).set 0 1).set n.toNat 2))
              none)
             none)
            none)))
       (fun r15 r16 r17 r18 r19 r20 =>
        l_tutorlaw12_num r15
         (fun r21 =>
          bi (r21 != 0)
           (K0 false)
           (bi (decide (0 ≤ (IntKind.i64.wrap (n + 1)) ∧ (IntKind.i64.wrap (n + 1)) ≤ (IntKind.i64.wrap (n + 1)) ∧ (IntKind.i64.wrap (n + 1)) ≤ 1073741824))
            (bi (decide (0 ≤ (0 : Int) ∧ (0 : Int) < (((List.replicate (IntKind.i64.wrap (n + 1)).toNat (0 : Int)).length : Nat) : Int)))
             (bi (decide (0 ≤ n ∧ n < ((((List.replicate (IntKind.i64.wrap (n + 1)).toNat (0 : Int)).set 0 1).length : Nat) : Int)))
              (g6_10c n v (IntKind.i64.wrap (1 + (IntKind.i64.wrap (how.tmod 3)))) 0 r16 r17 r18 r19 r20 (((List.replicate (IntKind.i64.wrap (n + 1)).toNat (0 : Int)).set 0 1).set n.toNat 2))
              none)
             none)
            none)))))) (fun n v h i o0 o0_1 o0_2 o1 => (runO Try.prog (T_tutorlaw12_PointFinds @l_tutorlaw12_live @l_tutorlaw12_num @l_point_New @l_point_Search_Asked_linear @l_point_Search_Asked_binary @l_point_Search_Asked_exponential @l_tutorref12_Digits @l_point_Search_Found_linear @l_point_Search_Found_binary @l_point_Search_Found_exponential @l_tutorlaw12_told @l_point_Search_Tell_linear @l_point_Search_Tell_binary @l_point_Search_Tell_exponential @l_point_Search_Ask_linear @l_point_Search_Ask_binary @l_point_Search_Ask_exponential) cuts_tutorlaw12_PointFinds 0 (finish Try.prog Try.f6 0 K) fuel) (at' Try.f6 10) ⟨fr0 145 [(1, .v (.int .i64 n)), (2, .rd ⟨false, 4, .bool, v⟩), (7, .v (.int .i64 h)), (8, .ptr 0 0), (10, .own 1), (11, .v (.int .i64 i))], [.box 110 [.ifc 102 (.agg []), .v (.int .i64 o0), .v (.int .i64 o0_1), .v (.int .i64 o0_2)], .row ⟨true, 3, (.int .i64), o1⟩]⟩) (fun n v h i o0 o0_1 o0_2 o1 => (runO Try.prog (T_tutorlaw12_PointFinds @l_tutorlaw12_live @l_tutorlaw12_num @l_point_New @l_point_Search_Asked_linear @l_point_Search_Asked_binary @l_point_Search_Asked_exponential @l_tutorref12_Digits @l_point_Search_Found_linear @l_point_Search_Found_binary @l_point_Search_Found_exponential @l_tutorlaw12_told @l_point_Search_Tell_linear @l_point_Search_Tell_binary @l_point_Search_Tell_exponential @l_point_Search_Ask_linear @l_point_Search_Ask_binary @l_point_Search_Ask_exponential) cuts_tutorlaw12_PointFinds 0 (finish Try.prog Try.f6 0 K) fuel) (at' Try.f6 10) ⟨fr0 145 [(1, .v (.int .i64 n)), (2, .rd ⟨false, 4, .bool, v⟩), (7, .v (.int .i64 h)), (8, .ptr 0 0), (10, .own 1), (11, .v (.int .i64 i))], [.box 110 [.ifc 103 (.agg []), .v (.int .i64 o0), .v (.int .i64 o0_1), .v (.int .i64 o0_2)], .row ⟨true, 3, (.int .i64), o1⟩]⟩) (fun n v h i o0 o0_1 o0_2 o1 o1_1 o2 => (runO Try.prog (T_tutorlaw12_PointFinds @l_tutorlaw12_live @l_tutorlaw12_num @l_point_New @l_point_Search_Asked_linear @l_point_Search_Asked_binary @l_point_Search_Asked_exponential @l_tutorref12_Digits @l_point_Search_Found_linear @l_point_Search_Found_binary @l_point_Search_Found_exponential @l_tutorlaw12_told @l_point_Search_Tell_linear @l_point_Search_Tell_binary @l_point_Search_Tell_exponential @l_point_Search_Ask_linear @l_point_Search_Ask_binary @l_point_Search_Ask_exponential) cuts_tutorlaw12_PointFinds 0 (finish Try.prog Try.f6 0 K) fuel) (at' Try.f6 10) ⟨fr0 145 [(1, .v (.int .i64 n)), (2, .rd ⟨false, 4, .bool, v⟩), (7, .v (.int .i64 h)), (8, .ptr 0 0), (10, .own 2), (11, .v (.int .i64 i))], [.box 110 [.ifc 104 (.ptr 1 0), .v (.int .i64 o0), .v (.int .i64 o0_1), .v (.int .i64 o0_2)], .box 106 [.v (.int .i64 o1), .v (.bool o1_1)], .row ⟨true, 3, (.int .i64), o2⟩]⟩) (fun r0 => K (.v (.bool r0)) []) how n v := by kernel_rfl

theorem entry_tutorlaw12_PointFinds {R : Type} (fuel : Nat) (K : AV → List O → Option R) (how : Int) (n : Int) (v : List Bool) :
    fnRun Try.prog (T_tutorlaw12_PointFinds @l_tutorlaw12_live @l_tutorlaw12_num @l_point_New @l_point_Search_Asked_linear @l_point_Search_Asked_binary @l_point_Search_Asked_exponential @l_tutorref12_Digits @l_point_Search_Found_linear @l_point_Search_Found_binary @l_point_Search_Found_exponential @l_tutorlaw12_told @l_point_Search_Tell_linear @l_point_Search_Tell_binary @l_point_Search_Tell_exponential @l_point_Search_Ask_linear @l_point_Search_Ask_binary @l_point_Search_Ask_exponential) cuts_tutorlaw12_PointFinds Try.f6 fuel [.v (.int .u8 how), .v (.int .i64 n), .rd ⟨false, 4, .bool, v⟩] [] K =
    e_tutorlaw12_PointFinds (fun n v h i o0 o0_1 o0_2 o1 => (runO Try.prog (T_tutorlaw12_PointFinds @l_tutorlaw12_live @l_tutorlaw12_num @l_point_New @l_point_Search_Asked_linear @l_point_Search_Asked_binary @l_point_Search_Asked_exponential @l_tutorref12_Digits @l_point_Search_Found_linear @l_point_Search_Found_binary @l_point_Search_Found_exponential @l_tutorlaw12_told @l_point_Search_Tell_linear @l_point_Search_Tell_binary @l_point_Search_Tell_exponential @l_point_Search_Ask_linear @l_point_Search_Ask_binary @l_point_Search_Ask_exponential) cuts_tutorlaw12_PointFinds 0 (finish Try.prog Try.f6 0 K) fuel) (at' Try.f6 10) ⟨fr0 145 [(1, .v (.int .i64 n)), (2, .rd ⟨false, 4, .bool, v⟩), (7, .v (.int .i64 h)), (8, .ptr 0 0), (10, .own 1), (11, .v (.int .i64 i))], [.box 110 [.ifc 102 (.agg []), .v (.int .i64 o0), .v (.int .i64 o0_1), .v (.int .i64 o0_2)], .row ⟨true, 3, (.int .i64), o1⟩]⟩) (fun n v h i o0 o0_1 o0_2 o1 => (runO Try.prog (T_tutorlaw12_PointFinds @l_tutorlaw12_live @l_tutorlaw12_num @l_point_New @l_point_Search_Asked_linear @l_point_Search_Asked_binary @l_point_Search_Asked_exponential @l_tutorref12_Digits @l_point_Search_Found_linear @l_point_Search_Found_binary @l_point_Search_Found_exponential @l_tutorlaw12_told @l_point_Search_Tell_linear @l_point_Search_Tell_binary @l_point_Search_Tell_exponential @l_point_Search_Ask_linear @l_point_Search_Ask_binary @l_point_Search_Ask_exponential) cuts_tutorlaw12_PointFinds 0 (finish Try.prog Try.f6 0 K) fuel) (at' Try.f6 10) ⟨fr0 145 [(1, .v (.int .i64 n)), (2, .rd ⟨false, 4, .bool, v⟩), (7, .v (.int .i64 h)), (8, .ptr 0 0), (10, .own 1), (11, .v (.int .i64 i))], [.box 110 [.ifc 103 (.agg []), .v (.int .i64 o0), .v (.int .i64 o0_1), .v (.int .i64 o0_2)], .row ⟨true, 3, (.int .i64), o1⟩]⟩) (fun n v h i o0 o0_1 o0_2 o1 o1_1 o2 => (runO Try.prog (T_tutorlaw12_PointFinds @l_tutorlaw12_live @l_tutorlaw12_num @l_point_New @l_point_Search_Asked_linear @l_point_Search_Asked_binary @l_point_Search_Asked_exponential @l_tutorref12_Digits @l_point_Search_Found_linear @l_point_Search_Found_binary @l_point_Search_Found_exponential @l_tutorlaw12_told @l_point_Search_Tell_linear @l_point_Search_Tell_binary @l_point_Search_Tell_exponential @l_point_Search_Ask_linear @l_point_Search_Ask_binary @l_point_Search_Ask_exponential) cuts_tutorlaw12_PointFinds 0 (finish Try.prog Try.f6 0 K) fuel) (at' Try.f6 10) ⟨fr0 145 [(1, .v (.int .i64 n)), (2, .rd ⟨false, 4, .bool, v⟩), (7, .v (.int .i64 h)), (8, .ptr 0 0), (10, .own 2), (11, .v (.int .i64 i))], [.box 110 [.ifc 104 (.ptr 1 0), .v (.int .i64 o0), .v (.int .i64 o0_1), .v (.int .i64 o0_2)], .box 106 [.v (.int .i64 o1), .v (.bool o1_1)], .row ⟨true, 3, (.int .i64), o2⟩]⟩) (fun r0 => K (.v (.bool r0)) []) how n v := gentry_tutorlaw12_PointFinds @l_tutorlaw12_live @l_tutorlaw12_num @l_point_New @l_point_Search_Asked_linear @l_point_Search_Asked_binary @l_point_Search_Asked_exponential @l_tutorref12_Digits @l_point_Search_Found_linear @l_point_Search_Found_binary @l_point_Search_Found_exponential @l_tutorlaw12_told @l_point_Search_Tell_linear @l_point_Search_Tell_binary @l_point_Search_Tell_exponential @l_point_Search_Ask_linear @l_point_Search_Ask_binary @l_point_Search_Ask_exponential fuel K how n v

theorem runs_tutorlaw12_PointFinds {R : Type} (K : AV → List O → Option R) : ∀ fuel : Nat,
    (fun n v h i o0 o0_1 o0_2 o1 => (runO Try.prog (T_tutorlaw12_PointFinds @l_tutorlaw12_live @l_tutorlaw12_num @l_point_New @l_point_Search_Asked_linear @l_point_Search_Asked_binary @l_point_Search_Asked_exponential @l_tutorref12_Digits @l_point_Search_Found_linear @l_point_Search_Found_binary @l_point_Search_Found_exponential @l_tutorlaw12_told @l_point_Search_Tell_linear @l_point_Search_Tell_binary @l_point_Search_Tell_exponential @l_point_Search_Ask_linear @l_point_Search_Ask_binary @l_point_Search_Ask_exponential) cuts_tutorlaw12_PointFinds 0 (finish Try.prog Try.f6 0 K) fuel) (at' Try.f6 10) ⟨fr0 145 [(1, .v (.int .i64 n)), (2, .rd ⟨false, 4, .bool, v⟩), (7, .v (.int .i64 h)), (8, .ptr 0 0), (10, .own 1), (11, .v (.int .i64 i))], [.box 110 [.ifc 102 (.agg []), .v (.int .i64 o0), .v (.int .i64 o0_1), .v (.int .i64 o0_2)], .row ⟨true, 3, (.int .i64), o1⟩]⟩) = (run_tutorlaw12_PointFinds (fun r0 => K (.v (.bool r0)) []) fuel).1 ∧
    (fun n v h i o0 o0_1 o0_2 o1 => (runO Try.prog (T_tutorlaw12_PointFinds @l_tutorlaw12_live @l_tutorlaw12_num @l_point_New @l_point_Search_Asked_linear @l_point_Search_Asked_binary @l_point_Search_Asked_exponential @l_tutorref12_Digits @l_point_Search_Found_linear @l_point_Search_Found_binary @l_point_Search_Found_exponential @l_tutorlaw12_told @l_point_Search_Tell_linear @l_point_Search_Tell_binary @l_point_Search_Tell_exponential @l_point_Search_Ask_linear @l_point_Search_Ask_binary @l_point_Search_Ask_exponential) cuts_tutorlaw12_PointFinds 0 (finish Try.prog Try.f6 0 K) fuel) (at' Try.f6 10) ⟨fr0 145 [(1, .v (.int .i64 n)), (2, .rd ⟨false, 4, .bool, v⟩), (7, .v (.int .i64 h)), (8, .ptr 0 0), (10, .own 1), (11, .v (.int .i64 i))], [.box 110 [.ifc 103 (.agg []), .v (.int .i64 o0), .v (.int .i64 o0_1), .v (.int .i64 o0_2)], .row ⟨true, 3, (.int .i64), o1⟩]⟩) = (run_tutorlaw12_PointFinds (fun r0 => K (.v (.bool r0)) []) fuel).2.1 ∧
    (fun n v h i o0 o0_1 o0_2 o1 o1_1 o2 => (runO Try.prog (T_tutorlaw12_PointFinds @l_tutorlaw12_live @l_tutorlaw12_num @l_point_New @l_point_Search_Asked_linear @l_point_Search_Asked_binary @l_point_Search_Asked_exponential @l_tutorref12_Digits @l_point_Search_Found_linear @l_point_Search_Found_binary @l_point_Search_Found_exponential @l_tutorlaw12_told @l_point_Search_Tell_linear @l_point_Search_Tell_binary @l_point_Search_Tell_exponential @l_point_Search_Ask_linear @l_point_Search_Ask_binary @l_point_Search_Ask_exponential) cuts_tutorlaw12_PointFinds 0 (finish Try.prog Try.f6 0 K) fuel) (at' Try.f6 10) ⟨fr0 145 [(1, .v (.int .i64 n)), (2, .rd ⟨false, 4, .bool, v⟩), (7, .v (.int .i64 h)), (8, .ptr 0 0), (10, .own 2), (11, .v (.int .i64 i))], [.box 110 [.ifc 104 (.ptr 1 0), .v (.int .i64 o0), .v (.int .i64 o0_1), .v (.int .i64 o0_2)], .box 106 [.v (.int .i64 o1), .v (.bool o1_1)], .row ⟨true, 3, (.int .i64), o2⟩]⟩) = (run_tutorlaw12_PointFinds (fun r0 => K (.v (.bool r0)) []) fuel).2.2
  | 0 => ⟨rfl, rfl, rfl⟩
  | fuel + 1 => by
    have ih := runs_tutorlaw12_PointFinds K fuel
    refine ⟨?_, ?_, ?_⟩
    · funext n v h i o0 o0_1 o0_2 o1
      refine (step_tutorlaw12_PointFinds_10a _ K n v h i o0 o0_1 o0_2 o1).trans ?_
      rw [ih.1, ih.2.1, ih.2.2]
      rfl
    · funext n v h i o0 o0_1 o0_2 o1
      refine (step_tutorlaw12_PointFinds_10b _ K n v h i o0 o0_1 o0_2 o1).trans ?_
      rw [ih.1, ih.2.1, ih.2.2]
      rfl
    · funext n v h i o0 o0_1 o0_2 o1 o1_1 o2
      refine (step_tutorlaw12_PointFinds_10c _ K n v h i o0 o0_1 o0_2 o1 o1_1 o2).trans ?_
      rw [ih.1, ih.2.1, ih.2.2]
      rfl

def S_tutorlaw12_PointFinds (l_tutorlaw12_PointFinds : {R : Type} → Int → Int → (List Bool) → (Bool → Option R) → Option R) : Sum := ⟨[], fun {R} args ob K => match args, ob with
  | [.v (.int .u8 how), .v (.int .i64 n), .rd ⟨false, 4, .bool, v⟩], [] => l_tutorlaw12_PointFinds how n v (fun r0 => K (.v (.bool r0)) [])
  | _, _ => none⟩

theorem sound_tutorlaw12_PointFinds : Sound Try.prog 6 (S_tutorlaw12_PointFinds @l_tutorlaw12_PointFinds) := by
  refine fn_sound (cuts := cuts_tutorlaw12_PointFinds) (fn := Try.f6) (Γ := (T_tutorlaw12_PointFinds @l_tutorlaw12_live @l_tutorlaw12_num @l_point_New @l_point_Search_Asked_linear @l_point_Search_Asked_binary @l_point_Search_Asked_exponential @l_tutorref12_Digits @l_point_Search_Found_linear @l_point_Search_Found_binary @l_point_Search_Found_exponential @l_tutorlaw12_told @l_point_Search_Tell_linear @l_point_Search_Tell_binary @l_point_Search_Tell_exponential @l_point_Search_Ask_linear @l_point_Search_Ask_binary @l_point_Search_Ask_exponential)) wide right_T_tutorlaw12_PointFinds Try.func6 fun {R} K r args ob h => ?_
  unfold S_tutorlaw12_PointFinds at h
  dsimp only at h
  split at h
  · obtain ⟨n, hn⟩ := ok_tutorlaw12_PointFinds _ _ _ _ h
    refine ⟨Nat.le_of_ble_eq_true (by kernel_rfl), n, (entry_tutorlaw12_PointFinds n K _ _ _).trans ?_⟩
    rw [(runs_tutorlaw12_PointFinds K n).1, (runs_tutorlaw12_PointFinds K n).2.1, (runs_tutorlaw12_PointFinds K n).2.2]
    exact hn
  · cases h

theorem call_tutorlaw12_PointFinds : Callable Try.prog 6 := ⟨_, Try.func6, by kernel_rfl, by kernel_rfl⟩

end Go.Ev
