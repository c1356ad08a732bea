/- Each function of the program is its tree. -/
import Derived.Test.YtlbomliaegmnpaaProg
import Derived.Test.YtlbomliaegmnpaaEvFn
import Derived.Test.YtlbomliaegmnpaaPointWordsPure
namespace Go.Ev
open Go.Proofs
noncomputable section
set_option linter.unusedVariables false
set_option linter.unusedSimpArgs false
set_option maxRecDepth 100000
set_option maxHeartbeats 4000000

theorem wide : Tables.follows Try.prog.toTables .mixedOrders = true := by kernel_rfl

def G0 : FuncId → Option Sum := fun _ => none
theorem right_G0 : Right Try.prog G0 := fun f S h => by cases h

def T_point_New : FuncId → Option Sum := G0

theorem right_T_point_New : Right Try.prog T_point_New := right_G0

abbrev cuts_point_New : Cuts := []

theorem gentry_point_New {R : Type} (K : AV → List O → Option R) (how : Int) (n : Int) :
    fnRun Try.prog T_point_New cuts_point_New Try.f32 0 [.v (.int .i64 how), .v (.int .i64 n)] [] K =
    (fun (how : Int) (n : Int) (K0 : Int → Option R) (K1 : Int → Int → Int → Int → Option R) (K2 : Int → Int → Int → Int → Option R) (K3 : Int → Int → Int → Int → Int → Bool → Option R) =>
    bi (how == 1)
     (bi (decide (n < 1))
      (K0 1)
      (bi (decide (n > 4096))
       (K0 3)
       (K1 0 0 n 0)))
     (bi (how == 2)
      (bi (decide (n < 1))
       (K0 1)
       (bi (decide (n > 4096))
        (K0 3)
        (K2 0 0 n 0)))
      (bi (how == 3)
       (bi (decide (n < 1))
        (K0 1)
        (bi (decide (n > 4096))
         (K0 3)
         (K3 0 0 n 0 1 false)))
       (K0 1)))) how n (fun r0 => K (.tup [.v (.pointer none), .v (.int .i64 r0)]) []) (fun r0 r1 r2 r3 => K (.tup [.ptr 0 0, .v (.int .i64 r0)]) [.box 105 [.ifc 97 (.agg []), .v (.int .i64 r1), .v (.int .i64 r2), .v (.int .i64 r3)]]) (fun r0 r1 r2 r3 => K (.tup [.ptr 0 0, .v (.int .i64 r0)]) [.box 105 [.ifc 98 (.agg []), .v (.int .i64 r1), .v (.int .i64 r2), .v (.int .i64 r3)]]) (fun r0 r1 r2 r3 r4 r5 => K (.tup [.ptr 0 0, .v (.int .i64 r0)]) [.box 105 [.ifc 99 (.ptr 1 0), .v (.int .i64 r1), .v (.int .i64 r2), .v (.int .i64 r3)], .box 101 [.v (.int .i64 r4), .v (.bool r5)]]) := by kernel_rfl

theorem entry_point_New {R : Type} (K : AV → List O → Option R) (how : Int) (n : Int) :
    fnRun Try.prog T_point_New cuts_point_New Try.f32 0 [.v (.int .i64 how), .v (.int .i64 n)] [] K =
    l_point_New how n (fun r0 => K (.tup [.v (.pointer none), .v (.int .i64 r0)]) []) (fun r0 r1 r2 r3 => K (.tup [.ptr 0 0, .v (.int .i64 r0)]) [.box 105 [.ifc 97 (.agg []), .v (.int .i64 r1), .v (.int .i64 r2), .v (.int .i64 r3)]]) (fun r0 r1 r2 r3 => K (.tup [.ptr 0 0, .v (.int .i64 r0)]) [.box 105 [.ifc 98 (.agg []), .v (.int .i64 r1), .v (.int .i64 r2), .v (.int .i64 r3)]]) (fun r0 r1 r2 r3 r4 r5 => K (.tup [.ptr 0 0, .v (.int .i64 r0)]) [.box 105 [.ifc 99 (.ptr 1 0), .v (.int .i64 r1), .v (.int .i64 r2), .v (.int .i64 r3)], .box 101 [.v (.int .i64 r4), .v (.bool r5)]]) := gentry_point_New K how n

def S_point_New (l_point_New : {R : Type} → Int → Int → (Int → Option R) → (Int → Int → Int → Int → Option R) → (Int → Int → Int → Int → Option R) → (Int → Int → Int → Int → Int → Bool → Option R) → Option R) : Sum := ⟨[], fun {R} args ob K => match args, ob with
  | [.v (.int .i64 how), .v (.int .i64 n)], [] => l_point_New how n (fun r0 => K (.tup [.v (.pointer none), .v (.int .i64 r0)]) []) (fun r0 r1 r2 r3 => K (.tup [.ptr 0 0, .v (.int .i64 r0)]) [.box 105 [.ifc 97 (.agg []), .v (.int .i64 r1), .v (.int .i64 r2), .v (.int .i64 r3)]]) (fun r0 r1 r2 r3 => K (.tup [.ptr 0 0, .v (.int .i64 r0)]) [.box 105 [.ifc 98 (.agg []), .v (.int .i64 r1), .v (.int .i64 r2), .v (.int .i64 r3)]]) (fun r0 r1 r2 r3 r4 r5 => K (.tup [.ptr 0 0, .v (.int .i64 r0)]) [.box 105 [.ifc 99 (.ptr 1 0), .v (.int .i64 r1), .v (.int .i64 r2), .v (.int .i64 r3)], .box 101 [.v (.int .i64 r4), .v (.bool r5)]])
  | _, _ => none⟩

theorem sound_point_New : Sound Try.prog 32 (S_point_New @l_point_New) := by
  refine fn_sound (cuts := cuts_point_New) (fn := Try.f32) (Γ := T_point_New) wide right_T_point_New Try.func32 fun {R} K r args ob h => ?_
  unfold S_point_New at h
  dsimp only at h
  split at h
  · exact ⟨Nat.le_of_ble_eq_true (by kernel_rfl), 0, (entry_point_New K _ _).trans h⟩
  · cases h

theorem call_point_New : Callable Try.prog 32 := ⟨_, Try.func32, by kernel_rfl, by kernel_rfl⟩

def T_tutorlaw12_num : FuncId → Option Sum := G0

theorem right_T_tutorlaw12_num : Right Try.prog T_tutorlaw12_num := right_G0

abbrev cuts_tutorlaw12_num : Cuts := []

theorem gentry_tutorlaw12_num {R : Type} (K : AV → List O → Option R) (e : Int) :
    fnRun Try.prog T_tutorlaw12_num cuts_tutorlaw12_num Try.f34 0 [.v (.int .i64 e)] [] K =
    (fun (e : Int) (K0 : Int → Option R) =>
    K0 e) e (fun r0 => K (.v (.int .i64 r0)) []) := by kernel_rfl

theorem entry_tutorlaw12_num {R : Type} (K : AV → List O → Option R) (e : Int) :
    fnRun Try.prog T_tutorlaw12_num cuts_tutorlaw12_num Try.f34 0 [.v (.int .i64 e)] [] K =
    l_tutorlaw12_num e (fun r0 => K (.v (.int .i64 r0)) []) := gentry_tutorlaw12_num K e

def S_tutorlaw12_num (l_tutorlaw12_num : {R : Type} → Int → (Int → Option R) → Option R) : Sum := ⟨[], fun {R} args ob K => match args, ob with
  | [.v (.int .i64 e)], [] => l_tutorlaw12_num e (fun r0 => K (.v (.int .i64 r0)) [])
  | _, _ => none⟩

theorem sound_tutorlaw12_num : Sound Try.prog 34 (S_tutorlaw12_num @l_tutorlaw12_num) := by
  refine fn_sound (cuts := cuts_tutorlaw12_num) (fn := Try.f34) (Γ := T_tutorlaw12_num) wide right_T_tutorlaw12_num Try.func34 fun {R} K r args ob h => ?_
  unfold S_tutorlaw12_num at h
  dsimp only at h
  split at h
  · exact ⟨Nat.le_of_ble_eq_true (by kernel_rfl), 0, (entry_tutorlaw12_num K _).trans h⟩
  · cases h

theorem call_tutorlaw12_num : Callable Try.prog 34 := ⟨_, Try.func34, by kernel_rfl, by kernel_rfl⟩

def T_point_Search_ended : FuncId → Option Sum := G0

theorem right_T_point_Search_ended : Right Try.prog T_point_Search_ended := right_G0

abbrev cuts_point_Search_ended_linear : Cuts := []

theorem gentry_point_Search_ended_linear {R : Type} (K : AV → List O → Option R) (o0 : Int) (o0_1 : Int) (o0_2 : Int) :
    fnRun Try.prog T_point_Search_ended cuts_point_Search_ended_linear Try.f62 0 [.ptr 0 0] [.box 105 [.ifc 97 (.agg []), .v (.int .i64 o0), .v (.int .i64 o0_1), .v (.int .i64 o0_2)]] K =
    (fun (o0 : Int) (o0_1 : Int) (o0_2 : Int) (K0 : Bool → Int → Int → Int → Option R) =>
    K0 (o0_1 == (IntKind.i64.wrap (o0 + 1))) o0 o0_1 o0_2) o0 o0_1 o0_2 (fun r0 r1 r2 r3 => K (.v (.bool r0)) [.box 105 [.ifc 97 (.agg []), .v (.int .i64 r1), .v (.int .i64 r2), .v (.int .i64 r3)]]) := by kernel_rfl

theorem entry_point_Search_ended_linear {R : Type} (K : AV → List O → Option R) (o0 : Int) (o0_1 : Int) (o0_2 : Int) :
    fnRun Try.prog T_point_Search_ended cuts_point_Search_ended_linear Try.f62 0 [.ptr 0 0] [.box 105 [.ifc 97 (.agg []), .v (.int .i64 o0), .v (.int .i64 o0_1), .v (.int .i64 o0_2)]] K =
    l_point_Search_ended_linear o0 o0_1 o0_2 (fun r0 r1 r2 r3 => K (.v (.bool r0)) [.box 105 [.ifc 97 (.agg []), .v (.int .i64 r1), .v (.int .i64 r2), .v (.int .i64 r3)]]) := gentry_point_Search_ended_linear K o0 o0_1 o0_2

abbrev cuts_point_Search_ended_binary : Cuts := []

theorem gentry_point_Search_ended_binary {R : Type} (K : AV → List O → Option R) (o0 : Int) (o0_1 : Int) (o0_2 : Int) :
    fnRun Try.prog T_point_Search_ended cuts_point_Search_ended_binary Try.f62 0 [.ptr 0 0] [.box 105 [.ifc 98 (.agg []), .v (.int .i64 o0), .v (.int .i64 o0_1), .v (.int .i64 o0_2)]] K =
    (fun (o0 : Int) (o0_1 : Int) (o0_2 : Int) (K0 : Bool → Int → Int → Int → Option R) =>
    K0 (o0_1 == (IntKind.i64.wrap (o0 + 1))) o0 o0_1 o0_2) o0 o0_1 o0_2 (fun r0 r1 r2 r3 => K (.v (.bool r0)) [.box 105 [.ifc 98 (.agg []), .v (.int .i64 r1), .v (.int .i64 r2), .v (.int .i64 r3)]]) := by kernel_rfl

theorem entry_point_Search_ended_binary {R : Type} (K : AV → List O → Option R) (o0 : Int) (o0_1 : Int) (o0_2 : Int) :
    fnRun Try.prog T_point_Search_ended cuts_point_Search_ended_binary Try.f62 0 [.ptr 0 0] [.box 105 [.ifc 98 (.agg []), .v (.int .i64 o0), .v (.int .i64 o0_1), .v (.int .i64 o0_2)]] K =
    l_point_Search_ended_binary o0 o0_1 o0_2 (fun r0 r1 r2 r3 => K (.v (.bool r0)) [.box 105 [.ifc 98 (.agg []), .v (.int .i64 r1), .v (.int .i64 r2), .v (.int .i64 r3)]]) := gentry_point_Search_ended_binary K o0 o0_1 o0_2

abbrev cuts_point_Search_ended_exponential : Cuts := []

theorem gentry_point_Search_ended_exponential {R : Type} (K : AV → List O → Option R) (o0 : Int) (o0_1 : Int) (o0_2 : Int) (o1 : Int) (o1_1 : Bool) :
    fnRun Try.prog T_point_Search_ended cuts_point_Search_ended_exponential Try.f62 0 [.ptr 0 0] [.box 105 [.ifc 99 (.ptr 1 0), .v (.int .i64 o0), .v (.int .i64 o0_1), .v (.int .i64 o0_2)], .box 101 [.v (.int .i64 o1), .v (.bool o1_1)]] K =
    (fun (o0 : Int) (o0_1 : Int) (o0_2 : Int) (o1 : Int) (o1_1 : Bool) (K0 : Bool → Int → Int → Int → Int → Bool → Option R) =>
    K0 (o0_1 == (IntKind.i64.wrap (o0 + 1))) o0 o0_1 o0_2 o1 o1_1) o0 o0_1 o0_2 o1 o1_1 (fun r0 r1 r2 r3 r4 r5 => K (.v (.bool r0)) [.box 105 [.ifc 99 (.ptr 1 0), .v (.int .i64 r1), .v (.int .i64 r2), .v (.int .i64 r3)], .box 101 [.v (.int .i64 r4), .v (.bool r5)]]) := by kernel_rfl

theorem entry_point_Search_ended_exponential {R : Type} (K : AV → List O → Option R) (o0 : Int) (o0_1 : Int) (o0_2 : Int) (o1 : Int) (o1_1 : Bool) :
    fnRun Try.prog T_point_Search_ended cuts_point_Search_ended_exponential Try.f62 0 [.ptr 0 0] [.box 105 [.ifc 99 (.ptr 1 0), .v (.int .i64 o0), .v (.int .i64 o0_1), .v (.int .i64 o0_2)], .box 101 [.v (.int .i64 o1), .v (.bool o1_1)]] K =
    l_point_Search_ended_exponential o0 o0_1 o0_2 o1 o1_1 (fun r0 r1 r2 r3 r4 r5 => K (.v (.bool r0)) [.box 105 [.ifc 99 (.ptr 1 0), .v (.int .i64 r1), .v (.int .i64 r2), .v (.int .i64 r3)], .box 101 [.v (.int .i64 r4), .v (.bool r5)]]) := gentry_point_Search_ended_exponential K o0 o0_1 o0_2 o1 o1_1

def S_point_Search_ended (l_point_Search_ended_linear : {R : Type} → Int → Int → Int → (Bool → Int → Int → Int → Option R) → Option R) (l_point_Search_ended_binary : {R : Type} → Int → Int → Int → (Bool → Int → Int → Int → Option R) → Option R) (l_point_Search_ended_exponential : {R : Type} → Int → Int → Int → Int → Bool → (Bool → Int → Int → Int → Int → Bool → Option R) → Option R) : Sum := ⟨[], fun {R} args ob K => match args, ob with
  | [.ptr 0 0], [.box 105 [.ifc 97 (.agg []), .v (.int .i64 o0), .v (.int .i64 o0_1), .v (.int .i64 o0_2)]] => l_point_Search_ended_linear o0 o0_1 o0_2 (fun r0 r1 r2 r3 => K (.v (.bool r0)) [.box 105 [.ifc 97 (.agg []), .v (.int .i64 r1), .v (.int .i64 r2), .v (.int .i64 r3)]])
  | [.ptr 0 0], [.box 105 [.ifc 98 (.agg []), .v (.int .i64 o0), .v (.int .i64 o0_1), .v (.int .i64 o0_2)]] => l_point_Search_ended_binary o0 o0_1 o0_2 (fun r0 r1 r2 r3 => K (.v (.bool r0)) [.box 105 [.ifc 98 (.agg []), .v (.int .i64 r1), .v (.int .i64 r2), .v (.int .i64 r3)]])
  | [.ptr 0 0], [.box 105 [.ifc 99 (.ptr 1 0), .v (.int .i64 o0), .v (.int .i64 o0_1), .v (.int .i64 o0_2)], .box 101 [.v (.int .i64 o1), .v (.bool o1_1)]] => l_point_Search_ended_exponential o0 o0_1 o0_2 o1 o1_1 (fun r0 r1 r2 r3 r4 r5 => K (.v (.bool r0)) [.box 105 [.ifc 99 (.ptr 1 0), .v (.int .i64 r1), .v (.int .i64 r2), .v (.int .i64 r3)], .box 101 [.v (.int .i64 r4), .v (.bool r5)]])
  | _, _ => none⟩

theorem sound_point_Search_ended : Sound Try.prog 62 (S_point_Search_ended @l_point_Search_ended_linear @l_point_Search_ended_binary @l_point_Search_ended_exponential) := by
  refine fn_sound (cuts := cuts_point_Search_ended_linear) (fn := Try.f62) (Γ := T_point_Search_ended) wide right_T_point_Search_ended Try.func62 fun {R} K r args ob h => ?_
  unfold S_point_Search_ended at h
  dsimp only at h
  split at h
  · exact ⟨Nat.le_of_ble_eq_true (by kernel_rfl), 0, (entry_point_Search_ended_linear K _ _ _).trans h⟩
  · exact ⟨Nat.le_of_ble_eq_true (by kernel_rfl), 0, (entry_point_Search_ended_binary K _ _ _).trans h⟩
  · exact ⟨Nat.le_of_ble_eq_true (by kernel_rfl), 0, (entry_point_Search_ended_exponential K _ _ _ _ _).trans h⟩
  · cases h

theorem call_point_Search_ended : Callable Try.prog 62 := ⟨_, Try.func62, by kernel_rfl, by kernel_rfl⟩

def T_point_linear_next : FuncId → Option Sum := G0

theorem right_T_point_linear_next : Right Try.prog T_point_linear_next := right_G0

abbrev cuts_point_linear_next : Cuts := []

theorem gentry_point_linear_next {R : Type} (K : AV → List O → Option R) (s : Int) (s_1 : Int) :
    fnRun Try.prog T_point_linear_next cuts_point_linear_next Try.f86 0 [.agg [], .agg [.v (.int .i64 s), .v (.int .i64 s_1)]] [] K =
    (fun (s : Int) (s_1 : Int) (K0 : Int → Option R) =>
    K0 (IntKind.i64.wrap (s + 1))) s s_1 (fun r0 => K (.v (.int .i64 r0)) []) := by kernel_rfl

theorem entry_point_linear_next {R : Type} (K : AV → List O → Option R) (s : Int) (s_1 : Int) :
    fnRun Try.prog T_point_linear_next cuts_point_linear_next Try.f86 0 [.agg [], .agg [.v (.int .i64 s), .v (.int .i64 s_1)]] [] K =
    l_point_linear_next s s_1 (fun r0 => K (.v (.int .i64 r0)) []) := gentry_point_linear_next K s s_1

def S_point_linear_next (l_point_linear_next : {R : Type} → Int → Int → (Int → Option R) → Option R) : Sum := ⟨[], fun {R} args ob K => match args, ob with
  | [.agg [], .agg [.v (.int .i64 s), .v (.int .i64 s_1)]], [] => l_point_linear_next s s_1 (fun r0 => K (.v (.int .i64 r0)) [])
  | _, _ => none⟩

theorem sound_point_linear_next : Sound Try.prog 86 (S_point_linear_next @l_point_linear_next) := by
  refine fn_sound (cuts := cuts_point_linear_next) (fn := Try.f86) (Γ := T_point_linear_next) wide right_T_point_linear_next Try.func86 fun {R} K r args ob h => ?_
  unfold S_point_linear_next at h
  dsimp only at h
  split at h
  · exact ⟨Nat.le_of_ble_eq_true (by kernel_rfl), 0, (entry_point_linear_next K _ _).trans h⟩
  · cases h

theorem call_point_linear_next : Callable Try.prog 86 := ⟨_, Try.func86, by kernel_rfl, by kernel_rfl⟩

def T_point_binary_next : FuncId → Option Sum := G0

theorem right_T_point_binary_next : Right Try.prog T_point_binary_next := right_G0

abbrev cuts_point_binary_next : Cuts := []

theorem gentry_point_binary_next {R : Type} (K : AV → List O → Option R) (s : Int) (s_1 : Int) :
    fnRun Try.prog T_point_binary_next cuts_point_binary_next Try.f88 0 [.agg [], .agg [.v (.int .i64 s), .v (.int .i64 s_1)]] [] K =
    (fun (s : Int) (s_1 : Int) (K0 : Int → Option R) =>
    K0 (IntKind.i64.wrap (s + (IntKind.i64.wrap ((IntKind.i64.wrap (s_1 - s)).tdiv 2))))) s s_1 (fun r0 => K (.v (.int .i64 r0)) []) := by kernel_rfl

theorem entry_point_binary_next {R : Type} (K : AV → List O → Option R) (s : Int) (s_1 : Int) :
    fnRun Try.prog T_point_binary_next cuts_point_binary_next Try.f88 0 [.agg [], .agg [.v (.int .i64 s), .v (.int .i64 s_1)]] [] K =
    l_point_binary_next s s_1 (fun r0 => K (.v (.int .i64 r0)) []) := gentry_point_binary_next K s s_1

def S_point_binary_next (l_point_binary_next : {R : Type} → Int → Int → (Int → Option R) → Option R) : Sum := ⟨[], fun {R} args ob K => match args, ob with
  | [.agg [], .agg [.v (.int .i64 s), .v (.int .i64 s_1)]], [] => l_point_binary_next s s_1 (fun r0 => K (.v (.int .i64 r0)) [])
  | _, _ => none⟩

theorem sound_point_binary_next : Sound Try.prog 88 (S_point_binary_next @l_point_binary_next) := by
  refine fn_sound (cuts := cuts_point_binary_next) (fn := Try.f88) (Γ := T_point_binary_next) wide right_T_point_binary_next Try.func88 fun {R} K r args ob h => ?_
  unfold S_point_binary_next at h
  dsimp only at h
  split at h
  · exact ⟨Nat.le_of_ble_eq_true (by kernel_rfl), 0, (entry_point_binary_next K _ _).trans h⟩
  · cases h

theorem call_point_binary_next : Callable Try.prog 88 := ⟨_, Try.func88, by kernel_rfl, by kernel_rfl⟩

def T_point_exponential_next (l_point_binary_next : {R : Type} → Int → Int → (Int → Option R) → Option R) : FuncId → Option Sum := (addS G0 88 (S_point_binary_next @l_point_binary_next))

theorem right_T_point_exponential_next : Right Try.prog (T_point_exponential_next @l_point_binary_next) := (right_add right_G0 call_point_binary_next sound_point_binary_next)

abbrev cuts_point_exponential_next : Cuts := []

theorem gentry_point_exponential_next (l_point_binary_next : {R : Type} → Int → Int → (Int → Option R) → Option R) {R : Type} (K : AV → List O → Option R) (s : Int) (s_1 : Int) (o0 : Int) (o0_1 : Bool) :
    fnRun Try.prog (T_point_exponential_next @l_point_binary_next) cuts_point_exponential_next Try.f90 0 [.ptr 0 0, .agg [.v (.int .i64 s), .v (.int .i64 s_1)]] [.box 101 [.v (.int .i64 o0), .v (.bool o0_1)]] K =
    (fun (s : Int) (s_1 : Int) (o0 : Int) (o0_1 : Bool) (K0 : Int → Int → Bool → Option R) =>
    bi o0_1
     (l_point_binary_next s s_1
      (fun r1 =>
       K0 r1 o0 o0_1))
     (K0 (if (IntKind.i64.wrap (s + 1)) > (IntKind.i64.wrap (s_1 - o0)) then (IntKind.i64.wrap (s + 1)) else (IntKind.i64.wrap (s_1 - o0))) o0 o0_1)) s s_1 o0 o0_1 (fun r0 r1 r2 => K (.v (.int .i64 r0)) [.box 101 [.v (.int .i64 r1), .v (.bool r2)]]) := by kernel_rfl

theorem entry_point_exponential_next {R : Type} (K : AV → List O → Option R) (s : Int) (s_1 : Int) (o0 : Int) (o0_1 : Bool) :
    fnRun Try.prog (T_point_exponential_next @l_point_binary_next) cuts_point_exponential_next Try.f90 0 [.ptr 0 0, .agg [.v (.int .i64 s), .v (.int .i64 s_1)]] [.box 101 [.v (.int .i64 o0), .v (.bool o0_1)]] K =
    l_point_exponential_next s s_1 o0 o0_1 (fun r0 r1 r2 => K (.v (.int .i64 r0)) [.box 101 [.v (.int .i64 r1), .v (.bool r2)]]) := gentry_point_exponential_next @l_point_binary_next K s s_1 o0 o0_1

def S_point_exponential_next (l_point_exponential_next : {R : Type} → Int → Int → Int → Bool → (Int → Int → Bool → Option R) → Option R) : Sum := ⟨[], fun {R} args ob K => match args, ob with
  | [.ptr 0 0, .agg [.v (.int .i64 s), .v (.int .i64 s_1)]], [.box 101 [.v (.int .i64 o0), .v (.bool o0_1)]] => l_point_exponential_next s s_1 o0 o0_1 (fun r0 r1 r2 => K (.v (.int .i64 r0)) [.box 101 [.v (.int .i64 r1), .v (.bool r2)]])
  | _, _ => none⟩

theorem sound_point_exponential_next : Sound Try.prog 90 (S_point_exponential_next @l_point_exponential_next) := by
  refine fn_sound (cuts := cuts_point_exponential_next) (fn := Try.f90) (Γ := (T_point_exponential_next @l_point_binary_next)) wide right_T_point_exponential_next Try.func90 fun {R} K r args ob h => ?_
  unfold S_point_exponential_next at h
  dsimp only at h
  split at h
  · exact ⟨Nat.le_of_ble_eq_true (by kernel_rfl), 0, (entry_point_exponential_next K _ _ _ _).trans h⟩
  · cases h

theorem call_point_exponential_next : Callable Try.prog 90 := ⟨_, Try.func90, by kernel_rfl, by kernel_rfl⟩

def T_point_Search_Ask (l_point_linear_next : {R : Type} → Int → Int → (Int → Option R) → Option R) (l_point_Search_ended_linear : {R : Type} → Int → Int → Int → (Bool → Int → Int → Int → Option R) → Option R) (l_point_Search_ended_binary : {R : Type} → Int → Int → Int → (Bool → Int → Int → Int → Option R) → Option R) (l_point_Search_ended_exponential : {R : Type} → Int → Int → Int → Int → Bool → (Bool → Int → Int → Int → Int → Bool → Option R) → Option R) (l_point_binary_next : {R : Type} → Int → Int → (Int → Option R) → Option R) (l_point_exponential_next : {R : Type} → Int → Int → Int → Bool → (Int → Int → Bool → Option R) → Option R) : FuncId → Option Sum := (addS (addS (addS (addS G0 86 (S_point_linear_next @l_point_linear_next)) 62 (S_point_Search_ended @l_point_Search_ended_linear @l_point_Search_ended_binary @l_point_Search_ended_exponential)) 88 (S_point_binary_next @l_point_binary_next)) 90 (S_point_exponential_next @l_point_exponential_next))

theorem right_T_point_Search_Ask : Right Try.prog (T_point_Search_Ask @l_point_linear_next @l_point_Search_ended_linear @l_point_Search_ended_binary @l_point_Search_ended_exponential @l_point_binary_next @l_point_exponential_next) := (right_add (right_add (right_add (right_add right_G0 call_point_linear_next sound_point_linear_next) call_point_Search_ended sound_point_Search_ended) call_point_binary_next sound_point_binary_next) call_point_exponential_next sound_point_exponential_next)

abbrev cuts_point_Search_Ask_linear : Cuts := []

theorem gentry_point_Search_Ask_linear (l_point_linear_next : {R : Type} → Int → Int → (Int → Option R) → Option R) (l_point_Search_ended_linear : {R : Type} → Int → Int → Int → (Bool → Int → Int → Int → Option R) → Option R) (l_point_Search_ended_binary : {R : Type} → Int → Int → Int → (Bool → Int → Int → Int → Option R) → Option R) (l_point_Search_ended_exponential : {R : Type} → Int → Int → Int → Int → Bool → (Bool → Int → Int → Int → Int → Bool → Option R) → Option R) (l_point_binary_next : {R : Type} → Int → Int → (Int → Option R) → Option R) (l_point_exponential_next : {R : Type} → Int → Int → Int → Bool → (Int → Int → Bool → Option R) → Option R) {R : Type} (K : AV → List O → Option R) (o0 : Int) (o0_1 : Int) (o0_2 : Int) :
    fnRun Try.prog (T_point_Search_Ask @l_point_linear_next @l_point_Search_ended_linear @l_point_Search_ended_binary @l_point_Search_ended_exponential @l_point_binary_next @l_point_exponential_next) cuts_point_Search_Ask_linear Try.f36 0 [.ptr 0 0] [.box 105 [.ifc 97 (.agg []), .v (.int .i64 o0), .v (.int .i64 o0_1), .v (.int .i64 o0_2)]] K =
    (fun (o0 : Int) (o0_1 : Int) (o0_2 : Int) (K0 : Int → Bool → Int → Int → Int → Option R) =>
    l_point_Search_ended_linear o0 o0_1 o0_2
     (fun r1 r2 r3 r4 =>
      bi r1
       (K0 0 false r2 r3 r4)
       (l_point_linear_next r2 r3
        (fun r5 =>
         K0 r5 true r2 r3 r4)))) o0 o0_1 o0_2 (fun r0 r1 r2 r3 r4 => K (.tup [.v (.int .i64 r0), .v (.bool r1)]) [.box 105 [.ifc 97 (.agg []), .v (.int .i64 r2), .v (.int .i64 r3), .v (.int .i64 r4)]]) := by kernel_rfl

theorem entry_point_Search_Ask_linear {R : Type} (K : AV → List O → Option R) (o0 : Int) (o0_1 : Int) (o0_2 : Int) :
    fnRun Try.prog (T_point_Search_Ask @l_point_linear_next @l_point_Search_ended_linear @l_point_Search_ended_binary @l_point_Search_ended_exponential @l_point_binary_next @l_point_exponential_next) cuts_point_Search_Ask_linear Try.f36 0 [.ptr 0 0] [.box 105 [.ifc 97 (.agg []), .v (.int .i64 o0), .v (.int .i64 o0_1), .v (.int .i64 o0_2)]] K =
    l_point_Search_Ask_linear o0 o0_1 o0_2 (fun r0 r1 r2 r3 r4 => K (.tup [.v (.int .i64 r0), .v (.bool r1)]) [.box 105 [.ifc 97 (.agg []), .v (.int .i64 r2), .v (.int .i64 r3), .v (.int .i64 r4)]]) := gentry_point_Search_Ask_linear @l_point_linear_next @l_point_Search_ended_linear @l_point_Search_ended_binary @l_point_Search_ended_exponential @l_point_binary_next @l_point_exponential_next K o0 o0_1 o0_2

abbrev cuts_point_Search_Ask_binary : Cuts := []

theorem gentry_point_Search_Ask_binary (l_point_linear_next : {R : Type} → Int → Int → (Int → Option R) → Option R) (l_point_Search_ended_linear : {R : Type} → Int → Int → Int → (Bool → Int → Int → Int → Option R) → Option R) (l_point_Search_ended_binary : {R : Type} → Int → Int → Int → (Bool → Int → Int → Int → Option R) → Option R) (l_point_Search_ended_exponential : {R : Type} → Int → Int → Int → Int → Bool → (Bool → Int → Int → Int → Int → Bool → Option R) → Option R) (l_point_binary_next : {R : Type} → Int → Int → (Int → Option R) → Option R) (l_point_exponential_next : {R : Type} → Int → Int → Int → Bool → (Int → Int → Bool → Option R) → Option R) {R : Type} (K : AV → List O → Option R) (o0 : Int) (o0_1 : Int) (o0_2 : Int) :
    fnRun Try.prog (T_point_Search_Ask @l_point_linear_next @l_point_Search_ended_linear @l_point_Search_ended_binary @l_point_Search_ended_exponential @l_point_binary_next @l_point_exponential_next) cuts_point_Search_Ask_binary Try.f36 0 [.ptr 0 0] [.box 105 [.ifc 98 (.agg []), .v (.int .i64 o0), .v (.int .i64 o0_1), .v (.int .i64 o0_2)]] K =
    (fun (o0 : Int) (o0_1 : Int) (o0_2 : Int) (K0 : Int → Bool → Int → Int → Int → Option R) =>
    l_point_Search_ended_binary o0 o0_1 o0_2
     (fun r1 r2 r3 r4 =>
      bi r1
       (K0 0 false r2 r3 r4)
       (l_point_binary_next r2 r3
        (fun r5 =>
         K0 r5 true r2 r3 r4)))) o0 o0_1 o0_2 (fun r0 r1 r2 r3 r4 => K (.tup [.v (.int .i64 r0), .v (.bool r1)]) [.box 105 [.ifc 98 (.agg []), .v (.int .i64 r2), .v (.int .i64 r3), .v (.int .i64 r4)]]) := by kernel_rfl

theorem entry_point_Search_Ask_binary {R : Type} (K : AV → List O → Option R) (o0 : Int) (o0_1 : Int) (o0_2 : Int) :
    fnRun Try.prog (T_point_Search_Ask @l_point_linear_next @l_point_Search_ended_linear @l_point_Search_ended_binary @l_point_Search_ended_exponential @l_point_binary_next @l_point_exponential_next) cuts_point_Search_Ask_binary Try.f36 0 [.ptr 0 0] [.box 105 [.ifc 98 (.agg []), .v (.int .i64 o0), .v (.int .i64 o0_1), .v (.int .i64 o0_2)]] K =
    l_point_Search_Ask_binary o0 o0_1 o0_2 (fun r0 r1 r2 r3 r4 => K (.tup [.v (.int .i64 r0), .v (.bool r1)]) [.box 105 [.ifc 98 (.agg []), .v (.int .i64 r2), .v (.int .i64 r3), .v (.int .i64 r4)]]) := gentry_point_Search_Ask_binary @l_point_linear_next @l_point_Search_ended_linear @l_point_Search_ended_binary @l_point_Search_ended_exponential @l_point_binary_next @l_point_exponential_next K o0 o0_1 o0_2

abbrev cuts_point_Search_Ask_exponential : Cuts := []

theorem gentry_point_Search_Ask_exponential (l_point_linear_next : {R : Type} → Int → Int → (Int → Option R) → Option R) (l_point_Search_ended_linear : {R : Type} → Int → Int → Int → (Bool → Int → Int → Int → Option R) → Option R) (l_point_Search_ended_binary : {R : Type} → Int → Int → Int → (Bool → Int → Int → Int → Option R) → Option R) (l_point_Search_ended_exponential : {R : Type} → Int → Int → Int → Int → Bool → (Bool → Int → Int → Int → Int → Bool → Option R) → Option R) (l_point_binary_next : {R : Type} → Int → Int → (Int → Option R) → Option R) (l_point_exponential_next : {R : Type} → Int → Int → Int → Bool → (Int → Int → Bool → Option R) → Option R) {R : Type} (K : AV → List O → Option R) (o0 : Int) (o0_1 : Int) (o0_2 : Int) (o1 : Int) (o1_1 : Bool) :
    fnRun Try.prog (T_point_Search_Ask @l_point_linear_next @l_point_Search_ended_linear @l_point_Search_ended_binary @l_point_Search_ended_exponential @l_point_binary_next @l_point_exponential_next) cuts_point_Search_Ask_exponential Try.f36 0 [.ptr 0 0] [.box 105 [.ifc 99 (.ptr 1 0), .v (.int .i64 o0), .v (.int .i64 o0_1), .v (.int .i64 o0_2)], .box 101 [.v (.int .i64 o1), .v (.bool o1_1)]] K =
    (fun (o0 : Int) (o0_1 : Int) (o0_2 : Int) (o1 : Int) (o1_1 : Bool) (K0 : Int → Bool → Int → Int → Int → Int → Bool → Option R) =>
    l_point_Search_ended_exponential o0 o0_1 o0_2 o1 o1_1
     (fun r1 r2 r3 r4 r5 r6 =>
      bi r1
       (K0 0 false r2 r3 r4 r5 r6)
       (l_point_exponential_next r2 r3 r5 r6
        (fun r7 r8 r9 =>
         K0 r7 true r2 r3 r4 r8 r9)))) o0 o0_1 o0_2 o1 o1_1 (fun r0 r1 r2 r3 r4 r5 r6 => K (.tup [.v (.int .i64 r0), .v (.bool r1)]) [.box 105 [.ifc 99 (.ptr 1 0), .v (.int .i64 r2), .v (.int .i64 r3), .v (.int .i64 r4)], .box 101 [.v (.int .i64 r5), .v (.bool r6)]]) := by kernel_rfl

theorem entry_point_Search_Ask_exponential {R : Type} (K : AV → List O → Option R) (o0 : Int) (o0_1 : Int) (o0_2 : Int) (o1 : Int) (o1_1 : Bool) :
    fnRun Try.prog (T_point_Search_Ask @l_point_linear_next @l_point_Search_ended_linear @l_point_Search_ended_binary @l_point_Search_ended_exponential @l_point_binary_next @l_point_exponential_next) cuts_point_Search_Ask_exponential Try.f36 0 [.ptr 0 0] [.box 105 [.ifc 99 (.ptr 1 0), .v (.int .i64 o0), .v (.int .i64 o0_1), .v (.int .i64 o0_2)], .box 101 [.v (.int .i64 o1), .v (.bool o1_1)]] K =
    l_point_Search_Ask_exponential o0 o0_1 o0_2 o1 o1_1 (fun r0 r1 r2 r3 r4 r5 r6 => K (.tup [.v (.int .i64 r0), .v (.bool r1)]) [.box 105 [.ifc 99 (.ptr 1 0), .v (.int .i64 r2), .v (.int .i64 r3), .v (.int .i64 r4)], .box 101 [.v (.int .i64 r5), .v (.bool r6)]]) := gentry_point_Search_Ask_exponential @l_point_linear_next @l_point_Search_ended_linear @l_point_Search_ended_binary @l_point_Search_ended_exponential @l_point_binary_next @l_point_exponential_next K o0 o0_1 o0_2 o1 o1_1

def S_point_Search_Ask (l_point_Search_Ask_linear : {R : Type} → Int → Int → Int → (Int → Bool → Int → Int → Int → Option R) → Option R) (l_point_Search_Ask_binary : {R : Type} → Int → Int → Int → (Int → Bool → Int → Int → Int → Option R) → Option R) (l_point_Search_Ask_exponential : {R : Type} → Int → Int → Int → Int → Bool → (Int → Bool → Int → Int → Int → Int → Bool → Option R) → Option R) : Sum := ⟨[], fun {R} args ob K => match args, ob with
  | [.ptr 0 0], [.box 105 [.ifc 97 (.agg []), .v (.int .i64 o0), .v (.int .i64 o0_1), .v (.int .i64 o0_2)]] => l_point_Search_Ask_linear o0 o0_1 o0_2 (fun r0 r1 r2 r3 r4 => K (.tup [.v (.int .i64 r0), .v (.bool r1)]) [.box 105 [.ifc 97 (.agg []), .v (.int .i64 r2), .v (.int .i64 r3), .v (.int .i64 r4)]])
  | [.ptr 0 0], [.box 105 [.ifc 98 (.agg []), .v (.int .i64 o0), .v (.int .i64 o0_1), .v (.int .i64 o0_2)]] => l_point_Search_Ask_binary o0 o0_1 o0_2 (fun r0 r1 r2 r3 r4 => K (.tup [.v (.int .i64 r0), .v (.bool r1)]) [.box 105 [.ifc 98 (.agg []), .v (.int .i64 r2), .v (.int .i64 r3), .v (.int .i64 r4)]])
  | [.ptr 0 0], [.box 105 [.ifc 99 (.ptr 1 0), .v (.int .i64 o0), .v (.int .i64 o0_1), .v (.int .i64 o0_2)], .box 101 [.v (.int .i64 o1), .v (.bool o1_1)]] => l_point_Search_Ask_exponential o0 o0_1 o0_2 o1 o1_1 (fun r0 r1 r2 r3 r4 r5 r6 => K (.tup [.v (.int .i64 r0), .v (.bool r1)]) [.box 105 [.ifc 99 (.ptr 1 0), .v (.int .i64 r2), .v (.int .i64 r3), .v (.int .i64 r4)], .box 101 [.v (.int .i64 r5), .v (.bool r6)]])
  | _, _ => none⟩

theorem sound_point_Search_Ask : Sound Try.prog 36 (S_point_Search_Ask @l_point_Search_Ask_linear @l_point_Search_Ask_binary @l_point_Search_Ask_exponential) := by
  refine fn_sound (cuts := cuts_point_Search_Ask_linear) (fn := Try.f36) (Γ := (T_point_Search_Ask @l_point_linear_next @l_point_Search_ended_linear @l_point_Search_ended_binary @l_point_Search_ended_exponential @l_point_binary_next @l_point_exponential_next)) wide right_T_point_Search_Ask Try.func36 fun {R} K r args ob h => ?_
  unfold S_point_Search_Ask at h
  dsimp only at h
  split at h
  · exact ⟨Nat.le_of_ble_eq_true (by kernel_rfl), 0, (entry_point_Search_Ask_linear K _ _ _).trans h⟩
  · exact ⟨Nat.le_of_ble_eq_true (by kernel_rfl), 0, (entry_point_Search_Ask_binary K _ _ _).trans h⟩
  · exact ⟨Nat.le_of_ble_eq_true (by kernel_rfl), 0, (entry_point_Search_Ask_exponential K _ _ _ _ _).trans h⟩
  · cases h

theorem call_point_Search_Ask : Callable Try.prog 36 := ⟨_, Try.func36, by kernel_rfl, by kernel_rfl⟩

def T_point_binary_told : FuncId → Option Sum := G0

theorem right_T_point_binary_told : Right Try.prog T_point_binary_told := right_G0

abbrev cuts_point_binary_told : Cuts := []

theorem gentry_point_binary_told {R : Type} (K : AV → List O → Option R) (x1 : Bool) :
    fnRun Try.prog T_point_binary_told cuts_point_binary_told Try.f89 0 [.agg [], .v (.bool x1)] [] K =
    (fun (x1 : Bool) (K0 : Option R) =>
    K0) x1 (K (.tup []) []) := by kernel_rfl

theorem entry_point_binary_told {R : Type} (K : AV → List O → Option R) (x1 : Bool) :
    fnRun Try.prog T_point_binary_told cuts_point_binary_told Try.f89 0 [.agg [], .v (.bool x1)] [] K =
    l_point_binary_told x1 (K (.tup []) []) := gentry_point_binary_told K x1

def S_point_binary_told (l_point_binary_told : {R : Type} → Bool → (Option R) → Option R) : Sum := ⟨[], fun {R} args ob K => match args, ob with
  | [.agg [], .v (.bool x1)], [] => l_point_binary_told x1 (K (.tup []) [])
  | _, _ => none⟩

theorem sound_point_binary_told : Sound Try.prog 89 (S_point_binary_told @l_point_binary_told) := by
  refine fn_sound (cuts := cuts_point_binary_told) (fn := Try.f89) (Γ := T_point_binary_told) wide right_T_point_binary_told Try.func89 fun {R} K r args ob h => ?_
  unfold S_point_binary_told at h
  dsimp only at h
  split at h
  · exact ⟨Nat.le_of_ble_eq_true (by kernel_rfl), 0, (entry_point_binary_told K _).trans h⟩
  · cases h

theorem call_point_binary_told : Callable Try.prog 89 := ⟨_, Try.func89, by kernel_rfl, by kernel_rfl⟩

def T_point_exponential_told : FuncId → Option Sum := G0

theorem right_T_point_exponential_told : Right Try.prog T_point_exponential_told := right_G0

abbrev cuts_point_exponential_told : Cuts := []

theorem gentry_point_exponential_told {R : Type} (K : AV → List O → Option R) (v : Bool) (o0 : Int) (o0_1 : Bool) :
    fnRun Try.prog T_point_exponential_told cuts_point_exponential_told Try.f91 0 [.ptr 0 0, .v (.bool v)] [.box 101 [.v (.int .i64 o0), .v (.bool o0_1)]] K =
    (fun (v : Bool) (o0 : Int) (o0_1 : Bool) (K0 : Int → Bool → Option R) =>
    bi o0_1
     (K0 (IntKind.i64.wrap (o0 * 2)) true)
     (K0 (IntKind.i64.wrap (o0 * 2)) (!v))) v o0 o0_1 (fun r0 r1 => K (.tup []) [.box 101 [.v (.int .i64 r0), .v (.bool r1)]]) := by kernel_rfl

theorem entry_point_exponential_told {R : Type} (K : AV → List O → Option R) (v : Bool) (o0 : Int) (o0_1 : Bool) :
    fnRun Try.prog T_point_exponential_told cuts_point_exponential_told Try.f91 0 [.ptr 0 0, .v (.bool v)] [.box 101 [.v (.int .i64 o0), .v (.bool o0_1)]] K =
    l_point_exponential_told v o0 o0_1 (fun r0 r1 => K (.tup []) [.box 101 [.v (.int .i64 r0), .v (.bool r1)]]) := gentry_point_exponential_told K v o0 o0_1

def S_point_exponential_told (l_point_exponential_told : {R : Type} → Bool → Int → Bool → (Int → Bool → Option R) → Option R) : Sum := ⟨[], fun {R} args ob K => match args, ob with
  | [.ptr 0 0, .v (.bool v)], [.box 101 [.v (.int .i64 o0), .v (.bool o0_1)]] => l_point_exponential_told v o0 o0_1 (fun r0 r1 => K (.tup []) [.box 101 [.v (.int .i64 r0), .v (.bool r1)]])
  | _, _ => none⟩

theorem sound_point_exponential_told : Sound Try.prog 91 (S_point_exponential_told @l_point_exponential_told) := by
  refine fn_sound (cuts := cuts_point_exponential_told) (fn := Try.f91) (Γ := T_point_exponential_told) wide right_T_point_exponential_told Try.func91 fun {R} K r args ob h => ?_
  unfold S_point_exponential_told at h
  dsimp only at h
  split at h
  · exact ⟨Nat.le_of_ble_eq_true (by kernel_rfl), 0, (entry_point_exponential_told K _ _ _).trans h⟩
  · cases h

theorem call_point_exponential_told : Callable Try.prog 91 := ⟨_, Try.func91, by kernel_rfl, by kernel_rfl⟩

def T_point_Search_Tell (l_point_Search_Ask_linear : {R : Type} → Int → Int → Int → (Int → Bool → Int → Int → Int → Option R) → Option R) (l_point_Search_Ask_binary : {R : Type} → Int → Int → Int → (Int → Bool → Int → Int → Int → Option R) → Option R) (l_point_Search_Ask_exponential : {R : Type} → Int → Int → Int → Int → Bool → (Int → Bool → Int → Int → Int → Int → Bool → Option R) → Option R) (l_point_binary_told : {R : Type} → Bool → (Option R) → Option R) (l_point_exponential_told : {R : Type} → Bool → Int → Bool → (Int → Bool → Option R) → Option R) : FuncId → Option Sum := (addS (addS (addS G0 36 (S_point_Search_Ask @l_point_Search_Ask_linear @l_point_Search_Ask_binary @l_point_Search_Ask_exponential)) 89 (S_point_binary_told @l_point_binary_told)) 91 (S_point_exponential_told @l_point_exponential_told))

theorem right_T_point_Search_Tell : Right Try.prog (T_point_Search_Tell @l_point_Search_Ask_linear @l_point_Search_Ask_binary @l_point_Search_Ask_exponential @l_point_binary_told @l_point_exponential_told) := (right_add (right_add (right_add right_G0 call_point_Search_Ask sound_point_Search_Ask) call_point_binary_told sound_point_binary_told) call_point_exponential_told sound_point_exponential_told)

abbrev cuts_point_Search_Tell_linear : Cuts := []

theorem gentry_point_Search_Tell_linear (l_point_Search_Ask_linear : {R : Type} → Int → Int → Int → (Int → Bool → Int → Int → Int → Option R) → Option R) (l_point_Search_Ask_binary : {R : Type} → Int → Int → Int → (Int → Bool → Int → Int → Int → Option R) → Option R) (l_point_Search_Ask_exponential : {R : Type} → Int → Int → Int → Int → Bool → (Int → Bool → Int → Int → Int → Int → Bool → Option R) → Option R) (l_point_binary_told : {R : Type} → Bool → (Option R) → Option R) (l_point_exponential_told : {R : Type} → Bool → Int → Bool → (Int → Bool → Option R) → Option R) {R : Type} (K : AV → List O → Option R) (v : Bool) (o0 : Int) (o0_1 : Int) (o0_2 : Int) :
    fnRun Try.prog (T_point_Search_Tell @l_point_Search_Ask_linear @l_point_Search_Ask_binary @l_point_Search_Ask_exponential @l_point_binary_told @l_point_exponential_told) cuts_point_Search_Tell_linear Try.f40 0 [.ptr 0 0, .v (.bool v)] [.box 105 [.ifc 97 (.agg []), .v (.int .i64 o0), .v (.int .i64 o0_1), .v (.int .i64 o0_2)]] K =
    (fun (v : Bool) (o0 : Int) (o0_1 : Int) (o0_2 : Int) (K0 : Int → Int → Int → Int → Option R) =>
    l_point_Search_Ask_linear o0 o0_1 o0_2
     (fun r1 r2 r3 r4 r5 =>
      bi (!r2)
       (K0 7 r3 r4 r5)
       (bi v
        (K0 0 r3 r1 (IntKind.i64.wrap (r5 + 1)))
        (K0 0 r1 r4 (IntKind.i64.wrap (r5 + 1)))))) v o0 o0_1 o0_2 (fun r0 r1 r2 r3 => K (.v (.int .i64 r0)) [.box 105 [.ifc 97 (.agg []), .v (.int .i64 r1), .v (.int .i64 r2), .v (.int .i64 r3)]]) := by kernel_rfl

theorem entry_point_Search_Tell_linear {R : Type} (K : AV → List O → Option R) (v : Bool) (o0 : Int) (o0_1 : Int) (o0_2 : Int) :
    fnRun Try.prog (T_point_Search_Tell @l_point_Search_Ask_linear @l_point_Search_Ask_binary @l_point_Search_Ask_exponential @l_point_binary_told @l_point_exponential_told) cuts_point_Search_Tell_linear Try.f40 0 [.ptr 0 0, .v (.bool v)] [.box 105 [.ifc 97 (.agg []), .v (.int .i64 o0), .v (.int .i64 o0_1), .v (.int .i64 o0_2)]] K =
    l_point_Search_Tell_linear v o0 o0_1 o0_2 (fun r0 r1 r2 r3 => K (.v (.int .i64 r0)) [.box 105 [.ifc 97 (.agg []), .v (.int .i64 r1), .v (.int .i64 r2), .v (.int .i64 r3)]]) := gentry_point_Search_Tell_linear @l_point_Search_Ask_linear @l_point_Search_Ask_binary @l_point_Search_Ask_exponential @l_point_binary_told @l_point_exponential_told K v o0 o0_1 o0_2

abbrev cuts_point_Search_Tell_binary : Cuts := []

theorem gentry_point_Search_Tell_binary (l_point_Search_Ask_linear : {R : Type} → Int → Int → Int → (Int → Bool → Int → Int → Int → Option R) → Option R) (l_point_Search_Ask_binary : {R : Type} → Int → Int → Int → (Int → Bool → Int → Int → Int → Option R) → Option R) (l_point_Search_Ask_exponential : {R : Type} → Int → Int → Int → Int → Bool → (Int → Bool → Int → Int → Int → Int → Bool → Option R) → Option R) (l_point_binary_told : {R : Type} → Bool → (Option R) → Option R) (l_point_exponential_told : {R : Type} → Bool → Int → Bool → (Int → Bool → Option R) → Option R) {R : Type} (K : AV → List O → Option R) (v : Bool) (o0 : Int) (o0_1 : Int) (o0_2 : Int) :
    fnRun Try.prog (T_point_Search_Tell @l_point_Search_Ask_linear @l_point_Search_Ask_binary @l_point_Search_Ask_exponential @l_point_binary_told @l_point_exponential_told) cuts_point_Search_Tell_binary Try.f40 0 [.ptr 0 0, .v (.bool v)] [.box 105 [.ifc 98 (.agg []), .v (.int .i64 o0), .v (.int .i64 o0_1), .v (.int .i64 o0_2)]] K =
    (fun (v : Bool) (o0 : Int) (o0_1 : Int) (o0_2 : Int) (K0 : Int → Int → Int → Int → Option R) =>
    l_point_Search_Ask_binary o0 o0_1 o0_2
     (fun r1 r2 r3 r4 r5 =>
      bi (!r2)
       (K0 7 r3 r4 r5)
       (bi v
        (l_point_binary_told v
         (K0 0 r3 r1 (IntKind.i64.wrap (r5 + 1))))
        (l_point_binary_told v
         (K0 0 r1 r4 (IntKind.i64.wrap (r5 + 1))))))) v o0 o0_1 o0_2 (fun r0 r1 r2 r3 => K (.v (.int .i64 r0)) [.box 105 [.ifc 98 (.agg []), .v (.int .i64 r1), .v (.int .i64 r2), .v (.int .i64 r3)]]) := by kernel_rfl

theorem entry_point_Search_Tell_binary {R : Type} (K : AV → List O → Option R) (v : Bool) (o0 : Int) (o0_1 : Int) (o0_2 : Int) :
    fnRun Try.prog (T_point_Search_Tell @l_point_Search_Ask_linear @l_point_Search_Ask_binary @l_point_Search_Ask_exponential @l_point_binary_told @l_point_exponential_told) cuts_point_Search_Tell_binary Try.f40 0 [.ptr 0 0, .v (.bool v)] [.box 105 [.ifc 98 (.agg []), .v (.int .i64 o0), .v (.int .i64 o0_1), .v (.int .i64 o0_2)]] K =
    l_point_Search_Tell_binary v o0 o0_1 o0_2 (fun r0 r1 r2 r3 => K (.v (.int .i64 r0)) [.box 105 [.ifc 98 (.agg []), .v (.int .i64 r1), .v (.int .i64 r2), .v (.int .i64 r3)]]) := gentry_point_Search_Tell_binary @l_point_Search_Ask_linear @l_point_Search_Ask_binary @l_point_Search_Ask_exponential @l_point_binary_told @l_point_exponential_told K v o0 o0_1 o0_2

abbrev cuts_point_Search_Tell_exponential : Cuts := []

theorem gentry_point_Search_Tell_exponential (l_point_Search_Ask_linear : {R : Type} → Int → Int → Int → (Int → Bool → Int → Int → Int → Option R) → Option R) (l_point_Search_Ask_binary : {R : Type} → Int → Int → Int → (Int → Bool → Int → Int → Int → Option R) → Option R) (l_point_Search_Ask_exponential : {R : Type} → Int → Int → Int → Int → Bool → (Int → Bool → Int → Int → Int → Int → Bool → Option R) → Option R) (l_point_binary_told : {R : Type} → Bool → (Option R) → Option R) (l_point_exponential_told : {R : Type} → Bool → Int → Bool → (Int → Bool → Option R) → Option R) {R : Type} (K : AV → List O → Option R) (v : Bool) (o0 : Int) (o0_1 : Int) (o0_2 : Int) (o1 : Int) (o1_1 : Bool) :
    fnRun Try.prog (T_point_Search_Tell @l_point_Search_Ask_linear @l_point_Search_Ask_binary @l_point_Search_Ask_exponential @l_point_binary_told @l_point_exponential_told) cuts_point_Search_Tell_exponential Try.f40 0 [.ptr 0 0, .v (.bool v)] [.box 105 [.ifc 99 (.ptr 1 0), .v (.int .i64 o0), .v (.int .i64 o0_1), .v (.int .i64 o0_2)], .box 101 [.v (.int .i64 o1), .v (.bool o1_1)]] K =
    (fun (v : Bool) (o0 : Int) (o0_1 : Int) (o0_2 : Int) (o1 : Int) (o1_1 : Bool) (K0 : Int → Int → Int → Int → Int → Bool → Option R) =>
    l_point_Search_Ask_exponential o0 o0_1 o0_2 o1 o1_1
     (fun r1 r2 r3 r4 r5 r6 r7 =>
      bi (!r2)
       (K0 7 r3 r4 r5 r6 r7)
       (bi v
        (l_point_exponential_told v r6 r7
         (fun r8 r9 =>
          K0 0 r3 r1 (IntKind.i64.wrap (r5 + 1)) r8 r9))
        (l_point_exponential_told v r6 r7
         (fun r10 r11 =>
          K0 0 r1 r4 (IntKind.i64.wrap (r5 + 1)) r10 r11))))) v o0 o0_1 o0_2 o1 o1_1 (fun r0 r1 r2 r3 r4 r5 => K (.v (.int .i64 r0)) [.box 105 [.ifc 99 (.ptr 1 0), .v (.int .i64 r1), .v (.int .i64 r2), .v (.int .i64 r3)], .box 101 [.v (.int .i64 r4), .v (.bool r5)]]) := by kernel_rfl

theorem entry_point_Search_Tell_exponential {R : Type} (K : AV → List O → Option R) (v : Bool) (o0 : Int) (o0_1 : Int) (o0_2 : Int) (o1 : Int) (o1_1 : Bool) :
    fnRun Try.prog (T_point_Search_Tell @l_point_Search_Ask_linear @l_point_Search_Ask_binary @l_point_Search_Ask_exponential @l_point_binary_told @l_point_exponential_told) cuts_point_Search_Tell_exponential Try.f40 0 [.ptr 0 0, .v (.bool v)] [.box 105 [.ifc 99 (.ptr 1 0), .v (.int .i64 o0), .v (.int .i64 o0_1), .v (.int .i64 o0_2)], .box 101 [.v (.int .i64 o1), .v (.bool o1_1)]] K =
    l_point_Search_Tell_exponential v o0 o0_1 o0_2 o1 o1_1 (fun r0 r1 r2 r3 r4 r5 => K (.v (.int .i64 r0)) [.box 105 [.ifc 99 (.ptr 1 0), .v (.int .i64 r1), .v (.int .i64 r2), .v (.int .i64 r3)], .box 101 [.v (.int .i64 r4), .v (.bool r5)]]) := gentry_point_Search_Tell_exponential @l_point_Search_Ask_linear @l_point_Search_Ask_binary @l_point_Search_Ask_exponential @l_point_binary_told @l_point_exponential_told K v o0 o0_1 o0_2 o1 o1_1

def S_point_Search_Tell (l_point_Search_Tell_linear : {R : Type} → Bool → Int → Int → Int → (Int → Int → Int → Int → Option R) → Option R) (l_point_Search_Tell_binary : {R : Type} → Bool → Int → Int → Int → (Int → Int → Int → Int → Option R) → Option R) (l_point_Search_Tell_exponential : {R : Type} → Bool → Int → Int → Int → Int → Bool → (Int → Int → Int → Int → Int → Bool → Option R) → Option R) : Sum := ⟨[], fun {R} args ob K => match args, ob with
  | [.ptr 0 0, .v (.bool v)], [.box 105 [.ifc 97 (.agg []), .v (.int .i64 o0), .v (.int .i64 o0_1), .v (.int .i64 o0_2)]] => l_point_Search_Tell_linear v o0 o0_1 o0_2 (fun r0 r1 r2 r3 => K (.v (.int .i64 r0)) [.box 105 [.ifc 97 (.agg []), .v (.int .i64 r1), .v (.int .i64 r2), .v (.int .i64 r3)]])
  | [.ptr 0 0, .v (.bool v)], [.box 105 [.ifc 98 (.agg []), .v (.int .i64 o0), .v (.int .i64 o0_1), .v (.int .i64 o0_2)]] => l_point_Search_Tell_binary v o0 o0_1 o0_2 (fun r0 r1 r2 r3 => K (.v (.int .i64 r0)) [.box 105 [.ifc 98 (.agg []), .v (.int .i64 r1), .v (.int .i64 r2), .v (.int .i64 r3)]])
  | [.ptr 0 0, .v (.bool v)], [.box 105 [.ifc 99 (.ptr 1 0), .v (.int .i64 o0), .v (.int .i64 o0_1), .v (.int .i64 o0_2)], .box 101 [.v (.int .i64 o1), .v (.bool o1_1)]] => l_point_Search_Tell_exponential v o0 o0_1 o0_2 o1 o1_1 (fun r0 r1 r2 r3 r4 r5 => K (.v (.int .i64 r0)) [.box 105 [.ifc 99 (.ptr 1 0), .v (.int .i64 r1), .v (.int .i64 r2), .v (.int .i64 r3)], .box 101 [.v (.int .i64 r4), .v (.bool r5)]])
  | _, _ => none⟩

theorem sound_point_Search_Tell : Sound Try.prog 40 (S_point_Search_Tell @l_point_Search_Tell_linear @l_point_Search_Tell_binary @l_point_Search_Tell_exponential) := by
  refine fn_sound (cuts := cuts_point_Search_Tell_linear) (fn := Try.f40) (Γ := (T_point_Search_Tell @l_point_Search_Ask_linear @l_point_Search_Ask_binary @l_point_Search_Ask_exponential @l_point_binary_told @l_point_exponential_told)) wide right_T_point_Search_Tell Try.func40 fun {R} K r args ob h => ?_
  unfold S_point_Search_Tell at h
  dsimp only at h
  split at h
  · exact ⟨Nat.le_of_ble_eq_true (by kernel_rfl), 0, (entry_point_Search_Tell_linear K _ _ _ _).trans h⟩
  · exact ⟨Nat.le_of_ble_eq_true (by kernel_rfl), 0, (entry_point_Search_Tell_binary K _ _ _ _).trans h⟩
  · exact ⟨Nat.le_of_ble_eq_true (by kernel_rfl), 0, (entry_point_Search_Tell_exponential K _ _ _ _ _ _).trans h⟩
  · cases h

theorem call_point_Search_Tell : Callable Try.prog 40 := ⟨_, Try.func40, by kernel_rfl, by kernel_rfl⟩

def T_point_Search_Found (l_point_Search_ended_linear : {R : Type} → Int → Int → Int → (Bool → Int → Int → Int → Option R) → Option R) (l_point_Search_ended_binary : {R : Type} → Int → Int → Int → (Bool → Int → Int → Int → Option R) → Option R) (l_point_Search_ended_exponential : {R : Type} → Int → Int → Int → Int → Bool → (Bool → Int → Int → Int → Int → Bool → Option R) → Option R) : FuncId → Option Sum := (addS G0 62 (S_point_Search_ended @l_point_Search_ended_linear @l_point_Search_ended_binary @l_point_Search_ended_exponential))

theorem right_T_point_Search_Found : Right Try.prog (T_point_Search_Found @l_point_Search_ended_linear @l_point_Search_ended_binary @l_point_Search_ended_exponential) := (right_add right_G0 call_point_Search_ended sound_point_Search_ended)

abbrev cuts_point_Search_Found_linear : Cuts := []

theorem gentry_point_Search_Found_linear (l_point_Search_ended_linear : {R : Type} → Int → Int → Int → (Bool → Int → Int → Int → Option R) → Option R) (l_point_Search_ended_binary : {R : Type} → Int → Int → Int → (Bool → Int → Int → Int → Option R) → Option R) (l_point_Search_ended_exponential : {R : Type} → Int → Int → Int → Int → Bool → (Bool → Int → Int → Int → Int → Bool → Option R) → Option R) {R : Type} (K : AV → List O → Option R) (o0 : Int) (o0_1 : Int) (o0_2 : Int) :
    fnRun Try.prog (T_point_Search_Found @l_point_Search_ended_linear @l_point_Search_ended_binary @l_point_Search_ended_exponential) cuts_point_Search_Found_linear Try.f38 0 [.ptr 0 0] [.box 105 [.ifc 97 (.agg []), .v (.int .i64 o0), .v (.int .i64 o0_1), .v (.int .i64 o0_2)]] K =
    (fun (o0 : Int) (o0_1 : Int) (o0_2 : Int) (K0 : Int → Bool → Int → Int → Int → Option R) =>
    l_point_Search_ended_linear o0 o0_1 o0_2
     (fun r1 r2 r3 r4 =>
      bi (!r1)
       (K0 0 false r2 r3 r4)
       (K0 r2 true r2 r3 r4))) o0 o0_1 o0_2 (fun r0 r1 r2 r3 r4 => K (.tup [.v (.int .i64 r0), .v (.bool r1)]) [.box 105 [.ifc 97 (.agg []), .v (.int .i64 r2), .v (.int .i64 r3), .v (.int .i64 r4)]]) := by kernel_rfl

theorem entry_point_Search_Found_linear {R : Type} (K : AV → List O → Option R) (o0 : Int) (o0_1 : Int) (o0_2 : Int) :
    fnRun Try.prog (T_point_Search_Found @l_point_Search_ended_linear @l_point_Search_ended_binary @l_point_Search_ended_exponential) cuts_point_Search_Found_linear Try.f38 0 [.ptr 0 0] [.box 105 [.ifc 97 (.agg []), .v (.int .i64 o0), .v (.int .i64 o0_1), .v (.int .i64 o0_2)]] K =
    l_point_Search_Found_linear o0 o0_1 o0_2 (fun r0 r1 r2 r3 r4 => K (.tup [.v (.int .i64 r0), .v (.bool r1)]) [.box 105 [.ifc 97 (.agg []), .v (.int .i64 r2), .v (.int .i64 r3), .v (.int .i64 r4)]]) := gentry_point_Search_Found_linear @l_point_Search_ended_linear @l_point_Search_ended_binary @l_point_Search_ended_exponential K o0 o0_1 o0_2

abbrev cuts_point_Search_Found_binary : Cuts := []

theorem gentry_point_Search_Found_binary (l_point_Search_ended_linear : {R : Type} → Int → Int → Int → (Bool → Int → Int → Int → Option R) → Option R) (l_point_Search_ended_binary : {R : Type} → Int → Int → Int → (Bool → Int → Int → Int → Option R) → Option R) (l_point_Search_ended_exponential : {R : Type} → Int → Int → Int → Int → Bool → (Bool → Int → Int → Int → Int → Bool → Option R) → Option R) {R : Type} (K : AV → List O → Option R) (o0 : Int) (o0_1 : Int) (o0_2 : Int) :
    fnRun Try.prog (T_point_Search_Found @l_point_Search_ended_linear @l_point_Search_ended_binary @l_point_Search_ended_exponential) cuts_point_Search_Found_binary Try.f38 0 [.ptr 0 0] [.box 105 [.ifc 98 (.agg []), .v (.int .i64 o0), .v (.int .i64 o0_1), .v (.int .i64 o0_2)]] K =
    (fun (o0 : Int) (o0_1 : Int) (o0_2 : Int) (K0 : Int → Bool → Int → Int → Int → Option R) =>
    l_point_Search_ended_binary o0 o0_1 o0_2
     (fun r1 r2 r3 r4 =>
      bi (!r1)
       (K0 0 false r2 r3 r4)
       (K0 r2 true r2 r3 r4))) o0 o0_1 o0_2 (fun r0 r1 r2 r3 r4 => K (.tup [.v (.int .i64 r0), .v (.bool r1)]) [.box 105 [.ifc 98 (.agg []), .v (.int .i64 r2), .v (.int .i64 r3), .v (.int .i64 r4)]]) := by kernel_rfl

theorem entry_point_Search_Found_binary {R : Type} (K : AV → List O → Option R) (o0 : Int) (o0_1 : Int) (o0_2 : Int) :
    fnRun Try.prog (T_point_Search_Found @l_point_Search_ended_linear @l_point_Search_ended_binary @l_point_Search_ended_exponential) cuts_point_Search_Found_binary Try.f38 0 [.ptr 0 0] [.box 105 [.ifc 98 (.agg []), .v (.int .i64 o0), .v (.int .i64 o0_1), .v (.int .i64 o0_2)]] K =
    l_point_Search_Found_binary o0 o0_1 o0_2 (fun r0 r1 r2 r3 r4 => K (.tup [.v (.int .i64 r0), .v (.bool r1)]) [.box 105 [.ifc 98 (.agg []), .v (.int .i64 r2), .v (.int .i64 r3), .v (.int .i64 r4)]]) := gentry_point_Search_Found_binary @l_point_Search_ended_linear @l_point_Search_ended_binary @l_point_Search_ended_exponential K o0 o0_1 o0_2

abbrev cuts_point_Search_Found_exponential : Cuts := []

theorem gentry_point_Search_Found_exponential (l_point_Search_ended_linear : {R : Type} → Int → Int → Int → (Bool → Int → Int → Int → Option R) → Option R) (l_point_Search_ended_binary : {R : Type} → Int → Int → Int → (Bool → Int → Int → Int → Option R) → Option R) (l_point_Search_ended_exponential : {R : Type} → Int → Int → Int → Int → Bool → (Bool → Int → Int → Int → Int → Bool → Option R) → Option R) {R : Type} (K : AV → List O → Option R) (o0 : Int) (o0_1 : Int) (o0_2 : Int) (o1 : Int) (o1_1 : Bool) :
    fnRun Try.prog (T_point_Search_Found @l_point_Search_ended_linear @l_point_Search_ended_binary @l_point_Search_ended_exponential) cuts_point_Search_Found_exponential Try.f38 0 [.ptr 0 0] [.box 105 [.ifc 99 (.ptr 1 0), .v (.int .i64 o0), .v (.int .i64 o0_1), .v (.int .i64 o0_2)], .box 101 [.v (.int .i64 o1), .v (.bool o1_1)]] K =
    (fun (o0 : Int) (o0_1 : Int) (o0_2 : Int) (o1 : Int) (o1_1 : Bool) (K0 : Int → Bool → Int → Int → Int → Int → Bool → Option R) =>
    l_point_Search_ended_exponential o0 o0_1 o0_2 o1 o1_1
     (fun r1 r2 r3 r4 r5 r6 =>
      bi (!r1)
       (K0 0 false r2 r3 r4 r5 r6)
       (K0 r2 true r2 r3 r4 r5 r6))) o0 o0_1 o0_2 o1 o1_1 (fun r0 r1 r2 r3 r4 r5 r6 => K (.tup [.v (.int .i64 r0), .v (.bool r1)]) [.box 105 [.ifc 99 (.ptr 1 0), .v (.int .i64 r2), .v (.int .i64 r3), .v (.int .i64 r4)], .box 101 [.v (.int .i64 r5), .v (.bool r6)]]) := by kernel_rfl

theorem entry_point_Search_Found_exponential {R : Type} (K : AV → List O → Option R) (o0 : Int) (o0_1 : Int) (o0_2 : Int) (o1 : Int) (o1_1 : Bool) :
    fnRun Try.prog (T_point_Search_Found @l_point_Search_ended_linear @l_point_Search_ended_binary @l_point_Search_ended_exponential) cuts_point_Search_Found_exponential Try.f38 0 [.ptr 0 0] [.box 105 [.ifc 99 (.ptr 1 0), .v (.int .i64 o0), .v (.int .i64 o0_1), .v (.int .i64 o0_2)], .box 101 [.v (.int .i64 o1), .v (.bool o1_1)]] K =
    l_point_Search_Found_exponential o0 o0_1 o0_2 o1 o1_1 (fun r0 r1 r2 r3 r4 r5 r6 => K (.tup [.v (.int .i64 r0), .v (.bool r1)]) [.box 105 [.ifc 99 (.ptr 1 0), .v (.int .i64 r2), .v (.int .i64 r3), .v (.int .i64 r4)], .box 101 [.v (.int .i64 r5), .v (.bool r6)]]) := gentry_point_Search_Found_exponential @l_point_Search_ended_linear @l_point_Search_ended_binary @l_point_Search_ended_exponential K o0 o0_1 o0_2 o1 o1_1

def S_point_Search_Found (l_point_Search_Found_linear : {R : Type} → Int → Int → Int → (Int → Bool → Int → Int → Int → Option R) → Option R) (l_point_Search_Found_binary : {R : Type} → Int → Int → Int → (Int → Bool → Int → Int → Int → Option R) → Option R) (l_point_Search_Found_exponential : {R : Type} → Int → Int → Int → Int → Bool → (Int → Bool → Int → Int → Int → Int → Bool → Option R) → Option R) : Sum := ⟨[], fun {R} args ob K => match args, ob with
  | [.ptr 0 0], [.box 105 [.ifc 97 (.agg []), .v (.int .i64 o0), .v (.int .i64 o0_1), .v (.int .i64 o0_2)]] => l_point_Search_Found_linear o0 o0_1 o0_2 (fun r0 r1 r2 r3 r4 => K (.tup [.v (.int .i64 r0), .v (.bool r1)]) [.box 105 [.ifc 97 (.agg []), .v (.int .i64 r2), .v (.int .i64 r3), .v (.int .i64 r4)]])
  | [.ptr 0 0], [.box 105 [.ifc 98 (.agg []), .v (.int .i64 o0), .v (.int .i64 o0_1), .v (.int .i64 o0_2)]] => l_point_Search_Found_binary o0 o0_1 o0_2 (fun r0 r1 r2 r3 r4 => K (.tup [.v (.int .i64 r0), .v (.bool r1)]) [.box 105 [.ifc 98 (.agg []), .v (.int .i64 r2), .v (.int .i64 r3), .v (.int .i64 r4)]])
  | [.ptr 0 0], [.box 105 [.ifc 99 (.ptr 1 0), .v (.int .i64 o0), .v (.int .i64 o0_1), .v (.int .i64 o0_2)], .box 101 [.v (.int .i64 o1), .v (.bool o1_1)]] => l_point_Search_Found_exponential o0 o0_1 o0_2 o1 o1_1 (fun r0 r1 r2 r3 r4 r5 r6 => K (.tup [.v (.int .i64 r0), .v (.bool r1)]) [.box 105 [.ifc 99 (.ptr 1 0), .v (.int .i64 r2), .v (.int .i64 r3), .v (.int .i64 r4)], .box 101 [.v (.int .i64 r5), .v (.bool r6)]])
  | _, _ => none⟩

theorem sound_point_Search_Found : Sound Try.prog 38 (S_point_Search_Found @l_point_Search_Found_linear @l_point_Search_Found_binary @l_point_Search_Found_exponential) := by
  refine fn_sound (cuts := cuts_point_Search_Found_linear) (fn := Try.f38) (Γ := (T_point_Search_Found @l_point_Search_ended_linear @l_point_Search_ended_binary @l_point_Search_ended_exponential)) wide right_T_point_Search_Found Try.func38 fun {R} K r args ob h => ?_
  unfold S_point_Search_Found at h
  dsimp only at h
  split at h
  · exact ⟨Nat.le_of_ble_eq_true (by kernel_rfl), 0, (entry_point_Search_Found_linear K _ _ _).trans h⟩
  · exact ⟨Nat.le_of_ble_eq_true (by kernel_rfl), 0, (entry_point_Search_Found_binary K _ _ _).trans h⟩
  · exact ⟨Nat.le_of_ble_eq_true (by kernel_rfl), 0, (entry_point_Search_Found_exponential K _ _ _ _ _).trans h⟩
  · cases h

theorem call_point_Search_Found : Callable Try.prog 38 := ⟨_, Try.func38, by kernel_rfl, by kernel_rfl⟩

def T_point_Search_Asked : FuncId → Option Sum := G0

theorem right_T_point_Search_Asked : Right Try.prog T_point_Search_Asked := right_G0

abbrev cuts_point_Search_Asked_linear : Cuts := []

theorem gentry_point_Search_Asked_linear {R : Type} (K : AV → List O → Option R) (o0 : Int) (o0_1 : Int) (o0_2 : Int) :
    fnRun Try.prog T_point_Search_Asked cuts_point_Search_Asked_linear Try.f39 0 [.ptr 0 0] [.box 105 [.ifc 97 (.agg []), .v (.int .i64 o0), .v (.int .i64 o0_1), .v (.int .i64 o0_2)]] K =
    (fun (o0 : Int) (o0_1 : Int) (o0_2 : Int) (K0 : Int → Int → Int → Int → Option R) =>
    K0 o0_2 o0 o0_1 o0_2) o0 o0_1 o0_2 (fun r0 r1 r2 r3 => K (.v (.int .i64 r0)) [.box 105 [.ifc 97 (.agg []), .v (.int .i64 r1), .v (.int .i64 r2), .v (.int .i64 r3)]]) := by kernel_rfl

theorem entry_point_Search_Asked_linear {R : Type} (K : AV → List O → Option R) (o0 : Int) (o0_1 : Int) (o0_2 : Int) :
    fnRun Try.prog T_point_Search_Asked cuts_point_Search_Asked_linear Try.f39 0 [.ptr 0 0] [.box 105 [.ifc 97 (.agg []), .v (.int .i64 o0), .v (.int .i64 o0_1), .v (.int .i64 o0_2)]] K =
    l_point_Search_Asked_linear o0 o0_1 o0_2 (fun r0 r1 r2 r3 => K (.v (.int .i64 r0)) [.box 105 [.ifc 97 (.agg []), .v (.int .i64 r1), .v (.int .i64 r2), .v (.int .i64 r3)]]) := gentry_point_Search_Asked_linear K o0 o0_1 o0_2

abbrev cuts_point_Search_Asked_binary : Cuts := []

theorem gentry_point_Search_Asked_binary {R : Type} (K : AV → List O → Option R) (o0 : Int) (o0_1 : Int) (o0_2 : Int) :
    fnRun Try.prog T_point_Search_Asked cuts_point_Search_Asked_binary Try.f39 0 [.ptr 0 0] [.box 105 [.ifc 98 (.agg []), .v (.int .i64 o0), .v (.int .i64 o0_1), .v (.int .i64 o0_2)]] K =
    (fun (o0 : Int) (o0_1 : Int) (o0_2 : Int) (K0 : Int → Int → Int → Int → Option R) =>
    K0 o0_2 o0 o0_1 o0_2) o0 o0_1 o0_2 (fun r0 r1 r2 r3 => K (.v (.int .i64 r0)) [.box 105 [.ifc 98 (.agg []), .v (.int .i64 r1), .v (.int .i64 r2), .v (.int .i64 r3)]]) := by kernel_rfl

theorem entry_point_Search_Asked_binary {R : Type} (K : AV → List O → Option R) (o0 : Int) (o0_1 : Int) (o0_2 : Int) :
    fnRun Try.prog T_point_Search_Asked cuts_point_Search_Asked_binary Try.f39 0 [.ptr 0 0] [.box 105 [.ifc 98 (.agg []), .v (.int .i64 o0), .v (.int .i64 o0_1), .v (.int .i64 o0_2)]] K =
    l_point_Search_Asked_binary o0 o0_1 o0_2 (fun r0 r1 r2 r3 => K (.v (.int .i64 r0)) [.box 105 [.ifc 98 (.agg []), .v (.int .i64 r1), .v (.int .i64 r2), .v (.int .i64 r3)]]) := gentry_point_Search_Asked_binary K o0 o0_1 o0_2

abbrev cuts_point_Search_Asked_exponential : Cuts := []

theorem gentry_point_Search_Asked_exponential {R : Type} (K : AV → List O → Option R) (o0 : Int) (o0_1 : Int) (o0_2 : Int) (o1 : Int) (o1_1 : Bool) :
    fnRun Try.prog T_point_Search_Asked cuts_point_Search_Asked_exponential Try.f39 0 [.ptr 0 0] [.box 105 [.ifc 99 (.ptr 1 0), .v (.int .i64 o0), .v (.int .i64 o0_1), .v (.int .i64 o0_2)], .box 101 [.v (.int .i64 o1), .v (.bool o1_1)]] K =
    (fun (o0 : Int) (o0_1 : Int) (o0_2 : Int) (o1 : Int) (o1_1 : Bool) (K0 : Int → Int → Int → Int → Int → Bool → Option R) =>
    K0 o0_2 o0 o0_1 o0_2 o1 o1_1) o0 o0_1 o0_2 o1 o1_1 (fun r0 r1 r2 r3 r4 r5 => K (.v (.int .i64 r0)) [.box 105 [.ifc 99 (.ptr 1 0), .v (.int .i64 r1), .v (.int .i64 r2), .v (.int .i64 r3)], .box 101 [.v (.int .i64 r4), .v (.bool r5)]]) := by kernel_rfl

theorem entry_point_Search_Asked_exponential {R : Type} (K : AV → List O → Option R) (o0 : Int) (o0_1 : Int) (o0_2 : Int) (o1 : Int) (o1_1 : Bool) :
    fnRun Try.prog T_point_Search_Asked cuts_point_Search_Asked_exponential Try.f39 0 [.ptr 0 0] [.box 105 [.ifc 99 (.ptr 1 0), .v (.int .i64 o0), .v (.int .i64 o0_1), .v (.int .i64 o0_2)], .box 101 [.v (.int .i64 o1), .v (.bool o1_1)]] K =
    l_point_Search_Asked_exponential o0 o0_1 o0_2 o1 o1_1 (fun r0 r1 r2 r3 r4 r5 => K (.v (.int .i64 r0)) [.box 105 [.ifc 99 (.ptr 1 0), .v (.int .i64 r1), .v (.int .i64 r2), .v (.int .i64 r3)], .box 101 [.v (.int .i64 r4), .v (.bool r5)]]) := gentry_point_Search_Asked_exponential K o0 o0_1 o0_2 o1 o1_1

def S_point_Search_Asked (l_point_Search_Asked_linear : {R : Type} → Int → Int → Int → (Int → Int → Int → Int → Option R) → Option R) (l_point_Search_Asked_binary : {R : Type} → Int → Int → Int → (Int → Int → Int → Int → Option R) → Option R) (l_point_Search_Asked_exponential : {R : Type} → Int → Int → Int → Int → Bool → (Int → Int → Int → Int → Int → Bool → Option R) → Option R) : Sum := ⟨[], fun {R} args ob K => match args, ob with
  | [.ptr 0 0], [.box 105 [.ifc 97 (.agg []), .v (.int .i64 o0), .v (.int .i64 o0_1), .v (.int .i64 o0_2)]] => l_point_Search_Asked_linear o0 o0_1 o0_2 (fun r0 r1 r2 r3 => K (.v (.int .i64 r0)) [.box 105 [.ifc 97 (.agg []), .v (.int .i64 r1), .v (.int .i64 r2), .v (.int .i64 r3)]])
  | [.ptr 0 0], [.box 105 [.ifc 98 (.agg []), .v (.int .i64 o0), .v (.int .i64 o0_1), .v (.int .i64 o0_2)]] => l_point_Search_Asked_binary o0 o0_1 o0_2 (fun r0 r1 r2 r3 => K (.v (.int .i64 r0)) [.box 105 [.ifc 98 (.agg []), .v (.int .i64 r1), .v (.int .i64 r2), .v (.int .i64 r3)]])
  | [.ptr 0 0], [.box 105 [.ifc 99 (.ptr 1 0), .v (.int .i64 o0), .v (.int .i64 o0_1), .v (.int .i64 o0_2)], .box 101 [.v (.int .i64 o1), .v (.bool o1_1)]] => l_point_Search_Asked_exponential o0 o0_1 o0_2 o1 o1_1 (fun r0 r1 r2 r3 r4 r5 => K (.v (.int .i64 r0)) [.box 105 [.ifc 99 (.ptr 1 0), .v (.int .i64 r1), .v (.int .i64 r2), .v (.int .i64 r3)], .box 101 [.v (.int .i64 r4), .v (.bool r5)]])
  | _, _ => none⟩

theorem sound_point_Search_Asked : Sound Try.prog 39 (S_point_Search_Asked @l_point_Search_Asked_linear @l_point_Search_Asked_binary @l_point_Search_Asked_exponential) := by
  refine fn_sound (cuts := cuts_point_Search_Asked_linear) (fn := Try.f39) (Γ := T_point_Search_Asked) wide right_T_point_Search_Asked Try.func39 fun {R} K r args ob h => ?_
  unfold S_point_Search_Asked at h
  dsimp only at h
  split at h
  · exact ⟨Nat.le_of_ble_eq_true (by kernel_rfl), 0, (entry_point_Search_Asked_linear K _ _ _).trans h⟩
  · exact ⟨Nat.le_of_ble_eq_true (by kernel_rfl), 0, (entry_point_Search_Asked_binary K _ _ _).trans h⟩
  · exact ⟨Nat.le_of_ble_eq_true (by kernel_rfl), 0, (entry_point_Search_Asked_exponential K _ _ _ _ _).trans h⟩
  · cases h

theorem call_point_Search_Asked : Callable Try.prog 39 := ⟨_, Try.func39, by kernel_rfl, by kernel_rfl⟩

def T_tutorlaw12_live (l_tutorlaw12_num : {R : Type} → Int → (Int → Option R) → Option R) (l_point_Search_Asked_linear : {R : Type} → Int → Int → Int → (Int → Int → Int → Int → Option R) → Option R) (l_point_Search_Asked_binary : {R : Type} → Int → Int → Int → (Int → Int → Int → Int → Option R) → Option R) (l_point_Search_Asked_exponential : {R : Type} → Int → Int → Int → Int → Bool → (Int → Int → Int → Int → Int → Bool → Option R) → Option R) (l_point_Search_Found_linear : {R : Type} → Int → Int → Int → (Int → Bool → Int → Int → Int → Option R) → Option R) (l_point_Search_Found_binary : {R : Type} → Int → Int → Int → (Int → Bool → Int → Int → Int → Option R) → Option R) (l_point_Search_Found_exponential : {R : Type} → Int → Int → Int → Int → Bool → (Int → Bool → Int → Int → Int → Int → Bool → Option R) → Option R) (l_point_Search_Tell_linear : {R : Type} → Bool → Int → Int → Int → (Int → Int → Int → Int → Option R) → Option R) (l_point_Search_Tell_binary : {R : Type} → Bool → Int → Int → Int → (Int → Int → Int → Int → Option R) → Option R) (l_point_Search_Tell_exponential : {R : Type} → Bool → Int → Int → Int → Int → Bool → (Int → Int → Int → Int → Int → Bool → Option R) → Option R) (l_point_Search_Ask_linear : {R : Type} → Int → Int → Int → (Int → Bool → Int → Int → Int → Option R) → Option R) (l_point_Search_Ask_binary : {R : Type} → Int → Int → Int → (Int → Bool → Int → Int → Int → Option R) → Option R) (l_point_Search_Ask_exponential : {R : Type} → Int → Int → Int → Int → Bool → (Int → Bool → Int → Int → Int → Int → Bool → Option R) → Option R) (l_point_New : {R : Type} → Int → Int → (Int → Option R) → (Int → Int → Int → Int → Option R) → (Int → Int → Int → Int → Option R) → (Int → Int → Int → Int → Int → Bool → Option R) → Option R) : FuncId → Option Sum := (addS (addS (addS (addS (addS (addS G0 34 (S_tutorlaw12_num @l_tutorlaw12_num)) 39 (S_point_Search_Asked @l_point_Search_Asked_linear @l_point_Search_Asked_binary @l_point_Search_Asked_exponential)) 38 (S_point_Search_Found @l_point_Search_Found_linear @l_point_Search_Found_binary @l_point_Search_Found_exponential)) 40 (S_point_Search_Tell @l_point_Search_Tell_linear @l_point_Search_Tell_binary @l_point_Search_Tell_exponential)) 36 (S_point_Search_Ask @l_point_Search_Ask_linear @l_point_Search_Ask_binary @l_point_Search_Ask_exponential)) 32 (S_point_New @l_point_New))

theorem right_T_tutorlaw12_live : Right Try.prog (T_tutorlaw12_live @l_tutorlaw12_num @l_point_Search_Asked_linear @l_point_Search_Asked_binary @l_point_Search_Asked_exponential @l_point_Search_Found_linear @l_point_Search_Found_binary @l_point_Search_Found_exponential @l_point_Search_Tell_linear @l_point_Search_Tell_binary @l_point_Search_Tell_exponential @l_point_Search_Ask_linear @l_point_Search_Ask_binary @l_point_Search_Ask_exponential @l_point_New) := (right_add (right_add (right_add (right_add (right_add (right_add right_G0 call_tutorlaw12_num sound_tutorlaw12_num) call_point_Search_Asked sound_point_Search_Asked) call_point_Search_Found sound_point_Search_Found) call_point_Search_Tell sound_point_Search_Tell) call_point_Search_Ask sound_point_Search_Ask) call_point_New sound_point_New)

abbrev cuts_tutorlaw12_live : Cuts := []

theorem gentry_tutorlaw12_live (l_tutorlaw12_num : {R : Type} → Int → (Int → Option R) → Option R) (l_point_Search_Asked_linear : {R : Type} → Int → Int → Int → (Int → Int → Int → Int → Option R) → Option R) (l_point_Search_Asked_binary : {R : Type} → Int → Int → Int → (Int → Int → Int → Int → Option R) → Option R) (l_point_Search_Asked_exponential : {R : Type} → Int → Int → Int → Int → Bool → (Int → Int → Int → Int → Int → Bool → Option R) → Option R) (l_point_Search_Found_linear : {R : Type} → Int → Int → Int → (Int → Bool → Int → Int → Int → Option R) → Option R) (l_point_Search_Found_binary : {R : Type} → Int → Int → Int → (Int → Bool → Int → Int → Int → Option R) → Option R) (l_point_Search_Found_exponential : {R : Type} → Int → Int → Int → Int → Bool → (Int → Bool → Int → Int → Int → Int → Bool → Option R) → Option R) (l_point_Search_Tell_linear : {R : Type} → Bool → Int → Int → Int → (Int → Int → Int → Int → Option R) → Option R) (l_point_Search_Tell_binary : {R : Type} → Bool → Int → Int → Int → (Int → Int → Int → Int → Option R) → Option R) (l_point_Search_Tell_exponential : {R : Type} → Bool → Int → Int → Int → Int → Bool → (Int → Int → Int → Int → Int → Bool → Option R) → Option R) (l_point_Search_Ask_linear : {R : Type} → Int → Int → Int → (Int → Bool → Int → Int → Int → Option R) → Option R) (l_point_Search_Ask_binary : {R : Type} → Int → Int → Int → (Int → Bool → Int → Int → Int → Option R) → Option R) (l_point_Search_Ask_exponential : {R : Type} → Int → Int → Int → Int → Bool → (Int → Bool → Int → Int → Int → Int → Bool → Option R) → Option R) (l_point_New : {R : Type} → Int → Int → (Int → Option R) → (Int → Int → Int → Int → Option R) → (Int → Int → Int → Int → Option R) → (Int → Int → Int → Int → Int → Bool → Option R) → Option R) {R : Type} (K : AV → List O → Option R)  :
    fnRun Try.prog (T_tutorlaw12_live @l_tutorlaw12_num @l_point_Search_Asked_linear @l_point_Search_Asked_binary @l_point_Search_Asked_exponential @l_point_Search_Found_linear @l_point_Search_Found_binary @l_point_Search_Found_exponential @l_point_Search_Tell_linear @l_point_Search_Tell_binary @l_point_Search_Tell_exponential @l_point_Search_Ask_linear @l_point_Search_Ask_binary @l_point_Search_Ask_exponential @l_point_New) cuts_tutorlaw12_live Try.f35 0 [] [] K =
    (fun  (K0 : Bool → Option R) =>
    l_point_New 2 8
     (fun r1 =>
      l_tutorlaw12_num r1
       (fun r2 =>
        bi (r2 != 0)
         (K0 false)
         (K0 false)))
     (fun r3 r4 r5 r6 =>
      l_tutorlaw12_num r3
       (fun r7 =>
        bi (r7 != 0)
         (K0 false)
         (l_point_Search_Ask_linear r4 r5 r6
          (fun r8 r9 r10 r11 r12 =>
           l_point_Search_Tell_linear true r10 r11 r12
            (fun r13 r14 r15 r16 =>
             l_point_Search_Ask_linear r14 r15 r16
              (fun r17 r18 r19 r20 r21 =>
               l_point_Search_Tell_linear false r19 r20 r21
                (fun r22 r23 r24 r25 =>
                 l_point_Search_Ask_linear r23 r24 r25
                  (fun r26 r27 r28 r29 r30 =>
                   l_point_Search_Tell_linear false r28 r29 r30
                    (fun r31 r32 r33 r34 =>
                     l_point_Search_Found_linear r32 r33 r34
                      (fun r35 r36 r37 r38 r39 =>
                       bi (r8 == 4)
                        (bi (r17 == 2)
                         (bi (r26 == 3)
                          (bi (r35 == 3)
                           (bi r36
                            (l_point_Search_Asked_linear r37 r38 r39
                             (fun r40 r41 r42 r43 =>
                              K0 (r40 == 3)))
                            (K0 false))
                           (K0 false))
                          (K0 false))
                         (K0 false))
                        (K0 false)))))))))))
     (fun r44 r45 r46 r47 =>
      l_tutorlaw12_num r44
       (fun r48 =>
        bi (r48 != 0)
         (K0 false)
         (l_point_Search_Ask_binary r45 r46 r47
          (fun r49 r50 r51 r52 r53 =>
           l_point_Search_Tell_binary true r51 r52 r53
            (fun r54 r55 r56 r57 =>
             l_point_Search_Ask_binary r55 r56 r57
              (fun r58 r59 r60 r61 r62 =>
               l_point_Search_Tell_binary false r60 r61 r62
                (fun r63 r64 r65 r66 =>
                 l_point_Search_Ask_binary r64 r65 r66
                  (fun r67 r68 r69 r70 r71 =>
                   l_point_Search_Tell_binary false r69 r70 r71
                    (fun r72 r73 r74 r75 =>
                     l_point_Search_Found_binary r73 r74 r75
                      (fun r76 r77 r78 r79 r80 =>
                       bi (r49 == 4)
                        (bi (r58 == 2)
                         (bi (r67 == 3)
                          (bi (r76 == 3)
                           (bi r77
                            (l_point_Search_Asked_binary r78 r79 r80
                             (fun r81 r82 r83 r84 =>
                              K0 (r81 == 3)))
                            (K0 false))
                           (K0 false))
                          (K0 false))
                         (K0 false))
                        (K0 false)))))))))))
     (fun r85 r86 r87 r88 r89 r90 =>
      l_tutorlaw12_num r85
       (fun r91 =>
        bi (r91 != 0)
         (K0 false)
         (l_point_Search_Ask_exponential r86 r87 r88 r89 r90
          (fun r92 r93 r94 r95 r96 r97 r98 =>
           l_point_Search_Tell_exponential true r94 r95 r96 r97 r98
            (fun r99 r100 r101 r102 r103 r104 =>
             l_point_Search_Ask_exponential r100 r101 r102 r103 r104
              (fun r105 r106 r107 r108 r109 r110 r111 =>
               l_point_Search_Tell_exponential false r107 r108 r109 r110 r111
                (fun r112 r113 r114 r115 r116 r117 =>
                 l_point_Search_Ask_exponential r113 r114 r115 r116 r117
                  (fun r118 r119 r120 r121 r122 r123 r124 =>
                   l_point_Search_Tell_exponential false r120 r121 r122 r123 r124
                    (fun r125 r126 r127 r128 r129 r130 =>
                     l_point_Search_Found_exponential r126 r127 r128 r129 r130
                      (fun r131 r132 r133 r134 r135 r136 r137 =>
                       bi (r92 == 4)
                        (bi (r105 == 2)
                         (bi (r118 == 3)
                          (bi (r131 == 3)
                           (bi r132
                            (l_point_Search_Asked_exponential r133 r134 r135 r136 r137
                             (fun r138 r139 r140 r141 r142 r143 =>
                              K0 (r138 == 3)))
                            (K0 false))
                           (K0 false))
                          (K0 false))
                         (K0 false))
                        (K0 false))))))))))))  (fun r0 => K (.v (.bool r0)) []) := by kernel_rfl

theorem entry_tutorlaw12_live {R : Type} (K : AV → List O → Option R)  :
    fnRun Try.prog (T_tutorlaw12_live @l_tutorlaw12_num @l_point_Search_Asked_linear @l_point_Search_Asked_binary @l_point_Search_Asked_exponential @l_point_Search_Found_linear @l_point_Search_Found_binary @l_point_Search_Found_exponential @l_point_Search_Tell_linear @l_point_Search_Tell_binary @l_point_Search_Tell_exponential @l_point_Search_Ask_linear @l_point_Search_Ask_binary @l_point_Search_Ask_exponential @l_point_New) cuts_tutorlaw12_live Try.f35 0 [] [] K =
    l_tutorlaw12_live  (fun r0 => K (.v (.bool r0)) []) := gentry_tutorlaw12_live @l_tutorlaw12_num @l_point_Search_Asked_linear @l_point_Search_Asked_binary @l_point_Search_Asked_exponential @l_point_Search_Found_linear @l_point_Search_Found_binary @l_point_Search_Found_exponential @l_point_Search_Tell_linear @l_point_Search_Tell_binary @l_point_Search_Tell_exponential @l_point_Search_Ask_linear @l_point_Search_Ask_binary @l_point_Search_Ask_exponential @l_point_New K 

def S_tutorlaw12_live (l_tutorlaw12_live : {R : Type} → (Bool → Option R) → Option R) : Sum := ⟨[], fun {R} args ob K => match args, ob with
  | [], [] => l_tutorlaw12_live  (fun r0 => K (.v (.bool r0)) [])
  | _, _ => none⟩

theorem sound_tutorlaw12_live : Sound Try.prog 35 (S_tutorlaw12_live @l_tutorlaw12_live) := by
  refine fn_sound (cuts := cuts_tutorlaw12_live) (fn := Try.f35) (Γ := (T_tutorlaw12_live @l_tutorlaw12_num @l_point_Search_Asked_linear @l_point_Search_Asked_binary @l_point_Search_Asked_exponential @l_point_Search_Found_linear @l_point_Search_Found_binary @l_point_Search_Found_exponential @l_point_Search_Tell_linear @l_point_Search_Tell_binary @l_point_Search_Tell_exponential @l_point_Search_Ask_linear @l_point_Search_Ask_binary @l_point_Search_Ask_exponential @l_point_New)) wide right_T_tutorlaw12_live Try.func35 fun {R} K r args ob h => ?_
  unfold S_tutorlaw12_live at h
  dsimp only at h
  split at h
  · exact ⟨Nat.le_of_ble_eq_true (by kernel_rfl), 0, (entry_tutorlaw12_live K).trans h⟩
  · cases h

theorem call_tutorlaw12_live : Callable Try.prog 35 := ⟨_, Try.func35, by kernel_rfl, by kernel_rfl⟩

def T_tutorref01_Lent : FuncId → Option Sum := G0

theorem right_T_tutorref01_Lent : Right Try.prog T_tutorref01_Lent := right_G0

abbrev cuts_tutorref01_Lent : Cuts := []

theorem gentry_tutorref01_Lent {R : Type} (K : AV → List O → Option R) (a : List Int) :
    fnRun Try.prog T_tutorref01_Lent cuts_tutorref01_Lent Try.f28 0 [.rd ⟨false, 3, (.int .i64), a⟩] [] K =
    (fun (a : List Int) (K0 : Nat → (List Int) → Option R) =>
    bi (decide ((([] : List Int).length + a.length) * 8 ≤ lim))
     (bi (decide (((([] : List Int) ++ a).length + [(-771), (-772)].length) * 8 ≤ lim))
      (bi (decide (0 ≤ (a.length : Int) ∧ (a.length : Int) ≤ ((((([] : List Int) ++ a) ++ [(-771), (-772)]).length : Nat) : Int)))
       (K0 ((a.length : Int).toNat) ((([] : List Int) ++ a) ++ [(-771), (-772)]))
       none)
      none)
     none) a (fun r0 r1 => K (.view 0 1 0 r0) [.row ⟨true, 3, (.int .i64), r1⟩]) := by kernel_rfl

theorem entry_tutorref01_Lent {R : Type} (K : AV → List O → Option R) (a : List Int) :
    fnRun Try.prog T_tutorref01_Lent cuts_tutorref01_Lent Try.f28 0 [.rd ⟨false, 3, (.int .i64), a⟩] [] K =
    l_tutorref01_Lent a (fun r0 r1 => K (.view 0 1 0 r0) [.row ⟨true, 3, (.int .i64), r1⟩]) := gentry_tutorref01_Lent K a

def S_tutorref01_Lent (l_tutorref01_Lent : {R : Type} → (List Int) → (Nat → (List Int) → Option R) → Option R) : Sum := ⟨[], fun {R} args ob K => match args, ob with
  | [.rd ⟨false, 3, (.int .i64), a⟩], [] => l_tutorref01_Lent a (fun r0 r1 => K (.view 0 1 0 r0) [.row ⟨true, 3, (.int .i64), r1⟩])
  | _, _ => none⟩

theorem sound_tutorref01_Lent : Sound Try.prog 28 (S_tutorref01_Lent @l_tutorref01_Lent) := by
  refine fn_sound (cuts := cuts_tutorref01_Lent) (fn := Try.f28) (Γ := T_tutorref01_Lent) wide right_T_tutorref01_Lent Try.func28 fun {R} K r args ob h => ?_
  unfold S_tutorref01_Lent at h
  dsimp only at h
  split at h
  · exact ⟨Nat.le_of_ble_eq_true (by kernel_rfl), 0, (entry_tutorref01_Lent K _).trans h⟩
  · cases h

theorem call_tutorref01_Lent : Callable Try.prog 28 := ⟨_, Try.func28, by kernel_rfl, by kernel_rfl⟩

theorem nil_slices_Clone_int_int {R : Type} (K : AV → List O → Option R) (c : Nat) :
    fnRun Try.prog G0 [] Try.f70 0 [.v (.slice none 0 c)] [] K = K (.own 0) [.row ⟨true, 3, (.int .i64), []⟩] := by kernel_rfl

theorem emp_slices_Clone_int_int {R : Type} (K : AV → List O → Option R) (a : Addr) (c : Nat) :
    fnRun Try.prog G0 [] Try.f70 0 [.v (.slice (some a) 0 c)] [] K = K (.own 0) [.row ⟨true, 3, (.int .i64), [] ++ []⟩] := by kernel_rfl

theorem cons_slices_Clone_int_int {R : Type} (K : AV → List O → Option R) (x : Int) (xs : List Int) :
    fnRun Try.prog G0 [] Try.f70 0 [.rd ⟨false, 3, (.int .i64), x :: xs⟩] [] K =
    bi (decide ((([] : List Int).length + (x :: xs).length) * 8 ≤ lim)) (K (.own 0) [.row ⟨true, 3, (.int .i64), [] ++ (x :: xs)⟩]) none := by kernel_rfl

def S_slices_Clone_int_int (l_slices_Clone_int_int : {R : Type} → (List Int) → ((List Int) → Option R) → Option R) : Sum := ⟨[], fun {R} args ob K => match args, ob with
  | [.rd ⟨false, 3, (.int .i64), s⟩], [] => l_slices_Clone_int_int s (fun r0 => K (.own 0) [.row ⟨true, 3, (.int .i64), r0⟩])
  | _, _ => none⟩

theorem sound_slices_Clone_int_int : Sound Try.prog 70 (S_slices_Clone_int_int @l_slices_Clone_int_int) := by
  refine fn_sound' (cuts := []) (fn := Try.f70) (Γ := G0) wide right_G0 Try.func70 fun {R} K r args ob h vals w ok β hr => ?_
  unfold S_slices_Clone_int_int at h
  dsimp only at h
  split at h
  · rename_i s
    obtain ⟨v, rfl, hv⟩ := hr.single
    rcases bi_some h with ⟨hl, h⟩ | ⟨_, h⟩
    · cases hv with
      | rd _ A c hc hrow =>
        cases s with
        | nil => cases A with
          | none => exact ⟨[.v (.slice none 0 c)], RepL.consts _ _ _ [.slice none 0 c], Nat.le_of_ble_eq_true (by kernel_rfl), 0, (nil_slices_Clone_int_int K c).trans h⟩
          | some a => exact ⟨[.v (.slice (some a) 0 c)], RepL.consts _ _ _ [.slice (some a) 0 c], Nat.le_of_ble_eq_true (by kernel_rfl), 0, (emp_slices_Clone_int_int K a c).trans h⟩
        | cons x xs =>
          refine ⟨_, hr, Nat.le_of_ble_eq_true (by kernel_rfl), 0, (cons_slices_Clone_int_int K x xs).trans ?_⟩
          rw [List.length_nil, Nat.zero_add, hl, br_tt]
          exact h
    · cases h
  · cases h

theorem call_slices_Clone_int_int : Callable Try.prog 70 := ⟨_, Try.func70, by kernel_rfl, by kernel_rfl⟩

def T_word_Prefixes (l_slices_Clone_int_int : {R : Type} → (List Int) → ((List Int) → Option R) → Option R) : FuncId → Option Sum := (addS G0 70 (S_slices_Clone_int_int @l_slices_Clone_int_int))

theorem right_T_word_Prefixes : Right Try.prog (T_word_Prefixes @l_slices_Clone_int_int) := (right_add right_G0 call_slices_Clone_int_int sound_slices_Clone_int_int)

abbrev cuts_word_Prefixes : Cuts := [(3, [0, 3, 7, 8])]

theorem gstep_word_Prefixes_3 (l_slices_Clone_int_int : {R : Type} → (List Int) → ((List Int) → Option R) → Option R) {R : Type} (g : List Item → St → Option R) (K : AV → List O → Option R) (w : List Int) (x7 : Int) (x8 : Int) (o0 : List (List Int)) :
    runSeg Try.prog (T_word_Prefixes @l_slices_Clone_int_int) cuts_word_Prefixes 0 g (finish Try.prog Try.f63 0 K) (at' Try.f63 3) ⟨fr0 20 [(0, .rd ⟨false, 3, (.int .i64), w⟩), (3, .nst 0), (7, .v (.int .i64 x7)), (8, .v (.int .i64 x8))], [.nst ⟨true, 22, (.sl 3 (.int .i64)), o0⟩]⟩ =
    (fun (g63_3 : (List Int) → Int → Int → (List (List Int)) → Option R) (K0 : (List (List Int)) → Option R) (w : List Int) (x7 : Int) (x8 : Int) (o0 : List (List Int)) =>
    bi (decide (x8 < x7))
     (bi (decide (0 ≤ x8 ∧ x8 ≤ ((w.length : Nat) : Int)))
      (l_slices_Clone_int_int (w.take x8.toNat)
       (fun r1 =>
        bi (decide ((o0.length + [r1].length) * 24 ≤ lim))
         (g63_3 w x7 (IntKind.i64.wrap (x8 + 1)) (o0 ++ [r1]))
         none))
      none)
     (K0 o0)) (fun w x7 x8 o0 => g (at' Try.f63 3) ⟨fr0 20 [(0, .rd ⟨false, 3, (.int .i64), w⟩), (3, .nst 0), (7, .v (.int .i64 x7)), (8, .v (.int .i64 x8))], [.nst ⟨true, 22, (.sl 3 (.int .i64)), o0⟩]⟩) (fun r0 => K (.nst 0) [.nst ⟨true, 22, (.sl 3 (.int .i64)), r0⟩]) w x7 x8 o0 := by kernel_rfl

theorem step_word_Prefixes_3 {R : Type} (g : List Item → St → Option R) (K : AV → List O → Option R) (w : List Int) (x7 : Int) (x8 : Int) (o0 : List (List Int)) :
    runSeg Try.prog (T_word_Prefixes @l_slices_Clone_int_int) cuts_word_Prefixes 0 g (finish Try.prog Try.f63 0 K) (at' Try.f63 3) ⟨fr0 20 [(0, .rd ⟨false, 3, (.int .i64), w⟩), (3, .nst 0), (7, .v (.int .i64 x7)), (8, .v (.int .i64 x8))], [.nst ⟨true, 22, (.sl 3 (.int .i64)), o0⟩]⟩ =
    s_word_Prefixes_3 (fun w x7 x8 o0 => g (at' Try.f63 3) ⟨fr0 20 [(0, .rd ⟨false, 3, (.int .i64), w⟩), (3, .nst 0), (7, .v (.int .i64 x7)), (8, .v (.int .i64 x8))], [.nst ⟨true, 22, (.sl 3 (.int .i64)), o0⟩]⟩) (fun r0 => K (.nst 0) [.nst ⟨true, 22, (.sl 3 (.int .i64)), r0⟩]) w x7 x8 o0 := gstep_word_Prefixes_3 @l_slices_Clone_int_int g K w x7 x8 o0

theorem gentry_word_Prefixes (l_slices_Clone_int_int : {R : Type} → (List Int) → ((List Int) → Option R) → Option R) {R : Type} (fuel : Nat) (K : AV → List O → Option R) (w : List Int) :
    fnRun Try.prog (T_word_Prefixes @l_slices_Clone_int_int) cuts_word_Prefixes Try.f63 fuel [.rd ⟨false, 3, (.int .i64), w⟩] [] K =
    (fun (g63_3 : (List Int) → Int → Int → (List (List Int)) → Option R) (K0 : (List (List Int)) → Option R) (w : List Int) =>
    g63_3 w (IntKind.i64.wrap ((w.length : Int) + 1)) 0 ([] : List (List Int))) (fun w x7 x8 o0 => (runO Try.prog (T_word_Prefixes @l_slices_Clone_int_int) cuts_word_Prefixes 0 (finish Try.prog Try.f63 0 K) fuel) (at' Try.f63 3) ⟨fr0 20 [(0, .rd ⟨false, 3, (.int .i64), w⟩), (3, .nst 0), (7, .v (.int .i64 x7)), (8, .v (.int .i64 x8))], [.nst ⟨true, 22, (.sl 3 (.int .i64)), o0⟩]⟩) (fun r0 => K (.nst 0) [.nst ⟨true, 22, (.sl 3 (.int .i64)), r0⟩]) w := by kernel_rfl

theorem entry_word_Prefixes {R : Type} (fuel : Nat) (K : AV → List O → Option R) (w : List Int) :
    fnRun Try.prog (T_word_Prefixes @l_slices_Clone_int_int) cuts_word_Prefixes Try.f63 fuel [.rd ⟨false, 3, (.int .i64), w⟩] [] K =
    e_word_Prefixes (fun w x7 x8 o0 => (runO Try.prog (T_word_Prefixes @l_slices_Clone_int_int) cuts_word_Prefixes 0 (finish Try.prog Try.f63 0 K) fuel) (at' Try.f63 3) ⟨fr0 20 [(0, .rd ⟨false, 3, (.int .i64), w⟩), (3, .nst 0), (7, .v (.int .i64 x7)), (8, .v (.int .i64 x8))], [.nst ⟨true, 22, (.sl 3 (.int .i64)), o0⟩]⟩) (fun r0 => K (.nst 0) [.nst ⟨true, 22, (.sl 3 (.int .i64)), r0⟩]) w := gentry_word_Prefixes @l_slices_Clone_int_int fuel K w

theorem runs_word_Prefixes {R : Type} (K : AV → List O → Option R) : ∀ fuel : Nat,
    (fun w x7 x8 o0 => (runO Try.prog (T_word_Prefixes @l_slices_Clone_int_int) cuts_word_Prefixes 0 (finish Try.prog Try.f63 0 K) fuel) (at' Try.f63 3) ⟨fr0 20 [(0, .rd ⟨false, 3, (.int .i64), w⟩), (3, .nst 0), (7, .v (.int .i64 x7)), (8, .v (.int .i64 x8))], [.nst ⟨true, 22, (.sl 3 (.int .i64)), o0⟩]⟩) = (run_word_Prefixes (fun r0 => K (.nst 0) [.nst ⟨true, 22, (.sl 3 (.int .i64)), r0⟩]) fuel)
  | 0 => rfl
  | fuel + 1 => by
    have ih := runs_word_Prefixes K fuel
    funext w x7 x8 o0
    refine (step_word_Prefixes_3 _ K w x7 x8 o0).trans ?_
    rw [ih]
    rfl

def S_word_Prefixes (l_word_Prefixes : {R : Type} → (List Int) → ((List (List Int)) → Option R) → Option R) : Sum := ⟨[], fun {R} args ob K => match args, ob with
  | [.rd ⟨false, 3, (.int .i64), w⟩], [] => l_word_Prefixes w (fun r0 => K (.nst 0) [.nst ⟨true, 22, (.sl 3 (.int .i64)), r0⟩])
  | _, _ => none⟩

theorem sound_word_Prefixes : Sound Try.prog 63 (S_word_Prefixes @l_word_Prefixes) := by
  refine fn_sound (cuts := cuts_word_Prefixes) (fn := Try.f63) (Γ := (T_word_Prefixes @l_slices_Clone_int_int)) wide right_T_word_Prefixes Try.func63 fun {R} K r args ob h => ?_
  unfold S_word_Prefixes at h
  dsimp only at h
  split at h
  · obtain ⟨n, hn⟩ := ok_word_Prefixes _ _ h
    refine ⟨Nat.le_of_ble_eq_true (by kernel_rfl), n, (entry_word_Prefixes n K _).trans ?_⟩
    rw [(runs_word_Prefixes K n)]
    exact hn
  · cases h

theorem call_word_Prefixes : Callable Try.prog 63 := ⟨_, Try.func63, by kernel_rfl, by kernel_rfl⟩

def T_point_Beginnings (l_word_Prefixes : {R : Type} → (List Int) → ((List (List Int)) → Option R) → Option R) : FuncId → Option Sum := (addS G0 63 (S_word_Prefixes @l_word_Prefixes))

theorem right_T_point_Beginnings : Right Try.prog (T_point_Beginnings @l_word_Prefixes) := (right_add right_G0 call_word_Prefixes sound_word_Prefixes)

abbrev cuts_point_Beginnings : Cuts := []

theorem gentry_point_Beginnings (l_word_Prefixes : {R : Type} → (List Int) → ((List (List Int)) → Option R) → Option R) {R : Type} (K : AV → List O → Option R) (w : List Int) :
    fnRun Try.prog (T_point_Beginnings @l_word_Prefixes) cuts_point_Beginnings Try.f44 0 [.rd ⟨false, 3, (.int .i64), w⟩] [] K =
    (fun (w : List Int) (K0 : (List (List Int)) → Option R) =>
    l_word_Prefixes w
     (fun r1 =>
      bi (decide (0 ≤ (1 : Int) ∧ (1 : Int) ≤ ((r1.length : Nat) : Int)))
       (K0 (r1.drop 1))
       none)) w (fun r0 => K (.nst 0) [.nst ⟨true, 22, (.sl 3 (.int .i64)), r0⟩]) := by kernel_rfl

theorem entry_point_Beginnings {R : Type} (K : AV → List O → Option R) (w : List Int) :
    fnRun Try.prog (T_point_Beginnings @l_word_Prefixes) cuts_point_Beginnings Try.f44 0 [.rd ⟨false, 3, (.int .i64), w⟩] [] K =
    l_point_Beginnings w (fun r0 => K (.nst 0) [.nst ⟨true, 22, (.sl 3 (.int .i64)), r0⟩]) := gentry_point_Beginnings @l_word_Prefixes K w

def S_point_Beginnings (l_point_Beginnings : {R : Type} → (List Int) → ((List (List Int)) → Option R) → Option R) : Sum := ⟨[], fun {R} args ob K => match args, ob with
  | [.rd ⟨false, 3, (.int .i64), w⟩], [] => l_point_Beginnings w (fun r0 => K (.nst 0) [.nst ⟨true, 22, (.sl 3 (.int .i64)), r0⟩])
  | _, _ => none⟩

theorem sound_point_Beginnings : Sound Try.prog 44 (S_point_Beginnings @l_point_Beginnings) := by
  refine fn_sound (cuts := cuts_point_Beginnings) (fn := Try.f44) (Γ := (T_point_Beginnings @l_word_Prefixes)) wide right_T_point_Beginnings Try.func44 fun {R} K r args ob h => ?_
  unfold S_point_Beginnings at h
  dsimp only at h
  split at h
  · exact ⟨Nat.le_of_ble_eq_true (by kernel_rfl), 0, (entry_point_Beginnings K _).trans h⟩
  · cases h

theorem call_point_Beginnings : Callable Try.prog 44 := ⟨_, Try.func44, by kernel_rfl, by kernel_rfl⟩

def T_word_Suffixes (l_slices_Clone_int_int : {R : Type} → (List Int) → ((List Int) → Option R) → Option R) : FuncId → Option Sum := (addS G0 70 (S_slices_Clone_int_int @l_slices_Clone_int_int))

theorem right_T_word_Suffixes : Right Try.prog (T_word_Suffixes @l_slices_Clone_int_int) := (right_add right_G0 call_slices_Clone_int_int sound_slices_Clone_int_int)

abbrev cuts_word_Suffixes : Cuts := [(3, [0, 3, 7, 8])]

theorem gstep_word_Suffixes_3 (l_slices_Clone_int_int : {R : Type} → (List Int) → ((List Int) → Option R) → Option R) {R : Type} (g : List Item → St → Option R) (K : AV → List O → Option R) (w : List Int) (x7 : Int) (x8 : Int) (o0 : List (List Int)) :
    runSeg Try.prog (T_word_Suffixes @l_slices_Clone_int_int) cuts_word_Suffixes 0 g (finish Try.prog Try.f64 0 K) (at' Try.f64 3) ⟨fr0 23 [(0, .rd ⟨false, 3, (.int .i64), w⟩), (3, .nst 0), (7, .v (.int .i64 x7)), (8, .v (.int .i64 x8))], [.nst ⟨true, 22, (.sl 3 (.int .i64)), o0⟩]⟩ =
    (fun (g64_3 : (List Int) → Int → Int → (List (List Int)) → Option R) (K0 : (List (List Int)) → Option R) (w : List Int) (x7 : Int) (x8 : Int) (o0 : List (List Int)) =>
    bi (decide (x8 < x7))
     (bi (decide (0 ≤ (IntKind.i64.wrap ((w.length : Int) - x8)) ∧ (IntKind.i64.wrap ((w.length : Int) - x8)) ≤ ((w.length : Nat) : Int)))
      (l_slices_Clone_int_int ((w.drop ((IntKind.i64.wrap ((w.length : Int) - x8)).toNat)).take (w.length - ((IntKind.i64.wrap ((w.length : Int) - x8)).toNat)))
       (fun r1 =>
        bi (decide ((o0.length + [r1].length) * 24 ≤ lim))
         (g64_3 w x7 (IntKind.i64.wrap (x8 + 1)) (o0 ++ [r1]))
         none))
      none)
     (K0 o0)) (fun w x7 x8 o0 => g (at' Try.f64 3) ⟨fr0 23 [(0, .rd ⟨false, 3, (.int .i64), w⟩), (3, .nst 0), (7, .v (.int .i64 x7)), (8, .v (.int .i64 x8))], [.nst ⟨true, 22, (.sl 3 (.int .i64)), o0⟩]⟩) (fun r0 => K (.nst 0) [.nst ⟨true, 22, (.sl 3 (.int .i64)), r0⟩]) w x7 x8 o0 := by kernel_rfl

theorem step_word_Suffixes_3 {R : Type} (g : List Item → St → Option R) (K : AV → List O → Option R) (w : List Int) (x7 : Int) (x8 : Int) (o0 : List (List Int)) :
    runSeg Try.prog (T_word_Suffixes @l_slices_Clone_int_int) cuts_word_Suffixes 0 g (finish Try.prog Try.f64 0 K) (at' Try.f64 3) ⟨fr0 23 [(0, .rd ⟨false, 3, (.int .i64), w⟩), (3, .nst 0), (7, .v (.int .i64 x7)), (8, .v (.int .i64 x8))], [.nst ⟨true, 22, (.sl 3 (.int .i64)), o0⟩]⟩ =
    s_word_Suffixes_3 (fun w x7 x8 o0 => g (at' Try.f64 3) ⟨fr0 23 [(0, .rd ⟨false, 3, (.int .i64), w⟩), (3, .nst 0), (7, .v (.int .i64 x7)), (8, .v (.int .i64 x8))], [.nst ⟨true, 22, (.sl 3 (.int .i64)), o0⟩]⟩) (fun r0 => K (.nst 0) [.nst ⟨true, 22, (.sl 3 (.int .i64)), r0⟩]) w x7 x8 o0 := gstep_word_Suffixes_3 @l_slices_Clone_int_int g K w x7 x8 o0

theorem gentry_word_Suffixes (l_slices_Clone_int_int : {R : Type} → (List Int) → ((List Int) → Option R) → Option R) {R : Type} (fuel : Nat) (K : AV → List O → Option R) (w : List Int) :
    fnRun Try.prog (T_word_Suffixes @l_slices_Clone_int_int) cuts_word_Suffixes Try.f64 fuel [.rd ⟨false, 3, (.int .i64), w⟩] [] K =
    (fun (g64_3 : (List Int) → Int → Int → (List (List Int)) → Option R) (K0 : (List (List Int)) → Option R) (w : List Int) =>
    g64_3 w (IntKind.i64.wrap ((w.length : Int) + 1)) 0 ([] : List (List Int))) (fun w x7 x8 o0 => (runO Try.prog (T_word_Suffixes @l_slices_Clone_int_int) cuts_word_Suffixes 0 (finish Try.prog Try.f64 0 K) fuel) (at' Try.f64 3) ⟨fr0 23 [(0, .rd ⟨false, 3, (.int .i64), w⟩), (3, .nst 0), (7, .v (.int .i64 x7)), (8, .v (.int .i64 x8))], [.nst ⟨true, 22, (.sl 3 (.int .i64)), o0⟩]⟩) (fun r0 => K (.nst 0) [.nst ⟨true, 22, (.sl 3 (.int .i64)), r0⟩]) w := by kernel_rfl

theorem entry_word_Suffixes {R : Type} (fuel : Nat) (K : AV → List O → Option R) (w : List Int) :
    fnRun Try.prog (T_word_Suffixes @l_slices_Clone_int_int) cuts_word_Suffixes Try.f64 fuel [.rd ⟨false, 3, (.int .i64), w⟩] [] K =
    e_word_Suffixes (fun w x7 x8 o0 => (runO Try.prog (T_word_Suffixes @l_slices_Clone_int_int) cuts_word_Suffixes 0 (finish Try.prog Try.f64 0 K) fuel) (at' Try.f64 3) ⟨fr0 23 [(0, .rd ⟨false, 3, (.int .i64), w⟩), (3, .nst 0), (7, .v (.int .i64 x7)), (8, .v (.int .i64 x8))], [.nst ⟨true, 22, (.sl 3 (.int .i64)), o0⟩]⟩) (fun r0 => K (.nst 0) [.nst ⟨true, 22, (.sl 3 (.int .i64)), r0⟩]) w := gentry_word_Suffixes @l_slices_Clone_int_int fuel K w

theorem runs_word_Suffixes {R : Type} (K : AV → List O → Option R) : ∀ fuel : Nat,
    (fun w x7 x8 o0 => (runO Try.prog (T_word_Suffixes @l_slices_Clone_int_int) cuts_word_Suffixes 0 (finish Try.prog Try.f64 0 K) fuel) (at' Try.f64 3) ⟨fr0 23 [(0, .rd ⟨false, 3, (.int .i64), w⟩), (3, .nst 0), (7, .v (.int .i64 x7)), (8, .v (.int .i64 x8))], [.nst ⟨true, 22, (.sl 3 (.int .i64)), o0⟩]⟩) = (run_word_Suffixes (fun r0 => K (.nst 0) [.nst ⟨true, 22, (.sl 3 (.int .i64)), r0⟩]) fuel)
  | 0 => rfl
  | fuel + 1 => by
    have ih := runs_word_Suffixes K fuel
    funext w x7 x8 o0
    refine (step_word_Suffixes_3 _ K w x7 x8 o0).trans ?_
    rw [ih]
    rfl

def S_word_Suffixes (l_word_Suffixes : {R : Type} → (List Int) → ((List (List Int)) → Option R) → Option R) : Sum := ⟨[], fun {R} args ob K => match args, ob with
  | [.rd ⟨false, 3, (.int .i64), w⟩], [] => l_word_Suffixes w (fun r0 => K (.nst 0) [.nst ⟨true, 22, (.sl 3 (.int .i64)), r0⟩])
  | _, _ => none⟩

theorem sound_word_Suffixes : Sound Try.prog 64 (S_word_Suffixes @l_word_Suffixes) := by
  refine fn_sound (cuts := cuts_word_Suffixes) (fn := Try.f64) (Γ := (T_word_Suffixes @l_slices_Clone_int_int)) wide right_T_word_Suffixes Try.func64 fun {R} K r args ob h => ?_
  unfold S_word_Suffixes at h
  dsimp only at h
  split at h
  · obtain ⟨n, hn⟩ := ok_word_Suffixes _ _ h
    refine ⟨Nat.le_of_ble_eq_true (by kernel_rfl), n, (entry_word_Suffixes n K _).trans ?_⟩
    rw [(runs_word_Suffixes K n)]
    exact hn
  · cases h

theorem call_word_Suffixes : Callable Try.prog 64 := ⟨_, Try.func64, by kernel_rfl, by kernel_rfl⟩

def T_point_Ends (l_word_Suffixes : {R : Type} → (List Int) → ((List (List Int)) → Option R) → Option R) : FuncId → Option Sum := (addS G0 64 (S_word_Suffixes @l_word_Suffixes))

theorem right_T_point_Ends : Right Try.prog (T_point_Ends @l_word_Suffixes) := (right_add right_G0 call_word_Suffixes sound_word_Suffixes)

abbrev cuts_point_Ends : Cuts := []

theorem gentry_point_Ends (l_word_Suffixes : {R : Type} → (List Int) → ((List (List Int)) → Option R) → Option R) {R : Type} (K : AV → List O → Option R) (w : List Int) :
    fnRun Try.prog (T_point_Ends @l_word_Suffixes) cuts_point_Ends Try.f45 0 [.rd ⟨false, 3, (.int .i64), w⟩] [] K =
    (fun (w : List Int) (K0 : (List (List Int)) → Option R) =>
    l_word_Suffixes w
     (fun r1 =>
      bi (decide (0 ≤ (1 : Int) ∧ (1 : Int) ≤ ((r1.length : Nat) : Int)))
       (K0 (r1.drop 1))
       none)) w (fun r0 => K (.nst 0) [.nst ⟨true, 22, (.sl 3 (.int .i64)), r0⟩]) := by kernel_rfl

theorem entry_point_Ends {R : Type} (K : AV → List O → Option R) (w : List Int) :
    fnRun Try.prog (T_point_Ends @l_word_Suffixes) cuts_point_Ends Try.f45 0 [.rd ⟨false, 3, (.int .i64), w⟩] [] K =
    l_point_Ends w (fun r0 => K (.nst 0) [.nst ⟨true, 22, (.sl 3 (.int .i64)), r0⟩]) := gentry_point_Ends @l_word_Suffixes K w

def S_point_Ends (l_point_Ends : {R : Type} → (List Int) → ((List (List Int)) → Option R) → Option R) : Sum := ⟨[], fun {R} args ob K => match args, ob with
  | [.rd ⟨false, 3, (.int .i64), w⟩], [] => l_point_Ends w (fun r0 => K (.nst 0) [.nst ⟨true, 22, (.sl 3 (.int .i64)), r0⟩])
  | _, _ => none⟩

theorem sound_point_Ends : Sound Try.prog 45 (S_point_Ends @l_point_Ends) := by
  refine fn_sound (cuts := cuts_point_Ends) (fn := Try.f45) (Γ := (T_point_Ends @l_word_Suffixes)) wide right_T_point_Ends Try.func45 fun {R} K r args ob h => ?_
  unfold S_point_Ends at h
  dsimp only at h
  split at h
  · exact ⟨Nat.le_of_ble_eq_true (by kernel_rfl), 0, (entry_point_Ends K _).trans h⟩
  · cases h

theorem call_point_Ends : Callable Try.prog 45 := ⟨_, Try.func45, by kernel_rfl, by kernel_rfl⟩

def T_tutorref01_Prefixes : FuncId → Option Sum := G0

theorem right_T_tutorref01_Prefixes : Right Try.prog T_tutorref01_Prefixes := right_G0

abbrev cuts_tutorref01_Prefixes : Cuts := [(3, [0, 3, 4])]

theorem gstep_tutorref01_Prefixes_3 {R : Type} (g : List Item → St → Option R) (K : AV → List O → Option R) (w : List Int) (i : Int) (o0 : List (List Int)) :
    runSeg Try.prog T_tutorref01_Prefixes cuts_tutorref01_Prefixes 0 g (finish Try.prog Try.f47 0 K) (at' Try.f47 3) ⟨fr0 20 [(0, .rd ⟨false, 3, (.int .i64), w⟩), (3, .nst 0), (4, .v (.int .i64 i))], [.nst ⟨true, 22, (.sl 3 (.int .i64)), o0⟩]⟩ =
    (fun (g47_3 : (List Int) → Int → (List (List Int)) → Option R) (K0 : (List (List Int)) → Option R) (w : List Int) (i : Int) (o0 : List (List Int)) =>
    bi (decide (i ≤ (w.length : Int)))
     (bi (decide (0 ≤ i ∧ i ≤ ((w.length : Nat) : Int)))
      (bi (decide ((([] : List Int).length + (w.take i.toNat).length) * 8 ≤ lim))
       (bi (decide ((o0.length + [([] : List Int) ++ (w.take i.toNat)].length) * 24 ≤ lim))
        (g47_3 w (IntKind.i64.wrap (i + 1)) (o0 ++ [([] : List Int) ++ (w.take i.toNat)]))
        none)
       none)
      none)
     (K0 o0)) (fun w i o0 => g (at' Try.f47 3) ⟨fr0 20 [(0, .rd ⟨false, 3, (.int .i64), w⟩), (3, .nst 0), (4, .v (.int .i64 i))], [.nst ⟨true, 22, (.sl 3 (.int .i64)), o0⟩]⟩) (fun r0 => K (.nst 0) [.nst ⟨true, 22, (.sl 3 (.int .i64)), r0⟩]) w i o0 := by kernel_rfl

theorem step_tutorref01_Prefixes_3 {R : Type} (g : List Item → St → Option R) (K : AV → List O → Option R) (w : List Int) (i : Int) (o0 : List (List Int)) :
    runSeg Try.prog T_tutorref01_Prefixes cuts_tutorref01_Prefixes 0 g (finish Try.prog Try.f47 0 K) (at' Try.f47 3) ⟨fr0 20 [(0, .rd ⟨false, 3, (.int .i64), w⟩), (3, .nst 0), (4, .v (.int .i64 i))], [.nst ⟨true, 22, (.sl 3 (.int .i64)), o0⟩]⟩ =
    s_tutorref01_Prefixes_3 (fun w i o0 => g (at' Try.f47 3) ⟨fr0 20 [(0, .rd ⟨false, 3, (.int .i64), w⟩), (3, .nst 0), (4, .v (.int .i64 i))], [.nst ⟨true, 22, (.sl 3 (.int .i64)), o0⟩]⟩) (fun r0 => K (.nst 0) [.nst ⟨true, 22, (.sl 3 (.int .i64)), r0⟩]) w i o0 := gstep_tutorref01_Prefixes_3 g K w i o0

theorem gentry_tutorref01_Prefixes {R : Type} (fuel : Nat) (K : AV → List O → Option R) (w : List Int) :
    fnRun Try.prog T_tutorref01_Prefixes cuts_tutorref01_Prefixes Try.f47 fuel [.rd ⟨false, 3, (.int .i64), w⟩] [] K =
    (fun (g47_3 : (List Int) → Int → (List (List Int)) → Option R) (K0 : (List (List Int)) → Option R) (w : List Int) =>
    g47_3 w 0 ([] : List (List Int))) (fun w i o0 => (runO Try.prog T_tutorref01_Prefixes cuts_tutorref01_Prefixes 0 (finish Try.prog Try.f47 0 K) fuel) (at' Try.f47 3) ⟨fr0 20 [(0, .rd ⟨false, 3, (.int .i64), w⟩), (3, .nst 0), (4, .v (.int .i64 i))], [.nst ⟨true, 22, (.sl 3 (.int .i64)), o0⟩]⟩) (fun r0 => K (.nst 0) [.nst ⟨true, 22, (.sl 3 (.int .i64)), r0⟩]) w := by kernel_rfl

theorem entry_tutorref01_Prefixes {R : Type} (fuel : Nat) (K : AV → List O → Option R) (w : List Int) :
    fnRun Try.prog T_tutorref01_Prefixes cuts_tutorref01_Prefixes Try.f47 fuel [.rd ⟨false, 3, (.int .i64), w⟩] [] K =
    e_tutorref01_Prefixes (fun w i o0 => (runO Try.prog T_tutorref01_Prefixes cuts_tutorref01_Prefixes 0 (finish Try.prog Try.f47 0 K) fuel) (at' Try.f47 3) ⟨fr0 20 [(0, .rd ⟨false, 3, (.int .i64), w⟩), (3, .nst 0), (4, .v (.int .i64 i))], [.nst ⟨true, 22, (.sl 3 (.int .i64)), o0⟩]⟩) (fun r0 => K (.nst 0) [.nst ⟨true, 22, (.sl 3 (.int .i64)), r0⟩]) w := gentry_tutorref01_Prefixes fuel K w

theorem runs_tutorref01_Prefixes {R : Type} (K : AV → List O → Option R) : ∀ fuel : Nat,
    (fun w i o0 => (runO Try.prog T_tutorref01_Prefixes cuts_tutorref01_Prefixes 0 (finish Try.prog Try.f47 0 K) fuel) (at' Try.f47 3) ⟨fr0 20 [(0, .rd ⟨false, 3, (.int .i64), w⟩), (3, .nst 0), (4, .v (.int .i64 i))], [.nst ⟨true, 22, (.sl 3 (.int .i64)), o0⟩]⟩) = (run_tutorref01_Prefixes (fun r0 => K (.nst 0) [.nst ⟨true, 22, (.sl 3 (.int .i64)), r0⟩]) fuel)
  | 0 => rfl
  | fuel + 1 => by
    have ih := runs_tutorref01_Prefixes K fuel
    funext w i o0
    refine (step_tutorref01_Prefixes_3 _ K w i o0).trans ?_
    rw [ih]
    rfl

def S_tutorref01_Prefixes (l_tutorref01_Prefixes : {R : Type} → (List Int) → ((List (List Int)) → Option R) → Option R) : Sum := ⟨[], fun {R} args ob K => match args, ob with
  | [.rd ⟨false, 3, (.int .i64), w⟩], [] => l_tutorref01_Prefixes w (fun r0 => K (.nst 0) [.nst ⟨true, 22, (.sl 3 (.int .i64)), r0⟩])
  | _, _ => none⟩

theorem sound_tutorref01_Prefixes : Sound Try.prog 47 (S_tutorref01_Prefixes @l_tutorref01_Prefixes) := by
  refine fn_sound (cuts := cuts_tutorref01_Prefixes) (fn := Try.f47) (Γ := T_tutorref01_Prefixes) wide right_T_tutorref01_Prefixes Try.func47 fun {R} K r args ob h => ?_
  unfold S_tutorref01_Prefixes at h
  dsimp only at h
  split at h
  · obtain ⟨n, hn⟩ := ok_tutorref01_Prefixes _ _ h
    refine ⟨Nat.le_of_ble_eq_true (by kernel_rfl), n, (entry_tutorref01_Prefixes n K _).trans ?_⟩
    rw [(runs_tutorref01_Prefixes K n)]
    exact hn
  · cases h

theorem call_tutorref01_Prefixes : Callable Try.prog 47 := ⟨_, Try.func47, by kernel_rfl, by kernel_rfl⟩

def T_tutorref01_Same : FuncId → Option Sum := G0

theorem right_T_tutorref01_Same : Right Try.prog T_tutorref01_Same := right_G0

abbrev cuts_tutorref01_Same : Cuts := [(4, [0, 1, 5])]

theorem gstep_tutorref01_Same_4 {R : Type} (g : List Item → St → Option R) (K : AV → List O → Option R) (a : List Int) (b : List Int) (i : Int) :
    runSeg Try.prog T_tutorref01_Same cuts_tutorref01_Same 0 g (finish Try.prog Try.f24 0 K) (at' Try.f24 4) ⟨fr0 26 [(0, .rd ⟨false, 3, (.int .i64), a⟩), (1, .rd ⟨false, 3, (.int .i64), b⟩), (5, .v (.int .i64 i))], []⟩ =
    (fun (g24_4 : (List Int) → (List Int) → Int → Option R) (K0 : Bool → Option R) (a : List Int) (b : List Int) (i : Int) =>
    bi (decide (i < (a.length : Int)))
     (bi (decide (0 ≤ i ∧ i < ((a.length : Nat) : Int)))
      (bi (decide (0 ≤ i ∧ i < ((b.length : Nat) : Int)))
       (bi ((a.getD i.toNat 0) != (b.getD i.toNat 0))
        (K0 false)
        (g24_4 a b (IntKind.i64.wrap (i + 1))))
       none)
      none)
     (K0 true)) (fun a b i => g (at' Try.f24 4) ⟨fr0 26 [(0, .rd ⟨false, 3, (.int .i64), a⟩), (1, .rd ⟨false, 3, (.int .i64), b⟩), (5, .v (.int .i64 i))], []⟩) (fun r0 => K (.v (.bool r0)) []) a b i := by kernel_rfl

theorem step_tutorref01_Same_4 {R : Type} (g : List Item → St → Option R) (K : AV → List O → Option R) (a : List Int) (b : List Int) (i : Int) :
    runSeg Try.prog T_tutorref01_Same cuts_tutorref01_Same 0 g (finish Try.prog Try.f24 0 K) (at' Try.f24 4) ⟨fr0 26 [(0, .rd ⟨false, 3, (.int .i64), a⟩), (1, .rd ⟨false, 3, (.int .i64), b⟩), (5, .v (.int .i64 i))], []⟩ =
    s_tutorref01_Same_4 (fun a b i => g (at' Try.f24 4) ⟨fr0 26 [(0, .rd ⟨false, 3, (.int .i64), a⟩), (1, .rd ⟨false, 3, (.int .i64), b⟩), (5, .v (.int .i64 i))], []⟩) (fun r0 => K (.v (.bool r0)) []) a b i := gstep_tutorref01_Same_4 g K a b i

theorem gentry_tutorref01_Same {R : Type} (fuel : Nat) (K : AV → List O → Option R) (a : List Int) (b : List Int) :
    fnRun Try.prog T_tutorref01_Same cuts_tutorref01_Same Try.f24 fuel [.rd ⟨false, 3, (.int .i64), a⟩, .rd ⟨false, 3, (.int .i64), b⟩] [] K =
    (fun (g24_4 : (List Int) → (List Int) → Int → Option R) (K0 : Bool → Option R) (a : List Int) (b : List Int) =>
    bi ((a.length : Int) != (b.length : Int))
     (K0 false)
     (g24_4 a b 0)) (fun a b i => (runO Try.prog T_tutorref01_Same cuts_tutorref01_Same 0 (finish Try.prog Try.f24 0 K) fuel) (at' Try.f24 4) ⟨fr0 26 [(0, .rd ⟨false, 3, (.int .i64), a⟩), (1, .rd ⟨false, 3, (.int .i64), b⟩), (5, .v (.int .i64 i))], []⟩) (fun r0 => K (.v (.bool r0)) []) a b := by kernel_rfl

theorem entry_tutorref01_Same {R : Type} (fuel : Nat) (K : AV → List O → Option R) (a : List Int) (b : List Int) :
    fnRun Try.prog T_tutorref01_Same cuts_tutorref01_Same Try.f24 fuel [.rd ⟨false, 3, (.int .i64), a⟩, .rd ⟨false, 3, (.int .i64), b⟩] [] K =
    e_tutorref01_Same (fun a b i => (runO Try.prog T_tutorref01_Same cuts_tutorref01_Same 0 (finish Try.prog Try.f24 0 K) fuel) (at' Try.f24 4) ⟨fr0 26 [(0, .rd ⟨false, 3, (.int .i64), a⟩), (1, .rd ⟨false, 3, (.int .i64), b⟩), (5, .v (.int .i64 i))], []⟩) (fun r0 => K (.v (.bool r0)) []) a b := gentry_tutorref01_Same fuel K a b

theorem runs_tutorref01_Same {R : Type} (K : AV → List O → Option R) : ∀ fuel : Nat,
    (fun a b i => (runO Try.prog T_tutorref01_Same cuts_tutorref01_Same 0 (finish Try.prog Try.f24 0 K) fuel) (at' Try.f24 4) ⟨fr0 26 [(0, .rd ⟨false, 3, (.int .i64), a⟩), (1, .rd ⟨false, 3, (.int .i64), b⟩), (5, .v (.int .i64 i))], []⟩) = (run_tutorref01_Same (fun r0 => K (.v (.bool r0)) []) fuel)
  | 0 => rfl
  | fuel + 1 => by
    have ih := runs_tutorref01_Same K fuel
    funext a b i
    refine (step_tutorref01_Same_4 _ K a b i).trans ?_
    rw [ih]
    rfl

def S_tutorref01_Same (l_tutorref01_Same : {R : Type} → (List Int) → (List Int) → (Bool → Option R) → Option R) : Sum := ⟨[], fun {R} args ob K => match args, ob with
  | [.rd ⟨false, 3, (.int .i64), a⟩, .rd ⟨false, 3, (.int .i64), b⟩], [] => l_tutorref01_Same a b (fun r0 => K (.v (.bool r0)) [])
  | _, _ => none⟩

theorem sound_tutorref01_Same : Sound Try.prog 24 (S_tutorref01_Same @l_tutorref01_Same) := by
  refine fn_sound (cuts := cuts_tutorref01_Same) (fn := Try.f24) (Γ := T_tutorref01_Same) wide right_T_tutorref01_Same Try.func24 fun {R} K r args ob h => ?_
  unfold S_tutorref01_Same at h
  dsimp only at h
  split at h
  · obtain ⟨n, hn⟩ := ok_tutorref01_Same _ _ _ h
    refine ⟨Nat.le_of_ble_eq_true (by kernel_rfl), n, (entry_tutorref01_Same n K _ _).trans ?_⟩
    rw [(runs_tutorref01_Same K n)]
    exact hn
  · cases h

theorem call_tutorref01_Same : Callable Try.prog 24 := ⟨_, Try.func24, by kernel_rfl, by kernel_rfl⟩

def T_tutorref01_Lists (l_tutorref01_Same : {R : Type} → (List Int) → (List Int) → (Bool → Option R) → Option R) : FuncId → Option Sum := (addS G0 24 (S_tutorref01_Same @l_tutorref01_Same))

theorem right_T_tutorref01_Lists : Right Try.prog (T_tutorref01_Lists @l_tutorref01_Same) := (right_add right_G0 call_tutorref01_Same sound_tutorref01_Same)

abbrev cuts_tutorref01_Lists : Cuts := [(4, [0, 1, 5])]

theorem gstep_tutorref01_Lists_4 (l_tutorref01_Same : {R : Type} → (List Int) → (List Int) → (Bool → Option R) → Option R) {R : Type} (g : List Item → St → Option R) (K : AV → List O → Option R) (a : List (List Int)) (b : List (List Int)) (i : Int) :
    runSeg Try.prog (T_tutorref01_Lists @l_tutorref01_Same) cuts_tutorref01_Lists 0 g (finish Try.prog Try.f46 0 K) (at' Try.f46 4) ⟨fr0 27 [(0, .rd ⟨false, 22, (.sl 3 (.int .i64)), a⟩), (1, .rd ⟨false, 22, (.sl 3 (.int .i64)), b⟩), (5, .v (.int .i64 i))], []⟩ =
    (fun (g46_4 : (List (List Int)) → (List (List Int)) → Int → Option R) (K0 : Bool → Option R) (a : List (List Int)) (b : List (List Int)) (i : Int) =>
    bi (decide (i < (a.length : Int)))
     (bi (decide (0 ≤ i ∧ i < ((a.length : Nat) : Int)))
      (bi (decide (0 ≤ i ∧ i < ((b.length : Nat) : Int)))
       (l_tutorref01_Same (a.getD i.toNat []) (b.getD i.toNat [])
        (fun r1 =>
         bi (!r1)
          (K0 false)
          (g46_4 a b (IntKind.i64.wrap (i + 1)))))
       none)
      none)
     (K0 true)) (fun a b i => g (at' Try.f46 4) ⟨fr0 27 [(0, .rd ⟨false, 22, (.sl 3 (.int .i64)), a⟩), (1, .rd ⟨false, 22, (.sl 3 (.int .i64)), b⟩), (5, .v (.int .i64 i))], []⟩) (fun r0 => K (.v (.bool r0)) []) a b i := by kernel_rfl

theorem step_tutorref01_Lists_4 {R : Type} (g : List Item → St → Option R) (K : AV → List O → Option R) (a : List (List Int)) (b : List (List Int)) (i : Int) :
    runSeg Try.prog (T_tutorref01_Lists @l_tutorref01_Same) cuts_tutorref01_Lists 0 g (finish Try.prog Try.f46 0 K) (at' Try.f46 4) ⟨fr0 27 [(0, .rd ⟨false, 22, (.sl 3 (.int .i64)), a⟩), (1, .rd ⟨false, 22, (.sl 3 (.int .i64)), b⟩), (5, .v (.int .i64 i))], []⟩ =
    s_tutorref01_Lists_4 (fun a b i => g (at' Try.f46 4) ⟨fr0 27 [(0, .rd ⟨false, 22, (.sl 3 (.int .i64)), a⟩), (1, .rd ⟨false, 22, (.sl 3 (.int .i64)), b⟩), (5, .v (.int .i64 i))], []⟩) (fun r0 => K (.v (.bool r0)) []) a b i := gstep_tutorref01_Lists_4 @l_tutorref01_Same g K a b i

theorem gentry_tutorref01_Lists (l_tutorref01_Same : {R : Type} → (List Int) → (List Int) → (Bool → Option R) → Option R) {R : Type} (fuel : Nat) (K : AV → List O → Option R) (a : List (List Int)) (b : List (List Int)) :
    fnRun Try.prog (T_tutorref01_Lists @l_tutorref01_Same) cuts_tutorref01_Lists Try.f46 fuel [.rd ⟨false, 22, (.sl 3 (.int .i64)), a⟩, .rd ⟨false, 22, (.sl 3 (.int .i64)), b⟩] [] K =
    (fun (g46_4 : (List (List Int)) → (List (List Int)) → Int → Option R) (K0 : Bool → Option R) (a : List (List Int)) (b : List (List Int)) =>
    bi ((a.length : Int) != (b.length : Int))
     (K0 false)
     (g46_4 a b 0)) (fun a b i => (runO Try.prog (T_tutorref01_Lists @l_tutorref01_Same) cuts_tutorref01_Lists 0 (finish Try.prog Try.f46 0 K) fuel) (at' Try.f46 4) ⟨fr0 27 [(0, .rd ⟨false, 22, (.sl 3 (.int .i64)), a⟩), (1, .rd ⟨false, 22, (.sl 3 (.int .i64)), b⟩), (5, .v (.int .i64 i))], []⟩) (fun r0 => K (.v (.bool r0)) []) a b := by kernel_rfl

theorem entry_tutorref01_Lists {R : Type} (fuel : Nat) (K : AV → List O → Option R) (a : List (List Int)) (b : List (List Int)) :
    fnRun Try.prog (T_tutorref01_Lists @l_tutorref01_Same) cuts_tutorref01_Lists Try.f46 fuel [.rd ⟨false, 22, (.sl 3 (.int .i64)), a⟩, .rd ⟨false, 22, (.sl 3 (.int .i64)), b⟩] [] K =
    e_tutorref01_Lists (fun a b i => (runO Try.prog (T_tutorref01_Lists @l_tutorref01_Same) cuts_tutorref01_Lists 0 (finish Try.prog Try.f46 0 K) fuel) (at' Try.f46 4) ⟨fr0 27 [(0, .rd ⟨false, 22, (.sl 3 (.int .i64)), a⟩), (1, .rd ⟨false, 22, (.sl 3 (.int .i64)), b⟩), (5, .v (.int .i64 i))], []⟩) (fun r0 => K (.v (.bool r0)) []) a b := gentry_tutorref01_Lists @l_tutorref01_Same fuel K a b

theorem runs_tutorref01_Lists {R : Type} (K : AV → List O → Option R) : ∀ fuel : Nat,
    (fun a b i => (runO Try.prog (T_tutorref01_Lists @l_tutorref01_Same) cuts_tutorref01_Lists 0 (finish Try.prog Try.f46 0 K) fuel) (at' Try.f46 4) ⟨fr0 27 [(0, .rd ⟨false, 22, (.sl 3 (.int .i64)), a⟩), (1, .rd ⟨false, 22, (.sl 3 (.int .i64)), b⟩), (5, .v (.int .i64 i))], []⟩) = (run_tutorref01_Lists (fun r0 => K (.v (.bool r0)) []) fuel)
  | 0 => rfl
  | fuel + 1 => by
    have ih := runs_tutorref01_Lists K fuel
    funext a b i
    refine (step_tutorref01_Lists_4 _ K a b i).trans ?_
    rw [ih]
    rfl

def S_tutorref01_Lists (l_tutorref01_Lists : {R : Type} → (List (List Int)) → (List (List Int)) → (Bool → Option R) → Option R) : Sum := ⟨[], fun {R} args ob K => match args, ob with
  | [.rd ⟨false, 22, (.sl 3 (.int .i64)), a⟩, .rd ⟨false, 22, (.sl 3 (.int .i64)), b⟩], [] => l_tutorref01_Lists a b (fun r0 => K (.v (.bool r0)) [])
  | _, _ => none⟩

theorem sound_tutorref01_Lists : Sound Try.prog 46 (S_tutorref01_Lists @l_tutorref01_Lists) := by
  refine fn_sound (cuts := cuts_tutorref01_Lists) (fn := Try.f46) (Γ := (T_tutorref01_Lists @l_tutorref01_Same)) wide right_T_tutorref01_Lists Try.func46 fun {R} K r args ob h => ?_
  unfold S_tutorref01_Lists at h
  dsimp only at h
  split at h
  · obtain ⟨n, hn⟩ := ok_tutorref01_Lists _ _ _ h
    refine ⟨Nat.le_of_ble_eq_true (by kernel_rfl), n, (entry_tutorref01_Lists n K _ _).trans ?_⟩
    rw [(runs_tutorref01_Lists K n)]
    exact hn
  · cases h

theorem call_tutorref01_Lists : Callable Try.prog 46 := ⟨_, Try.func46, by kernel_rfl, by kernel_rfl⟩

def T_tutorref01_Suffixes : FuncId → Option Sum := G0

theorem right_T_tutorref01_Suffixes : Right Try.prog T_tutorref01_Suffixes := right_G0

abbrev cuts_tutorref01_Suffixes : Cuts := [(3, [0, 3, 4])]

theorem gstep_tutorref01_Suffixes_3 {R : Type} (g : List Item → St → Option R) (K : AV → List O → Option R) (w : List Int) (i : Int) (o0 : List (List Int)) :
    runSeg Try.prog T_tutorref01_Suffixes cuts_tutorref01_Suffixes 0 g (finish Try.prog Try.f48 0 K) (at' Try.f48 3) ⟨fr0 20 [(0, .rd ⟨false, 3, (.int .i64), w⟩), (3, .nst 0), (4, .v (.int .i64 i))], [.nst ⟨true, 22, (.sl 3 (.int .i64)), o0⟩]⟩ =
    (fun (g48_3 : (List Int) → Int → (List (List Int)) → Option R) (K0 : (List (List Int)) → Option R) (w : List Int) (i : Int) (o0 : List (List Int)) =>
    bi (decide (i ≥ 0))
     (bi (decide (0 ≤ i ∧ i ≤ ((w.length : Nat) : Int)))
      (bi (decide ((([] : List Int).length + ((w.drop i.toNat).take (w.length - i.toNat)).length) * 8 ≤ lim))
       (bi (decide ((o0.length + [([] : List Int) ++ ((w.drop i.toNat).take (w.length - i.toNat))].length) * 24 ≤ lim))
        (g48_3 w (IntKind.i64.wrap (i - 1)) (o0 ++ [([] : List Int) ++ ((w.drop i.toNat).take (w.length - i.toNat))]))
        none)
       none)
      none)
     (K0 o0)) (fun w i o0 => g (at' Try.f48 3) ⟨fr0 20 [(0, .rd ⟨false, 3, (.int .i64), w⟩), (3, .nst 0), (4, .v (.int .i64 i))], [.nst ⟨true, 22, (.sl 3 (.int .i64)), o0⟩]⟩) (fun r0 => K (.nst 0) [.nst ⟨true, 22, (.sl 3 (.int .i64)), r0⟩]) w i o0 := by kernel_rfl

theorem step_tutorref01_Suffixes_3 {R : Type} (g : List Item → St → Option R) (K : AV → List O → Option R) (w : List Int) (i : Int) (o0 : List (List Int)) :
    runSeg Try.prog T_tutorref01_Suffixes cuts_tutorref01_Suffixes 0 g (finish Try.prog Try.f48 0 K) (at' Try.f48 3) ⟨fr0 20 [(0, .rd ⟨false, 3, (.int .i64), w⟩), (3, .nst 0), (4, .v (.int .i64 i))], [.nst ⟨true, 22, (.sl 3 (.int .i64)), o0⟩]⟩ =
    s_tutorref01_Suffixes_3 (fun w i o0 => g (at' Try.f48 3) ⟨fr0 20 [(0, .rd ⟨false, 3, (.int .i64), w⟩), (3, .nst 0), (4, .v (.int .i64 i))], [.nst ⟨true, 22, (.sl 3 (.int .i64)), o0⟩]⟩) (fun r0 => K (.nst 0) [.nst ⟨true, 22, (.sl 3 (.int .i64)), r0⟩]) w i o0 := gstep_tutorref01_Suffixes_3 g K w i o0

theorem gentry_tutorref01_Suffixes {R : Type} (fuel : Nat) (K : AV → List O → Option R) (w : List Int) :
    fnRun Try.prog T_tutorref01_Suffixes cuts_tutorref01_Suffixes Try.f48 fuel [.rd ⟨false, 3, (.int .i64), w⟩] [] K =
    (fun (g48_3 : (List Int) → Int → (List (List Int)) → Option R) (K0 : (List (List Int)) → Option R) (w : List Int) =>
    g48_3 w (w.length : Int) ([] : List (List Int))) (fun w i o0 => (runO Try.prog T_tutorref01_Suffixes cuts_tutorref01_Suffixes 0 (finish Try.prog Try.f48 0 K) fuel) (at' Try.f48 3) ⟨fr0 20 [(0, .rd ⟨false, 3, (.int .i64), w⟩), (3, .nst 0), (4, .v (.int .i64 i))], [.nst ⟨true, 22, (.sl 3 (.int .i64)), o0⟩]⟩) (fun r0 => K (.nst 0) [.nst ⟨true, 22, (.sl 3 (.int .i64)), r0⟩]) w := by kernel_rfl

theorem entry_tutorref01_Suffixes {R : Type} (fuel : Nat) (K : AV → List O → Option R) (w : List Int) :
    fnRun Try.prog T_tutorref01_Suffixes cuts_tutorref01_Suffixes Try.f48 fuel [.rd ⟨false, 3, (.int .i64), w⟩] [] K =
    e_tutorref01_Suffixes (fun w i o0 => (runO Try.prog T_tutorref01_Suffixes cuts_tutorref01_Suffixes 0 (finish Try.prog Try.f48 0 K) fuel) (at' Try.f48 3) ⟨fr0 20 [(0, .rd ⟨false, 3, (.int .i64), w⟩), (3, .nst 0), (4, .v (.int .i64 i))], [.nst ⟨true, 22, (.sl 3 (.int .i64)), o0⟩]⟩) (fun r0 => K (.nst 0) [.nst ⟨true, 22, (.sl 3 (.int .i64)), r0⟩]) w := gentry_tutorref01_Suffixes fuel K w

theorem runs_tutorref01_Suffixes {R : Type} (K : AV → List O → Option R) : ∀ fuel : Nat,
    (fun w i o0 => (runO Try.prog T_tutorref01_Suffixes cuts_tutorref01_Suffixes 0 (finish Try.prog Try.f48 0 K) fuel) (at' Try.f48 3) ⟨fr0 20 [(0, .rd ⟨false, 3, (.int .i64), w⟩), (3, .nst 0), (4, .v (.int .i64 i))], [.nst ⟨true, 22, (.sl 3 (.int .i64)), o0⟩]⟩) = (run_tutorref01_Suffixes (fun r0 => K (.nst 0) [.nst ⟨true, 22, (.sl 3 (.int .i64)), r0⟩]) fuel)
  | 0 => rfl
  | fuel + 1 => by
    have ih := runs_tutorref01_Suffixes K fuel
    funext w i o0
    refine (step_tutorref01_Suffixes_3 _ K w i o0).trans ?_
    rw [ih]
    rfl

def S_tutorref01_Suffixes (l_tutorref01_Suffixes : {R : Type} → (List Int) → ((List (List Int)) → Option R) → Option R) : Sum := ⟨[], fun {R} args ob K => match args, ob with
  | [.rd ⟨false, 3, (.int .i64), w⟩], [] => l_tutorref01_Suffixes w (fun r0 => K (.nst 0) [.nst ⟨true, 22, (.sl 3 (.int .i64)), r0⟩])
  | _, _ => none⟩

theorem sound_tutorref01_Suffixes : Sound Try.prog 48 (S_tutorref01_Suffixes @l_tutorref01_Suffixes) := by
  refine fn_sound (cuts := cuts_tutorref01_Suffixes) (fn := Try.f48) (Γ := T_tutorref01_Suffixes) wide right_T_tutorref01_Suffixes Try.func48 fun {R} K r args ob h => ?_
  unfold S_tutorref01_Suffixes at h
  dsimp only at h
  split at h
  · obtain ⟨n, hn⟩ := ok_tutorref01_Suffixes _ _ h
    refine ⟨Nat.le_of_ble_eq_true (by kernel_rfl), n, (entry_tutorref01_Suffixes n K _).trans ?_⟩
    rw [(runs_tutorref01_Suffixes K n)]
    exact hn
  · cases h

theorem call_tutorref01_Suffixes : Callable Try.prog 48 := ⟨_, Try.func48, by kernel_rfl, by kernel_rfl⟩

def T_tutorref01_Apart : FuncId → Option Sum := G0

theorem right_T_tutorref01_Apart : Right Try.prog T_tutorref01_Apart := right_G0

abbrev cuts_tutorref01_Apart : Cuts := [(2, [0, 3]), (5, [0, 3, 4]), (9, [0, 5]), (13, [0, 5, 6, 7]), (17, [0, 8]), (20, [0, 8, 9])]

theorem gstep_tutorref01_Apart_2 {R : Type} (g : List Item → St → Option R) (K : AV → List O → Option R) (i : Int) (o0 : List (List Int)) :
    runSeg Try.prog T_tutorref01_Apart cuts_tutorref01_Apart 1 g (finish Try.prog Try.f27 1 K) (at' Try.f27 2) ⟨fr0 77 [(0, .nst 0), (3, .v (.int .i64 i))], [.nst ⟨false, 22, (.sl 3 (.int .i64)), o0⟩]⟩ =
    (fun (g27_2 : Int → (List (List Int)) → Option R) (g27_5 : Int → Int → (List (List Int)) → Option R) (g27_9 : Int → (List (List Int)) → Option R) (g27_13 : Int → Nat → Int → (List (List Int)) → Option R) (g27_17 : Int → (List (List Int)) → Option R) (g27_13b : Int → Int → (List (List Int)) → Nat → Nat → Option R) (g27_20 : Int → Int → (List (List Int)) → Option R) (K0 : Bool → (List (List Int)) → Option R) (i : Int) (o0 : List (List Int)) =>
    bi (decide (i < (o0.length : Int)))
     (g27_5 i 0 o0)
     (g27_9 0 o0)) (fun i o0 => g (at' Try.f27 2) ⟨fr0 77 [(0, .nst 0), (3, .v (.int .i64 i))], [.nst ⟨false, 22, (.sl 3 (.int .i64)), o0⟩]⟩) (fun i k o0 => g (at' Try.f27 5) ⟨fr0 77 [(0, .nst 0), (3, .v (.int .i64 i)), (4, .v (.int .i64 k))], [.nst ⟨false, 22, (.sl 3 (.int .i64)), o0⟩]⟩) (fun i o0 => g (at' Try.f27 9) ⟨fr0 77 [(0, .nst 0), (5, .v (.int .i64 i))], [.nst ⟨false, 22, (.sl 3 (.int .i64)), o0⟩]⟩) (fun i x k o0 => g (at' Try.f27 13) ⟨fr0 77 [(0, .nst 0), (5, .v (.int .i64 i)), (6, .inn 0 x), (7, .v (.int .i64 k))], [.nst ⟨false, 22, (.sl 3 (.int .i64)), o0⟩]⟩) (fun i o0 => g (at' Try.f27 17) ⟨fr0 77 [(0, .nst 0), (8, .v (.int .i64 i))], [.nst ⟨false, 22, (.sl 3 (.int .i64)), o0⟩]⟩) (fun i k o0 o1 o1_1 => g (at' Try.f27 13) ⟨fr0 77 [(0, .nst 0), (5, .v (.int .i64 i)), (6, .grn 1), (7, .v (.int .i64 k))], [.nst ⟨false, 22, (.sl 3 (.int .i64)), o0⟩, .grn 0 o1 3 1 o1_1]⟩) (fun i k o0 => g (at' Try.f27 20) ⟨fr0 77 [(0, .nst 0), (8, .v (.int .i64 i)), (9, .v (.int .i64 k))], [.nst ⟨false, 22, (.sl 3 (.int .i64)), o0⟩]⟩) (fun r0 r1 => K (.v (.bool r0)) [.nst ⟨false, 22, (.sl 3 (.int .i64)), r1⟩]) i o0 := by kernel_rfl

theorem step_tutorref01_Apart_2 {R : Type} (g : List Item → St → Option R) (K : AV → List O → Option R) (i : Int) (o0 : List (List Int)) :
    runSeg Try.prog T_tutorref01_Apart cuts_tutorref01_Apart 1 g (finish Try.prog Try.f27 1 K) (at' Try.f27 2) ⟨fr0 77 [(0, .nst 0), (3, .v (.int .i64 i))], [.nst ⟨false, 22, (.sl 3 (.int .i64)), o0⟩]⟩ =
    s_tutorref01_Apart_2 (fun i o0 => g (at' Try.f27 2) ⟨fr0 77 [(0, .nst 0), (3, .v (.int .i64 i))], [.nst ⟨false, 22, (.sl 3 (.int .i64)), o0⟩]⟩) (fun i k o0 => g (at' Try.f27 5) ⟨fr0 77 [(0, .nst 0), (3, .v (.int .i64 i)), (4, .v (.int .i64 k))], [.nst ⟨false, 22, (.sl 3 (.int .i64)), o0⟩]⟩) (fun i o0 => g (at' Try.f27 9) ⟨fr0 77 [(0, .nst 0), (5, .v (.int .i64 i))], [.nst ⟨false, 22, (.sl 3 (.int .i64)), o0⟩]⟩) (fun i x k o0 => g (at' Try.f27 13) ⟨fr0 77 [(0, .nst 0), (5, .v (.int .i64 i)), (6, .inn 0 x), (7, .v (.int .i64 k))], [.nst ⟨false, 22, (.sl 3 (.int .i64)), o0⟩]⟩) (fun i o0 => g (at' Try.f27 17) ⟨fr0 77 [(0, .nst 0), (8, .v (.int .i64 i))], [.nst ⟨false, 22, (.sl 3 (.int .i64)), o0⟩]⟩) (fun i k o0 o1 o1_1 => g (at' Try.f27 13) ⟨fr0 77 [(0, .nst 0), (5, .v (.int .i64 i)), (6, .grn 1), (7, .v (.int .i64 k))], [.nst ⟨false, 22, (.sl 3 (.int .i64)), o0⟩, .grn 0 o1 3 1 o1_1]⟩) (fun i k o0 => g (at' Try.f27 20) ⟨fr0 77 [(0, .nst 0), (8, .v (.int .i64 i)), (9, .v (.int .i64 k))], [.nst ⟨false, 22, (.sl 3 (.int .i64)), o0⟩]⟩) (fun r0 r1 => K (.v (.bool r0)) [.nst ⟨false, 22, (.sl 3 (.int .i64)), r1⟩]) i o0 := gstep_tutorref01_Apart_2 g K i o0

theorem gstep_tutorref01_Apart_5 {R : Type} (g : List Item → St → Option R) (K : AV → List O → Option R) (i : Int) (k : Int) (o0 : List (List Int)) :
    runSeg Try.prog T_tutorref01_Apart cuts_tutorref01_Apart 1 g (finish Try.prog Try.f27 1 K) (at' Try.f27 5) ⟨fr0 77 [(0, .nst 0), (3, .v (.int .i64 i)), (4, .v (.int .i64 k))], [.nst ⟨false, 22, (.sl 3 (.int .i64)), o0⟩]⟩ =
    (fun (g27_2 : Int → (List (List Int)) → Option R) (g27_5 : Int → Int → (List (List Int)) → Option R) (g27_9 : Int → (List (List Int)) → Option R) (g27_13 : Int → Nat → Int → (List (List Int)) → Option R) (g27_17 : Int → (List (List Int)) → Option R) (g27_13b : Int → Int → (List (List Int)) → Nat → Nat → Option R) (g27_20 : Int → Int → (List (List Int)) → Option R) (K0 : Bool → (List (List Int)) → Option R) (i : Int) (k : Int) (o0 : List (List Int)) =>
    bi (decide (0 ≤ i ∧ i < ((o0.length : Nat) : Int)))
     (bi (decide (k < ((o0.getD i.toNat []).length : Int)))
      (bi (decide (0 ≤ i ∧ i < ((o0.length : Nat) : Int)))
       (bi (decide (0 ≤ k ∧ k < (((o0.getD i.toNat []).length : Nat) : Int)))
        (g27_5 i (IntKind.i64.wrap (k + 1)) (o0.set i.toNat ((o0.getD i.toNat []).set k.toNat (IntKind.i64.wrap ((-1000) - i)))))
        none)
       none)
      (g27_2 (IntKind.i64.wrap (i + 1)) o0))
     none) (fun i o0 => g (at' Try.f27 2) ⟨fr0 77 [(0, .nst 0), (3, .v (.int .i64 i))], [.nst ⟨false, 22, (.sl 3 (.int .i64)), o0⟩]⟩) (fun i k o0 => g (at' Try.f27 5) ⟨fr0 77 [(0, .nst 0), (3, .v (.int .i64 i)), (4, .v (.int .i64 k))], [.nst ⟨false, 22, (.sl 3 (.int .i64)), o0⟩]⟩) (fun i o0 => g (at' Try.f27 9) ⟨fr0 77 [(0, .nst 0), (5, .v (.int .i64 i))], [.nst ⟨false, 22, (.sl 3 (.int .i64)), o0⟩]⟩) (fun i x k o0 => g (at' Try.f27 13) ⟨fr0 77 [(0, .nst 0), (5, .v (.int .i64 i)), (6, .inn 0 x), (7, .v (.int .i64 k))], [.nst ⟨false, 22, (.sl 3 (.int .i64)), o0⟩]⟩) (fun i o0 => g (at' Try.f27 17) ⟨fr0 77 [(0, .nst 0), (8, .v (.int .i64 i))], [.nst ⟨false, 22, (.sl 3 (.int .i64)), o0⟩]⟩) (fun i k o0 o1 o1_1 => g (at' Try.f27 13) ⟨fr0 77 [(0, .nst 0), (5, .v (.int .i64 i)), (6, .grn 1), (7, .v (.int .i64 k))], [.nst ⟨false, 22, (.sl 3 (.int .i64)), o0⟩, .grn 0 o1 3 1 o1_1]⟩) (fun i k o0 => g (at' Try.f27 20) ⟨fr0 77 [(0, .nst 0), (8, .v (.int .i64 i)), (9, .v (.int .i64 k))], [.nst ⟨false, 22, (.sl 3 (.int .i64)), o0⟩]⟩) (fun r0 r1 => K (.v (.bool r0)) [.nst ⟨false, 22, (.sl 3 (.int .i64)), r1⟩]) i k o0 := by kernel_rfl

theorem step_tutorref01_Apart_5 {R : Type} (g : List Item → St → Option R) (K : AV → List O → Option R) (i : Int) (k : Int) (o0 : List (List Int)) :
    runSeg Try.prog T_tutorref01_Apart cuts_tutorref01_Apart 1 g (finish Try.prog Try.f27 1 K) (at' Try.f27 5) ⟨fr0 77 [(0, .nst 0), (3, .v (.int .i64 i)), (4, .v (.int .i64 k))], [.nst ⟨false, 22, (.sl 3 (.int .i64)), o0⟩]⟩ =
    s_tutorref01_Apart_5 (fun i o0 => g (at' Try.f27 2) ⟨fr0 77 [(0, .nst 0), (3, .v (.int .i64 i))], [.nst ⟨false, 22, (.sl 3 (.int .i64)), o0⟩]⟩) (fun i k o0 => g (at' Try.f27 5) ⟨fr0 77 [(0, .nst 0), (3, .v (.int .i64 i)), (4, .v (.int .i64 k))], [.nst ⟨false, 22, (.sl 3 (.int .i64)), o0⟩]⟩) (fun i o0 => g (at' Try.f27 9) ⟨fr0 77 [(0, .nst 0), (5, .v (.int .i64 i))], [.nst ⟨false, 22, (.sl 3 (.int .i64)), o0⟩]⟩) (fun i x k o0 => g (at' Try.f27 13) ⟨fr0 77 [(0, .nst 0), (5, .v (.int .i64 i)), (6, .inn 0 x), (7, .v (.int .i64 k))], [.nst ⟨false, 22, (.sl 3 (.int .i64)), o0⟩]⟩) (fun i o0 => g (at' Try.f27 17) ⟨fr0 77 [(0, .nst 0), (8, .v (.int .i64 i))], [.nst ⟨false, 22, (.sl 3 (.int .i64)), o0⟩]⟩) (fun i k o0 o1 o1_1 => g (at' Try.f27 13) ⟨fr0 77 [(0, .nst 0), (5, .v (.int .i64 i)), (6, .grn 1), (7, .v (.int .i64 k))], [.nst ⟨false, 22, (.sl 3 (.int .i64)), o0⟩, .grn 0 o1 3 1 o1_1]⟩) (fun i k o0 => g (at' Try.f27 20) ⟨fr0 77 [(0, .nst 0), (8, .v (.int .i64 i)), (9, .v (.int .i64 k))], [.nst ⟨false, 22, (.sl 3 (.int .i64)), o0⟩]⟩) (fun r0 r1 => K (.v (.bool r0)) [.nst ⟨false, 22, (.sl 3 (.int .i64)), r1⟩]) i k o0 := gstep_tutorref01_Apart_5 g K i k o0

theorem gstep_tutorref01_Apart_9 {R : Type} (g : List Item → St → Option R) (K : AV → List O → Option R) (i : Int) (o0 : List (List Int)) :
    runSeg Try.prog T_tutorref01_Apart cuts_tutorref01_Apart 1 g (finish Try.prog Try.f27 1 K) (at' Try.f27 9) ⟨fr0 77 [(0, .nst 0), (5, .v (.int .i64 i))], [.nst ⟨false, 22, (.sl 3 (.int .i64)), o0⟩]⟩ =
    (fun (g27_2 : Int → (List (List Int)) → Option R) (g27_5 : Int → Int → (List (List Int)) → Option R) (g27_9 : Int → (List (List Int)) → Option R) (g27_13 : Int → Nat → Int → (List (List Int)) → Option R) (g27_17 : Int → (List (List Int)) → Option R) (g27_13b : Int → Int → (List (List Int)) → Nat → Nat → Option R) (g27_20 : Int → Int → (List (List Int)) → Option R) (K0 : Bool → (List (List Int)) → Option R) (i : Int) (o0 : List (List Int)) =>
    bi (decide (i < (o0.length : Int)))
     (bi (decide (0 ≤ i ∧ i < ((o0.length : Nat) : Int)))
      (g27_13 i i.toNat 0 o0)
      none)
     (g27_17 0 o0)) (fun i o0 => g (at' Try.f27 2) ⟨fr0 77 [(0, .nst 0), (3, .v (.int .i64 i))], [.nst ⟨false, 22, (.sl 3 (.int .i64)), o0⟩]⟩) (fun i k o0 => g (at' Try.f27 5) ⟨fr0 77 [(0, .nst 0), (3, .v (.int .i64 i)), (4, .v (.int .i64 k))], [.nst ⟨false, 22, (.sl 3 (.int .i64)), o0⟩]⟩) (fun i o0 => g (at' Try.f27 9) ⟨fr0 77 [(0, .nst 0), (5, .v (.int .i64 i))], [.nst ⟨false, 22, (.sl 3 (.int .i64)), o0⟩]⟩) (fun i x k o0 => g (at' Try.f27 13) ⟨fr0 77 [(0, .nst 0), (5, .v (.int .i64 i)), (6, .inn 0 x), (7, .v (.int .i64 k))], [.nst ⟨false, 22, (.sl 3 (.int .i64)), o0⟩]⟩) (fun i o0 => g (at' Try.f27 17) ⟨fr0 77 [(0, .nst 0), (8, .v (.int .i64 i))], [.nst ⟨false, 22, (.sl 3 (.int .i64)), o0⟩]⟩) (fun i k o0 o1 o1_1 => g (at' Try.f27 13) ⟨fr0 77 [(0, .nst 0), (5, .v (.int .i64 i)), (6, .grn 1), (7, .v (.int .i64 k))], [.nst ⟨false, 22, (.sl 3 (.int .i64)), o0⟩, .grn 0 o1 3 1 o1_1]⟩) (fun i k o0 => g (at' Try.f27 20) ⟨fr0 77 [(0, .nst 0), (8, .v (.int .i64 i)), (9, .v (.int .i64 k))], [.nst ⟨false, 22, (.sl 3 (.int .i64)), o0⟩]⟩) (fun r0 r1 => K (.v (.bool r0)) [.nst ⟨false, 22, (.sl 3 (.int .i64)), r1⟩]) i o0 := by kernel_rfl

theorem step_tutorref01_Apart_9 {R : Type} (g : List Item → St → Option R) (K : AV → List O → Option R) (i : Int) (o0 : List (List Int)) :
    runSeg Try.prog T_tutorref01_Apart cuts_tutorref01_Apart 1 g (finish Try.prog Try.f27 1 K) (at' Try.f27 9) ⟨fr0 77 [(0, .nst 0), (5, .v (.int .i64 i))], [.nst ⟨false, 22, (.sl 3 (.int .i64)), o0⟩]⟩ =
    s_tutorref01_Apart_9 (fun i o0 => g (at' Try.f27 2) ⟨fr0 77 [(0, .nst 0), (3, .v (.int .i64 i))], [.nst ⟨false, 22, (.sl 3 (.int .i64)), o0⟩]⟩) (fun i k o0 => g (at' Try.f27 5) ⟨fr0 77 [(0, .nst 0), (3, .v (.int .i64 i)), (4, .v (.int .i64 k))], [.nst ⟨false, 22, (.sl 3 (.int .i64)), o0⟩]⟩) (fun i o0 => g (at' Try.f27 9) ⟨fr0 77 [(0, .nst 0), (5, .v (.int .i64 i))], [.nst ⟨false, 22, (.sl 3 (.int .i64)), o0⟩]⟩) (fun i x k o0 => g (at' Try.f27 13) ⟨fr0 77 [(0, .nst 0), (5, .v (.int .i64 i)), (6, .inn 0 x), (7, .v (.int .i64 k))], [.nst ⟨false, 22, (.sl 3 (.int .i64)), o0⟩]⟩) (fun i o0 => g (at' Try.f27 17) ⟨fr0 77 [(0, .nst 0), (8, .v (.int .i64 i))], [.nst ⟨false, 22, (.sl 3 (.int .i64)), o0⟩]⟩) (fun i k o0 o1 o1_1 => g (at' Try.f27 13) ⟨fr0 77 [(0, .nst 0), (5, .v (.int .i64 i)), (6, .grn 1), (7, .v (.int .i64 k))], [.nst ⟨false, 22, (.sl 3 (.int .i64)), o0⟩, .grn 0 o1 3 1 o1_1]⟩) (fun i k o0 => g (at' Try.f27 20) ⟨fr0 77 [(0, .nst 0), (8, .v (.int .i64 i)), (9, .v (.int .i64 k))], [.nst ⟨false, 22, (.sl 3 (.int .i64)), o0⟩]⟩) (fun r0 r1 => K (.v (.bool r0)) [.nst ⟨false, 22, (.sl 3 (.int .i64)), r1⟩]) i o0 := gstep_tutorref01_Apart_9 g K i o0

theorem gstep_tutorref01_Apart_13a {R : Type} (g : List Item → St → Option R) (K : AV → List O → Option R) (i : Int) (x : Nat) (k : Int) (o0 : List (List Int)) :
    runSeg Try.prog T_tutorref01_Apart cuts_tutorref01_Apart 1 g (finish Try.prog Try.f27 1 K) (at' Try.f27 13) ⟨fr0 77 [(0, .nst 0), (5, .v (.int .i64 i)), (6, .inn 0 x), (7, .v (.int .i64 k))], [.nst ⟨false, 22, (.sl 3 (.int .i64)), o0⟩]⟩ =
    (fun (g27_2 : Int → (List (List Int)) → Option R) (g27_5 : Int → Int → (List (List Int)) → Option R) (g27_9 : Int → (List (List Int)) → Option R) (g27_13 : Int → Nat → Int → (List (List Int)) → Option R) (g27_17 : Int → (List (List Int)) → Option R) (g27_13b : Int → Int → (List (List Int)) → Nat → Nat → Option R) (g27_20 : Int → Int → (List (List Int)) → Option R) (K0 : Bool → (List (List Int)) → Option R) (i : Int) (x : Nat) (k : Int) (o0 : List (List Int)) =>
    bi (decide (k < 6))
     (bi (decide (((o0.getD x []).length + [IntKind.i64.wrap ((-5000) - i)].length) * 8 ≤ lim))
      (g27_13b i (IntKind.i64.wrap (k + 1)) o0 x ((o0.getD x []).length + [IntKind.i64.wrap ((-5000) - i)].length))
      none)
     (g27_9 (IntKind.i64.wrap (i + 1)) o0)) (fun i o0 => g (at' Try.f27 2) ⟨fr0 77 [(0, .nst 0), (3, .v (.int .i64 i))], [.nst ⟨false, 22, (.sl 3 (.int .i64)), o0⟩]⟩) (fun i k o0 => g (at' Try.f27 5) ⟨fr0 77 [(0, .nst 0), (3, .v (.int .i64 i)), (4, .v (.int .i64 k))], [.nst ⟨false, 22, (.sl 3 (.int .i64)), o0⟩]⟩) (fun i o0 => g (at' Try.f27 9) ⟨fr0 77 [(0, .nst 0), (5, .v (.int .i64 i))], [.nst ⟨false, 22, (.sl 3 (.int .i64)), o0⟩]⟩) (fun i x k o0 => g (at' Try.f27 13) ⟨fr0 77 [(0, .nst 0), (5, .v (.int .i64 i)), (6, .inn 0 x), (7, .v (.int .i64 k))], [.nst ⟨false, 22, (.sl 3 (.int .i64)), o0⟩]⟩) (fun i o0 => g (at' Try.f27 17) ⟨fr0 77 [(0, .nst 0), (8, .v (.int .i64 i))], [.nst ⟨false, 22, (.sl 3 (.int .i64)), o0⟩]⟩) (fun i k o0 o1 o1_1 => g (at' Try.f27 13) ⟨fr0 77 [(0, .nst 0), (5, .v (.int .i64 i)), (6, .grn 1), (7, .v (.int .i64 k))], [.nst ⟨false, 22, (.sl 3 (.int .i64)), o0⟩, .grn 0 o1 3 1 o1_1]⟩) (fun i k o0 => g (at' Try.f27 20) ⟨fr0 77 [(0, .nst 0), (8, .v (.int .i64 i)), (9, .v (.int .i64 k))], [.nst ⟨false, 22, (.sl 3 (.int .i64)), o0⟩]⟩) (fun r0 r1 => K (.v (.bool r0)) [.nst ⟨false, 22, (.sl 3 (.int .i64)), r1⟩]) i x k o0 := by kernel_rfl

theorem step_tutorref01_Apart_13a {R : Type} (g : List Item → St → Option R) (K : AV → List O → Option R) (i : Int) (x : Nat) (k : Int) (o0 : List (List Int)) :
    runSeg Try.prog T_tutorref01_Apart cuts_tutorref01_Apart 1 g (finish Try.prog Try.f27 1 K) (at' Try.f27 13) ⟨fr0 77 [(0, .nst 0), (5, .v (.int .i64 i)), (6, .inn 0 x), (7, .v (.int .i64 k))], [.nst ⟨false, 22, (.sl 3 (.int .i64)), o0⟩]⟩ =
    s_tutorref01_Apart_13a (fun i o0 => g (at' Try.f27 2) ⟨fr0 77 [(0, .nst 0), (3, .v (.int .i64 i))], [.nst ⟨false, 22, (.sl 3 (.int .i64)), o0⟩]⟩) (fun i k o0 => g (at' Try.f27 5) ⟨fr0 77 [(0, .nst 0), (3, .v (.int .i64 i)), (4, .v (.int .i64 k))], [.nst ⟨false, 22, (.sl 3 (.int .i64)), o0⟩]⟩) (fun i o0 => g (at' Try.f27 9) ⟨fr0 77 [(0, .nst 0), (5, .v (.int .i64 i))], [.nst ⟨false, 22, (.sl 3 (.int .i64)), o0⟩]⟩) (fun i x k o0 => g (at' Try.f27 13) ⟨fr0 77 [(0, .nst 0), (5, .v (.int .i64 i)), (6, .inn 0 x), (7, .v (.int .i64 k))], [.nst ⟨false, 22, (.sl 3 (.int .i64)), o0⟩]⟩) (fun i o0 => g (at' Try.f27 17) ⟨fr0 77 [(0, .nst 0), (8, .v (.int .i64 i))], [.nst ⟨false, 22, (.sl 3 (.int .i64)), o0⟩]⟩) (fun i k o0 o1 o1_1 => g (at' Try.f27 13) ⟨fr0 77 [(0, .nst 0), (5, .v (.int .i64 i)), (6, .grn 1), (7, .v (.int .i64 k))], [.nst ⟨false, 22, (.sl 3 (.int .i64)), o0⟩, .grn 0 o1 3 1 o1_1]⟩) (fun i k o0 => g (at' Try.f27 20) ⟨fr0 77 [(0, .nst 0), (8, .v (.int .i64 i)), (9, .v (.int .i64 k))], [.nst ⟨false, 22, (.sl 3 (.int .i64)), o0⟩]⟩) (fun r0 r1 => K (.v (.bool r0)) [.nst ⟨false, 22, (.sl 3 (.int .i64)), r1⟩]) i x k o0 := gstep_tutorref01_Apart_13a g K i x k o0

theorem gstep_tutorref01_Apart_17 {R : Type} (g : List Item → St → Option R) (K : AV → List O → Option R) (i : Int) (o0 : List (List Int)) :
    runSeg Try.prog T_tutorref01_Apart cuts_tutorref01_Apart 1 g (finish Try.prog Try.f27 1 K) (at' Try.f27 17) ⟨fr0 77 [(0, .nst 0), (8, .v (.int .i64 i))], [.nst ⟨false, 22, (.sl 3 (.int .i64)), o0⟩]⟩ =
    (fun (g27_2 : Int → (List (List Int)) → Option R) (g27_5 : Int → Int → (List (List Int)) → Option R) (g27_9 : Int → (List (List Int)) → Option R) (g27_13 : Int → Nat → Int → (List (List Int)) → Option R) (g27_17 : Int → (List (List Int)) → Option R) (g27_13b : Int → Int → (List (List Int)) → Nat → Nat → Option R) (g27_20 : Int → Int → (List (List Int)) → Option R) (K0 : Bool → (List (List Int)) → Option R) (i : Int) (o0 : List (List Int)) =>
    bi (decide (i < (o0.length : Int)))
     (g27_20 i 0 o0)
     (K0 true o0)) (fun i o0 => g (at' Try.f27 2) ⟨fr0 77 [(0, .nst 0), (3, .v (.int .i64 i))], [.nst ⟨false, 22, (.sl 3 (.int .i64)), o0⟩]⟩) (fun i k o0 => g (at' Try.f27 5) ⟨fr0 77 [(0, .nst 0), (3, .v (.int .i64 i)), (4, .v (.int .i64 k))], [.nst ⟨false, 22, (.sl 3 (.int .i64)), o0⟩]⟩) (fun i o0 => g (at' Try.f27 9) ⟨fr0 77 [(0, .nst 0), (5, .v (.int .i64 i))], [.nst ⟨false, 22, (.sl 3 (.int .i64)), o0⟩]⟩) (fun i x k o0 => g (at' Try.f27 13) ⟨fr0 77 [(0, .nst 0), (5, .v (.int .i64 i)), (6, .inn 0 x), (7, .v (.int .i64 k))], [.nst ⟨false, 22, (.sl 3 (.int .i64)), o0⟩]⟩) (fun i o0 => g (at' Try.f27 17) ⟨fr0 77 [(0, .nst 0), (8, .v (.int .i64 i))], [.nst ⟨false, 22, (.sl 3 (.int .i64)), o0⟩]⟩) (fun i k o0 o1 o1_1 => g (at' Try.f27 13) ⟨fr0 77 [(0, .nst 0), (5, .v (.int .i64 i)), (6, .grn 1), (7, .v (.int .i64 k))], [.nst ⟨false, 22, (.sl 3 (.int .i64)), o0⟩, .grn 0 o1 3 1 o1_1]⟩) (fun i k o0 => g (at' Try.f27 20) ⟨fr0 77 [(0, .nst 0), (8, .v (.int .i64 i)), (9, .v (.int .i64 k))], [.nst ⟨false, 22, (.sl 3 (.int .i64)), o0⟩]⟩) (fun r0 r1 => K (.v (.bool r0)) [.nst ⟨false, 22, (.sl 3 (.int .i64)), r1⟩]) i o0 := by kernel_rfl

theorem step_tutorref01_Apart_17 {R : Type} (g : List Item → St → Option R) (K : AV → List O → Option R) (i : Int) (o0 : List (List Int)) :
    runSeg Try.prog T_tutorref01_Apart cuts_tutorref01_Apart 1 g (finish Try.prog Try.f27 1 K) (at' Try.f27 17) ⟨fr0 77 [(0, .nst 0), (8, .v (.int .i64 i))], [.nst ⟨false, 22, (.sl 3 (.int .i64)), o0⟩]⟩ =
    s_tutorref01_Apart_17 (fun i o0 => g (at' Try.f27 2) ⟨fr0 77 [(0, .nst 0), (3, .v (.int .i64 i))], [.nst ⟨false, 22, (.sl 3 (.int .i64)), o0⟩]⟩) (fun i k o0 => g (at' Try.f27 5) ⟨fr0 77 [(0, .nst 0), (3, .v (.int .i64 i)), (4, .v (.int .i64 k))], [.nst ⟨false, 22, (.sl 3 (.int .i64)), o0⟩]⟩) (fun i o0 => g (at' Try.f27 9) ⟨fr0 77 [(0, .nst 0), (5, .v (.int .i64 i))], [.nst ⟨false, 22, (.sl 3 (.int .i64)), o0⟩]⟩) (fun i x k o0 => g (at' Try.f27 13) ⟨fr0 77 [(0, .nst 0), (5, .v (.int .i64 i)), (6, .inn 0 x), (7, .v (.int .i64 k))], [.nst ⟨false, 22, (.sl 3 (.int .i64)), o0⟩]⟩) (fun i o0 => g (at' Try.f27 17) ⟨fr0 77 [(0, .nst 0), (8, .v (.int .i64 i))], [.nst ⟨false, 22, (.sl 3 (.int .i64)), o0⟩]⟩) (fun i k o0 o1 o1_1 => g (at' Try.f27 13) ⟨fr0 77 [(0, .nst 0), (5, .v (.int .i64 i)), (6, .grn 1), (7, .v (.int .i64 k))], [.nst ⟨false, 22, (.sl 3 (.int .i64)), o0⟩, .grn 0 o1 3 1 o1_1]⟩) (fun i k o0 => g (at' Try.f27 20) ⟨fr0 77 [(0, .nst 0), (8, .v (.int .i64 i)), (9, .v (.int .i64 k))], [.nst ⟨false, 22, (.sl 3 (.int .i64)), o0⟩]⟩) (fun r0 r1 => K (.v (.bool r0)) [.nst ⟨false, 22, (.sl 3 (.int .i64)), r1⟩]) i o0 := gstep_tutorref01_Apart_17 g K i o0

theorem gstep_tutorref01_Apart_13b {R : Type} (g : List Item → St → Option R) (K : AV → List O → Option R) (i : Int) (k : Int) (o0 : List (List Int)) (o1 : Nat) (o1_1 : Nat) :
    runSeg Try.prog T_tutorref01_Apart cuts_tutorref01_Apart 1 g (finish Try.prog Try.f27 1 K) (at' Try.f27 13) ⟨fr0 77 [(0, .nst 0), (5, .v (.int .i64 i)), (6, .grn 1), (7, .v (.int .i64 k))], [.nst ⟨false, 22, (.sl 3 (.int .i64)), o0⟩, .grn 0 o1 3 1 o1_1]⟩ =
    (fun (g27_2 : Int → (List (List Int)) → Option R) (g27_5 : Int → Int → (List (List Int)) → Option R) (g27_9 : Int → (List (List Int)) → Option R) (g27_13 : Int → Nat → Int → (List (List Int)) → Option R) (g27_17 : Int → (List (List Int)) → Option R) (g27_13b : Int → Int → (List (List Int)) → Nat → Nat → Option R) (g27_20 : Int → Int → (List (List Int)) → Option R) (K0 : Bool → (List (List Int)) → Option R) (i : Int) (k : Int) (o0 : List (List Int)) (o1 : Nat) (o1_1 : Nat) =>
    bi (decide (k < 6))
     (bi (decide ((o1_1 + [IntKind.i64.wrap ((-5000) - i)].length) * 8 ≤ lim))
      (g27_13b i (IntKind.i64.wrap (k + 1)) o0 o1 (o1_1 + [IntKind.i64.wrap ((-5000) - i)].length))
      none)
     (g27_9 (IntKind.i64.wrap (i + 1)) o0)) (fun i o0 => g (at' Try.f27 2) ⟨fr0 77 [(0, .nst 0), (3, .v (.int .i64 i))], [.nst ⟨false, 22, (.sl 3 (.int .i64)), o0⟩]⟩) (fun i k o0 => g (at' Try.f27 5) ⟨fr0 77 [(0, .nst 0), (3, .v (.int .i64 i)), (4, .v (.int .i64 k))], [.nst ⟨false, 22, (.sl 3 (.int .i64)), o0⟩]⟩) (fun i o0 => g (at' Try.f27 9) ⟨fr0 77 [(0, .nst 0), (5, .v (.int .i64 i))], [.nst ⟨false, 22, (.sl 3 (.int .i64)), o0⟩]⟩) (fun i x k o0 => g (at' Try.f27 13) ⟨fr0 77 [(0, .nst 0), (5, .v (.int .i64 i)), (6, .inn 0 x), (7, .v (.int .i64 k))], [.nst ⟨false, 22, (.sl 3 (.int .i64)), o0⟩]⟩) (fun i o0 => g (at' Try.f27 17) ⟨fr0 77 [(0, .nst 0), (8, .v (.int .i64 i))], [.nst ⟨false, 22, (.sl 3 (.int .i64)), o0⟩]⟩) (fun i k o0 o1 o1_1 => g (at' Try.f27 13) ⟨fr0 77 [(0, .nst 0), (5, .v (.int .i64 i)), (6, .grn 1), (7, .v (.int .i64 k))], [.nst ⟨false, 22, (.sl 3 (.int .i64)), o0⟩, .grn 0 o1 3 1 o1_1]⟩) (fun i k o0 => g (at' Try.f27 20) ⟨fr0 77 [(0, .nst 0), (8, .v (.int .i64 i)), (9, .v (.int .i64 k))], [.nst ⟨false, 22, (.sl 3 (.int .i64)), o0⟩]⟩) (fun r0 r1 => K (.v (.bool r0)) [.nst ⟨false, 22, (.sl 3 (.int .i64)), r1⟩]) i k o0 o1 o1_1 := by kernel_rfl

theorem step_tutorref01_Apart_13b {R : Type} (g : List Item → St → Option R) (K : AV → List O → Option R) (i : Int) (k : Int) (o0 : List (List Int)) (o1 : Nat) (o1_1 : Nat) :
    runSeg Try.prog T_tutorref01_Apart cuts_tutorref01_Apart 1 g (finish Try.prog Try.f27 1 K) (at' Try.f27 13) ⟨fr0 77 [(0, .nst 0), (5, .v (.int .i64 i)), (6, .grn 1), (7, .v (.int .i64 k))], [.nst ⟨false, 22, (.sl 3 (.int .i64)), o0⟩, .grn 0 o1 3 1 o1_1]⟩ =
    s_tutorref01_Apart_13b (fun i o0 => g (at' Try.f27 2) ⟨fr0 77 [(0, .nst 0), (3, .v (.int .i64 i))], [.nst ⟨false, 22, (.sl 3 (.int .i64)), o0⟩]⟩) (fun i k o0 => g (at' Try.f27 5) ⟨fr0 77 [(0, .nst 0), (3, .v (.int .i64 i)), (4, .v (.int .i64 k))], [.nst ⟨false, 22, (.sl 3 (.int .i64)), o0⟩]⟩) (fun i o0 => g (at' Try.f27 9) ⟨fr0 77 [(0, .nst 0), (5, .v (.int .i64 i))], [.nst ⟨false, 22, (.sl 3 (.int .i64)), o0⟩]⟩) (fun i x k o0 => g (at' Try.f27 13) ⟨fr0 77 [(0, .nst 0), (5, .v (.int .i64 i)), (6, .inn 0 x), (7, .v (.int .i64 k))], [.nst ⟨false, 22, (.sl 3 (.int .i64)), o0⟩]⟩) (fun i o0 => g (at' Try.f27 17) ⟨fr0 77 [(0, .nst 0), (8, .v (.int .i64 i))], [.nst ⟨false, 22, (.sl 3 (.int .i64)), o0⟩]⟩) (fun i k o0 o1 o1_1 => g (at' Try.f27 13) ⟨fr0 77 [(0, .nst 0), (5, .v (.int .i64 i)), (6, .grn 1), (7, .v (.int .i64 k))], [.nst ⟨false, 22, (.sl 3 (.int .i64)), o0⟩, .grn 0 o1 3 1 o1_1]⟩) (fun i k o0 => g (at' Try.f27 20) ⟨fr0 77 [(0, .nst 0), (8, .v (.int .i64 i)), (9, .v (.int .i64 k))], [.nst ⟨false, 22, (.sl 3 (.int .i64)), o0⟩]⟩) (fun r0 r1 => K (.v (.bool r0)) [.nst ⟨false, 22, (.sl 3 (.int .i64)), r1⟩]) i k o0 o1 o1_1 := gstep_tutorref01_Apart_13b g K i k o0 o1 o1_1

theorem gstep_tutorref01_Apart_20 {R : Type} (g : List Item → St → Option R) (K : AV → List O → Option R) (i : Int) (k : Int) (o0 : List (List Int)) :
    runSeg Try.prog T_tutorref01_Apart cuts_tutorref01_Apart 1 g (finish Try.prog Try.f27 1 K) (at' Try.f27 20) ⟨fr0 77 [(0, .nst 0), (8, .v (.int .i64 i)), (9, .v (.int .i64 k))], [.nst ⟨false, 22, (.sl 3 (.int .i64)), o0⟩]⟩ =
    (fun (g27_2 : Int → (List (List Int)) → Option R) (g27_5 : Int → Int → (List (List Int)) → Option R) (g27_9 : Int → (List (List Int)) → Option R) (g27_13 : Int → Nat → Int → (List (List Int)) → Option R) (g27_17 : Int → (List (List Int)) → Option R) (g27_13b : Int → Int → (List (List Int)) → Nat → Nat → Option R) (g27_20 : Int → Int → (List (List Int)) → Option R) (K0 : Bool → (List (List Int)) → Option R) (i : Int) (k : Int) (o0 : List (List Int)) =>
    bi (decide (0 ≤ i ∧ i < ((o0.length : Nat) : Int)))
     (bi (decide (k < ((o0.getD i.toNat []).length : Int)))
      (bi (decide (0 ≤ i ∧ i < ((o0.length : Nat) : Int)))
       (bi (decide (0 ≤ k ∧ k < (((o0.getD i.toNat []).length : Nat) : Int)))
        (bi (((o0.getD i.toNat []).getD k.toNat 0) != (IntKind.i64.wrap ((-1000) - i)))
         (K0 false o0)
         (g27_20 i (IntKind.i64.wrap (k + 1)) o0))
        none)
       none)
      (g27_17 (IntKind.i64.wrap (i + 1)) o0))
     none) (fun i o0 => g (at' Try.f27 2) ⟨fr0 77 [(0, .nst 0), (3, .v (.int .i64 i))], [.nst ⟨false, 22, (.sl 3 (.int .i64)), o0⟩]⟩) (fun i k o0 => g (at' Try.f27 5) ⟨fr0 77 [(0, .nst 0), (3, .v (.int .i64 i)), (4, .v (.int .i64 k))], [.nst ⟨false, 22, (.sl 3 (.int .i64)), o0⟩]⟩) (fun i o0 => g (at' Try.f27 9) ⟨fr0 77 [(0, .nst 0), (5, .v (.int .i64 i))], [.nst ⟨false, 22, (.sl 3 (.int .i64)), o0⟩]⟩) (fun i x k o0 => g (at' Try.f27 13) ⟨fr0 77 [(0, .nst 0), (5, .v (.int .i64 i)), (6, .inn 0 x), (7, .v (.int .i64 k))], [.nst ⟨false, 22, (.sl 3 (.int .i64)), o0⟩]⟩) (fun i o0 => g (at' Try.f27 17) ⟨fr0 77 [(0, .nst 0), (8, .v (.int .i64 i))], [.nst ⟨false, 22, (.sl 3 (.int .i64)), o0⟩]⟩) (fun i k o0 o1 o1_1 => g (at' Try.f27 13) ⟨fr0 77 [(0, .nst 0), (5, .v (.int .i64 i)), (6, .grn 1), (7, .v (.int .i64 k))], [.nst ⟨false, 22, (.sl 3 (.int .i64)), o0⟩, .grn 0 o1 3 1 o1_1]⟩) (fun i k o0 => g (at' Try.f27 20) ⟨fr0 77 [(0, .nst 0), (8, .v (.int .i64 i)), (9, .v (.int .i64 k))], [.nst ⟨false, 22, (.sl 3 (.int .i64)), o0⟩]⟩) (fun r0 r1 => K (.v (.bool r0)) [.nst ⟨false, 22, (.sl 3 (.int .i64)), r1⟩]) i k o0 := by kernel_rfl

theorem step_tutorref01_Apart_20 {R : Type} (g : List Item → St → Option R) (K : AV → List O → Option R) (i : Int) (k : Int) (o0 : List (List Int)) :
    runSeg Try.prog T_tutorref01_Apart cuts_tutorref01_Apart 1 g (finish Try.prog Try.f27 1 K) (at' Try.f27 20) ⟨fr0 77 [(0, .nst 0), (8, .v (.int .i64 i)), (9, .v (.int .i64 k))], [.nst ⟨false, 22, (.sl 3 (.int .i64)), o0⟩]⟩ =
    s_tutorref01_Apart_20 (fun i o0 => g (at' Try.f27 2) ⟨fr0 77 [(0, .nst 0), (3, .v (.int .i64 i))], [.nst ⟨false, 22, (.sl 3 (.int .i64)), o0⟩]⟩) (fun i k o0 => g (at' Try.f27 5) ⟨fr0 77 [(0, .nst 0), (3, .v (.int .i64 i)), (4, .v (.int .i64 k))], [.nst ⟨false, 22, (.sl 3 (.int .i64)), o0⟩]⟩) (fun i o0 => g (at' Try.f27 9) ⟨fr0 77 [(0, .nst 0), (5, .v (.int .i64 i))], [.nst ⟨false, 22, (.sl 3 (.int .i64)), o0⟩]⟩) (fun i x k o0 => g (at' Try.f27 13) ⟨fr0 77 [(0, .nst 0), (5, .v (.int .i64 i)), (6, .inn 0 x), (7, .v (.int .i64 k))], [.nst ⟨false, 22, (.sl 3 (.int .i64)), o0⟩]⟩) (fun i o0 => g (at' Try.f27 17) ⟨fr0 77 [(0, .nst 0), (8, .v (.int .i64 i))], [.nst ⟨false, 22, (.sl 3 (.int .i64)), o0⟩]⟩) (fun i k o0 o1 o1_1 => g (at' Try.f27 13) ⟨fr0 77 [(0, .nst 0), (5, .v (.int .i64 i)), (6, .grn 1), (7, .v (.int .i64 k))], [.nst ⟨false, 22, (.sl 3 (.int .i64)), o0⟩, .grn 0 o1 3 1 o1_1]⟩) (fun i k o0 => g (at' Try.f27 20) ⟨fr0 77 [(0, .nst 0), (8, .v (.int .i64 i)), (9, .v (.int .i64 k))], [.nst ⟨false, 22, (.sl 3 (.int .i64)), o0⟩]⟩) (fun r0 r1 => K (.v (.bool r0)) [.nst ⟨false, 22, (.sl 3 (.int .i64)), r1⟩]) i k o0 := gstep_tutorref01_Apart_20 g K i k o0

theorem gentry_tutorref01_Apart {R : Type} (fuel : Nat) (K : AV → List O → Option R) (o0 : List (List Int)) :
    fnRun Try.prog T_tutorref01_Apart cuts_tutorref01_Apart Try.f27 fuel [.nst 0] [.nst ⟨false, 22, (.sl 3 (.int .i64)), o0⟩] K =
    (fun (g27_2 : Int → (List (List Int)) → Option R) (g27_5 : Int → Int → (List (List Int)) → Option R) (g27_9 : Int → (List (List Int)) → Option R) (g27_13 : Int → Nat → Int → (List (List Int)) → Option R) (g27_17 : Int → (List (List Int)) → Option R) (g27_13b : Int → Int → (List (List Int)) → Nat → Nat → Option R) (g27_20 : Int → Int → (List (List Int)) → Option R) (K0 : Bool → (List (List Int)) → Option R) (o0 : List (List Int)) =>
    g27_2 0 o0) (fun i o0 => (runO Try.prog T_tutorref01_Apart cuts_tutorref01_Apart 1 (finish Try.prog Try.f27 1 K) fuel) (at' Try.f27 2) ⟨fr0 77 [(0, .nst 0), (3, .v (.int .i64 i))], [.nst ⟨false, 22, (.sl 3 (.int .i64)), o0⟩]⟩) (fun i k o0 => (runO Try.prog T_tutorref01_Apart cuts_tutorref01_Apart 1 (finish Try.prog Try.f27 1 K) fuel) (at' Try.f27 5) ⟨fr0 77 [(0, .nst 0), (3, .v (.int .i64 i)), (4, .v (.int .i64 k))], [.nst ⟨false, 22, (.sl 3 (.int .i64)), o0⟩]⟩) (fun i o0 => (runO Try.prog T_tutorref01_Apart cuts_tutorref01_Apart 1 (finish Try.prog Try.f27 1 K) fuel) (at' Try.f27 9) ⟨fr0 77 [(0, .nst 0), (5, .v (.int .i64 i))], [.nst ⟨false, 22, (.sl 3 (.int .i64)), o0⟩]⟩) (fun i x k o0 => (runO Try.prog T_tutorref01_Apart cuts_tutorref01_Apart 1 (finish Try.prog Try.f27 1 K) fuel) (at' Try.f27 13) ⟨fr0 77 [(0, .nst 0), (5, .v (.int .i64 i)), (6, .inn 0 x), (7, .v (.int .i64 k))], [.nst ⟨false, 22, (.sl 3 (.int .i64)), o0⟩]⟩) (fun i o0 => (runO Try.prog T_tutorref01_Apart cuts_tutorref01_Apart 1 (finish Try.prog Try.f27 1 K) fuel) (at' Try.f27 17) ⟨fr0 77 [(0, .nst 0), (8, .v (.int .i64 i))], [.nst ⟨false, 22, (.sl 3 (.int .i64)), o0⟩]⟩) (fun i k o0 o1 o1_1 => (runO Try.prog T_tutorref01_Apart cuts_tutorref01_Apart 1 (finish Try.prog Try.f27 1 K) fuel) (at' Try.f27 13) ⟨fr0 77 [(0, .nst 0), (5, .v (.int .i64 i)), (6, .grn 1), (7, .v (.int .i64 k))], [.nst ⟨false, 22, (.sl 3 (.int .i64)), o0⟩, .grn 0 o1 3 1 o1_1]⟩) (fun i k o0 => (runO Try.prog T_tutorref01_Apart cuts_tutorref01_Apart 1 (finish Try.prog Try.f27 1 K) fuel) (at' Try.f27 20) ⟨fr0 77 [(0, .nst 0), (8, .v (.int .i64 i)), (9, .v (.int .i64 k))], [.nst ⟨false, 22, (.sl 3 (.int .i64)), o0⟩]⟩) (fun r0 r1 => K (.v (.bool r0)) [.nst ⟨false, 22, (.sl 3 (.int .i64)), r1⟩]) o0 := by kernel_rfl

theorem entry_tutorref01_Apart {R : Type} (fuel : Nat) (K : AV → List O → Option R) (o0 : List (List Int)) :
    fnRun Try.prog T_tutorref01_Apart cuts_tutorref01_Apart Try.f27 fuel [.nst 0] [.nst ⟨false, 22, (.sl 3 (.int .i64)), o0⟩] K =
    e_tutorref01_Apart (fun i o0 => (runO Try.prog T_tutorref01_Apart cuts_tutorref01_Apart 1 (finish Try.prog Try.f27 1 K) fuel) (at' Try.f27 2) ⟨fr0 77 [(0, .nst 0), (3, .v (.int .i64 i))], [.nst ⟨false, 22, (.sl 3 (.int .i64)), o0⟩]⟩) (fun i k o0 => (runO Try.prog T_tutorref01_Apart cuts_tutorref01_Apart 1 (finish Try.prog Try.f27 1 K) fuel) (at' Try.f27 5) ⟨fr0 77 [(0, .nst 0), (3, .v (.int .i64 i)), (4, .v (.int .i64 k))], [.nst ⟨false, 22, (.sl 3 (.int .i64)), o0⟩]⟩) (fun i o0 => (runO Try.prog T_tutorref01_Apart cuts_tutorref01_Apart 1 (finish Try.prog Try.f27 1 K) fuel) (at' Try.f27 9) ⟨fr0 77 [(0, .nst 0), (5, .v (.int .i64 i))], [.nst ⟨false, 22, (.sl 3 (.int .i64)), o0⟩]⟩) (fun i x k o0 => (runO Try.prog T_tutorref01_Apart cuts_tutorref01_Apart 1 (finish Try.prog Try.f27 1 K) fuel) (at' Try.f27 13) ⟨fr0 77 [(0, .nst 0), (5, .v (.int .i64 i)), (6, .inn 0 x), (7, .v (.int .i64 k))], [.nst ⟨false, 22, (.sl 3 (.int .i64)), o0⟩]⟩) (fun i o0 => (runO Try.prog T_tutorref01_Apart cuts_tutorref01_Apart 1 (finish Try.prog Try.f27 1 K) fuel) (at' Try.f27 17) ⟨fr0 77 [(0, .nst 0), (8, .v (.int .i64 i))], [.nst ⟨false, 22, (.sl 3 (.int .i64)), o0⟩]⟩) (fun i k o0 o1 o1_1 => (runO Try.prog T_tutorref01_Apart cuts_tutorref01_Apart 1 (finish Try.prog Try.f27 1 K) fuel) (at' Try.f27 13) ⟨fr0 77 [(0, .nst 0), (5, .v (.int .i64 i)), (6, .grn 1), (7, .v (.int .i64 k))], [.nst ⟨false, 22, (.sl 3 (.int .i64)), o0⟩, .grn 0 o1 3 1 o1_1]⟩) (fun i k o0 => (runO Try.prog T_tutorref01_Apart cuts_tutorref01_Apart 1 (finish Try.prog Try.f27 1 K) fuel) (at' Try.f27 20) ⟨fr0 77 [(0, .nst 0), (8, .v (.int .i64 i)), (9, .v (.int .i64 k))], [.nst ⟨false, 22, (.sl 3 (.int .i64)), o0⟩]⟩) (fun r0 r1 => K (.v (.bool r0)) [.nst ⟨false, 22, (.sl 3 (.int .i64)), r1⟩]) o0 := gentry_tutorref01_Apart fuel K o0

theorem runs_tutorref01_Apart {R : Type} (K : AV → List O → Option R) : ∀ fuel : Nat,
    (fun i o0 => (runO Try.prog T_tutorref01_Apart cuts_tutorref01_Apart 1 (finish Try.prog Try.f27 1 K) fuel) (at' Try.f27 2) ⟨fr0 77 [(0, .nst 0), (3, .v (.int .i64 i))], [.nst ⟨false, 22, (.sl 3 (.int .i64)), o0⟩]⟩) = (run_tutorref01_Apart (fun r0 r1 => K (.v (.bool r0)) [.nst ⟨false, 22, (.sl 3 (.int .i64)), r1⟩]) fuel).1 ∧
    (fun i k o0 => (runO Try.prog T_tutorref01_Apart cuts_tutorref01_Apart 1 (finish Try.prog Try.f27 1 K) fuel) (at' Try.f27 5) ⟨fr0 77 [(0, .nst 0), (3, .v (.int .i64 i)), (4, .v (.int .i64 k))], [.nst ⟨false, 22, (.sl 3 (.int .i64)), o0⟩]⟩) = (run_tutorref01_Apart (fun r0 r1 => K (.v (.bool r0)) [.nst ⟨false, 22, (.sl 3 (.int .i64)), r1⟩]) fuel).2.1 ∧
    (fun i o0 => (runO Try.prog T_tutorref01_Apart cuts_tutorref01_Apart 1 (finish Try.prog Try.f27 1 K) fuel) (at' Try.f27 9) ⟨fr0 77 [(0, .nst 0), (5, .v (.int .i64 i))], [.nst ⟨false, 22, (.sl 3 (.int .i64)), o0⟩]⟩) = (run_tutorref01_Apart (fun r0 r1 => K (.v (.bool r0)) [.nst ⟨false, 22, (.sl 3 (.int .i64)), r1⟩]) fuel).2.2.1 ∧
    (fun i x k o0 => (runO Try.prog T_tutorref01_Apart cuts_tutorref01_Apart 1 (finish Try.prog Try.f27 1 K) fuel) (at' Try.f27 13) ⟨fr0 77 [(0, .nst 0), (5, .v (.int .i64 i)), (6, .inn 0 x), (7, .v (.int .i64 k))], [.nst ⟨false, 22, (.sl 3 (.int .i64)), o0⟩]⟩) = (run_tutorref01_Apart (fun r0 r1 => K (.v (.bool r0)) [.nst ⟨false, 22, (.sl 3 (.int .i64)), r1⟩]) fuel).2.2.2.1 ∧
    (fun i o0 => (runO Try.prog T_tutorref01_Apart cuts_tutorref01_Apart 1 (finish Try.prog Try.f27 1 K) fuel) (at' Try.f27 17) ⟨fr0 77 [(0, .nst 0), (8, .v (.int .i64 i))], [.nst ⟨false, 22, (.sl 3 (.int .i64)), o0⟩]⟩) = (run_tutorref01_Apart (fun r0 r1 => K (.v (.bool r0)) [.nst ⟨false, 22, (.sl 3 (.int .i64)), r1⟩]) fuel).2.2.2.2.1 ∧
    (fun i k o0 o1 o1_1 => (runO Try.prog T_tutorref01_Apart cuts_tutorref01_Apart 1 (finish Try.prog Try.f27 1 K) fuel) (at' Try.f27 13) ⟨fr0 77 [(0, .nst 0), (5, .v (.int .i64 i)), (6, .grn 1), (7, .v (.int .i64 k))], [.nst ⟨false, 22, (.sl 3 (.int .i64)), o0⟩, .grn 0 o1 3 1 o1_1]⟩) = (run_tutorref01_Apart (fun r0 r1 => K (.v (.bool r0)) [.nst ⟨false, 22, (.sl 3 (.int .i64)), r1⟩]) fuel).2.2.2.2.2.1 ∧
    (fun i k o0 => (runO Try.prog T_tutorref01_Apart cuts_tutorref01_Apart 1 (finish Try.prog Try.f27 1 K) fuel) (at' Try.f27 20) ⟨fr0 77 [(0, .nst 0), (8, .v (.int .i64 i)), (9, .v (.int .i64 k))], [.nst ⟨false, 22, (.sl 3 (.int .i64)), o0⟩]⟩) = (run_tutorref01_Apart (fun r0 r1 => K (.v (.bool r0)) [.nst ⟨false, 22, (.sl 3 (.int .i64)), r1⟩]) fuel).2.2.2.2.2.2
  | 0 => ⟨rfl, rfl, rfl, rfl, rfl, rfl, rfl⟩
  | fuel + 1 => by
    have ih := runs_tutorref01_Apart K fuel
    refine ⟨?_, ?_, ?_, ?_, ?_, ?_, ?_⟩
    · funext i o0
      refine (step_tutorref01_Apart_2 _ K i o0).trans ?_
      rw [ih.1, ih.2.1, ih.2.2.1, ih.2.2.2.1, ih.2.2.2.2.1, ih.2.2.2.2.2.1, ih.2.2.2.2.2.2]
      rfl
    · funext i k o0
      refine (step_tutorref01_Apart_5 _ K i k o0).trans ?_
      rw [ih.1, ih.2.1, ih.2.2.1, ih.2.2.2.1, ih.2.2.2.2.1, ih.2.2.2.2.2.1, ih.2.2.2.2.2.2]
      rfl
    · funext i o0
      refine (step_tutorref01_Apart_9 _ K i o0).trans ?_
      rw [ih.1, ih.2.1, ih.2.2.1, ih.2.2.2.1, ih.2.2.2.2.1, ih.2.2.2.2.2.1, ih.2.2.2.2.2.2]
      rfl
    · funext i x k o0
      refine (step_tutorref01_Apart_13a _ K i x k o0).trans ?_
      rw [ih.1, ih.2.1, ih.2.2.1, ih.2.2.2.1, ih.2.2.2.2.1, ih.2.2.2.2.2.1, ih.2.2.2.2.2.2]
      rfl
    · funext i o0
      refine (step_tutorref01_Apart_17 _ K i o0).trans ?_
      rw [ih.1, ih.2.1, ih.2.2.1, ih.2.2.2.1, ih.2.2.2.2.1, ih.2.2.2.2.2.1, ih.2.2.2.2.2.2]
      rfl
    · funext i k o0 o1 o1_1
      refine (step_tutorref01_Apart_13b _ K i k o0 o1 o1_1).trans ?_
      rw [ih.1, ih.2.1, ih.2.2.1, ih.2.2.2.1, ih.2.2.2.2.1, ih.2.2.2.2.2.1, ih.2.2.2.2.2.2]
      rfl
    · funext i k o0
      refine (step_tutorref01_Apart_20 _ K i k o0).trans ?_
      rw [ih.1, ih.2.1, ih.2.2.1, ih.2.2.2.1, ih.2.2.2.2.1, ih.2.2.2.2.2.1, ih.2.2.2.2.2.2]
      rfl

def S_tutorref01_Apart (l_tutorref01_Apart : {R : Type} → (List (List Int)) → (Bool → (List (List Int)) → Option R) → Option R) : Sum := ⟨[0], fun {R} args ob K => match args, ob with
  | [.nst 0], [.nst ⟨false, 22, (.sl 3 (.int .i64)), o0⟩] => l_tutorref01_Apart o0 (fun r0 r1 => K (.v (.bool r0)) [.nst ⟨false, 22, (.sl 3 (.int .i64)), r1⟩])
  | _, _ => none⟩

theorem sound_tutorref01_Apart : Sound Try.prog 27 (S_tutorref01_Apart @l_tutorref01_Apart) := by
  refine fn_sound (cuts := cuts_tutorref01_Apart) (fn := Try.f27) (Γ := T_tutorref01_Apart) wide right_T_tutorref01_Apart Try.func27 fun {R} K r args ob h => ?_
  unfold S_tutorref01_Apart at h
  dsimp only at h
  split at h
  · obtain ⟨n, hn⟩ := ok_tutorref01_Apart _ _ h
    refine ⟨Nat.le_of_ble_eq_true (by kernel_rfl), n, (entry_tutorref01_Apart n K _).trans ?_⟩
    rw [(runs_tutorref01_Apart K n).1, (runs_tutorref01_Apart K n).2.1, (runs_tutorref01_Apart K n).2.2.1, (runs_tutorref01_Apart K n).2.2.2.1, (runs_tutorref01_Apart K n).2.2.2.2.1, (runs_tutorref01_Apart K n).2.2.2.2.2.1, (runs_tutorref01_Apart K n).2.2.2.2.2.2]
    exact hn
  · cases h

theorem call_tutorref01_Apart : Callable Try.prog 27 := ⟨_, Try.func27, by kernel_rfl, by kernel_rfl⟩

def T_tutorref01_Kept (l_tutorref01_Same : {R : Type} → (List Int) → (List Int) → (Bool → Option R) → Option R) : FuncId → Option Sum := (addS G0 24 (S_tutorref01_Same @l_tutorref01_Same))

theorem right_T_tutorref01_Kept : Right Try.prog (T_tutorref01_Kept @l_tutorref01_Same) := (right_add right_G0 call_tutorref01_Same sound_tutorref01_Same)

abbrev cuts_tutorref01_Kept : Cuts := []

theorem gentry_tutorref01_Kept (l_tutorref01_Same : {R : Type} → (List Int) → (List Int) → (Bool → Option R) → Option R) {R : Type} (K : AV → List O → Option R) (b : Nat) (a : List Int) (o0 : List Int) :
    fnRun Try.prog (T_tutorref01_Kept @l_tutorref01_Same) cuts_tutorref01_Kept Try.f30 0 [.view 0 1 0 b, .rd ⟨false, 3, (.int .i64), a⟩] [.row ⟨false, 3, (.int .i64), o0⟩] K =
    (fun (b : Nat) (a : List Int) (o0 : List Int) (K0 : Bool → (List Int) → Option R) =>
    bi (decide (0 ≤ (IntKind.i64.wrap (((b : Nat) : Int) + 2)) ∧ (IntKind.i64.wrap (((b : Nat) : Int) + 2)) ≤ ((o0.length - 0 : Nat) : Int)))
     (l_tutorref01_Same (o0.take b) a
      (fun r1 =>
       bi r1
        (bi (decide (0 ≤ ((b : Nat) : Int) ∧ ((b : Nat) : Int) < (((IntKind.i64.wrap (((b : Nat) : Int) + 2)).toNat : Nat) : Int)))
         (bi ((o0.getD (0 + (((b : Nat) : Int).toNat)) 0) == (-771))
          (bi (decide (0 ≤ (IntKind.i64.wrap (((b : Nat) : Int) + 1)) ∧ (IntKind.i64.wrap (((b : Nat) : Int) + 1)) < (((IntKind.i64.wrap (((b : Nat) : Int) + 2)).toNat : Nat) : Int)))
           (K0 ((o0.getD (0 + ((IntKind.i64.wrap (((b : Nat) : Int) + 1)).toNat)) 0) == (-772)) o0)
           none)
          (K0 false o0))
         none)
        (K0 false o0)))
     none) b a o0 (fun r0 r1 => K (.v (.bool r0)) [.row ⟨false, 3, (.int .i64), r1⟩]) := by kernel_rfl

theorem entry_tutorref01_Kept {R : Type} (K : AV → List O → Option R) (b : Nat) (a : List Int) (o0 : List Int) :
    fnRun Try.prog (T_tutorref01_Kept @l_tutorref01_Same) cuts_tutorref01_Kept Try.f30 0 [.view 0 1 0 b, .rd ⟨false, 3, (.int .i64), a⟩] [.row ⟨false, 3, (.int .i64), o0⟩] K =
    l_tutorref01_Kept b a o0 (fun r0 r1 => K (.v (.bool r0)) [.row ⟨false, 3, (.int .i64), r1⟩]) := gentry_tutorref01_Kept @l_tutorref01_Same K b a o0

def S_tutorref01_Kept (l_tutorref01_Kept : {R : Type} → Nat → (List Int) → (List Int) → (Bool → (List Int) → Option R) → Option R) : Sum := ⟨[0], fun {R} args ob K => match args, ob with
  | [.view 0 1 0 b, .rd ⟨false, 3, (.int .i64), a⟩], [.row ⟨false, 3, (.int .i64), o0⟩] => l_tutorref01_Kept b a o0 (fun r0 r1 => K (.v (.bool r0)) [.row ⟨false, 3, (.int .i64), r1⟩])
  | _, _ => none⟩

theorem sound_tutorref01_Kept : Sound Try.prog 30 (S_tutorref01_Kept @l_tutorref01_Kept) := by
  refine fn_sound (cuts := cuts_tutorref01_Kept) (fn := Try.f30) (Γ := (T_tutorref01_Kept @l_tutorref01_Same)) wide right_T_tutorref01_Kept Try.func30 fun {R} K r args ob h => ?_
  unfold S_tutorref01_Kept at h
  dsimp only at h
  split at h
  · exact ⟨Nat.le_of_ble_eq_true (by kernel_rfl), 0, (entry_tutorref01_Kept K _ _ _).trans h⟩
  · cases h

theorem call_tutorref01_Kept : Callable Try.prog 30 := ⟨_, Try.func30, by kernel_rfl, by kernel_rfl⟩

def T_tutorlaw12_PointWords (l_tutorlaw12_live : {R : Type} → (Bool → Option R) → Option R) (l_tutorref01_Kept : {R : Type} → Nat → (List Int) → (List Int) → (Bool → (List Int) → Option R) → Option R) (l_tutorref01_Apart : {R : Type} → (List (List Int)) → (Bool → (List (List Int)) → Option R) → Option R) (l_tutorref01_Lists : {R : Type} → (List (List Int)) → (List (List Int)) → (Bool → Option R) → Option R) (l_tutorref01_Suffixes : {R : Type} → (List Int) → ((List (List Int)) → Option R) → Option R) (l_tutorref01_Prefixes : {R : Type} → (List Int) → ((List (List Int)) → Option R) → Option R) (l_point_Ends : {R : Type} → (List Int) → ((List (List Int)) → Option R) → Option R) (l_point_Beginnings : {R : Type} → (List Int) → ((List (List Int)) → Option R) → Option R) (l_tutorref01_Lent : {R : Type} → (List Int) → (Nat → (List Int) → Option R) → Option R) : FuncId → Option Sum := (addS (addS (addS (addS (addS (addS (addS (addS (addS G0 35 (S_tutorlaw12_live @l_tutorlaw12_live)) 30 (S_tutorref01_Kept @l_tutorref01_Kept)) 27 (S_tutorref01_Apart @l_tutorref01_Apart)) 46 (S_tutorref01_Lists @l_tutorref01_Lists)) 48 (S_tutorref01_Suffixes @l_tutorref01_Suffixes)) 47 (S_tutorref01_Prefixes @l_tutorref01_Prefixes)) 45 (S_point_Ends @l_point_Ends)) 44 (S_point_Beginnings @l_point_Beginnings)) 28 (S_tutorref01_Lent @l_tutorref01_Lent))

theorem right_T_tutorlaw12_PointWords : Right Try.prog (T_tutorlaw12_PointWords @l_tutorlaw12_live @l_tutorref01_Kept @l_tutorref01_Apart @l_tutorref01_Lists @l_tutorref01_Suffixes @l_tutorref01_Prefixes @l_point_Ends @l_point_Beginnings @l_tutorref01_Lent) := (right_add (right_add (right_add (right_add (right_add (right_add (right_add (right_add (right_add right_G0 call_tutorlaw12_live sound_tutorlaw12_live) call_tutorref01_Kept sound_tutorref01_Kept) call_tutorref01_Apart sound_tutorref01_Apart) call_tutorref01_Lists sound_tutorref01_Lists) call_tutorref01_Suffixes sound_tutorref01_Suffixes) call_tutorref01_Prefixes sound_tutorref01_Prefixes) call_point_Ends sound_point_Ends) call_point_Beginnings sound_point_Beginnings) call_tutorref01_Lent sound_tutorref01_Lent)

abbrev cuts_tutorlaw12_PointWords : Cuts := []

theorem gentry_tutorlaw12_PointWords (l_tutorlaw12_live : {R : Type} → (Bool → Option R) → Option R) (l_tutorref01_Kept : {R : Type} → Nat → (List Int) → (List Int) → (Bool → (List Int) → Option R) → Option R) (l_tutorref01_Apart : {R : Type} → (List (List Int)) → (Bool → (List (List Int)) → Option R) → Option R) (l_tutorref01_Lists : {R : Type} → (List (List Int)) → (List (List Int)) → (Bool → Option R) → Option R) (l_tutorref01_Suffixes : {R : Type} → (List Int) → ((List (List Int)) → Option R) → Option R) (l_tutorref01_Prefixes : {R : Type} → (List Int) → ((List (List Int)) → Option R) → Option R) (l_point_Ends : {R : Type} → (List Int) → ((List (List Int)) → Option R) → Option R) (l_point_Beginnings : {R : Type} → (List Int) → ((List (List Int)) → Option R) → Option R) (l_tutorref01_Lent : {R : Type} → (List Int) → (Nat → (List Int) → Option R) → Option R) {R : Type} (K : AV → List O → Option R) (w : List Int) :
    fnRun Try.prog (T_tutorlaw12_PointWords @l_tutorlaw12_live @l_tutorref01_Kept @l_tutorref01_Apart @l_tutorref01_Lists @l_tutorref01_Suffixes @l_tutorref01_Prefixes @l_point_Ends @l_point_Beginnings @l_tutorref01_Lent) cuts_tutorlaw12_PointWords Try.f13 0 [.rd ⟨false, 3, (.int .i64), w⟩] [] K =
    (fun (w : List Int) (K0 : Bool → Option R) =>
    bi (decide ((w.length : Int) > 300))
     (l_tutorlaw12_live
      (fun r1 =>
       K0 r1))
     (l_tutorref01_Lent w
      (fun r2 r3 =>
       l_point_Beginnings (r3.take r2)
        (fun r4 =>
         l_point_Ends (r3.take r2)
          (fun r5 =>
           bi ((r4.length : Int) != (w.length : Int))
            (K0 false)
            (bi ((r5.length : Int) != (w.length : Int))
             (K0 false)
             (l_tutorref01_Prefixes w
              (fun r6 =>
               bi (decide (0 ≤ (1 : Int) ∧ (1 : Int) ≤ ((r6.length : Nat) : Int)))
                (l_tutorref01_Lists r4 (r6.drop 1)
                 (fun r7 =>
                  bi (!r7)
                   (K0 false)
                   (l_tutorref01_Suffixes w
                    (fun r8 =>
                     bi (decide (0 ≤ (1 : Int) ∧ (1 : Int) ≤ ((r8.length : Nat) : Int)))
                      (l_tutorref01_Lists r5 (r8.drop 1)
                       (fun r9 =>
                        bi (!r9)
                         (K0 false)
                         (bi (decide ((r4.length + r5.length) * 24 ≤ lim))
                          (l_tutorref01_Apart (r4 ++ r5)
                           (fun r10 r11 =>
                            bi r10
                             (l_tutorref01_Kept r2 w r3
                              (fun r12 r13 =>
                               bi r12
                                (l_tutorlaw12_live
                                 (fun r14 =>
                                  K0 r14))
                                (K0 false)))
                             (K0 false)))
                          none)))
                      none))))
                none)))))))) w (fun r0 => K (.v (.bool r0)) []) := by kernel_rfl

theorem entry_tutorlaw12_PointWords {R : Type} (K : AV → List O → Option R) (w : List Int) :
    fnRun Try.prog (T_tutorlaw12_PointWords @l_tutorlaw12_live @l_tutorref01_Kept @l_tutorref01_Apart @l_tutorref01_Lists @l_tutorref01_Suffixes @l_tutorref01_Prefixes @l_point_Ends @l_point_Beginnings @l_tutorref01_Lent) cuts_tutorlaw12_PointWords Try.f13 0 [.rd ⟨false, 3, (.int .i64), w⟩] [] K =
    l_tutorlaw12_PointWords w (fun r0 => K (.v (.bool r0)) []) := gentry_tutorlaw12_PointWords @l_tutorlaw12_live @l_tutorref01_Kept @l_tutorref01_Apart @l_tutorref01_Lists @l_tutorref01_Suffixes @l_tutorref01_Prefixes @l_point_Ends @l_point_Beginnings @l_tutorref01_Lent K w

def S_tutorlaw12_PointWords (l_tutorlaw12_PointWords : {R : Type} → (List Int) → (Bool → Option R) → Option R) : Sum := ⟨[], fun {R} args ob K => match args, ob with
  | [.rd ⟨false, 3, (.int .i64), w⟩], [] => l_tutorlaw12_PointWords w (fun r0 => K (.v (.bool r0)) [])
  | _, _ => none⟩

theorem sound_tutorlaw12_PointWords : Sound Try.prog 13 (S_tutorlaw12_PointWords @l_tutorlaw12_PointWords) := by
  refine fn_sound (cuts := cuts_tutorlaw12_PointWords) (fn := Try.f13) (Γ := (T_tutorlaw12_PointWords @l_tutorlaw12_live @l_tutorref01_Kept @l_tutorref01_Apart @l_tutorref01_Lists @l_tutorref01_Suffixes @l_tutorref01_Prefixes @l_point_Ends @l_point_Beginnings @l_tutorref01_Lent)) wide right_T_tutorlaw12_PointWords Try.func13 fun {R} K r args ob h => ?_
  unfold S_tutorlaw12_PointWords at h
  dsimp only at h
  split at h
  · exact ⟨Nat.le_of_ble_eq_true (by kernel_rfl), 0, (entry_tutorlaw12_PointWords K _).trans h⟩
  · cases h

theorem call_tutorlaw12_PointWords : Callable Try.prog 13 := ⟨_, Try.func13, by kernel_rfl, by kernel_rfl⟩

end
end Go.Ev
