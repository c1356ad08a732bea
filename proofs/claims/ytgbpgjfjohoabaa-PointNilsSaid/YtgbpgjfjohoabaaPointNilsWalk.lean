/- Each function of the program is its tree. -/
import Derived.Test.YtgbpgjfjohoabaaProg
import Derived.Test.YtgbpgjfjohoabaaEvFn
import Derived.Test.YtgbpgjfjohoabaaPointNilsPure
namespace Go.Ev
open Go.Proofs
set_option linter.unusedVariables false
set_option linter.unusedSimpArgs false
set_option maxRecDepth 100000
set_option maxHeartbeats 4000000

theorem wide : Tables.follows Try.prog.toTables .mixedOrders = true := by kernel_rfl

def G0 : FuncId → Option Sum := fun _ => none
theorem right_G0 : Right Try.prog G0 := fun f S h => by cases h

def T_point_linear_next : FuncId → Option Sum := G0

theorem right_T_point_linear_next : Right Try.prog T_point_linear_next := right_G0

abbrev cuts_point_linear_next : Cuts := []

theorem gentry_point_linear_next {R : Type} (K : AV → List O → Option R) (s : Int) (s_1 : Int) :
    fnRun Try.prog T_point_linear_next cuts_point_linear_next Try.f86 0 [.agg [], .agg [.v (.int .i64 s), .v (.int .i64 s_1)]] [] K =
    (fun (s : Int) (s_1 : Int) (K0 : Int → Option R) =>
    K0 (IntKind.i64.wrap (s + 1))) s s_1 (fun r0 => K (.v (.int .i64 r0)) []) := by kernel_rfl

theorem entry_point_linear_next {R : Type} (K : AV → List O → Option R) (s : Int) (s_1 : Int) :
    fnRun Try.prog T_point_linear_next cuts_point_linear_next Try.f86 0 [.agg [], .agg [.v (.int .i64 s), .v (.int .i64 s_1)]] [] K =
    l_point_linear_next s s_1 (fun r0 => K (.v (.int .i64 r0)) []) := gentry_point_linear_next K s s_1

def S_point_linear_next (l_point_linear_next : {R : Type} → Int → Int → (Int → Option R) → Option R) : Sum := ⟨[], fun {R} args ob K => match args, ob with
  | [.agg [], .agg [.v (.int .i64 s), .v (.int .i64 s_1)]], [] => l_point_linear_next s s_1 (fun r0 => K (.v (.int .i64 r0)) [])
  | _, _ => none⟩

theorem sound_point_linear_next : Sound Try.prog 86 (S_point_linear_next @l_point_linear_next) := by
  refine fn_sound (cuts := cuts_point_linear_next) (fn := Try.f86) (Γ := T_point_linear_next) wide right_T_point_linear_next Try.func86 fun {R} K r args ob h => ?_
  unfold S_point_linear_next at h
  dsimp only at h
  split at h
  · exact ⟨Nat.le_of_ble_eq_true (by kernel_rfl), 0, (entry_point_linear_next K _ _).trans h⟩
  · cases h

theorem call_point_linear_next : Callable Try.prog 86 := ⟨_, Try.func86, by kernel_rfl, by kernel_rfl⟩

def T_point_Search_ended : FuncId → Option Sum := G0

theorem right_T_point_Search_ended : Right Try.prog T_point_Search_ended := right_G0

abbrev cuts_point_Search_ended : Cuts := []

theorem gentry_point_Search_ended {R : Type} (K : AV → List O → Option R) (o0 : Int) (o0_1 : Int) (o0_2 : Int) :
    fnRun Try.prog T_point_Search_ended cuts_point_Search_ended Try.f58 0 [.ptr 0 0] [.box 110 [.ifc 102 (.agg []), .v (.int .i64 o0), .v (.int .i64 o0_1), .v (.int .i64 o0_2)]] K =
    (fun (o0 : Int) (o0_1 : Int) (o0_2 : Int) (K0 : Bool → Int → Int → Int → Option R) =>
    K0 (o0_1 == (IntKind.i64.wrap (o0 + 1))) o0 o0_1 o0_2) o0 o0_1 o0_2 (fun r0 r1 r2 r3 => K (.v (.bool r0)) [.box 110 [.ifc 102 (.agg []), .v (.int .i64 r1), .v (.int .i64 r2), .v (.int .i64 r3)]]) := by kernel_rfl

theorem entry_point_Search_ended {R : Type} (K : AV → List O → Option R) (o0 : Int) (o0_1 : Int) (o0_2 : Int) :
    fnRun Try.prog T_point_Search_ended cuts_point_Search_ended Try.f58 0 [.ptr 0 0] [.box 110 [.ifc 102 (.agg []), .v (.int .i64 o0), .v (.int .i64 o0_1), .v (.int .i64 o0_2)]] K =
    l_point_Search_ended o0 o0_1 o0_2 (fun r0 r1 r2 r3 => K (.v (.bool r0)) [.box 110 [.ifc 102 (.agg []), .v (.int .i64 r1), .v (.int .i64 r2), .v (.int .i64 r3)]]) := gentry_point_Search_ended K o0 o0_1 o0_2

abbrev cuts_point_Search_ended_v1 : Cuts := []

theorem gentry_point_Search_ended_v1 {R : Type} (K : AV → List O → Option R) (o0 : Int) (o0_1 : Int) (o0_2 : Int) :
    fnRun Try.prog T_point_Search_ended cuts_point_Search_ended_v1 Try.f58 0 [.ptr 0 0] [.box 110 [.ifc 103 (.agg []), .v (.int .i64 o0), .v (.int .i64 o0_1), .v (.int .i64 o0_2)]] K =
    (fun (o0 : Int) (o0_1 : Int) (o0_2 : Int) (K0 : Bool → Int → Int → Int → Option R) =>
    K0 (o0_1 == (IntKind.i64.wrap (o0 + 1))) o0 o0_1 o0_2) o0 o0_1 o0_2 (fun r0 r1 r2 r3 => K (.v (.bool r0)) [.box 110 [.ifc 103 (.agg []), .v (.int .i64 r1), .v (.int .i64 r2), .v (.int .i64 r3)]]) := by kernel_rfl

theorem entry_point_Search_ended_v1 {R : Type} (K : AV → List O → Option R) (o0 : Int) (o0_1 : Int) (o0_2 : Int) :
    fnRun Try.prog T_point_Search_ended cuts_point_Search_ended_v1 Try.f58 0 [.ptr 0 0] [.box 110 [.ifc 103 (.agg []), .v (.int .i64 o0), .v (.int .i64 o0_1), .v (.int .i64 o0_2)]] K =
    l_point_Search_ended_v1 o0 o0_1 o0_2 (fun r0 r1 r2 r3 => K (.v (.bool r0)) [.box 110 [.ifc 103 (.agg []), .v (.int .i64 r1), .v (.int .i64 r2), .v (.int .i64 r3)]]) := gentry_point_Search_ended_v1 K o0 o0_1 o0_2

abbrev cuts_point_Search_ended_v2 : Cuts := []

theorem gentry_point_Search_ended_v2 {R : Type} (K : AV → List O → Option R) (o0 : Int) (o0_1 : Int) (o0_2 : Int) (o1 : Int) (o1_1 : Bool) :
    fnRun Try.prog T_point_Search_ended cuts_point_Search_ended_v2 Try.f58 0 [.ptr 0 0] [.box 110 [.ifc 104 (.ptr 1 0), .v (.int .i64 o0), .v (.int .i64 o0_1), .v (.int .i64 o0_2)], .box 106 [.v (.int .i64 o1), .v (.bool o1_1)]] K =
    (fun (o0 : Int) (o0_1 : Int) (o0_2 : Int) (o1 : Int) (o1_1 : Bool) (K0 : Bool → Int → Int → Int → Int → Bool → Option R) =>
    K0 (o0_1 == (IntKind.i64.wrap (o0 + 1))) o0 o0_1 o0_2 o1 o1_1) o0 o0_1 o0_2 o1 o1_1 (fun r0 r1 r2 r3 r4 r5 => K (.v (.bool r0)) [.box 110 [.ifc 104 (.ptr 1 0), .v (.int .i64 r1), .v (.int .i64 r2), .v (.int .i64 r3)], .box 106 [.v (.int .i64 r4), .v (.bool r5)]]) := by kernel_rfl

theorem entry_point_Search_ended_v2 {R : Type} (K : AV → List O → Option R) (o0 : Int) (o0_1 : Int) (o0_2 : Int) (o1 : Int) (o1_1 : Bool) :
    fnRun Try.prog T_point_Search_ended cuts_point_Search_ended_v2 Try.f58 0 [.ptr 0 0] [.box 110 [.ifc 104 (.ptr 1 0), .v (.int .i64 o0), .v (.int .i64 o0_1), .v (.int .i64 o0_2)], .box 106 [.v (.int .i64 o1), .v (.bool o1_1)]] K =
    l_point_Search_ended_v2 o0 o0_1 o0_2 o1 o1_1 (fun r0 r1 r2 r3 r4 r5 => K (.v (.bool r0)) [.box 110 [.ifc 104 (.ptr 1 0), .v (.int .i64 r1), .v (.int .i64 r2), .v (.int .i64 r3)], .box 106 [.v (.int .i64 r4), .v (.bool r5)]]) := gentry_point_Search_ended_v2 K o0 o0_1 o0_2 o1 o1_1

def S_point_Search_ended (l_point_Search_ended : {R : Type} → Int → Int → Int → (Bool → Int → Int → Int → Option R) → Option R) (l_point_Search_ended_v1 : {R : Type} → Int → Int → Int → (Bool → Int → Int → Int → Option R) → Option R) (l_point_Search_ended_v2 : {R : Type} → Int → Int → Int → Int → Bool → (Bool → Int → Int → Int → Int → Bool → Option R) → Option R) : Sum := ⟨[], fun {R} args ob K => match args, ob with
  | [.ptr 0 0], [.box 110 [.ifc 102 (.agg []), .v (.int .i64 o0), .v (.int .i64 o0_1), .v (.int .i64 o0_2)]] => l_point_Search_ended o0 o0_1 o0_2 (fun r0 r1 r2 r3 => K (.v (.bool r0)) [.box 110 [.ifc 102 (.agg []), .v (.int .i64 r1), .v (.int .i64 r2), .v (.int .i64 r3)]])
  | [.ptr 0 0], [.box 110 [.ifc 103 (.agg []), .v (.int .i64 o0), .v (.int .i64 o0_1), .v (.int .i64 o0_2)]] => l_point_Search_ended_v1 o0 o0_1 o0_2 (fun r0 r1 r2 r3 => K (.v (.bool r0)) [.box 110 [.ifc 103 (.agg []), .v (.int .i64 r1), .v (.int .i64 r2), .v (.int .i64 r3)]])
  | [.ptr 0 0], [.box 110 [.ifc 104 (.ptr 1 0), .v (.int .i64 o0), .v (.int .i64 o0_1), .v (.int .i64 o0_2)], .box 106 [.v (.int .i64 o1), .v (.bool o1_1)]] => l_point_Search_ended_v2 o0 o0_1 o0_2 o1 o1_1 (fun r0 r1 r2 r3 r4 r5 => K (.v (.bool r0)) [.box 110 [.ifc 104 (.ptr 1 0), .v (.int .i64 r1), .v (.int .i64 r2), .v (.int .i64 r3)], .box 106 [.v (.int .i64 r4), .v (.bool r5)]])
  | _, _ => none⟩

theorem sound_point_Search_ended : Sound Try.prog 58 (S_point_Search_ended @l_point_Search_ended @l_point_Search_ended_v1 @l_point_Search_ended_v2) := by
  refine fn_sound (cuts := cuts_point_Search_ended) (fn := Try.f58) (Γ := T_point_Search_ended) wide right_T_point_Search_ended Try.func58 fun {R} K r args ob h => ?_
  unfold S_point_Search_ended at h
  dsimp only at h
  split at h
  · exact ⟨Nat.le_of_ble_eq_true (by kernel_rfl), 0, (entry_point_Search_ended K _ _ _).trans h⟩
  · exact ⟨Nat.le_of_ble_eq_true (by kernel_rfl), 0, (entry_point_Search_ended_v1 K _ _ _).trans h⟩
  · exact ⟨Nat.le_of_ble_eq_true (by kernel_rfl), 0, (entry_point_Search_ended_v2 K _ _ _ _ _).trans h⟩
  · cases h

theorem call_point_Search_ended : Callable Try.prog 58 := ⟨_, Try.func58, by kernel_rfl, by kernel_rfl⟩

def T_point_binary_next : FuncId → Option Sum := G0

theorem right_T_point_binary_next : Right Try.prog T_point_binary_next := right_G0

abbrev cuts_point_binary_next : Cuts := []

theorem gentry_point_binary_next {R : Type} (K : AV → List O → Option R) (s : Int) (s_1 : Int) :
    fnRun Try.prog T_point_binary_next cuts_point_binary_next Try.f88 0 [.agg [], .agg [.v (.int .i64 s), .v (.int .i64 s_1)]] [] K =
    (fun (s : Int) (s_1 : Int) (K0 : Int → Option R) =>
    K0 (IntKind.i64.wrap (s + (IntKind.i64.wrap ((IntKind.i64.wrap (s_1 - s)).tdiv 2))))) s s_1 (fun r0 => K (.v (.int .i64 r0)) []) := by kernel_rfl

theorem entry_point_binary_next {R : Type} (K : AV → List O → Option R) (s : Int) (s_1 : Int) :
    fnRun Try.prog T_point_binary_next cuts_point_binary_next Try.f88 0 [.agg [], .agg [.v (.int .i64 s), .v (.int .i64 s_1)]] [] K =
    l_point_binary_next s s_1 (fun r0 => K (.v (.int .i64 r0)) []) := gentry_point_binary_next K s s_1

def S_point_binary_next (l_point_binary_next : {R : Type} → Int → Int → (Int → Option R) → Option R) : Sum := ⟨[], fun {R} args ob K => match args, ob with
  | [.agg [], .agg [.v (.int .i64 s), .v (.int .i64 s_1)]], [] => l_point_binary_next s s_1 (fun r0 => K (.v (.int .i64 r0)) [])
  | _, _ => none⟩

theorem sound_point_binary_next : Sound Try.prog 88 (S_point_binary_next @l_point_binary_next) := by
  refine fn_sound (cuts := cuts_point_binary_next) (fn := Try.f88) (Γ := T_point_binary_next) wide right_T_point_binary_next Try.func88 fun {R} K r args ob h => ?_
  unfold S_point_binary_next at h
  dsimp only at h
  split at h
  · exact ⟨Nat.le_of_ble_eq_true (by kernel_rfl), 0, (entry_point_binary_next K _ _).trans h⟩
  · cases h

theorem call_point_binary_next : Callable Try.prog 88 := ⟨_, Try.func88, by kernel_rfl, by kernel_rfl⟩

def T_point_exponential_next (l_point_binary_next : {R : Type} → Int → Int → (Int → Option R) → Option R) : FuncId → Option Sum := (addS G0 88 (S_point_binary_next @l_point_binary_next))

theorem right_T_point_exponential_next : Right Try.prog (T_point_exponential_next @l_point_binary_next) := (right_add right_G0 call_point_binary_next sound_point_binary_next)

abbrev cuts_point_exponential_next : Cuts := []

theorem gentry_point_exponential_next (l_point_binary_next : {R : Type} → Int → Int → (Int → Option R) → Option R) {R : Type} (K : AV → List O → Option R) (s : Int) (s_1 : Int) (o0 : Int) (o0_1 : Bool) :
    fnRun Try.prog (T_point_exponential_next @l_point_binary_next) cuts_point_exponential_next Try.f90 0 [.ptr 0 0, .agg [.v (.int .i64 s), .v (.int .i64 s_1)]] [.box 106 [.v (.int .i64 o0), .v (.bool o0_1)]] K =
    (fun (s : Int) (s_1 : Int) (o0 : Int) (o0_1 : Bool) (K0 : Int → Int → Bool → Option R) =>
    bi o0_1
     (l_point_binary_next s s_1
      (fun r1 =>
       K0 r1 o0 o0_1))
     (K0 (if (IntKind.i64.wrap (s + 1)) > (IntKind.i64.wrap (s_1 - o0)) then (IntKind.i64.wrap (s + 1)) else (IntKind.i64.wrap (s_1 - o0))) o0 o0_1)) s s_1 o0 o0_1 (fun r0 r1 r2 => K (.v (.int .i64 r0)) [.box 106 [.v (.int .i64 r1), .v (.bool r2)]]) := by kernel_rfl

theorem entry_point_exponential_next {R : Type} (K : AV → List O → Option R) (s : Int) (s_1 : Int) (o0 : Int) (o0_1 : Bool) :
    fnRun Try.prog (T_point_exponential_next @l_point_binary_next) cuts_point_exponential_next Try.f90 0 [.ptr 0 0, .agg [.v (.int .i64 s), .v (.int .i64 s_1)]] [.box 106 [.v (.int .i64 o0), .v (.bool o0_1)]] K =
    l_point_exponential_next s s_1 o0 o0_1 (fun r0 r1 r2 => K (.v (.int .i64 r0)) [.box 106 [.v (.int .i64 r1), .v (.bool r2)]]) := gentry_point_exponential_next @l_point_binary_next K s s_1 o0 o0_1

def S_point_exponential_next (l_point_exponential_next : {R : Type} → Int → Int → Int → Bool → (Int → Int → Bool → Option R) → Option R) : Sum := ⟨[], fun {R} args ob K => match args, ob with
  | [.ptr 0 0, .agg [.v (.int .i64 s), .v (.int .i64 s_1)]], [.box 106 [.v (.int .i64 o0), .v (.bool o0_1)]] => l_point_exponential_next s s_1 o0 o0_1 (fun r0 r1 r2 => K (.v (.int .i64 r0)) [.box 106 [.v (.int .i64 r1), .v (.bool r2)]])
  | _, _ => none⟩

theorem sound_point_exponential_next : Sound Try.prog 90 (S_point_exponential_next @l_point_exponential_next) := by
  refine fn_sound (cuts := cuts_point_exponential_next) (fn := Try.f90) (Γ := (T_point_exponential_next @l_point_binary_next)) wide right_T_point_exponential_next Try.func90 fun {R} K r args ob h => ?_
  unfold S_point_exponential_next at h
  dsimp only at h
  split at h
  · exact ⟨Nat.le_of_ble_eq_true (by kernel_rfl), 0, (entry_point_exponential_next K _ _ _ _).trans h⟩
  · cases h

theorem call_point_exponential_next : Callable Try.prog 90 := ⟨_, Try.func90, by kernel_rfl, by kernel_rfl⟩

def T_point_Search_Ask (l_point_linear_next : {R : Type} → Int → Int → (Int → Option R) → Option R) (l_point_Search_ended : {R : Type} → Int → Int → Int → (Bool → Int → Int → Int → Option R) → Option R) (l_point_Search_ended_v1 : {R : Type} → Int → Int → Int → (Bool → Int → Int → Int → Option R) → Option R) (l_point_Search_ended_v2 : {R : Type} → Int → Int → Int → Int → Bool → (Bool → Int → Int → Int → Int → Bool → Option R) → Option R) (l_point_binary_next : {R : Type} → Int → Int → (Int → Option R) → Option R) (l_point_exponential_next : {R : Type} → Int → Int → Int → Bool → (Int → Int → Bool → Option R) → Option R) : FuncId → Option Sum := (addS (addS (addS (addS G0 86 (S_point_linear_next @l_point_linear_next)) 58 (S_point_Search_ended @l_point_Search_ended @l_point_Search_ended_v1 @l_point_Search_ended_v2)) 88 (S_point_binary_next @l_point_binary_next)) 90 (S_point_exponential_next @l_point_exponential_next))

theorem right_T_point_Search_Ask : Right Try.prog (T_point_Search_Ask @l_point_linear_next @l_point_Search_ended @l_point_Search_ended_v1 @l_point_Search_ended_v2 @l_point_binary_next @l_point_exponential_next) := (right_add (right_add (right_add (right_add right_G0 call_point_linear_next sound_point_linear_next) call_point_Search_ended sound_point_Search_ended) call_point_binary_next sound_point_binary_next) call_point_exponential_next sound_point_exponential_next)

abbrev cuts_point_Search_Ask : Cuts := []

theorem gentry_point_Search_Ask (l_point_linear_next : {R : Type} → Int → Int → (Int → Option R) → Option R) (l_point_Search_ended : {R : Type} → Int → Int → Int → (Bool → Int → Int → Int → Option R) → Option R) (l_point_Search_ended_v1 : {R : Type} → Int → Int → Int → (Bool → Int → Int → Int → Option R) → Option R) (l_point_Search_ended_v2 : {R : Type} → Int → Int → Int → Int → Bool → (Bool → Int → Int → Int → Int → Bool → Option R) → Option R) (l_point_binary_next : {R : Type} → Int → Int → (Int → Option R) → Option R) (l_point_exponential_next : {R : Type} → Int → Int → Int → Bool → (Int → Int → Bool → Option R) → Option R) {R : Type} (K : AV → List O → Option R)  :
    fnRun Try.prog (T_point_Search_Ask @l_point_linear_next @l_point_Search_ended @l_point_Search_ended_v1 @l_point_Search_ended_v2 @l_point_binary_next @l_point_exponential_next) cuts_point_Search_Ask Try.f28 0 [.v (.pointer none)] [] K =
    (fun  (K0 : Int → Bool → Option R) =>
    K0 0 false)  (fun r0 r1 => K (.tup [.v (.int .i64 r0), .v (.bool r1)]) []) := by kernel_rfl

theorem entry_point_Search_Ask {R : Type} (K : AV → List O → Option R)  :
    fnRun Try.prog (T_point_Search_Ask @l_point_linear_next @l_point_Search_ended @l_point_Search_ended_v1 @l_point_Search_ended_v2 @l_point_binary_next @l_point_exponential_next) cuts_point_Search_Ask Try.f28 0 [.v (.pointer none)] [] K =
    l_point_Search_Ask  (fun r0 r1 => K (.tup [.v (.int .i64 r0), .v (.bool r1)]) []) := gentry_point_Search_Ask @l_point_linear_next @l_point_Search_ended @l_point_Search_ended_v1 @l_point_Search_ended_v2 @l_point_binary_next @l_point_exponential_next K 

abbrev cuts_point_Search_Ask_v1 : Cuts := []

theorem gentry_point_Search_Ask_v1 (l_point_linear_next : {R : Type} → Int → Int → (Int → Option R) → Option R) (l_point_Search_ended : {R : Type} → Int → Int → Int → (Bool → Int → Int → Int → Option R) → Option R) (l_point_Search_ended_v1 : {R : Type} → Int → Int → Int → (Bool → Int → Int → Int → Option R) → Option R) (l_point_Search_ended_v2 : {R : Type} → Int → Int → Int → Int → Bool → (Bool → Int → Int → Int → Int → Bool → Option R) → Option R) (l_point_binary_next : {R : Type} → Int → Int → (Int → Option R) → Option R) (l_point_exponential_next : {R : Type} → Int → Int → Int → Bool → (Int → Int → Bool → Option R) → Option R) {R : Type} (K : AV → List O → Option R) (o0 : Int) (o0_1 : Int) (o0_2 : Int) :
    fnRun Try.prog (T_point_Search_Ask @l_point_linear_next @l_point_Search_ended @l_point_Search_ended_v1 @l_point_Search_ended_v2 @l_point_binary_next @l_point_exponential_next) cuts_point_Search_Ask_v1 Try.f28 0 [.ptr 0 0] [.box 110 [.ifc 102 (.agg []), .v (.int .i64 o0), .v (.int .i64 o0_1), .v (.int .i64 o0_2)]] K =
    (fun (o0 : Int) (o0_1 : Int) (o0_2 : Int) (K0 : Int → Bool → Int → Int → Int → Option R) =>
    l_point_Search_ended o0 o0_1 o0_2
     (fun r1 r2 r3 r4 =>
      bi r1
       (K0 0 false r2 r3 r4)
       (l_point_linear_next r2 r3
        (fun r5 =>
         K0 r5 true r2 r3 r4)))) o0 o0_1 o0_2 (fun r0 r1 r2 r3 r4 => K (.tup [.v (.int .i64 r0), .v (.bool r1)]) [.box 110 [.ifc 102 (.agg []), .v (.int .i64 r2), .v (.int .i64 r3), .v (.int .i64 r4)]]) := by kernel_rfl

theorem entry_point_Search_Ask_v1 {R : Type} (K : AV → List O → Option R) (o0 : Int) (o0_1 : Int) (o0_2 : Int) :
    fnRun Try.prog (T_point_Search_Ask @l_point_linear_next @l_point_Search_ended @l_point_Search_ended_v1 @l_point_Search_ended_v2 @l_point_binary_next @l_point_exponential_next) cuts_point_Search_Ask_v1 Try.f28 0 [.ptr 0 0] [.box 110 [.ifc 102 (.agg []), .v (.int .i64 o0), .v (.int .i64 o0_1), .v (.int .i64 o0_2)]] K =
    l_point_Search_Ask_v1 o0 o0_1 o0_2 (fun r0 r1 r2 r3 r4 => K (.tup [.v (.int .i64 r0), .v (.bool r1)]) [.box 110 [.ifc 102 (.agg []), .v (.int .i64 r2), .v (.int .i64 r3), .v (.int .i64 r4)]]) := gentry_point_Search_Ask_v1 @l_point_linear_next @l_point_Search_ended @l_point_Search_ended_v1 @l_point_Search_ended_v2 @l_point_binary_next @l_point_exponential_next K o0 o0_1 o0_2

abbrev cuts_point_Search_Ask_v2 : Cuts := []

theorem gentry_point_Search_Ask_v2 (l_point_linear_next : {R : Type} → Int → Int → (Int → Option R) → Option R) (l_point_Search_ended : {R : Type} → Int → Int → Int → (Bool → Int → Int → Int → Option R) → Option R) (l_point_Search_ended_v1 : {R : Type} → Int → Int → Int → (Bool → Int → Int → Int → Option R) → Option R) (l_point_Search_ended_v2 : {R : Type} → Int → Int → Int → Int → Bool → (Bool → Int → Int → Int → Int → Bool → Option R) → Option R) (l_point_binary_next : {R : Type} → Int → Int → (Int → Option R) → Option R) (l_point_exponential_next : {R : Type} → Int → Int → Int → Bool → (Int → Int → Bool → Option R) → Option R) {R : Type} (K : AV → List O → Option R) (o0 : Int) (o0_1 : Int) (o0_2 : Int) :
    fnRun Try.prog (T_point_Search_Ask @l_point_linear_next @l_point_Search_ended @l_point_Search_ended_v1 @l_point_Search_ended_v2 @l_point_binary_next @l_point_exponential_next) cuts_point_Search_Ask_v2 Try.f28 0 [.ptr 0 0] [.box 110 [.ifc 103 (.agg []), .v (.int .i64 o0), .v (.int .i64 o0_1), .v (.int .i64 o0_2)]] K =
    (fun (o0 : Int) (o0_1 : Int) (o0_2 : Int) (K0 : Int → Bool → Int → Int → Int → Option R) =>
    l_point_Search_ended_v1 o0 o0_1 o0_2
     (fun r1 r2 r3 r4 =>
      bi r1
       (K0 0 false r2 r3 r4)
       (l_point_binary_next r2 r3
        (fun r5 =>
         K0 r5 true r2 r3 r4)))) o0 o0_1 o0_2 (fun r0 r1 r2 r3 r4 => K (.tup [.v (.int .i64 r0), .v (.bool r1)]) [.box 110 [.ifc 103 (.agg []), .v (.int .i64 r2), .v (.int .i64 r3), .v (.int .i64 r4)]]) := by kernel_rfl

theorem entry_point_Search_Ask_v2 {R : Type} (K : AV → List O → Option R) (o0 : Int) (o0_1 : Int) (o0_2 : Int) :
    fnRun Try.prog (T_point_Search_Ask @l_point_linear_next @l_point_Search_ended @l_point_Search_ended_v1 @l_point_Search_ended_v2 @l_point_binary_next @l_point_exponential_next) cuts_point_Search_Ask_v2 Try.f28 0 [.ptr 0 0] [.box 110 [.ifc 103 (.agg []), .v (.int .i64 o0), .v (.int .i64 o0_1), .v (.int .i64 o0_2)]] K =
    l_point_Search_Ask_v2 o0 o0_1 o0_2 (fun r0 r1 r2 r3 r4 => K (.tup [.v (.int .i64 r0), .v (.bool r1)]) [.box 110 [.ifc 103 (.agg []), .v (.int .i64 r2), .v (.int .i64 r3), .v (.int .i64 r4)]]) := gentry_point_Search_Ask_v2 @l_point_linear_next @l_point_Search_ended @l_point_Search_ended_v1 @l_point_Search_ended_v2 @l_point_binary_next @l_point_exponential_next K o0 o0_1 o0_2

abbrev cuts_point_Search_Ask_v3 : Cuts := []

theorem gentry_point_Search_Ask_v3 (l_point_linear_next : {R : Type} → Int → Int → (Int → Option R) → Option R) (l_point_Search_ended : {R : Type} → Int → Int → Int → (Bool → Int → Int → Int → Option R) → Option R) (l_point_Search_ended_v1 : {R : Type} → Int → Int → Int → (Bool → Int → Int → Int → Option R) → Option R) (l_point_Search_ended_v2 : {R : Type} → Int → Int → Int → Int → Bool → (Bool → Int → Int → Int → Int → Bool → Option R) → Option R) (l_point_binary_next : {R : Type} → Int → Int → (Int → Option R) → Option R) (l_point_exponential_next : {R : Type} → Int → Int → Int → Bool → (Int → Int → Bool → Option R) → Option R) {R : Type} (K : AV → List O → Option R) (o0 : Int) (o0_1 : Int) (o0_2 : Int) (o1 : Int) (o1_1 : Bool) :
    fnRun Try.prog (T_point_Search_Ask @l_point_linear_next @l_point_Search_ended @l_point_Search_ended_v1 @l_point_Search_ended_v2 @l_point_binary_next @l_point_exponential_next) cuts_point_Search_Ask_v3 Try.f28 0 [.ptr 0 0] [.box 110 [.ifc 104 (.ptr 1 0), .v (.int .i64 o0), .v (.int .i64 o0_1), .v (.int .i64 o0_2)], .box 106 [.v (.int .i64 o1), .v (.bool o1_1)]] K =
    (fun (o0 : Int) (o0_1 : Int) (o0_2 : Int) (o1 : Int) (o1_1 : Bool) (K0 : Int → Bool → Int → Int → Int → Int → Bool → Option R) =>
    l_point_Search_ended_v2 o0 o0_1 o0_2 o1 o1_1
     (fun r1 r2 r3 r4 r5 r6 =>
      bi r1
       (K0 0 false r2 r3 r4 r5 r6)
       (l_point_exponential_next r2 r3 r5 r6
        (fun r7 r8 r9 =>
         K0 r7 true r2 r3 r4 r8 r9)))) o0 o0_1 o0_2 o1 o1_1 (fun r0 r1 r2 r3 r4 r5 r6 => K (.tup [.v (.int .i64 r0), .v (.bool r1)]) [.box 110 [.ifc 104 (.ptr 1 0), .v (.int .i64 r2), .v (.int .i64 r3), .v (.int .i64 r4)], .box 106 [.v (.int .i64 r5), .v (.bool r6)]]) := by kernel_rfl

theorem entry_point_Search_Ask_v3 {R : Type} (K : AV → List O → Option R) (o0 : Int) (o0_1 : Int) (o0_2 : Int) (o1 : Int) (o1_1 : Bool) :
    fnRun Try.prog (T_point_Search_Ask @l_point_linear_next @l_point_Search_ended @l_point_Search_ended_v1 @l_point_Search_ended_v2 @l_point_binary_next @l_point_exponential_next) cuts_point_Search_Ask_v3 Try.f28 0 [.ptr 0 0] [.box 110 [.ifc 104 (.ptr 1 0), .v (.int .i64 o0), .v (.int .i64 o0_1), .v (.int .i64 o0_2)], .box 106 [.v (.int .i64 o1), .v (.bool o1_1)]] K =
    l_point_Search_Ask_v3 o0 o0_1 o0_2 o1 o1_1 (fun r0 r1 r2 r3 r4 r5 r6 => K (.tup [.v (.int .i64 r0), .v (.bool r1)]) [.box 110 [.ifc 104 (.ptr 1 0), .v (.int .i64 r2), .v (.int .i64 r3), .v (.int .i64 r4)], .box 106 [.v (.int .i64 r5), .v (.bool r6)]]) := gentry_point_Search_Ask_v3 @l_point_linear_next @l_point_Search_ended @l_point_Search_ended_v1 @l_point_Search_ended_v2 @l_point_binary_next @l_point_exponential_next K o0 o0_1 o0_2 o1 o1_1

def S_point_Search_Ask (l_point_Search_Ask : {R : Type} → (Int → Bool → Option R) → Option R) (l_point_Search_Ask_v1 : {R : Type} → Int → Int → Int → (Int → Bool → Int → Int → Int → Option R) → Option R) (l_point_Search_Ask_v2 : {R : Type} → Int → Int → Int → (Int → Bool → Int → Int → Int → Option R) → Option R) (l_point_Search_Ask_v3 : {R : Type} → Int → Int → Int → Int → Bool → (Int → Bool → Int → Int → Int → Int → Bool → Option R) → Option R) : Sum := ⟨[], fun {R} args ob K => match args, ob with
  | [.v (.pointer none)], [] => l_point_Search_Ask  (fun r0 r1 => K (.tup [.v (.int .i64 r0), .v (.bool r1)]) [])
  | [.ptr 0 0], [.box 110 [.ifc 102 (.agg []), .v (.int .i64 o0), .v (.int .i64 o0_1), .v (.int .i64 o0_2)]] => l_point_Search_Ask_v1 o0 o0_1 o0_2 (fun r0 r1 r2 r3 r4 => K (.tup [.v (.int .i64 r0), .v (.bool r1)]) [.box 110 [.ifc 102 (.agg []), .v (.int .i64 r2), .v (.int .i64 r3), .v (.int .i64 r4)]])
  | [.ptr 0 0], [.box 110 [.ifc 103 (.agg []), .v (.int .i64 o0), .v (.int .i64 o0_1), .v (.int .i64 o0_2)]] => l_point_Search_Ask_v2 o0 o0_1 o0_2 (fun r0 r1 r2 r3 r4 => K (.tup [.v (.int .i64 r0), .v (.bool r1)]) [.box 110 [.ifc 103 (.agg []), .v (.int .i64 r2), .v (.int .i64 r3), .v (.int .i64 r4)]])
  | [.ptr 0 0], [.box 110 [.ifc 104 (.ptr 1 0), .v (.int .i64 o0), .v (.int .i64 o0_1), .v (.int .i64 o0_2)], .box 106 [.v (.int .i64 o1), .v (.bool o1_1)]] => l_point_Search_Ask_v3 o0 o0_1 o0_2 o1 o1_1 (fun r0 r1 r2 r3 r4 r5 r6 => K (.tup [.v (.int .i64 r0), .v (.bool r1)]) [.box 110 [.ifc 104 (.ptr 1 0), .v (.int .i64 r2), .v (.int .i64 r3), .v (.int .i64 r4)], .box 106 [.v (.int .i64 r5), .v (.bool r6)]])
  | _, _ => none⟩

theorem sound_point_Search_Ask : Sound Try.prog 28 (S_point_Search_Ask @l_point_Search_Ask @l_point_Search_Ask_v1 @l_point_Search_Ask_v2 @l_point_Search_Ask_v3) := by
  refine fn_sound (cuts := cuts_point_Search_Ask) (fn := Try.f28) (Γ := (T_point_Search_Ask @l_point_linear_next @l_point_Search_ended @l_point_Search_ended_v1 @l_point_Search_ended_v2 @l_point_binary_next @l_point_exponential_next)) wide right_T_point_Search_Ask Try.func28 fun {R} K r args ob h => ?_
  unfold S_point_Search_Ask at h
  dsimp only at h
  split at h
  · exact ⟨Nat.le_of_ble_eq_true (by kernel_rfl), 0, (entry_point_Search_Ask K).trans h⟩
  · exact ⟨Nat.le_of_ble_eq_true (by kernel_rfl), 0, (entry_point_Search_Ask_v1 K _ _ _).trans h⟩
  · exact ⟨Nat.le_of_ble_eq_true (by kernel_rfl), 0, (entry_point_Search_Ask_v2 K _ _ _).trans h⟩
  · exact ⟨Nat.le_of_ble_eq_true (by kernel_rfl), 0, (entry_point_Search_Ask_v3 K _ _ _ _ _).trans h⟩
  · cases h

theorem call_point_Search_Ask : Callable Try.prog 28 := ⟨_, Try.func28, by kernel_rfl, by kernel_rfl⟩

def T_point_binary_told : FuncId → Option Sum := G0

theorem right_T_point_binary_told : Right Try.prog T_point_binary_told := right_G0

abbrev cuts_point_binary_told : Cuts := []

theorem gentry_point_binary_told {R : Type} (K : AV → List O → Option R) (x1 : Bool) :
    fnRun Try.prog T_point_binary_told cuts_point_binary_told Try.f89 0 [.agg [], .v (.bool x1)] [] K =
    (fun (x1 : Bool) (K0 : Option R) =>
    K0) x1 (K (.tup []) []) := by kernel_rfl

theorem entry_point_binary_told {R : Type} (K : AV → List O → Option R) (x1 : Bool) :
    fnRun Try.prog T_point_binary_told cuts_point_binary_told Try.f89 0 [.agg [], .v (.bool x1)] [] K =
    l_point_binary_told x1 (K (.tup []) []) := gentry_point_binary_told K x1

def S_point_binary_told (l_point_binary_told : {R : Type} → Bool → (Option R) → Option R) : Sum := ⟨[], fun {R} args ob K => match args, ob with
  | [.agg [], .v (.bool x1)], [] => l_point_binary_told x1 (K (.tup []) [])
  | _, _ => none⟩

theorem sound_point_binary_told : Sound Try.prog 89 (S_point_binary_told @l_point_binary_told) := by
  refine fn_sound (cuts := cuts_point_binary_told) (fn := Try.f89) (Γ := T_point_binary_told) wide right_T_point_binary_told Try.func89 fun {R} K r args ob h => ?_
  unfold S_point_binary_told at h
  dsimp only at h
  split at h
  · exact ⟨Nat.le_of_ble_eq_true (by kernel_rfl), 0, (entry_point_binary_told K _).trans h⟩
  · cases h

theorem call_point_binary_told : Callable Try.prog 89 := ⟨_, Try.func89, by kernel_rfl, by kernel_rfl⟩

def T_point_exponential_told : FuncId → Option Sum := G0

theorem right_T_point_exponential_told : Right Try.prog T_point_exponential_told := right_G0

abbrev cuts_point_exponential_told : Cuts := []

theorem gentry_point_exponential_told {R : Type} (K : AV → List O → Option R) (v : Bool) (o0 : Int) (o0_1 : Bool) :
    fnRun Try.prog T_point_exponential_told cuts_point_exponential_told Try.f91 0 [.ptr 0 0, .v (.bool v)] [.box 106 [.v (.int .i64 o0), .v (.bool o0_1)]] K =
    (fun (v : Bool) (o0 : Int) (o0_1 : Bool) (K0 : Int → Bool → Option R) =>
    bi o0_1
     (K0 (IntKind.i64.wrap (o0 * 2)) true)
     (K0 (IntKind.i64.wrap (o0 * 2)) (!v))) v o0 o0_1 (fun r0 r1 => K (.tup []) [.box 106 [.v (.int .i64 r0), .v (.bool r1)]]) := by kernel_rfl

theorem entry_point_exponential_told {R : Type} (K : AV → List O → Option R) (v : Bool) (o0 : Int) (o0_1 : Bool) :
    fnRun Try.prog T_point_exponential_told cuts_point_exponential_told Try.f91 0 [.ptr 0 0, .v (.bool v)] [.box 106 [.v (.int .i64 o0), .v (.bool o0_1)]] K =
    l_point_exponential_told v o0 o0_1 (fun r0 r1 => K (.tup []) [.box 106 [.v (.int .i64 r0), .v (.bool r1)]]) := gentry_point_exponential_told K v o0 o0_1

def S_point_exponential_told (l_point_exponential_told : {R : Type} → Bool → Int → Bool → (Int → Bool → Option R) → Option R) : Sum := ⟨[], fun {R} args ob K => match args, ob with
  | [.ptr 0 0, .v (.bool v)], [.box 106 [.v (.int .i64 o0), .v (.bool o0_1)]] => l_point_exponential_told v o0 o0_1 (fun r0 r1 => K (.tup []) [.box 106 [.v (.int .i64 r0), .v (.bool r1)]])
  | _, _ => none⟩

theorem sound_point_exponential_told : Sound Try.prog 91 (S_point_exponential_told @l_point_exponential_told) := by
  refine fn_sound (cuts := cuts_point_exponential_told) (fn := Try.f91) (Γ := T_point_exponential_told) wide right_T_point_exponential_told Try.func91 fun {R} K r args ob h => ?_
  unfold S_point_exponential_told at h
  dsimp only at h
  split at h
  · exact ⟨Nat.le_of_ble_eq_true (by kernel_rfl), 0, (entry_point_exponential_told K _ _ _).trans h⟩
  · cases h

theorem call_point_exponential_told : Callable Try.prog 91 := ⟨_, Try.func91, by kernel_rfl, by kernel_rfl⟩

def T_point_Search_Tell (l_point_Search_Ask : {R : Type} → (Int → Bool → Option R) → Option R) (l_point_Search_Ask_v1 : {R : Type} → Int → Int → Int → (Int → Bool → Int → Int → Int → Option R) → Option R) (l_point_Search_Ask_v2 : {R : Type} → Int → Int → Int → (Int → Bool → Int → Int → Int → Option R) → Option R) (l_point_Search_Ask_v3 : {R : Type} → Int → Int → Int → Int → Bool → (Int → Bool → Int → Int → Int → Int → Bool → Option R) → Option R) (l_point_binary_told : {R : Type} → Bool → (Option R) → Option R) (l_point_exponential_told : {R : Type} → Bool → Int → Bool → (Int → Bool → Option R) → Option R) : FuncId → Option Sum := (addS (addS (addS G0 28 (S_point_Search_Ask @l_point_Search_Ask @l_point_Search_Ask_v1 @l_point_Search_Ask_v2 @l_point_Search_Ask_v3)) 89 (S_point_binary_told @l_point_binary_told)) 91 (S_point_exponential_told @l_point_exponential_told))

theorem right_T_point_Search_Tell : Right Try.prog (T_point_Search_Tell @l_point_Search_Ask @l_point_Search_Ask_v1 @l_point_Search_Ask_v2 @l_point_Search_Ask_v3 @l_point_binary_told @l_point_exponential_told) := (right_add (right_add (right_add right_G0 call_point_Search_Ask sound_point_Search_Ask) call_point_binary_told sound_point_binary_told) call_point_exponential_told sound_point_exponential_told)

abbrev cuts_point_Search_Tell : Cuts := []

theorem gentry_point_Search_Tell (l_point_Search_Ask : {R : Type} → (Int → Bool → Option R) → Option R) (l_point_Search_Ask_v1 : {R : Type} → Int → Int → Int → (Int → Bool → Int → Int → Int → Option R) → Option R) (l_point_Search_Ask_v2 : {R : Type} → Int → Int → Int → (Int → Bool → Int → Int → Int → Option R) → Option R) (l_point_Search_Ask_v3 : {R : Type} → Int → Int → Int → Int → Bool → (Int → Bool → Int → Int → Int → Int → Bool → Option R) → Option R) (l_point_binary_told : {R : Type} → Bool → (Option R) → Option R) (l_point_exponential_told : {R : Type} → Bool → Int → Bool → (Int → Bool → Option R) → Option R) {R : Type} (K : AV → List O → Option R) (v : Bool) :
    fnRun Try.prog (T_point_Search_Tell @l_point_Search_Ask @l_point_Search_Ask_v1 @l_point_Search_Ask_v2 @l_point_Search_Ask_v3 @l_point_binary_told @l_point_exponential_told) cuts_point_Search_Tell Try.f32 0 [.v (.pointer none), .v (.bool v)] [] K =
    (fun (v : Bool) (K0 : Int → Option R) =>
    K0 5) v (fun r0 => K (.v (.int .i64 r0)) []) := by kernel_rfl

theorem entry_point_Search_Tell {R : Type} (K : AV → List O → Option R) (v : Bool) :
    fnRun Try.prog (T_point_Search_Tell @l_point_Search_Ask @l_point_Search_Ask_v1 @l_point_Search_Ask_v2 @l_point_Search_Ask_v3 @l_point_binary_told @l_point_exponential_told) cuts_point_Search_Tell Try.f32 0 [.v (.pointer none), .v (.bool v)] [] K =
    l_point_Search_Tell v (fun r0 => K (.v (.int .i64 r0)) []) := gentry_point_Search_Tell @l_point_Search_Ask @l_point_Search_Ask_v1 @l_point_Search_Ask_v2 @l_point_Search_Ask_v3 @l_point_binary_told @l_point_exponential_told K v

abbrev cuts_point_Search_Tell_v1 : Cuts := []

theorem gentry_point_Search_Tell_v1 (l_point_Search_Ask : {R : Type} → (Int → Bool → Option R) → Option R) (l_point_Search_Ask_v1 : {R : Type} → Int → Int → Int → (Int → Bool → Int → Int → Int → Option R) → Option R) (l_point_Search_Ask_v2 : {R : Type} → Int → Int → Int → (Int → Bool → Int → Int → Int → Option R) → Option R) (l_point_Search_Ask_v3 : {R : Type} → Int → Int → Int → Int → Bool → (Int → Bool → Int → Int → Int → Int → Bool → Option R) → Option R) (l_point_binary_told : {R : Type} → Bool → (Option R) → Option R) (l_point_exponential_told : {R : Type} → Bool → Int → Bool → (Int → Bool → Option R) → Option R) {R : Type} (K : AV → List O → Option R) (v : Bool) (o0 : Int) (o0_1 : Int) (o0_2 : Int) :
    fnRun Try.prog (T_point_Search_Tell @l_point_Search_Ask @l_point_Search_Ask_v1 @l_point_Search_Ask_v2 @l_point_Search_Ask_v3 @l_point_binary_told @l_point_exponential_told) cuts_point_Search_Tell_v1 Try.f32 0 [.ptr 0 0, .v (.bool v)] [.box 110 [.ifc 102 (.agg []), .v (.int .i64 o0), .v (.int .i64 o0_1), .v (.int .i64 o0_2)]] K =
    (fun (v : Bool) (o0 : Int) (o0_1 : Int) (o0_2 : Int) (K0 : Int → Int → Int → Int → Option R) =>
    l_point_Search_Ask_v1 o0 o0_1 o0_2
     (fun r1 r2 r3 r4 r5 =>
      bi (!r2)
       (K0 7 r3 r4 r5)
       (bi v
        (K0 0 r3 r1 (IntKind.i64.wrap (r5 + 1)))
        (K0 0 r1 r4 (IntKind.i64.wrap (r5 + 1)))))) v o0 o0_1 o0_2 (fun r0 r1 r2 r3 => K (.v (.int .i64 r0)) [.box 110 [.ifc 102 (.agg []), .v (.int .i64 r1), .v (.int .i64 r2), .v (.int .i64 r3)]]) := by kernel_rfl

theorem entry_point_Search_Tell_v1 {R : Type} (K : AV → List O → Option R) (v : Bool) (o0 : Int) (o0_1 : Int) (o0_2 : Int) :
    fnRun Try.prog (T_point_Search_Tell @l_point_Search_Ask @l_point_Search_Ask_v1 @l_point_Search_Ask_v2 @l_point_Search_Ask_v3 @l_point_binary_told @l_point_exponential_told) cuts_point_Search_Tell_v1 Try.f32 0 [.ptr 0 0, .v (.bool v)] [.box 110 [.ifc 102 (.agg []), .v (.int .i64 o0), .v (.int .i64 o0_1), .v (.int .i64 o0_2)]] K =
    l_point_Search_Tell_v1 v o0 o0_1 o0_2 (fun r0 r1 r2 r3 => K (.v (.int .i64 r0)) [.box 110 [.ifc 102 (.agg []), .v (.int .i64 r1), .v (.int .i64 r2), .v (.int .i64 r3)]]) := gentry_point_Search_Tell_v1 @l_point_Search_Ask @l_point_Search_Ask_v1 @l_point_Search_Ask_v2 @l_point_Search_Ask_v3 @l_point_binary_told @l_point_exponential_told K v o0 o0_1 o0_2

abbrev cuts_point_Search_Tell_v2 : Cuts := []

theorem gentry_point_Search_Tell_v2 (l_point_Search_Ask : {R : Type} → (Int → Bool → Option R) → Option R) (l_point_Search_Ask_v1 : {R : Type} → Int → Int → Int → (Int → Bool → Int → Int → Int → Option R) → Option R) (l_point_Search_Ask_v2 : {R : Type} → Int → Int → Int → (Int → Bool → Int → Int → Int → Option R) → Option R) (l_point_Search_Ask_v3 : {R : Type} → Int → Int → Int → Int → Bool → (Int → Bool → Int → Int → Int → Int → Bool → Option R) → Option R) (l_point_binary_told : {R : Type} → Bool → (Option R) → Option R) (l_point_exponential_told : {R : Type} → Bool → Int → Bool → (Int → Bool → Option R) → Option R) {R : Type} (K : AV → List O → Option R) (v : Bool) (o0 : Int) (o0_1 : Int) (o0_2 : Int) :
    fnRun Try.prog (T_point_Search_Tell @l_point_Search_Ask @l_point_Search_Ask_v1 @l_point_Search_Ask_v2 @l_point_Search_Ask_v3 @l_point_binary_told @l_point_exponential_told) cuts_point_Search_Tell_v2 Try.f32 0 [.ptr 0 0, .v (.bool v)] [.box 110 [.ifc 103 (.agg []), .v (.int .i64 o0), .v (.int .i64 o0_1), .v (.int .i64 o0_2)]] K =
    (fun (v : Bool) (o0 : Int) (o0_1 : Int) (o0_2 : Int) (K0 : Int → Int → Int → Int → Option R) =>
    l_point_Search_Ask_v2 o0 o0_1 o0_2
     (fun r1 r2 r3 r4 r5 =>
      bi (!r2)
       (K0 7 r3 r4 r5)
       (bi v
        (l_point_binary_told v
         (K0 0 r3 r1 (IntKind.i64.wrap (r5 + 1))))
        (l_point_binary_told v
         (K0 0 r1 r4 (IntKind.i64.wrap (r5 + 1))))))) v o0 o0_1 o0_2 (fun r0 r1 r2 r3 => K (.v (.int .i64 r0)) [.box 110 [.ifc 103 (.agg []), .v (.int .i64 r1), .v (.int .i64 r2), .v (.int .i64 r3)]]) := by kernel_rfl

theorem entry_point_Search_Tell_v2 {R : Type} (K : AV → List O → Option R) (v : Bool) (o0 : Int) (o0_1 : Int) (o0_2 : Int) :
    fnRun Try.prog (T_point_Search_Tell @l_point_Search_Ask @l_point_Search_Ask_v1 @l_point_Search_Ask_v2 @l_point_Search_Ask_v3 @l_point_binary_told @l_point_exponential_told) cuts_point_Search_Tell_v2 Try.f32 0 [.ptr 0 0, .v (.bool v)] [.box 110 [.ifc 103 (.agg []), .v (.int .i64 o0), .v (.int .i64 o0_1), .v (.int .i64 o0_2)]] K =
    l_point_Search_Tell_v2 v o0 o0_1 o0_2 (fun r0 r1 r2 r3 => K (.v (.int .i64 r0)) [.box 110 [.ifc 103 (.agg []), .v (.int .i64 r1), .v (.int .i64 r2), .v (.int .i64 r3)]]) := gentry_point_Search_Tell_v2 @l_point_Search_Ask @l_point_Search_Ask_v1 @l_point_Search_Ask_v2 @l_point_Search_Ask_v3 @l_point_binary_told @l_point_exponential_told K v o0 o0_1 o0_2

abbrev cuts_point_Search_Tell_v3 : Cuts := []

theorem gentry_point_Search_Tell_v3 (l_point_Search_Ask : {R : Type} → (Int → Bool → Option R) → Option R) (l_point_Search_Ask_v1 : {R : Type} → Int → Int → Int → (Int → Bool → Int → Int → Int → Option R) → Option R) (l_point_Search_Ask_v2 : {R : Type} → Int → Int → Int → (Int → Bool → Int → Int → Int → Option R) → Option R) (l_point_Search_Ask_v3 : {R : Type} → Int → Int → Int → Int → Bool → (Int → Bool → Int → Int → Int → Int → Bool → Option R) → Option R) (l_point_binary_told : {R : Type} → Bool → (Option R) → Option R) (l_point_exponential_told : {R : Type} → Bool → Int → Bool → (Int → Bool → Option R) → Option R) {R : Type} (K : AV → List O → Option R) (v : Bool) (o0 : Int) (o0_1 : Int) (o0_2 : Int) (o1 : Int) (o1_1 : Bool) :
    fnRun Try.prog (T_point_Search_Tell @l_point_Search_Ask @l_point_Search_Ask_v1 @l_point_Search_Ask_v2 @l_point_Search_Ask_v3 @l_point_binary_told @l_point_exponential_told) cuts_point_Search_Tell_v3 Try.f32 0 [.ptr 0 0, .v (.bool v)] [.box 110 [.ifc 104 (.ptr 1 0), .v (.int .i64 o0), .v (.int .i64 o0_1), .v (.int .i64 o0_2)], .box 106 [.v (.int .i64 o1), .v (.bool o1_1)]] K =
    (fun (v : Bool) (o0 : Int) (o0_1 : Int) (o0_2 : Int) (o1 : Int) (o1_1 : Bool) (K0 : Int → Int → Int → Int → Int → Bool → Option R) =>
    l_point_Search_Ask_v3 o0 o0_1 o0_2 o1 o1_1
     (fun r1 r2 r3 r4 r5 r6 r7 =>
      bi (!r2)
       (K0 7 r3 r4 r5 r6 r7)
       (bi v
        (l_point_exponential_told v r6 r7
         (fun r8 r9 =>
          K0 0 r3 r1 (IntKind.i64.wrap (r5 + 1)) r8 r9))
        (l_point_exponential_told v r6 r7
         (fun r10 r11 =>
          K0 0 r1 r4 (IntKind.i64.wrap (r5 + 1)) r10 r11))))) v o0 o0_1 o0_2 o1 o1_1 (fun r0 r1 r2 r3 r4 r5 => K (.v (.int .i64 r0)) [.box 110 [.ifc 104 (.ptr 1 0), .v (.int .i64 r1), .v (.int .i64 r2), .v (.int .i64 r3)], .box 106 [.v (.int .i64 r4), .v (.bool r5)]]) := by kernel_rfl

theorem entry_point_Search_Tell_v3 {R : Type} (K : AV → List O → Option R) (v : Bool) (o0 : Int) (o0_1 : Int) (o0_2 : Int) (o1 : Int) (o1_1 : Bool) :
    fnRun Try.prog (T_point_Search_Tell @l_point_Search_Ask @l_point_Search_Ask_v1 @l_point_Search_Ask_v2 @l_point_Search_Ask_v3 @l_point_binary_told @l_point_exponential_told) cuts_point_Search_Tell_v3 Try.f32 0 [.ptr 0 0, .v (.bool v)] [.box 110 [.ifc 104 (.ptr 1 0), .v (.int .i64 o0), .v (.int .i64 o0_1), .v (.int .i64 o0_2)], .box 106 [.v (.int .i64 o1), .v (.bool o1_1)]] K =
    l_point_Search_Tell_v3 v o0 o0_1 o0_2 o1 o1_1 (fun r0 r1 r2 r3 r4 r5 => K (.v (.int .i64 r0)) [.box 110 [.ifc 104 (.ptr 1 0), .v (.int .i64 r1), .v (.int .i64 r2), .v (.int .i64 r3)], .box 106 [.v (.int .i64 r4), .v (.bool r5)]]) := gentry_point_Search_Tell_v3 @l_point_Search_Ask @l_point_Search_Ask_v1 @l_point_Search_Ask_v2 @l_point_Search_Ask_v3 @l_point_binary_told @l_point_exponential_told K v o0 o0_1 o0_2 o1 o1_1

def S_point_Search_Tell (l_point_Search_Tell : {R : Type} → Bool → (Int → Option R) → Option R) (l_point_Search_Tell_v1 : {R : Type} → Bool → Int → Int → Int → (Int → Int → Int → Int → Option R) → Option R) (l_point_Search_Tell_v2 : {R : Type} → Bool → Int → Int → Int → (Int → Int → Int → Int → Option R) → Option R) (l_point_Search_Tell_v3 : {R : Type} → Bool → Int → Int → Int → Int → Bool → (Int → Int → Int → Int → Int → Bool → Option R) → Option R) : Sum := ⟨[], fun {R} args ob K => match args, ob with
  | [.v (.pointer none), .v (.bool v)], [] => l_point_Search_Tell v (fun r0 => K (.v (.int .i64 r0)) [])
  | [.ptr 0 0, .v (.bool v)], [.box 110 [.ifc 102 (.agg []), .v (.int .i64 o0), .v (.int .i64 o0_1), .v (.int .i64 o0_2)]] => l_point_Search_Tell_v1 v o0 o0_1 o0_2 (fun r0 r1 r2 r3 => K (.v (.int .i64 r0)) [.box 110 [.ifc 102 (.agg []), .v (.int .i64 r1), .v (.int .i64 r2), .v (.int .i64 r3)]])
  | [.ptr 0 0, .v (.bool v)], [.box 110 [.ifc 103 (.agg []), .v (.int .i64 o0), .v (.int .i64 o0_1), .v (.int .i64 o0_2)]] => l_point_Search_Tell_v2 v o0 o0_1 o0_2 (fun r0 r1 r2 r3 => K (.v (.int .i64 r0)) [.box 110 [.ifc 103 (.agg []), .v (.int .i64 r1), .v (.int .i64 r2), .v (.int .i64 r3)]])
  | [.ptr 0 0, .v (.bool v)], [.box 110 [.ifc 104 (.ptr 1 0), .v (.int .i64 o0), .v (.int .i64 o0_1), .v (.int .i64 o0_2)], .box 106 [.v (.int .i64 o1), .v (.bool o1_1)]] => l_point_Search_Tell_v3 v o0 o0_1 o0_2 o1 o1_1 (fun r0 r1 r2 r3 r4 r5 => K (.v (.int .i64 r0)) [.box 110 [.ifc 104 (.ptr 1 0), .v (.int .i64 r1), .v (.int .i64 r2), .v (.int .i64 r3)], .box 106 [.v (.int .i64 r4), .v (.bool r5)]])
  | _, _ => none⟩

theorem sound_point_Search_Tell : Sound Try.prog 32 (S_point_Search_Tell @l_point_Search_Tell @l_point_Search_Tell_v1 @l_point_Search_Tell_v2 @l_point_Search_Tell_v3) := by
  refine fn_sound (cuts := cuts_point_Search_Tell) (fn := Try.f32) (Γ := (T_point_Search_Tell @l_point_Search_Ask @l_point_Search_Ask_v1 @l_point_Search_Ask_v2 @l_point_Search_Ask_v3 @l_point_binary_told @l_point_exponential_told)) wide right_T_point_Search_Tell Try.func32 fun {R} K r args ob h => ?_
  unfold S_point_Search_Tell at h
  dsimp only at h
  split at h
  · exact ⟨Nat.le_of_ble_eq_true (by kernel_rfl), 0, (entry_point_Search_Tell K _).trans h⟩
  · exact ⟨Nat.le_of_ble_eq_true (by kernel_rfl), 0, (entry_point_Search_Tell_v1 K _ _ _ _).trans h⟩
  · exact ⟨Nat.le_of_ble_eq_true (by kernel_rfl), 0, (entry_point_Search_Tell_v2 K _ _ _ _).trans h⟩
  · exact ⟨Nat.le_of_ble_eq_true (by kernel_rfl), 0, (entry_point_Search_Tell_v3 K _ _ _ _ _ _).trans h⟩
  · cases h

theorem call_point_Search_Tell : Callable Try.prog 32 := ⟨_, Try.func32, by kernel_rfl, by kernel_rfl⟩

def T_point_Search_Found (l_point_Search_ended : {R : Type} → Int → Int → Int → (Bool → Int → Int → Int → Option R) → Option R) (l_point_Search_ended_v1 : {R : Type} → Int → Int → Int → (Bool → Int → Int → Int → Option R) → Option R) (l_point_Search_ended_v2 : {R : Type} → Int → Int → Int → Int → Bool → (Bool → Int → Int → Int → Int → Bool → Option R) → Option R) : FuncId → Option Sum := (addS G0 58 (S_point_Search_ended @l_point_Search_ended @l_point_Search_ended_v1 @l_point_Search_ended_v2))

theorem right_T_point_Search_Found : Right Try.prog (T_point_Search_Found @l_point_Search_ended @l_point_Search_ended_v1 @l_point_Search_ended_v2) := (right_add right_G0 call_point_Search_ended sound_point_Search_ended)

abbrev cuts_point_Search_Found : Cuts := []

theorem gentry_point_Search_Found (l_point_Search_ended : {R : Type} → Int → Int → Int → (Bool → Int → Int → Int → Option R) → Option R) (l_point_Search_ended_v1 : {R : Type} → Int → Int → Int → (Bool → Int → Int → Int → Option R) → Option R) (l_point_Search_ended_v2 : {R : Type} → Int → Int → Int → Int → Bool → (Bool → Int → Int → Int → Int → Bool → Option R) → Option R) {R : Type} (K : AV → List O → Option R)  :
    fnRun Try.prog (T_point_Search_Found @l_point_Search_ended @l_point_Search_ended_v1 @l_point_Search_ended_v2) cuts_point_Search_Found Try.f30 0 [.v (.pointer none)] [] K =
    (fun  (K0 : Int → Bool → Option R) =>
    K0 0 false)  (fun r0 r1 => K (.tup [.v (.int .i64 r0), .v (.bool r1)]) []) := by kernel_rfl

theorem entry_point_Search_Found {R : Type} (K : AV → List O → Option R)  :
    fnRun Try.prog (T_point_Search_Found @l_point_Search_ended @l_point_Search_ended_v1 @l_point_Search_ended_v2) cuts_point_Search_Found Try.f30 0 [.v (.pointer none)] [] K =
    l_point_Search_Found  (fun r0 r1 => K (.tup [.v (.int .i64 r0), .v (.bool r1)]) []) := gentry_point_Search_Found @l_point_Search_ended @l_point_Search_ended_v1 @l_point_Search_ended_v2 K 

abbrev cuts_point_Search_Found_v1 : Cuts := []

theorem gentry_point_Search_Found_v1 (l_point_Search_ended : {R : Type} → Int → Int → Int → (Bool → Int → Int → Int → Option R) → Option R) (l_point_Search_ended_v1 : {R : Type} → Int → Int → Int → (Bool → Int → Int → Int → Option R) → Option R) (l_point_Search_ended_v2 : {R : Type} → Int → Int → Int → Int → Bool → (Bool → Int → Int → Int → Int → Bool → Option R) → Option R) {R : Type} (K : AV → List O → Option R) (o0 : Int) (o0_1 : Int) (o0_2 : Int) :
    fnRun Try.prog (T_point_Search_Found @l_point_Search_ended @l_point_Search_ended_v1 @l_point_Search_ended_v2) cuts_point_Search_Found_v1 Try.f30 0 [.ptr 0 0] [.box 110 [.ifc 102 (.agg []), .v (.int .i64 o0), .v (.int .i64 o0_1), .v (.int .i64 o0_2)]] K =
    (fun (o0 : Int) (o0_1 : Int) (o0_2 : Int) (K0 : Int → Bool → Int → Int → Int → Option R) =>
    l_point_Search_ended o0 o0_1 o0_2
     (fun r1 r2 r3 r4 =>
      bi (!r1)
       (K0 0 false r2 r3 r4)
       (K0 r2 true r2 r3 r4))) o0 o0_1 o0_2 (fun r0 r1 r2 r3 r4 => K (.tup [.v (.int .i64 r0), .v (.bool r1)]) [.box 110 [.ifc 102 (.agg []), .v (.int .i64 r2), .v (.int .i64 r3), .v (.int .i64 r4)]]) := by kernel_rfl

theorem entry_point_Search_Found_v1 {R : Type} (K : AV → List O → Option R) (o0 : Int) (o0_1 : Int) (o0_2 : Int) :
    fnRun Try.prog (T_point_Search_Found @l_point_Search_ended @l_point_Search_ended_v1 @l_point_Search_ended_v2) cuts_point_Search_Found_v1 Try.f30 0 [.ptr 0 0] [.box 110 [.ifc 102 (.agg []), .v (.int .i64 o0), .v (.int .i64 o0_1), .v (.int .i64 o0_2)]] K =
    l_point_Search_Found_v1 o0 o0_1 o0_2 (fun r0 r1 r2 r3 r4 => K (.tup [.v (.int .i64 r0), .v (.bool r1)]) [.box 110 [.ifc 102 (.agg []), .v (.int .i64 r2), .v (.int .i64 r3), .v (.int .i64 r4)]]) := gentry_point_Search_Found_v1 @l_point_Search_ended @l_point_Search_ended_v1 @l_point_Search_ended_v2 K o0 o0_1 o0_2

abbrev cuts_point_Search_Found_v2 : Cuts := []

theorem gentry_point_Search_Found_v2 (l_point_Search_ended : {R : Type} → Int → Int → Int → (Bool → Int → Int → Int → Option R) → Option R) (l_point_Search_ended_v1 : {R : Type} → Int → Int → Int → (Bool → Int → Int → Int → Option R) → Option R) (l_point_Search_ended_v2 : {R : Type} → Int → Int → Int → Int → Bool → (Bool → Int → Int → Int → Int → Bool → Option R) → Option R) {R : Type} (K : AV → List O → Option R) (o0 : Int) (o0_1 : Int) (o0_2 : Int) :
    fnRun Try.prog (T_point_Search_Found @l_point_Search_ended @l_point_Search_ended_v1 @l_point_Search_ended_v2) cuts_point_Search_Found_v2 Try.f30 0 [.ptr 0 0] [.box 110 [.ifc 103 (.agg []), .v (.int .i64 o0), .v (.int .i64 o0_1), .v (.int .i64 o0_2)]] K =
    (fun (o0 : Int) (o0_1 : Int) (o0_2 : Int) (K0 : Int → Bool → Int → Int → Int → Option R) =>
    l_point_Search_ended_v1 o0 o0_1 o0_2
     (fun r1 r2 r3 r4 =>
      bi (!r1)
       (K0 0 false r2 r3 r4)
       (K0 r2 true r2 r3 r4))) o0 o0_1 o0_2 (fun r0 r1 r2 r3 r4 => K (.tup [.v (.int .i64 r0), .v (.bool r1)]) [.box 110 [.ifc 103 (.agg []), .v (.int .i64 r2), .v (.int .i64 r3), .v (.int .i64 r4)]]) := by kernel_rfl

theorem entry_point_Search_Found_v2 {R : Type} (K : AV → List O → Option R) (o0 : Int) (o0_1 : Int) (o0_2 : Int) :
    fnRun Try.prog (T_point_Search_Found @l_point_Search_ended @l_point_Search_ended_v1 @l_point_Search_ended_v2) cuts_point_Search_Found_v2 Try.f30 0 [.ptr 0 0] [.box 110 [.ifc 103 (.agg []), .v (.int .i64 o0), .v (.int .i64 o0_1), .v (.int .i64 o0_2)]] K =
    l_point_Search_Found_v2 o0 o0_1 o0_2 (fun r0 r1 r2 r3 r4 => K (.tup [.v (.int .i64 r0), .v (.bool r1)]) [.box 110 [.ifc 103 (.agg []), .v (.int .i64 r2), .v (.int .i64 r3), .v (.int .i64 r4)]]) := gentry_point_Search_Found_v2 @l_point_Search_ended @l_point_Search_ended_v1 @l_point_Search_ended_v2 K o0 o0_1 o0_2

abbrev cuts_point_Search_Found_v3 : Cuts := []

theorem gentry_point_Search_Found_v3 (l_point_Search_ended : {R : Type} → Int → Int → Int → (Bool → Int → Int → Int → Option R) → Option R) (l_point_Search_ended_v1 : {R : Type} → Int → Int → Int → (Bool → Int → Int → Int → Option R) → Option R) (l_point_Search_ended_v2 : {R : Type} → Int → Int → Int → Int → Bool → (Bool → Int → Int → Int → Int → Bool → Option R) → Option R) {R : Type} (K : AV → List O → Option R) (o0 : Int) (o0_1 : Int) (o0_2 : Int) (o1 : Int) (o1_1 : Bool) :
    fnRun Try.prog (T_point_Search_Found @l_point_Search_ended @l_point_Search_ended_v1 @l_point_Search_ended_v2) cuts_point_Search_Found_v3 Try.f30 0 [.ptr 0 0] [.box 110 [.ifc 104 (.ptr 1 0), .v (.int .i64 o0), .v (.int .i64 o0_1), .v (.int .i64 o0_2)], .box 106 [.v (.int .i64 o1), .v (.bool o1_1)]] K =
    (fun (o0 : Int) (o0_1 : Int) (o0_2 : Int) (o1 : Int) (o1_1 : Bool) (K0 : Int → Bool → Int → Int → Int → Int → Bool → Option R) =>
    l_point_Search_ended_v2 o0 o0_1 o0_2 o1 o1_1
     (fun r1 r2 r3 r4 r5 r6 =>
      bi (!r1)
       (K0 0 false r2 r3 r4 r5 r6)
       (K0 r2 true r2 r3 r4 r5 r6))) o0 o0_1 o0_2 o1 o1_1 (fun r0 r1 r2 r3 r4 r5 r6 => K (.tup [.v (.int .i64 r0), .v (.bool r1)]) [.box 110 [.ifc 104 (.ptr 1 0), .v (.int .i64 r2), .v (.int .i64 r3), .v (.int .i64 r4)], .box 106 [.v (.int .i64 r5), .v (.bool r6)]]) := by kernel_rfl

theorem entry_point_Search_Found_v3 {R : Type} (K : AV → List O → Option R) (o0 : Int) (o0_1 : Int) (o0_2 : Int) (o1 : Int) (o1_1 : Bool) :
    fnRun Try.prog (T_point_Search_Found @l_point_Search_ended @l_point_Search_ended_v1 @l_point_Search_ended_v2) cuts_point_Search_Found_v3 Try.f30 0 [.ptr 0 0] [.box 110 [.ifc 104 (.ptr 1 0), .v (.int .i64 o0), .v (.int .i64 o0_1), .v (.int .i64 o0_2)], .box 106 [.v (.int .i64 o1), .v (.bool o1_1)]] K =
    l_point_Search_Found_v3 o0 o0_1 o0_2 o1 o1_1 (fun r0 r1 r2 r3 r4 r5 r6 => K (.tup [.v (.int .i64 r0), .v (.bool r1)]) [.box 110 [.ifc 104 (.ptr 1 0), .v (.int .i64 r2), .v (.int .i64 r3), .v (.int .i64 r4)], .box 106 [.v (.int .i64 r5), .v (.bool r6)]]) := gentry_point_Search_Found_v3 @l_point_Search_ended @l_point_Search_ended_v1 @l_point_Search_ended_v2 K o0 o0_1 o0_2 o1 o1_1

def S_point_Search_Found (l_point_Search_Found : {R : Type} → (Int → Bool → Option R) → Option R) (l_point_Search_Found_v1 : {R : Type} → Int → Int → Int → (Int → Bool → Int → Int → Int → Option R) → Option R) (l_point_Search_Found_v2 : {R : Type} → Int → Int → Int → (Int → Bool → Int → Int → Int → Option R) → Option R) (l_point_Search_Found_v3 : {R : Type} → Int → Int → Int → Int → Bool → (Int → Bool → Int → Int → Int → Int → Bool → Option R) → Option R) : Sum := ⟨[], fun {R} args ob K => match args, ob with
  | [.v (.pointer none)], [] => l_point_Search_Found  (fun r0 r1 => K (.tup [.v (.int .i64 r0), .v (.bool r1)]) [])
  | [.ptr 0 0], [.box 110 [.ifc 102 (.agg []), .v (.int .i64 o0), .v (.int .i64 o0_1), .v (.int .i64 o0_2)]] => l_point_Search_Found_v1 o0 o0_1 o0_2 (fun r0 r1 r2 r3 r4 => K (.tup [.v (.int .i64 r0), .v (.bool r1)]) [.box 110 [.ifc 102 (.agg []), .v (.int .i64 r2), .v (.int .i64 r3), .v (.int .i64 r4)]])
  | [.ptr 0 0], [.box 110 [.ifc 103 (.agg []), .v (.int .i64 o0), .v (.int .i64 o0_1), .v (.int .i64 o0_2)]] => l_point_Search_Found_v2 o0 o0_1 o0_2 (fun r0 r1 r2 r3 r4 => K (.tup [.v (.int .i64 r0), .v (.bool r1)]) [.box 110 [.ifc 103 (.agg []), .v (.int .i64 r2), .v (.int .i64 r3), .v (.int .i64 r4)]])
  | [.ptr 0 0], [.box 110 [.ifc 104 (.ptr 1 0), .v (.int .i64 o0), .v (.int .i64 o0_1), .v (.int .i64 o0_2)], .box 106 [.v (.int .i64 o1), .v (.bool o1_1)]] => l_point_Search_Found_v3 o0 o0_1 o0_2 o1 o1_1 (fun r0 r1 r2 r3 r4 r5 r6 => K (.tup [.v (.int .i64 r0), .v (.bool r1)]) [.box 110 [.ifc 104 (.ptr 1 0), .v (.int .i64 r2), .v (.int .i64 r3), .v (.int .i64 r4)], .box 106 [.v (.int .i64 r5), .v (.bool r6)]])
  | _, _ => none⟩

theorem sound_point_Search_Found : Sound Try.prog 30 (S_point_Search_Found @l_point_Search_Found @l_point_Search_Found_v1 @l_point_Search_Found_v2 @l_point_Search_Found_v3) := by
  refine fn_sound (cuts := cuts_point_Search_Found) (fn := Try.f30) (Γ := (T_point_Search_Found @l_point_Search_ended @l_point_Search_ended_v1 @l_point_Search_ended_v2)) wide right_T_point_Search_Found Try.func30 fun {R} K r args ob h => ?_
  unfold S_point_Search_Found at h
  dsimp only at h
  split at h
  · exact ⟨Nat.le_of_ble_eq_true (by kernel_rfl), 0, (entry_point_Search_Found K).trans h⟩
  · exact ⟨Nat.le_of_ble_eq_true (by kernel_rfl), 0, (entry_point_Search_Found_v1 K _ _ _).trans h⟩
  · exact ⟨Nat.le_of_ble_eq_true (by kernel_rfl), 0, (entry_point_Search_Found_v2 K _ _ _).trans h⟩
  · exact ⟨Nat.le_of_ble_eq_true (by kernel_rfl), 0, (entry_point_Search_Found_v3 K _ _ _ _ _).trans h⟩
  · cases h

theorem call_point_Search_Found : Callable Try.prog 30 := ⟨_, Try.func30, by kernel_rfl, by kernel_rfl⟩

def T_point_Search_Asked : FuncId → Option Sum := G0

theorem right_T_point_Search_Asked : Right Try.prog T_point_Search_Asked := right_G0

abbrev cuts_point_Search_Asked : Cuts := []

theorem gentry_point_Search_Asked {R : Type} (K : AV → List O → Option R)  :
    fnRun Try.prog T_point_Search_Asked cuts_point_Search_Asked Try.f31 0 [.v (.pointer none)] [] K =
    (fun  (K0 : Int → Option R) =>
    K0 0)  (fun r0 => K (.v (.int .i64 r0)) []) := by kernel_rfl

theorem entry_point_Search_Asked {R : Type} (K : AV → List O → Option R)  :
    fnRun Try.prog T_point_Search_Asked cuts_point_Search_Asked Try.f31 0 [.v (.pointer none)] [] K =
    l_point_Search_Asked  (fun r0 => K (.v (.int .i64 r0)) []) := gentry_point_Search_Asked K 

abbrev cuts_point_Search_Asked_v1 : Cuts := []

theorem gentry_point_Search_Asked_v1 {R : Type} (K : AV → List O → Option R) (o0 : Int) (o0_1 : Int) (o0_2 : Int) :
    fnRun Try.prog T_point_Search_Asked cuts_point_Search_Asked_v1 Try.f31 0 [.ptr 0 0] [.box 110 [.ifc 102 (.agg []), .v (.int .i64 o0), .v (.int .i64 o0_1), .v (.int .i64 o0_2)]] K =
    (fun (o0 : Int) (o0_1 : Int) (o0_2 : Int) (K0 : Int → Int → Int → Int → Option R) =>
    K0 o0_2 o0 o0_1 o0_2) o0 o0_1 o0_2 (fun r0 r1 r2 r3 => K (.v (.int .i64 r0)) [.box 110 [.ifc 102 (.agg []), .v (.int .i64 r1), .v (.int .i64 r2), .v (.int .i64 r3)]]) := by kernel_rfl

theorem entry_point_Search_Asked_v1 {R : Type} (K : AV → List O → Option R) (o0 : Int) (o0_1 : Int) (o0_2 : Int) :
    fnRun Try.prog T_point_Search_Asked cuts_point_Search_Asked_v1 Try.f31 0 [.ptr 0 0] [.box 110 [.ifc 102 (.agg []), .v (.int .i64 o0), .v (.int .i64 o0_1), .v (.int .i64 o0_2)]] K =
    l_point_Search_Asked_v1 o0 o0_1 o0_2 (fun r0 r1 r2 r3 => K (.v (.int .i64 r0)) [.box 110 [.ifc 102 (.agg []), .v (.int .i64 r1), .v (.int .i64 r2), .v (.int .i64 r3)]]) := gentry_point_Search_Asked_v1 K o0 o0_1 o0_2

abbrev cuts_point_Search_Asked_v2 : Cuts := []

theorem gentry_point_Search_Asked_v2 {R : Type} (K : AV → List O → Option R) (o0 : Int) (o0_1 : Int) (o0_2 : Int) :
    fnRun Try.prog T_point_Search_Asked cuts_point_Search_Asked_v2 Try.f31 0 [.ptr 0 0] [.box 110 [.ifc 103 (.agg []), .v (.int .i64 o0), .v (.int .i64 o0_1), .v (.int .i64 o0_2)]] K =
    (fun (o0 : Int) (o0_1 : Int) (o0_2 : Int) (K0 : Int → Int → Int → Int → Option R) =>
    K0 o0_2 o0 o0_1 o0_2) o0 o0_1 o0_2 (fun r0 r1 r2 r3 => K (.v (.int .i64 r0)) [.box 110 [.ifc 103 (.agg []), .v (.int .i64 r1), .v (.int .i64 r2), .v (.int .i64 r3)]]) := by kernel_rfl

theorem entry_point_Search_Asked_v2 {R : Type} (K : AV → List O → Option R) (o0 : Int) (o0_1 : Int) (o0_2 : Int) :
    fnRun Try.prog T_point_Search_Asked cuts_point_Search_Asked_v2 Try.f31 0 [.ptr 0 0] [.box 110 [.ifc 103 (.agg []), .v (.int .i64 o0), .v (.int .i64 o0_1), .v (.int .i64 o0_2)]] K =
    l_point_Search_Asked_v2 o0 o0_1 o0_2 (fun r0 r1 r2 r3 => K (.v (.int .i64 r0)) [.box 110 [.ifc 103 (.agg []), .v (.int .i64 r1), .v (.int .i64 r2), .v (.int .i64 r3)]]) := gentry_point_Search_Asked_v2 K o0 o0_1 o0_2

abbrev cuts_point_Search_Asked_v3 : Cuts := []

theorem gentry_point_Search_Asked_v3 {R : Type} (K : AV → List O → Option R) (o0 : Int) (o0_1 : Int) (o0_2 : Int) (o1 : Int) (o1_1 : Bool) :
    fnRun Try.prog T_point_Search_Asked cuts_point_Search_Asked_v3 Try.f31 0 [.ptr 0 0] [.box 110 [.ifc 104 (.ptr 1 0), .v (.int .i64 o0), .v (.int .i64 o0_1), .v (.int .i64 o0_2)], .box 106 [.v (.int .i64 o1), .v (.bool o1_1)]] K =
    (fun (o0 : Int) (o0_1 : Int) (o0_2 : Int) (o1 : Int) (o1_1 : Bool) (K0 : Int → Int → Int → Int → Int → Bool → Option R) =>
    K0 o0_2 o0 o0_1 o0_2 o1 o1_1) o0 o0_1 o0_2 o1 o1_1 (fun r0 r1 r2 r3 r4 r5 => K (.v (.int .i64 r0)) [.box 110 [.ifc 104 (.ptr 1 0), .v (.int .i64 r1), .v (.int .i64 r2), .v (.int .i64 r3)], .box 106 [.v (.int .i64 r4), .v (.bool r5)]]) := by kernel_rfl

theorem entry_point_Search_Asked_v3 {R : Type} (K : AV → List O → Option R) (o0 : Int) (o0_1 : Int) (o0_2 : Int) (o1 : Int) (o1_1 : Bool) :
    fnRun Try.prog T_point_Search_Asked cuts_point_Search_Asked_v3 Try.f31 0 [.ptr 0 0] [.box 110 [.ifc 104 (.ptr 1 0), .v (.int .i64 o0), .v (.int .i64 o0_1), .v (.int .i64 o0_2)], .box 106 [.v (.int .i64 o1), .v (.bool o1_1)]] K =
    l_point_Search_Asked_v3 o0 o0_1 o0_2 o1 o1_1 (fun r0 r1 r2 r3 r4 r5 => K (.v (.int .i64 r0)) [.box 110 [.ifc 104 (.ptr 1 0), .v (.int .i64 r1), .v (.int .i64 r2), .v (.int .i64 r3)], .box 106 [.v (.int .i64 r4), .v (.bool r5)]]) := gentry_point_Search_Asked_v3 K o0 o0_1 o0_2 o1 o1_1

def S_point_Search_Asked (l_point_Search_Asked : {R : Type} → (Int → Option R) → Option R) (l_point_Search_Asked_v1 : {R : Type} → Int → Int → Int → (Int → Int → Int → Int → Option R) → Option R) (l_point_Search_Asked_v2 : {R : Type} → Int → Int → Int → (Int → Int → Int → Int → Option R) → Option R) (l_point_Search_Asked_v3 : {R : Type} → Int → Int → Int → Int → Bool → (Int → Int → Int → Int → Int → Bool → Option R) → Option R) : Sum := ⟨[], fun {R} args ob K => match args, ob with
  | [.v (.pointer none)], [] => l_point_Search_Asked  (fun r0 => K (.v (.int .i64 r0)) [])
  | [.ptr 0 0], [.box 110 [.ifc 102 (.agg []), .v (.int .i64 o0), .v (.int .i64 o0_1), .v (.int .i64 o0_2)]] => l_point_Search_Asked_v1 o0 o0_1 o0_2 (fun r0 r1 r2 r3 => K (.v (.int .i64 r0)) [.box 110 [.ifc 102 (.agg []), .v (.int .i64 r1), .v (.int .i64 r2), .v (.int .i64 r3)]])
  | [.ptr 0 0], [.box 110 [.ifc 103 (.agg []), .v (.int .i64 o0), .v (.int .i64 o0_1), .v (.int .i64 o0_2)]] => l_point_Search_Asked_v2 o0 o0_1 o0_2 (fun r0 r1 r2 r3 => K (.v (.int .i64 r0)) [.box 110 [.ifc 103 (.agg []), .v (.int .i64 r1), .v (.int .i64 r2), .v (.int .i64 r3)]])
  | [.ptr 0 0], [.box 110 [.ifc 104 (.ptr 1 0), .v (.int .i64 o0), .v (.int .i64 o0_1), .v (.int .i64 o0_2)], .box 106 [.v (.int .i64 o1), .v (.bool o1_1)]] => l_point_Search_Asked_v3 o0 o0_1 o0_2 o1 o1_1 (fun r0 r1 r2 r3 r4 r5 => K (.v (.int .i64 r0)) [.box 110 [.ifc 104 (.ptr 1 0), .v (.int .i64 r1), .v (.int .i64 r2), .v (.int .i64 r3)], .box 106 [.v (.int .i64 r4), .v (.bool r5)]])
  | _, _ => none⟩

theorem sound_point_Search_Asked : Sound Try.prog 31 (S_point_Search_Asked @l_point_Search_Asked @l_point_Search_Asked_v1 @l_point_Search_Asked_v2 @l_point_Search_Asked_v3) := by
  refine fn_sound (cuts := cuts_point_Search_Asked) (fn := Try.f31) (Γ := T_point_Search_Asked) wide right_T_point_Search_Asked Try.func31 fun {R} K r args ob h => ?_
  unfold S_point_Search_Asked at h
  dsimp only at h
  split at h
  · exact ⟨Nat.le_of_ble_eq_true (by kernel_rfl), 0, (entry_point_Search_Asked K).trans h⟩
  · exact ⟨Nat.le_of_ble_eq_true (by kernel_rfl), 0, (entry_point_Search_Asked_v1 K _ _ _).trans h⟩
  · exact ⟨Nat.le_of_ble_eq_true (by kernel_rfl), 0, (entry_point_Search_Asked_v2 K _ _ _).trans h⟩
  · exact ⟨Nat.le_of_ble_eq_true (by kernel_rfl), 0, (entry_point_Search_Asked_v3 K _ _ _ _ _).trans h⟩
  · cases h

theorem call_point_Search_Asked : Callable Try.prog 31 := ⟨_, Try.func31, by kernel_rfl, by kernel_rfl⟩

def T_tutorlaw12_num : FuncId → Option Sum := G0

theorem right_T_tutorlaw12_num : Right Try.prog T_tutorlaw12_num := right_G0

abbrev cuts_tutorlaw12_num : Cuts := []

theorem gentry_tutorlaw12_num {R : Type} (K : AV → List O → Option R) (e : Int) :
    fnRun Try.prog T_tutorlaw12_num cuts_tutorlaw12_num Try.f26 0 [.v (.int .i64 e)] [] K =
    (fun (e : Int) (K0 : Int → Option R) =>
    K0 e) e (fun r0 => K (.v (.int .i64 r0)) []) := by kernel_rfl

theorem entry_tutorlaw12_num {R : Type} (K : AV → List O → Option R) (e : Int) :
    fnRun Try.prog T_tutorlaw12_num cuts_tutorlaw12_num Try.f26 0 [.v (.int .i64 e)] [] K =
    l_tutorlaw12_num e (fun r0 => K (.v (.int .i64 r0)) []) := gentry_tutorlaw12_num K e

def S_tutorlaw12_num (l_tutorlaw12_num : {R : Type} → Int → (Int → Option R) → Option R) : Sum := ⟨[], fun {R} args ob K => match args, ob with
  | [.v (.int .i64 e)], [] => l_tutorlaw12_num e (fun r0 => K (.v (.int .i64 r0)) [])
  | _, _ => none⟩

theorem sound_tutorlaw12_num : Sound Try.prog 26 (S_tutorlaw12_num @l_tutorlaw12_num) := by
  refine fn_sound (cuts := cuts_tutorlaw12_num) (fn := Try.f26) (Γ := T_tutorlaw12_num) wide right_T_tutorlaw12_num Try.func26 fun {R} K r args ob h => ?_
  unfold S_tutorlaw12_num at h
  dsimp only at h
  split at h
  · exact ⟨Nat.le_of_ble_eq_true (by kernel_rfl), 0, (entry_tutorlaw12_num K _).trans h⟩
  · cases h

theorem call_tutorlaw12_num : Callable Try.prog 26 := ⟨_, Try.func26, by kernel_rfl, by kernel_rfl⟩

def T_point_New : FuncId → Option Sum := G0

theorem right_T_point_New : Right Try.prog T_point_New := right_G0

abbrev cuts_point_New : Cuts := []

theorem gentry_point_New {R : Type} (K : AV → List O → Option R) (how : Int) (n : Int) :
    fnRun Try.prog T_point_New cuts_point_New Try.f24 0 [.v (.int .i64 how), .v (.int .i64 n)] [] K =
    (fun (how : Int) (n : Int) (K0 : Int → Option R) (K1 : Int → Int → Int → Int → Option R) (K2 : Int → Int → Int → Int → Option R) (K3 : Int → Int → Int → Int → Int → Bool → Option R) =>
    bi (how == 1)
     (bi (decide (n < 1))
      (K0 1)
      (bi (decide (n > 4096))
       (K0 3)
       (K1 0 0 n 0)))
     (bi (how == 2)
      (bi (decide (n < 1))
       (K0 1)
       (bi (decide (n > 4096))
        (K0 3)
        (K2 0 0 n 0)))
      (bi (how == 3)
       (bi (decide (n < 1))
        (K0 1)
        (bi (decide (n > 4096))
         (K0 3)
         (K3 0 0 n 0 1 false)))
       (K0 1)))) how n (fun r0 => K (.tup [.v (.pointer none), .v (.int .i64 r0)]) []) (fun r0 r1 r2 r3 => K (.tup [.ptr 0 0, .v (.int .i64 r0)]) [.box 110 [.ifc 102 (.agg []), .v (.int .i64 r1), .v (.int .i64 r2), .v (.int .i64 r3)]]) (fun r0 r1 r2 r3 => K (.tup [.ptr 0 0, .v (.int .i64 r0)]) [.box 110 [.ifc 103 (.agg []), .v (.int .i64 r1), .v (.int .i64 r2), .v (.int .i64 r3)]]) (fun r0 r1 r2 r3 r4 r5 => K (.tup [.ptr 0 0, .v (.int .i64 r0)]) [.box 110 [.ifc 104 (.ptr 1 0), .v (.int .i64 r1), .v (.int .i64 r2), .v (.int .i64 r3)], .box 106 [.v (.int .i64 r4), .v (.bool r5)]]) := by kernel_rfl

theorem entry_point_New {R : Type} (K : AV → List O → Option R) (how : Int) (n : Int) :
    fnRun Try.prog T_point_New cuts_point_New Try.f24 0 [.v (.int .i64 how), .v (.int .i64 n)] [] K =
    l_point_New how n (fun r0 => K (.tup [.v (.pointer none), .v (.int .i64 r0)]) []) (fun r0 r1 r2 r3 => K (.tup [.ptr 0 0, .v (.int .i64 r0)]) [.box 110 [.ifc 102 (.agg []), .v (.int .i64 r1), .v (.int .i64 r2), .v (.int .i64 r3)]]) (fun r0 r1 r2 r3 => K (.tup [.ptr 0 0, .v (.int .i64 r0)]) [.box 110 [.ifc 103 (.agg []), .v (.int .i64 r1), .v (.int .i64 r2), .v (.int .i64 r3)]]) (fun r0 r1 r2 r3 r4 r5 => K (.tup [.ptr 0 0, .v (.int .i64 r0)]) [.box 110 [.ifc 104 (.ptr 1 0), .v (.int .i64 r1), .v (.int .i64 r2), .v (.int .i64 r3)], .box 106 [.v (.int .i64 r4), .v (.bool r5)]]) := gentry_point_New K how n

def S_point_New (l_point_New : {R : Type} → Int → Int → (Int → Option R) → (Int → Int → Int → Int → Option R) → (Int → Int → Int → Int → Option R) → (Int → Int → Int → Int → Int → Bool → Option R) → Option R) : Sum := ⟨[], fun {R} args ob K => match args, ob with
  | [.v (.int .i64 how), .v (.int .i64 n)], [] => l_point_New how n (fun r0 => K (.tup [.v (.pointer none), .v (.int .i64 r0)]) []) (fun r0 r1 r2 r3 => K (.tup [.ptr 0 0, .v (.int .i64 r0)]) [.box 110 [.ifc 102 (.agg []), .v (.int .i64 r1), .v (.int .i64 r2), .v (.int .i64 r3)]]) (fun r0 r1 r2 r3 => K (.tup [.ptr 0 0, .v (.int .i64 r0)]) [.box 110 [.ifc 103 (.agg []), .v (.int .i64 r1), .v (.int .i64 r2), .v (.int .i64 r3)]]) (fun r0 r1 r2 r3 r4 r5 => K (.tup [.ptr 0 0, .v (.int .i64 r0)]) [.box 110 [.ifc 104 (.ptr 1 0), .v (.int .i64 r1), .v (.int .i64 r2), .v (.int .i64 r3)], .box 106 [.v (.int .i64 r4), .v (.bool r5)]])
  | _, _ => none⟩

theorem sound_point_New : Sound Try.prog 24 (S_point_New @l_point_New) := by
  refine fn_sound (cuts := cuts_point_New) (fn := Try.f24) (Γ := T_point_New) wide right_T_point_New Try.func24 fun {R} K r args ob h => ?_
  unfold S_point_New at h
  dsimp only at h
  split at h
  · exact ⟨Nat.le_of_ble_eq_true (by kernel_rfl), 0, (entry_point_New K _ _).trans h⟩
  · cases h

theorem call_point_New : Callable Try.prog 24 := ⟨_, Try.func24, by kernel_rfl, by kernel_rfl⟩

def T_tutorlaw12_live (l_tutorlaw12_num : {R : Type} → Int → (Int → Option R) → Option R) (l_point_Search_Asked : {R : Type} → (Int → Option R) → Option R) (l_point_Search_Asked_v1 : {R : Type} → Int → Int → Int → (Int → Int → Int → Int → Option R) → Option R) (l_point_Search_Asked_v2 : {R : Type} → Int → Int → Int → (Int → Int → Int → Int → Option R) → Option R) (l_point_Search_Asked_v3 : {R : Type} → Int → Int → Int → Int → Bool → (Int → Int → Int → Int → Int → Bool → Option R) → Option R) (l_point_Search_Found : {R : Type} → (Int → Bool → Option R) → Option R) (l_point_Search_Found_v1 : {R : Type} → Int → Int → Int → (Int → Bool → Int → Int → Int → Option R) → Option R) (l_point_Search_Found_v2 : {R : Type} → Int → Int → Int → (Int → Bool → Int → Int → Int → Option R) → Option R) (l_point_Search_Found_v3 : {R : Type} → Int → Int → Int → Int → Bool → (Int → Bool → Int → Int → Int → Int → Bool → Option R) → Option R) (l_point_Search_Tell : {R : Type} → Bool → (Int → Option R) → Option R) (l_point_Search_Tell_v1 : {R : Type} → Bool → Int → Int → Int → (Int → Int → Int → Int → Option R) → Option R) (l_point_Search_Tell_v2 : {R : Type} → Bool → Int → Int → Int → (Int → Int → Int → Int → Option R) → Option R) (l_point_Search_Tell_v3 : {R : Type} → Bool → Int → Int → Int → Int → Bool → (Int → Int → Int → Int → Int → Bool → Option R) → Option R) (l_point_Search_Ask : {R : Type} → (Int → Bool → Option R) → Option R) (l_point_Search_Ask_v1 : {R : Type} → Int → Int → Int → (Int → Bool → Int → Int → Int → Option R) → Option R) (l_point_Search_Ask_v2 : {R : Type} → Int → Int → Int → (Int → Bool → Int → Int → Int → Option R) → Option R) (l_point_Search_Ask_v3 : {R : Type} → Int → Int → Int → Int → Bool → (Int → Bool → Int → Int → Int → Int → Bool → Option R) → Option R) (l_point_New : {R : Type} → Int → Int → (Int → Option R) → (Int → Int → Int → Int → Option R) → (Int → Int → Int → Int → Option R) → (Int → Int → Int → Int → Int → Bool → Option R) → Option R) : FuncId → Option Sum := (addS (addS (addS (addS (addS (addS G0 26 (S_tutorlaw12_num @l_tutorlaw12_num)) 31 (S_point_Search_Asked @l_point_Search_Asked @l_point_Search_Asked_v1 @l_point_Search_Asked_v2 @l_point_Search_Asked_v3)) 30 (S_point_Search_Found @l_point_Search_Found @l_point_Search_Found_v1 @l_point_Search_Found_v2 @l_point_Search_Found_v3)) 32 (S_point_Search_Tell @l_point_Search_Tell @l_point_Search_Tell_v1 @l_point_Search_Tell_v2 @l_point_Search_Tell_v3)) 28 (S_point_Search_Ask @l_point_Search_Ask @l_point_Search_Ask_v1 @l_point_Search_Ask_v2 @l_point_Search_Ask_v3)) 24 (S_point_New @l_point_New))

theorem right_T_tutorlaw12_live : Right Try.prog (T_tutorlaw12_live @l_tutorlaw12_num @l_point_Search_Asked @l_point_Search_Asked_v1 @l_point_Search_Asked_v2 @l_point_Search_Asked_v3 @l_point_Search_Found @l_point_Search_Found_v1 @l_point_Search_Found_v2 @l_point_Search_Found_v3 @l_point_Search_Tell @l_point_Search_Tell_v1 @l_point_Search_Tell_v2 @l_point_Search_Tell_v3 @l_point_Search_Ask @l_point_Search_Ask_v1 @l_point_Search_Ask_v2 @l_point_Search_Ask_v3 @l_point_New) := (right_add (right_add (right_add (right_add (right_add (right_add right_G0 call_tutorlaw12_num sound_tutorlaw12_num) call_point_Search_Asked sound_point_Search_Asked) call_point_Search_Found sound_point_Search_Found) call_point_Search_Tell sound_point_Search_Tell) call_point_Search_Ask sound_point_Search_Ask) call_point_New sound_point_New)

abbrev cuts_tutorlaw12_live : Cuts := []

theorem gentry_tutorlaw12_live (l_tutorlaw12_num : {R : Type} → Int → (Int → Option R) → Option R) (l_point_Search_Asked : {R : Type} → (Int → Option R) → Option R) (l_point_Search_Asked_v1 : {R : Type} → Int → Int → Int → (Int → Int → Int → Int → Option R) → Option R) (l_point_Search_Asked_v2 : {R : Type} → Int → Int → Int → (Int → Int → Int → Int → Option R) → Option R) (l_point_Search_Asked_v3 : {R : Type} → Int → Int → Int → Int → Bool → (Int → Int → Int → Int → Int → Bool → Option R) → Option R) (l_point_Search_Found : {R : Type} → (Int → Bool → Option R) → Option R) (l_point_Search_Found_v1 : {R : Type} → Int → Int → Int → (Int → Bool → Int → Int → Int → Option R) → Option R) (l_point_Search_Found_v2 : {R : Type} → Int → Int → Int → (Int → Bool → Int → Int → Int → Option R) → Option R) (l_point_Search_Found_v3 : {R : Type} → Int → Int → Int → Int → Bool → (Int → Bool → Int → Int → Int → Int → Bool → Option R) → Option R) (l_point_Search_Tell : {R : Type} → Bool → (Int → Option R) → Option R) (l_point_Search_Tell_v1 : {R : Type} → Bool → Int → Int → Int → (Int → Int → Int → Int → Option R) → Option R) (l_point_Search_Tell_v2 : {R : Type} → Bool → Int → Int → Int → (Int → Int → Int → Int → Option R) → Option R) (l_point_Search_Tell_v3 : {R : Type} → Bool → Int → Int → Int → Int → Bool → (Int → Int → Int → Int → Int → Bool → Option R) → Option R) (l_point_Search_Ask : {R : Type} → (Int → Bool → Option R) → Option R) (l_point_Search_Ask_v1 : {R : Type} → Int → Int → Int → (Int → Bool → Int → Int → Int → Option R) → Option R) (l_point_Search_Ask_v2 : {R : Type} → Int → Int → Int → (Int → Bool → Int → Int → Int → Option R) → Option R) (l_point_Search_Ask_v3 : {R : Type} → Int → Int → Int → Int → Bool → (Int → Bool → Int → Int → Int → Int → Bool → Option R) → Option R) (l_point_New : {R : Type} → Int → Int → (Int → Option R) → (Int → Int → Int → Int → Option R) → (Int → Int → Int → Int → Option R) → (Int → Int → Int → Int → Int → Bool → Option R) → Option R) {R : Type} (K : AV → List O → Option R)  :
    fnRun Try.prog (T_tutorlaw12_live @l_tutorlaw12_num @l_point_Search_Asked @l_point_Search_Asked_v1 @l_point_Search_Asked_v2 @l_point_Search_Asked_v3 @l_point_Search_Found @l_point_Search_Found_v1 @l_point_Search_Found_v2 @l_point_Search_Found_v3 @l_point_Search_Tell @l_point_Search_Tell_v1 @l_point_Search_Tell_v2 @l_point_Search_Tell_v3 @l_point_Search_Ask @l_point_Search_Ask_v1 @l_point_Search_Ask_v2 @l_point_Search_Ask_v3 @l_point_New) cuts_tutorlaw12_live Try.f27 0 [] [] K =
    (fun  (K0 : Bool → Option R) =>
    l_point_New 2 8
     (fun r1 =>
      l_tutorlaw12_num r1
       (fun r2 =>
        bi (r2 != 0)
         (K0 false)
         (K0 false)))
     (fun r3 r4 r5 r6 =>
      l_tutorlaw12_num r3
       (fun r7 =>
        bi (r7 != 0)
         (K0 false)
         (l_point_Search_Ask_v1 r4 r5 r6
          (fun r8 r9 r10 r11 r12 =>
           l_point_Search_Tell_v1 true r10 r11 r12
            (fun r13 r14 r15 r16 =>
             l_point_Search_Ask_v1 r14 r15 r16
              (fun r17 r18 r19 r20 r21 =>
               l_point_Search_Tell_v1 false r19 r20 r21
                (fun r22 r23 r24 r25 =>
                 l_point_Search_Ask_v1 r23 r24 r25
                  (fun r26 r27 r28 r29 r30 =>
                   l_point_Search_Tell_v1 false r28 r29 r30
                    (fun r31 r32 r33 r34 =>
                     l_point_Search_Found_v1 r32 r33 r34
                      (fun r35 r36 r37 r38 r39 =>
                       bi (r8 == 4)
                        (bi (r17 == 2)
                         (bi (r26 == 3)
                          (bi (r35 == 3)
                           (bi r36
                            (l_point_Search_Asked_v1 r37 r38 r39
                             (fun r40 r41 r42 r43 =>
                              K0 (r40 == 3)))
                            (K0 false))
                           (K0 false))
                          (K0 false))
                         (K0 false))
                        (K0 false)))))))))))
     (fun r44 r45 r46 r47 =>
      l_tutorlaw12_num r44
       (fun r48 =>
        bi (r48 != 0)
         (K0 false)
         (l_point_Search_Ask_v2 r45 r46 r47
          (fun r49 r50 r51 r52 r53 =>
           l_point_Search_Tell_v2 true r51 r52 r53
            (fun r54 r55 r56 r57 =>
             l_point_Search_Ask_v2 r55 r56 r57
              (fun r58 r59 r60 r61 r62 =>
               l_point_Search_Tell_v2 false r60 r61 r62
                (fun r63 r64 r65 r66 =>
                 l_point_Search_Ask_v2 r64 r65 r66
                  (fun r67 r68 r69 r70 r71 =>
                   l_point_Search_Tell_v2 false r69 r70 r71
                    (fun r72 r73 r74 r75 =>
                     l_point_Search_Found_v2 r73 r74 r75
                      (fun r76 r77 r78 r79 r80 =>
                       bi (r49 == 4)
                        (bi (r58 == 2)
                         (bi (r67 == 3)
                          (bi (r76 == 3)
                           (bi r77
                            (l_point_Search_Asked_v2 r78 r79 r80
                             (fun r81 r82 r83 r84 =>
                              K0 (r81 == 3)))
                            (K0 false))
                           (K0 false))
                          (K0 false))
                         (K0 false))
                        (K0 false)))))))))))
     (fun r85 r86 r87 r88 r89 r90 =>
      l_tutorlaw12_num r85
       (fun r91 =>
        bi (r91 != 0)
         (K0 false)
         (l_point_Search_Ask_v3 r86 r87 r88 r89 r90
          (fun r92 r93 r94 r95 r96 r97 r98 =>
           l_point_Search_Tell_v3 true r94 r95 r96 r97 r98
            (fun r99 r100 r101 r102 r103 r104 =>
             l_point_Search_Ask_v3 r100 r101 r102 r103 r104
              (fun r105 r106 r107 r108 r109 r110 r111 =>
               l_point_Search_Tell_v3 false r107 r108 r109 r110 r111
                (fun r112 r113 r114 r115 r116 r117 =>
                 l_point_Search_Ask_v3 r113 r114 r115 r116 r117
                  (fun r118 r119 r120 r121 r122 r123 r124 =>
                   l_point_Search_Tell_v3 false r120 r121 r122 r123 r124
                    (fun r125 r126 r127 r128 r129 r130 =>
                     l_point_Search_Found_v3 r126 r127 r128 r129 r130
                      (fun r131 r132 r133 r134 r135 r136 r137 =>
                       bi (r92 == 4)
                        (bi (r105 == 2)
                         (bi (r118 == 3)
                          (bi (r131 == 3)
                           (bi r132
                            (l_point_Search_Asked_v3 r133 r134 r135 r136 r137
                             (fun r138 r139 r140 r141 r142 r143 =>
                              K0 (r138 == 3)))
                            (K0 false))
                           (K0 false))
                          (K0 false))
                         (K0 false))
                        (K0 false))))))))))))  (fun r0 => K (.v (.bool r0)) []) := by kernel_rfl

theorem entry_tutorlaw12_live {R : Type} (K : AV → List O → Option R)  :
    fnRun Try.prog (T_tutorlaw12_live @l_tutorlaw12_num @l_point_Search_Asked @l_point_Search_Asked_v1 @l_point_Search_Asked_v2 @l_point_Search_Asked_v3 @l_point_Search_Found @l_point_Search_Found_v1 @l_point_Search_Found_v2 @l_point_Search_Found_v3 @l_point_Search_Tell @l_point_Search_Tell_v1 @l_point_Search_Tell_v2 @l_point_Search_Tell_v3 @l_point_Search_Ask @l_point_Search_Ask_v1 @l_point_Search_Ask_v2 @l_point_Search_Ask_v3 @l_point_New) cuts_tutorlaw12_live Try.f27 0 [] [] K =
    l_tutorlaw12_live  (fun r0 => K (.v (.bool r0)) []) := gentry_tutorlaw12_live @l_tutorlaw12_num @l_point_Search_Asked @l_point_Search_Asked_v1 @l_point_Search_Asked_v2 @l_point_Search_Asked_v3 @l_point_Search_Found @l_point_Search_Found_v1 @l_point_Search_Found_v2 @l_point_Search_Found_v3 @l_point_Search_Tell @l_point_Search_Tell_v1 @l_point_Search_Tell_v2 @l_point_Search_Tell_v3 @l_point_Search_Ask @l_point_Search_Ask_v1 @l_point_Search_Ask_v2 @l_point_Search_Ask_v3 @l_point_New K 

def S_tutorlaw12_live (l_tutorlaw12_live : {R : Type} → (Bool → Option R) → Option R) : Sum := ⟨[], fun {R} args ob K => match args, ob with
  | [], [] => l_tutorlaw12_live  (fun r0 => K (.v (.bool r0)) [])
  | _, _ => none⟩

theorem sound_tutorlaw12_live : Sound Try.prog 27 (S_tutorlaw12_live @l_tutorlaw12_live) := by
  refine fn_sound (cuts := cuts_tutorlaw12_live) (fn := Try.f27) (Γ := (T_tutorlaw12_live @l_tutorlaw12_num @l_point_Search_Asked @l_point_Search_Asked_v1 @l_point_Search_Asked_v2 @l_point_Search_Asked_v3 @l_point_Search_Found @l_point_Search_Found_v1 @l_point_Search_Found_v2 @l_point_Search_Found_v3 @l_point_Search_Tell @l_point_Search_Tell_v1 @l_point_Search_Tell_v2 @l_point_Search_Tell_v3 @l_point_Search_Ask @l_point_Search_Ask_v1 @l_point_Search_Ask_v2 @l_point_Search_Ask_v3 @l_point_New)) wide right_T_tutorlaw12_live Try.func27 fun {R} K r args ob h => ?_
  unfold S_tutorlaw12_live at h
  dsimp only at h
  split at h
  · exact ⟨Nat.le_of_ble_eq_true (by kernel_rfl), 0, (entry_tutorlaw12_live K).trans h⟩
  · cases h

theorem call_tutorlaw12_live : Callable Try.prog 27 := ⟨_, Try.func27, by kernel_rfl, by kernel_rfl⟩

def T_tutorlaw12_PointNils (l_tutorlaw12_live : {R : Type} → (Bool → Option R) → Option R) (l_tutorlaw12_num : {R : Type} → Int → (Int → Option R) → Option R) (l_point_Search_Asked : {R : Type} → (Int → Option R) → Option R) (l_point_Search_Asked_v1 : {R : Type} → Int → Int → Int → (Int → Int → Int → Int → Option R) → Option R) (l_point_Search_Asked_v2 : {R : Type} → Int → Int → Int → (Int → Int → Int → Int → Option R) → Option R) (l_point_Search_Asked_v3 : {R : Type} → Int → Int → Int → Int → Bool → (Int → Int → Int → Int → Int → Bool → Option R) → Option R) (l_point_Search_Found : {R : Type} → (Int → Bool → Option R) → Option R) (l_point_Search_Found_v1 : {R : Type} → Int → Int → Int → (Int → Bool → Int → Int → Int → Option R) → Option R) (l_point_Search_Found_v2 : {R : Type} → Int → Int → Int → (Int → Bool → Int → Int → Int → Option R) → Option R) (l_point_Search_Found_v3 : {R : Type} → Int → Int → Int → Int → Bool → (Int → Bool → Int → Int → Int → Int → Bool → Option R) → Option R) (l_point_Search_Tell : {R : Type} → Bool → (Int → Option R) → Option R) (l_point_Search_Tell_v1 : {R : Type} → Bool → Int → Int → Int → (Int → Int → Int → Int → Option R) → Option R) (l_point_Search_Tell_v2 : {R : Type} → Bool → Int → Int → Int → (Int → Int → Int → Int → Option R) → Option R) (l_point_Search_Tell_v3 : {R : Type} → Bool → Int → Int → Int → Int → Bool → (Int → Int → Int → Int → Int → Bool → Option R) → Option R) (l_point_Search_Ask : {R : Type} → (Int → Bool → Option R) → Option R) (l_point_Search_Ask_v1 : {R : Type} → Int → Int → Int → (Int → Bool → Int → Int → Int → Option R) → Option R) (l_point_Search_Ask_v2 : {R : Type} → Int → Int → Int → (Int → Bool → Int → Int → Int → Option R) → Option R) (l_point_Search_Ask_v3 : {R : Type} → Int → Int → Int → Int → Bool → (Int → Bool → Int → Int → Int → Int → Bool → Option R) → Option R) : FuncId → Option Sum := (addS (addS (addS (addS (addS (addS G0 27 (S_tutorlaw12_live @l_tutorlaw12_live)) 26 (S_tutorlaw12_num @l_tutorlaw12_num)) 31 (S_point_Search_Asked @l_point_Search_Asked @l_point_Search_Asked_v1 @l_point_Search_Asked_v2 @l_point_Search_Asked_v3)) 30 (S_point_Search_Found @l_point_Search_Found @l_point_Search_Found_v1 @l_point_Search_Found_v2 @l_point_Search_Found_v3)) 32 (S_point_Search_Tell @l_point_Search_Tell @l_point_Search_Tell_v1 @l_point_Search_Tell_v2 @l_point_Search_Tell_v3)) 28 (S_point_Search_Ask @l_point_Search_Ask @l_point_Search_Ask_v1 @l_point_Search_Ask_v2 @l_point_Search_Ask_v3))

theorem right_T_tutorlaw12_PointNils : Right Try.prog (T_tutorlaw12_PointNils @l_tutorlaw12_live @l_tutorlaw12_num @l_point_Search_Asked @l_point_Search_Asked_v1 @l_point_Search_Asked_v2 @l_point_Search_Asked_v3 @l_point_Search_Found @l_point_Search_Found_v1 @l_point_Search_Found_v2 @l_point_Search_Found_v3 @l_point_Search_Tell @l_point_Search_Tell_v1 @l_point_Search_Tell_v2 @l_point_Search_Tell_v3 @l_point_Search_Ask @l_point_Search_Ask_v1 @l_point_Search_Ask_v2 @l_point_Search_Ask_v3) := (right_add (right_add (right_add (right_add (right_add (right_add right_G0 call_tutorlaw12_live sound_tutorlaw12_live) call_tutorlaw12_num sound_tutorlaw12_num) call_point_Search_Asked sound_point_Search_Asked) call_point_Search_Found sound_point_Search_Found) call_point_Search_Tell sound_point_Search_Tell) call_point_Search_Ask sound_point_Search_Ask)

abbrev cuts_tutorlaw12_PointNils : Cuts := []

theorem gentry_tutorlaw12_PointNils (l_tutorlaw12_live : {R : Type} → (Bool → Option R) → Option R) (l_tutorlaw12_num : {R : Type} → Int → (Int → Option R) → Option R) (l_point_Search_Asked : {R : Type} → (Int → Option R) → Option R) (l_point_Search_Asked_v1 : {R : Type} → Int → Int → Int → (Int → Int → Int → Int → Option R) → Option R) (l_point_Search_Asked_v2 : {R : Type} → Int → Int → Int → (Int → Int → Int → Int → Option R) → Option R) (l_point_Search_Asked_v3 : {R : Type} → Int → Int → Int → Int → Bool → (Int → Int → Int → Int → Int → Bool → Option R) → Option R) (l_point_Search_Found : {R : Type} → (Int → Bool → Option R) → Option R) (l_point_Search_Found_v1 : {R : Type} → Int → Int → Int → (Int → Bool → Int → Int → Int → Option R) → Option R) (l_point_Search_Found_v2 : {R : Type} → Int → Int → Int → (Int → Bool → Int → Int → Int → Option R) → Option R) (l_point_Search_Found_v3 : {R : Type} → Int → Int → Int → Int → Bool → (Int → Bool → Int → Int → Int → Int → Bool → Option R) → Option R) (l_point_Search_Tell : {R : Type} → Bool → (Int → Option R) → Option R) (l_point_Search_Tell_v1 : {R : Type} → Bool → Int → Int → Int → (Int → Int → Int → Int → Option R) → Option R) (l_point_Search_Tell_v2 : {R : Type} → Bool → Int → Int → Int → (Int → Int → Int → Int → Option R) → Option R) (l_point_Search_Tell_v3 : {R : Type} → Bool → Int → Int → Int → Int → Bool → (Int → Int → Int → Int → Int → Bool → Option R) → Option R) (l_point_Search_Ask : {R : Type} → (Int → Bool → Option R) → Option R) (l_point_Search_Ask_v1 : {R : Type} → Int → Int → Int → (Int → Bool → Int → Int → Int → Option R) → Option R) (l_point_Search_Ask_v2 : {R : Type} → Int → Int → Int → (Int → Bool → Int → Int → Int → Option R) → Option R) (l_point_Search_Ask_v3 : {R : Type} → Int → Int → Int → Int → Bool → (Int → Bool → Int → Int → Int → Int → Bool → Option R) → Option R) {R : Type} (K : AV → List O → Option R) (v : Bool) :
    fnRun Try.prog (T_tutorlaw12_PointNils @l_tutorlaw12_live @l_tutorlaw12_num @l_point_Search_Asked @l_point_Search_Asked_v1 @l_point_Search_Asked_v2 @l_point_Search_Asked_v3 @l_point_Search_Found @l_point_Search_Found_v1 @l_point_Search_Found_v2 @l_point_Search_Found_v3 @l_point_Search_Tell @l_point_Search_Tell_v1 @l_point_Search_Tell_v2 @l_point_Search_Tell_v3 @l_point_Search_Ask @l_point_Search_Ask_v1 @l_point_Search_Ask_v2 @l_point_Search_Ask_v3) cuts_tutorlaw12_PointNils Try.f5 0 [.v (.bool v)] [] K =
    (fun (v : Bool) (K0 : Bool → Option R) =>
    l_point_Search_Ask
     (fun r1 r2 =>
      l_point_Search_Tell v
       (fun r3 =>
        l_point_Search_Found
         (fun r4 r5 =>
          l_point_Search_Asked
           (fun r6 =>
            bi ((IntKind.i64.wrap ((IntKind.i64.wrap (r1 + r4)) + r6)) == 0)
             (bi (!r2)
              (bi (!r5)
               (l_tutorlaw12_num r3
                (fun r7 =>
                 bi (r7 == 5)
                  (l_tutorlaw12_live
                   (fun r8 =>
                    K0 r8))
                  (K0 false)))
               (K0 false))
              (K0 false))
             (K0 false)))))) v (fun r0 => K (.v (.bool r0)) []) := by kernel_rfl

theorem entry_tutorlaw12_PointNils {R : Type} (K : AV → List O → Option R) (v : Bool) :
    fnRun Try.prog (T_tutorlaw12_PointNils @l_tutorlaw12_live @l_tutorlaw12_num @l_point_Search_Asked @l_point_Search_Asked_v1 @l_point_Search_Asked_v2 @l_point_Search_Asked_v3 @l_point_Search_Found @l_point_Search_Found_v1 @l_point_Search_Found_v2 @l_point_Search_Found_v3 @l_point_Search_Tell @l_point_Search_Tell_v1 @l_point_Search_Tell_v2 @l_point_Search_Tell_v3 @l_point_Search_Ask @l_point_Search_Ask_v1 @l_point_Search_Ask_v2 @l_point_Search_Ask_v3) cuts_tutorlaw12_PointNils Try.f5 0 [.v (.bool v)] [] K =
    l_tutorlaw12_PointNils v (fun r0 => K (.v (.bool r0)) []) := gentry_tutorlaw12_PointNils @l_tutorlaw12_live @l_tutorlaw12_num @l_point_Search_Asked @l_point_Search_Asked_v1 @l_point_Search_Asked_v2 @l_point_Search_Asked_v3 @l_point_Search_Found @l_point_Search_Found_v1 @l_point_Search_Found_v2 @l_point_Search_Found_v3 @l_point_Search_Tell @l_point_Search_Tell_v1 @l_point_Search_Tell_v2 @l_point_Search_Tell_v3 @l_point_Search_Ask @l_point_Search_Ask_v1 @l_point_Search_Ask_v2 @l_point_Search_Ask_v3 K v

def S_tutorlaw12_PointNils (l_tutorlaw12_PointNils : {R : Type} → Bool → (Bool → Option R) → Option R) : Sum := ⟨[], fun {R} args ob K => match args, ob with
  | [.v (.bool v)], [] => l_tutorlaw12_PointNils v (fun r0 => K (.v (.bool r0)) [])
  | _, _ => none⟩

theorem sound_tutorlaw12_PointNils : Sound Try.prog 5 (S_tutorlaw12_PointNils @l_tutorlaw12_PointNils) := by
  refine fn_sound (cuts := cuts_tutorlaw12_PointNils) (fn := Try.f5) (Γ := (T_tutorlaw12_PointNils @l_tutorlaw12_live @l_tutorlaw12_num @l_point_Search_Asked @l_point_Search_Asked_v1 @l_point_Search_Asked_v2 @l_point_Search_Asked_v3 @l_point_Search_Found @l_point_Search_Found_v1 @l_point_Search_Found_v2 @l_point_Search_Found_v3 @l_point_Search_Tell @l_point_Search_Tell_v1 @l_point_Search_Tell_v2 @l_point_Search_Tell_v3 @l_point_Search_Ask @l_point_Search_Ask_v1 @l_point_Search_Ask_v2 @l_point_Search_Ask_v3)) wide right_T_tutorlaw12_PointNils Try.func5 fun {R} K r args ob h => ?_
  unfold S_tutorlaw12_PointNils at h
  dsimp only at h
  split at h
  · exact ⟨Nat.le_of_ble_eq_true (by kernel_rfl), 0, (entry_tutorlaw12_PointNils K _).trans h⟩
  · cases h

theorem call_tutorlaw12_PointNils : Callable Try.prog 5 := ⟨_, Try.func5, by kernel_rfl, by kernel_rfl⟩

end Go.Ev
