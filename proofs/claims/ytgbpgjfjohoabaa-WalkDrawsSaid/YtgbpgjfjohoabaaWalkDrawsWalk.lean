/- Each function of the program is its tree. -/
import Derived.Test.YtgbpgjfjohoabaaProg
import Derived.Test.YtgbpgjfjohoabaaEvFn
import Derived.Test.YtgbpgjfjohoabaaWalkDrawsPure
namespace Go.Ev
open Go.Proofs
set_option linter.unusedVariables false
set_option linter.unusedSimpArgs false
set_option maxRecDepth 100000
set_option maxHeartbeats 4000000

theorem wide : Tables.follows Try.prog.toTables .mixedOrders = true := by kernel_rfl

def G0 : FuncId → Option Sum := fun _ => none
theorem right_G0 : Right Try.prog G0 := fun f S h => by cases h

def T_walk_New : FuncId → Option Sum := G0

theorem right_T_walk_New : Right Try.prog T_walk_New := right_G0

abbrev cuts_walk_New : Cuts := []

theorem gentry_walk_New {R : Type} (K : AV → List O → Option R) (seed : Int) :
    fnRun Try.prog T_walk_New cuts_walk_New Try.f16 0 [.v (.int .u64 seed)] [] K =
    (fun (seed : Int) (K0 : Int → Option R) =>
    bi (seed == 0)
     (K0 88172645463325252)
     (K0 seed)) seed (fun r0 => K (.ptr 0 0) [.box 94 [.v (.int .u64 r0)]]) := by kernel_rfl

theorem entry_walk_New {R : Type} (K : AV → List O → Option R) (seed : Int) :
    fnRun Try.prog T_walk_New cuts_walk_New Try.f16 0 [.v (.int .u64 seed)] [] K =
    l_walk_New seed (fun r0 => K (.ptr 0 0) [.box 94 [.v (.int .u64 r0)]]) := gentry_walk_New K seed

def S_walk_New (l_walk_New : {R : Type} → Int → (Int → Option R) → Option R) : Sum := ⟨[], fun {R} args ob K => match args, ob with
  | [.v (.int .u64 seed)], [] => l_walk_New seed (fun r0 => K (.ptr 0 0) [.box 94 [.v (.int .u64 r0)]])
  | _, _ => none⟩

theorem sound_walk_New : Sound Try.prog 16 (S_walk_New @l_walk_New) := by
  refine fn_sound (cuts := cuts_walk_New) (fn := Try.f16) (Γ := T_walk_New) wide right_T_walk_New Try.func16 fun {R} K r args ob h => ?_
  unfold S_walk_New at h
  dsimp only at h
  split at h
  · exact ⟨Nat.le_of_ble_eq_true (by kernel_rfl), 0, (entry_walk_New K _).trans h⟩
  · cases h

theorem call_walk_New : Callable Try.prog 16 := ⟨_, Try.func16, by kernel_rfl, by kernel_rfl⟩

def T_tutorref21_Int : FuncId → Option Sum := G0

theorem right_T_tutorref21_Int : Right Try.prog T_tutorref21_Int := right_G0

abbrev cuts_tutorref21_Int : Cuts := []

theorem gentry_tutorref21_Int {R : Type} (K : AV → List O → Option R) (x : Int) (n : Int) :
    fnRun Try.prog T_tutorref21_Int cuts_tutorref21_Int Try.f18 0 [.v (.int .u64 x), .v (.int .i64 n)] [] K =
    (fun (x : Int) (n : Int) (K0 : Int → Int → Option R) =>
    bi (decide (n < 1))
     (K0 0 x)
     (bi (decide ((IntKind.u64.wrap n) = 0))
      none
      (K0 (IntKind.i64.wrap (((IntKind.u64.wrap ((IntKind.u64.wrap (BitVec.ofInt 64 (IntKind.u64.wrap (BitVec.ofInt 64 (IntKind.u64.wrap (BitVec.ofInt 64 x ^^^ BitVec.ofInt 64 (x.fdiv (2 ^ (min (12 : Int).toNat 64)))).toNat) ^^^ BitVec.ofInt 64 (IntKind.u64.wrap ((IntKind.u64.wrap (BitVec.ofInt 64 x ^^^ BitVec.ofInt 64 (x.fdiv (2 ^ (min (12 : Int).toNat 64)))).toNat) * 2 ^ (min (25 : Int).toNat 64)))).toNat) ^^^ BitVec.ofInt 64 ((IntKind.u64.wrap (BitVec.ofInt 64 (IntKind.u64.wrap (BitVec.ofInt 64 x ^^^ BitVec.ofInt 64 (x.fdiv (2 ^ (min (12 : Int).toNat 64)))).toNat) ^^^ BitVec.ofInt 64 (IntKind.u64.wrap ((IntKind.u64.wrap (BitVec.ofInt 64 x ^^^ BitVec.ofInt 64 (x.fdiv (2 ^ (min (12 : Int).toNat 64)))).toNat) * 2 ^ (min (25 : Int).toNat 64)))).toNat).fdiv (2 ^ (min (27 : Int).toNat 64)))).toNat) * 2685821657736338717)).fdiv (2 ^ (min (33 : Int).toNat 64))).tmod (IntKind.u64.wrap n))) (IntKind.u64.wrap (BitVec.ofInt 64 (IntKind.u64.wrap (BitVec.ofInt 64 (IntKind.u64.wrap (BitVec.ofInt 64 x ^^^ BitVec.ofInt 64 (x.fdiv (2 ^ (min (12 : Int).toNat 64)))).toNat) ^^^ BitVec.ofInt 64 (IntKind.u64.wrap ((IntKind.u64.wrap (BitVec.ofInt 64 x ^^^ BitVec.ofInt 64 (x.fdiv (2 ^ (min (12 : Int).toNat 64)))).toNat) * 2 ^ (min (25 : Int).toNat 64)))).toNat) ^^^ BitVec.ofInt 64 ((IntKind.u64.wrap (BitVec.ofInt 64 (IntKind.u64.wrap (BitVec.ofInt 64 x ^^^ BitVec.ofInt 64 (x.fdiv (2 ^ (min (12 : Int).toNat 64)))).toNat) ^^^ BitVec.ofInt 64 (IntKind.u64.wrap ((IntKind.u64.wrap (BitVec.ofInt 64 x ^^^ BitVec.ofInt 64 (x.fdiv (2 ^ (min (12 : Int).toNat 64)))).toNat) * 2 ^ (min (25 : Int).toNat 64)))).toNat).fdiv (2 ^ (min (27 : Int).toNat 64)))).toNat)))) x n (fun r0 r1 => K (.tup [.v (.int .i64 r0), .v (.int .u64 r1)]) []) := by kernel_rfl

theorem entry_tutorref21_Int {R : Type} (K : AV → List O → Option R) (x : Int) (n : Int) :
    fnRun Try.prog T_tutorref21_Int cuts_tutorref21_Int Try.f18 0 [.v (.int .u64 x), .v (.int .i64 n)] [] K =
    l_tutorref21_Int x n (fun r0 r1 => K (.tup [.v (.int .i64 r0), .v (.int .u64 r1)]) []) := gentry_tutorref21_Int K x n

def S_tutorref21_Int (l_tutorref21_Int : {R : Type} → Int → Int → (Int → Int → Option R) → Option R) : Sum := ⟨[], fun {R} args ob K => match args, ob with
  | [.v (.int .u64 x), .v (.int .i64 n)], [] => l_tutorref21_Int x n (fun r0 r1 => K (.tup [.v (.int .i64 r0), .v (.int .u64 r1)]) [])
  | _, _ => none⟩

theorem sound_tutorref21_Int : Sound Try.prog 18 (S_tutorref21_Int @l_tutorref21_Int) := by
  refine fn_sound (cuts := cuts_tutorref21_Int) (fn := Try.f18) (Γ := T_tutorref21_Int) wide right_T_tutorref21_Int Try.func18 fun {R} K r args ob h => ?_
  unfold S_tutorref21_Int at h
  dsimp only at h
  split at h
  · exact ⟨Nat.le_of_ble_eq_true (by kernel_rfl), 0, (entry_tutorref21_Int K _ _).trans h⟩
  · cases h

theorem call_tutorref21_Int : Callable Try.prog 18 := ⟨_, Try.func18, by kernel_rfl, by kernel_rfl⟩

def T_walk_source_draw : FuncId → Option Sum := G0

theorem right_T_walk_source_draw : Right Try.prog T_walk_source_draw := right_G0

abbrev cuts_walk_source_draw : Cuts := []

theorem gentry_walk_source_draw {R : Type} (K : AV → List O → Option R) (o0 : Int) :
    fnRun Try.prog T_walk_source_draw cuts_walk_source_draw Try.f55 0 [.ptr 0 0] [.box 94 [.v (.int .u64 o0)]] K =
    (fun (o0 : Int) (K0 : Int → Int → Option R) =>
    K0 ((IntKind.u64.wrap ((IntKind.u64.wrap (BitVec.ofInt 64 (IntKind.u64.wrap (BitVec.ofInt 64 (IntKind.u64.wrap (BitVec.ofInt 64 o0 ^^^ BitVec.ofInt 64 (o0.fdiv (2 ^ (min (12 : Int).toNat 64)))).toNat) ^^^ BitVec.ofInt 64 (IntKind.u64.wrap ((IntKind.u64.wrap (BitVec.ofInt 64 o0 ^^^ BitVec.ofInt 64 (o0.fdiv (2 ^ (min (12 : Int).toNat 64)))).toNat) * 2 ^ (min (25 : Int).toNat 64)))).toNat) ^^^ BitVec.ofInt 64 ((IntKind.u64.wrap (BitVec.ofInt 64 (IntKind.u64.wrap (BitVec.ofInt 64 o0 ^^^ BitVec.ofInt 64 (o0.fdiv (2 ^ (min (12 : Int).toNat 64)))).toNat) ^^^ BitVec.ofInt 64 (IntKind.u64.wrap ((IntKind.u64.wrap (BitVec.ofInt 64 o0 ^^^ BitVec.ofInt 64 (o0.fdiv (2 ^ (min (12 : Int).toNat 64)))).toNat) * 2 ^ (min (25 : Int).toNat 64)))).toNat).fdiv (2 ^ (min (27 : Int).toNat 64)))).toNat) * 2685821657736338717)).fdiv (2 ^ (min (33 : Int).toNat 64))) (IntKind.u64.wrap (BitVec.ofInt 64 (IntKind.u64.wrap (BitVec.ofInt 64 (IntKind.u64.wrap (BitVec.ofInt 64 o0 ^^^ BitVec.ofInt 64 (o0.fdiv (2 ^ (min (12 : Int).toNat 64)))).toNat) ^^^ BitVec.ofInt 64 (IntKind.u64.wrap ((IntKind.u64.wrap (BitVec.ofInt 64 o0 ^^^ BitVec.ofInt 64 (o0.fdiv (2 ^ (min (12 : Int).toNat 64)))).toNat) * 2 ^ (min (25 : Int).toNat 64)))).toNat) ^^^ BitVec.ofInt 64 ((IntKind.u64.wrap (BitVec.ofInt 64 (IntKind.u64.wrap (BitVec.ofInt 64 o0 ^^^ BitVec.ofInt 64 (o0.fdiv (2 ^ (min (12 : Int).toNat 64)))).toNat) ^^^ BitVec.ofInt 64 (IntKind.u64.wrap ((IntKind.u64.wrap (BitVec.ofInt 64 o0 ^^^ BitVec.ofInt 64 (o0.fdiv (2 ^ (min (12 : Int).toNat 64)))).toNat) * 2 ^ (min (25 : Int).toNat 64)))).toNat).fdiv (2 ^ (min (27 : Int).toNat 64)))).toNat)) o0 (fun r0 r1 => K (.v (.int .u64 r0)) [.box 94 [.v (.int .u64 r1)]]) := by kernel_rfl

theorem entry_walk_source_draw {R : Type} (K : AV → List O → Option R) (o0 : Int) :
    fnRun Try.prog T_walk_source_draw cuts_walk_source_draw Try.f55 0 [.ptr 0 0] [.box 94 [.v (.int .u64 o0)]] K =
    l_walk_source_draw o0 (fun r0 r1 => K (.v (.int .u64 r0)) [.box 94 [.v (.int .u64 r1)]]) := gentry_walk_source_draw K o0

def S_walk_source_draw (l_walk_source_draw : {R : Type} → Int → (Int → Int → Option R) → Option R) : Sum := ⟨[], fun {R} args ob K => match args, ob with
  | [.ptr 0 0], [.box 94 [.v (.int .u64 o0)]] => l_walk_source_draw o0 (fun r0 r1 => K (.v (.int .u64 r0)) [.box 94 [.v (.int .u64 r1)]])
  | _, _ => none⟩

theorem sound_walk_source_draw : Sound Try.prog 55 (S_walk_source_draw @l_walk_source_draw) := by
  refine fn_sound (cuts := cuts_walk_source_draw) (fn := Try.f55) (Γ := T_walk_source_draw) wide right_T_walk_source_draw Try.func55 fun {R} K r args ob h => ?_
  unfold S_walk_source_draw at h
  dsimp only at h
  split at h
  · exact ⟨Nat.le_of_ble_eq_true (by kernel_rfl), 0, (entry_walk_source_draw K _).trans h⟩
  · cases h

theorem call_walk_source_draw : Callable Try.prog 55 := ⟨_, Try.func55, by kernel_rfl, by kernel_rfl⟩

def T_walk_Walk_Int (l_walk_source_draw : {R : Type} → Int → (Int → Int → Option R) → Option R) : FuncId → Option Sum := (addS G0 55 (S_walk_source_draw @l_walk_source_draw))

theorem right_T_walk_Walk_Int : Right Try.prog (T_walk_Walk_Int @l_walk_source_draw) := (right_add right_G0 call_walk_source_draw sound_walk_source_draw)

abbrev cuts_walk_Walk_Int : Cuts := []

theorem gentry_walk_Walk_Int (l_walk_source_draw : {R : Type} → Int → (Int → Int → Option R) → Option R) {R : Type} (K : AV → List O → Option R) (n : Int) (o0 : Int) :
    fnRun Try.prog (T_walk_Walk_Int @l_walk_source_draw) cuts_walk_Walk_Int Try.f19 0 [.ptr 0 0, .v (.int .i64 n)] [.box 94 [.v (.int .u64 o0)]] K =
    (fun (n : Int) (o0 : Int) (K0 : Int → Int → Option R) =>
    bi (decide (n < 1))
     (K0 0 o0)
     (l_walk_source_draw o0
      (fun r1 r2 =>
       bi (decide ((IntKind.u64.wrap n) = 0))
        none
        (K0 (IntKind.i64.wrap (r1.tmod (IntKind.u64.wrap n))) r2)))) n o0 (fun r0 r1 => K (.v (.int .i64 r0)) [.box 94 [.v (.int .u64 r1)]]) := by kernel_rfl

theorem entry_walk_Walk_Int {R : Type} (K : AV → List O → Option R) (n : Int) (o0 : Int) :
    fnRun Try.prog (T_walk_Walk_Int @l_walk_source_draw) cuts_walk_Walk_Int Try.f19 0 [.ptr 0 0, .v (.int .i64 n)] [.box 94 [.v (.int .u64 o0)]] K =
    l_walk_Walk_Int n o0 (fun r0 r1 => K (.v (.int .i64 r0)) [.box 94 [.v (.int .u64 r1)]]) := gentry_walk_Walk_Int @l_walk_source_draw K n o0

abbrev cuts_walk_Walk_Int_v1 : Cuts := []

theorem gentry_walk_Walk_Int_v1 (l_walk_source_draw : {R : Type} → Int → (Int → Int → Option R) → Option R) {R : Type} (K : AV → List O → Option R) (n : Int) :
    fnRun Try.prog (T_walk_Walk_Int @l_walk_source_draw) cuts_walk_Walk_Int_v1 Try.f19 0 [.v (.pointer none), .v (.int .i64 n)] [] K =
    (fun (n : Int) (K0 : Int → Option R) =>
    K0 0) n (fun r0 => K (.v (.int .i64 r0)) []) := by kernel_rfl

theorem entry_walk_Walk_Int_v1 {R : Type} (K : AV → List O → Option R) (n : Int) :
    fnRun Try.prog (T_walk_Walk_Int @l_walk_source_draw) cuts_walk_Walk_Int_v1 Try.f19 0 [.v (.pointer none), .v (.int .i64 n)] [] K =
    l_walk_Walk_Int_v1 n (fun r0 => K (.v (.int .i64 r0)) []) := gentry_walk_Walk_Int_v1 @l_walk_source_draw K n

def S_walk_Walk_Int (l_walk_Walk_Int : {R : Type} → Int → Int → (Int → Int → Option R) → Option R) (l_walk_Walk_Int_v1 : {R : Type} → Int → (Int → Option R) → Option R) : Sum := ⟨[], fun {R} args ob K => match args, ob with
  | [.ptr 0 0, .v (.int .i64 n)], [.box 94 [.v (.int .u64 o0)]] => l_walk_Walk_Int n o0 (fun r0 r1 => K (.v (.int .i64 r0)) [.box 94 [.v (.int .u64 r1)]])
  | [.v (.pointer none), .v (.int .i64 n)], [] => l_walk_Walk_Int_v1 n (fun r0 => K (.v (.int .i64 r0)) [])
  | _, _ => none⟩

theorem sound_walk_Walk_Int : Sound Try.prog 19 (S_walk_Walk_Int @l_walk_Walk_Int @l_walk_Walk_Int_v1) := by
  refine fn_sound (cuts := cuts_walk_Walk_Int) (fn := Try.f19) (Γ := (T_walk_Walk_Int @l_walk_source_draw)) wide right_T_walk_Walk_Int Try.func19 fun {R} K r args ob h => ?_
  unfold S_walk_Walk_Int at h
  dsimp only at h
  split at h
  · exact ⟨Nat.le_of_ble_eq_true (by kernel_rfl), 0, (entry_walk_Walk_Int K _ _).trans h⟩
  · exact ⟨Nat.le_of_ble_eq_true (by kernel_rfl), 0, (entry_walk_Walk_Int_v1 K _).trans h⟩
  · cases h

theorem call_walk_Walk_Int : Callable Try.prog 19 := ⟨_, Try.func19, by kernel_rfl, by kernel_rfl⟩

def T_tutorlaw21_live (l_walk_Walk_Int : {R : Type} → Int → Int → (Int → Int → Option R) → Option R) (l_walk_Walk_Int_v1 : {R : Type} → Int → (Int → Option R) → Option R) (l_tutorref21_Int : {R : Type} → Int → Int → (Int → Int → Option R) → Option R) (l_walk_New : {R : Type} → Int → (Int → Option R) → Option R) : FuncId → Option Sum := (addS (addS (addS G0 19 (S_walk_Walk_Int @l_walk_Walk_Int @l_walk_Walk_Int_v1)) 18 (S_tutorref21_Int @l_tutorref21_Int)) 16 (S_walk_New @l_walk_New))

theorem right_T_tutorlaw21_live : Right Try.prog (T_tutorlaw21_live @l_walk_Walk_Int @l_walk_Walk_Int_v1 @l_tutorref21_Int @l_walk_New) := (right_add (right_add (right_add right_G0 call_walk_Walk_Int sound_walk_Walk_Int) call_tutorref21_Int sound_tutorref21_Int) call_walk_New sound_walk_New)

abbrev cuts_tutorlaw21_live : Cuts := []

theorem gentry_tutorlaw21_live (l_walk_Walk_Int : {R : Type} → Int → Int → (Int → Int → Option R) → Option R) (l_walk_Walk_Int_v1 : {R : Type} → Int → (Int → Option R) → Option R) (l_tutorref21_Int : {R : Type} → Int → Int → (Int → Int → Option R) → Option R) (l_walk_New : {R : Type} → Int → (Int → Option R) → Option R) {R : Type} (K : AV → List O → Option R)  :
    fnRun Try.prog (T_tutorlaw21_live @l_walk_Walk_Int @l_walk_Walk_Int_v1 @l_tutorref21_Int @l_walk_New) cuts_tutorlaw21_live Try.f15 0 [] [] K =
    (fun  (K0 : Bool → Option R) =>
    l_walk_New 1
     (fun r1 =>
      l_tutorref21_Int 1 1000
       (fun r2 r3 =>
        l_tutorref21_Int r3 1000
         (fun r4 r5 =>
          l_walk_Walk_Int 1000 r1
           (fun r6 r7 =>
            bi (r6 == r2)
             (l_walk_Walk_Int 1000 r7
              (fun r8 r9 =>
               bi (r8 == r4)
                (K0 (r2 != r4))
                (K0 false)))
             (K0 false))))))  (fun r0 => K (.v (.bool r0)) []) := by kernel_rfl

theorem entry_tutorlaw21_live {R : Type} (K : AV → List O → Option R)  :
    fnRun Try.prog (T_tutorlaw21_live @l_walk_Walk_Int @l_walk_Walk_Int_v1 @l_tutorref21_Int @l_walk_New) cuts_tutorlaw21_live Try.f15 0 [] [] K =
    l_tutorlaw21_live  (fun r0 => K (.v (.bool r0)) []) := gentry_tutorlaw21_live @l_walk_Walk_Int @l_walk_Walk_Int_v1 @l_tutorref21_Int @l_walk_New K 

def S_tutorlaw21_live (l_tutorlaw21_live : {R : Type} → (Bool → Option R) → Option R) : Sum := ⟨[], fun {R} args ob K => match args, ob with
  | [], [] => l_tutorlaw21_live  (fun r0 => K (.v (.bool r0)) [])
  | _, _ => none⟩

theorem sound_tutorlaw21_live : Sound Try.prog 15 (S_tutorlaw21_live @l_tutorlaw21_live) := by
  refine fn_sound (cuts := cuts_tutorlaw21_live) (fn := Try.f15) (Γ := (T_tutorlaw21_live @l_walk_Walk_Int @l_walk_Walk_Int_v1 @l_tutorref21_Int @l_walk_New)) wide right_T_tutorlaw21_live Try.func15 fun {R} K r args ob h => ?_
  unfold S_tutorlaw21_live at h
  dsimp only at h
  split at h
  · exact ⟨Nat.le_of_ble_eq_true (by kernel_rfl), 0, (entry_tutorlaw21_live K).trans h⟩
  · cases h

theorem call_tutorlaw21_live : Callable Try.prog 15 := ⟨_, Try.func15, by kernel_rfl, by kernel_rfl⟩

def T_tutorref21_Start : FuncId → Option Sum := G0

theorem right_T_tutorref21_Start : Right Try.prog T_tutorref21_Start := right_G0

abbrev cuts_tutorref21_Start : Cuts := []

theorem gentry_tutorref21_Start {R : Type} (K : AV → List O → Option R) (seed : Int) :
    fnRun Try.prog T_tutorref21_Start cuts_tutorref21_Start Try.f17 0 [.v (.int .u64 seed)] [] K =
    (fun (seed : Int) (K0 : Int → Option R) =>
    bi (seed == 0)
     (K0 88172645463325252)
     (K0 seed)) seed (fun r0 => K (.v (.int .u64 r0)) []) := by kernel_rfl

theorem entry_tutorref21_Start {R : Type} (K : AV → List O → Option R) (seed : Int) :
    fnRun Try.prog T_tutorref21_Start cuts_tutorref21_Start Try.f17 0 [.v (.int .u64 seed)] [] K =
    l_tutorref21_Start seed (fun r0 => K (.v (.int .u64 r0)) []) := gentry_tutorref21_Start K seed

def S_tutorref21_Start (l_tutorref21_Start : {R : Type} → Int → (Int → Option R) → Option R) : Sum := ⟨[], fun {R} args ob K => match args, ob with
  | [.v (.int .u64 seed)], [] => l_tutorref21_Start seed (fun r0 => K (.v (.int .u64 r0)) [])
  | _, _ => none⟩

theorem sound_tutorref21_Start : Sound Try.prog 17 (S_tutorref21_Start @l_tutorref21_Start) := by
  refine fn_sound (cuts := cuts_tutorref21_Start) (fn := Try.f17) (Γ := T_tutorref21_Start) wide right_T_tutorref21_Start Try.func17 fun {R} K r args ob h => ?_
  unfold S_tutorref21_Start at h
  dsimp only at h
  split at h
  · exact ⟨Nat.le_of_ble_eq_true (by kernel_rfl), 0, (entry_tutorref21_Start K _).trans h⟩
  · cases h

theorem call_tutorref21_Start : Callable Try.prog 17 := ⟨_, Try.func17, by kernel_rfl, by kernel_rfl⟩

def T_walk_fit : FuncId → Option Sum := G0

theorem right_T_walk_fit : Right Try.prog T_walk_fit := right_G0

abbrev cuts_walk_fit : Cuts := []

theorem gentry_walk_fit {R : Type} (K : AV → List O → Option R) (k : Int) (low : Int) (high : Int) :
    fnRun Try.prog T_walk_fit cuts_walk_fit Try.f56 0 [.v (.int .i64 k), .v (.int .i64 low), .v (.int .i64 high)] [] K =
    (fun (k : Int) (low : Int) (high : Int) (K0 : Int → Option R) =>
    bi (decide (k < 1))
     (K0 1)
     (bi (decide (k > 64))
      (K0 1)
      (bi (decide (low < 0))
       (K0 1)
       (bi (decide (high < low))
        (K0 1)
        (bi (decide (high > 4096))
         (K0 2)
         (K0 0)))))) k low high (fun r0 => K (.v (.int .i64 r0)) []) := by kernel_rfl

theorem entry_walk_fit {R : Type} (K : AV → List O → Option R) (k : Int) (low : Int) (high : Int) :
    fnRun Try.prog T_walk_fit cuts_walk_fit Try.f56 0 [.v (.int .i64 k), .v (.int .i64 low), .v (.int .i64 high)] [] K =
    l_walk_fit k low high (fun r0 => K (.v (.int .i64 r0)) []) := gentry_walk_fit K k low high

def S_walk_fit (l_walk_fit : {R : Type} → Int → Int → Int → (Int → Option R) → Option R) : Sum := ⟨[], fun {R} args ob K => match args, ob with
  | [.v (.int .i64 k), .v (.int .i64 low), .v (.int .i64 high)], [] => l_walk_fit k low high (fun r0 => K (.v (.int .i64 r0)) [])
  | _, _ => none⟩

theorem sound_walk_fit : Sound Try.prog 56 (S_walk_fit @l_walk_fit) := by
  refine fn_sound (cuts := cuts_walk_fit) (fn := Try.f56) (Γ := T_walk_fit) wide right_T_walk_fit Try.func56 fun {R} K r args ob h => ?_
  unfold S_walk_fit at h
  dsimp only at h
  split at h
  · exact ⟨Nat.le_of_ble_eq_true (by kernel_rfl), 0, (entry_walk_fit K _ _ _).trans h⟩
  · cases h

theorem call_walk_fit : Callable Try.prog 56 := ⟨_, Try.func56, by kernel_rfl, by kernel_rfl⟩

def T_walk_Walk_Word (l_walk_Walk_Int : {R : Type} → Int → Int → (Int → Int → Option R) → Option R) (l_walk_Walk_Int_v1 : {R : Type} → Int → (Int → Option R) → Option R) (l_walk_fit : {R : Type} → Int → Int → Int → (Int → Option R) → Option R) : FuncId → Option Sum := (addS (addS G0 19 (S_walk_Walk_Int @l_walk_Walk_Int @l_walk_Walk_Int_v1)) 56 (S_walk_fit @l_walk_fit))

theorem right_T_walk_Walk_Word : Right Try.prog (T_walk_Walk_Word @l_walk_Walk_Int @l_walk_Walk_Int_v1 @l_walk_fit) := (right_add (right_add right_G0 call_walk_Walk_Int sound_walk_Walk_Int) call_walk_fit sound_walk_fit)

abbrev cuts_walk_Walk_Word : Cuts := [(8, [0, 1, 11, 32, 33])]

theorem gstep_walk_Walk_Word_8 (l_walk_Walk_Int : {R : Type} → Int → Int → (Int → Int → Option R) → Option R) (l_walk_Walk_Int_v1 : {R : Type} → Int → (Int → Option R) → Option R) (l_walk_fit : {R : Type} → Int → Int → Int → (Int → Option R) → Option R) {R : Type} (g : List Item → St → Option R) (K : AV → List O → Option R) (k : Int) (x32 : Int) (x33 : Int) (o0 : Int) (o1 : List Int) :
    runSeg Try.prog (T_walk_Walk_Word @l_walk_Walk_Int @l_walk_Walk_Int_v1 @l_walk_fit) cuts_walk_Walk_Word 1 g (finish Try.prog Try.f20 1 K) (at' Try.f20 8) ⟨fr0 44 [(0, .ptr 0 0), (1, .v (.int .i64 k)), (11, .own 1), (32, .v (.int .i64 x32)), (33, .v (.int .i64 x33))], [.box 94 [.v (.int .u64 o0)], .row ⟨true, 3, (.int .i64), o1⟩]⟩ =
    (fun (g20_8 : Int → Int → Int → Int → (List Int) → Option R) (K0 : Int → Int → (List Int) → Option R) (k : Int) (x32 : Int) (x33 : Int) (o0 : Int) (o1 : List Int) =>
    bi (decide (x33 < x32))
     (l_walk_Walk_Int k o0
      (fun r4 r5 =>
       bi (decide (0 ≤ x33 ∧ x33 < ((o1.length : Nat) : Int)))
        (g20_8 k x32 (IntKind.i64.wrap (x33 + 1)) r5 (o1.set x33.toNat r4))
        none))
     (K0 0 o0 o1)) (fun k x32 x33 o0 o1 => g (at' Try.f20 8) ⟨fr0 44 [(0, .ptr 0 0), (1, .v (.int .i64 k)), (11, .own 1), (32, .v (.int .i64 x32)), (33, .v (.int .i64 x33))], [.box 94 [.v (.int .u64 o0)], .row ⟨true, 3, (.int .i64), o1⟩]⟩) (fun r0 r1 r2 => K (.tup [.own 1, .v (.int .i64 r0)]) [.box 94 [.v (.int .u64 r1)], .row ⟨true, 3, (.int .i64), r2⟩]) k x32 x33 o0 o1 := by kernel_rfl

theorem step_walk_Walk_Word_8 {R : Type} (g : List Item → St → Option R) (K : AV → List O → Option R) (k : Int) (x32 : Int) (x33 : Int) (o0 : Int) (o1 : List Int) :
    runSeg Try.prog (T_walk_Walk_Word @l_walk_Walk_Int @l_walk_Walk_Int_v1 @l_walk_fit) cuts_walk_Walk_Word 1 g (finish Try.prog Try.f20 1 K) (at' Try.f20 8) ⟨fr0 44 [(0, .ptr 0 0), (1, .v (.int .i64 k)), (11, .own 1), (32, .v (.int .i64 x32)), (33, .v (.int .i64 x33))], [.box 94 [.v (.int .u64 o0)], .row ⟨true, 3, (.int .i64), o1⟩]⟩ =
    s_walk_Walk_Word_8 (fun k x32 x33 o0 o1 => g (at' Try.f20 8) ⟨fr0 44 [(0, .ptr 0 0), (1, .v (.int .i64 k)), (11, .own 1), (32, .v (.int .i64 x32)), (33, .v (.int .i64 x33))], [.box 94 [.v (.int .u64 o0)], .row ⟨true, 3, (.int .i64), o1⟩]⟩) (fun r0 r1 r2 => K (.tup [.own 1, .v (.int .i64 r0)]) [.box 94 [.v (.int .u64 r1)], .row ⟨true, 3, (.int .i64), r2⟩]) k x32 x33 o0 o1 := gstep_walk_Walk_Word_8 @l_walk_Walk_Int @l_walk_Walk_Int_v1 @l_walk_fit g K k x32 x33 o0 o1

theorem gentry_walk_Walk_Word (l_walk_Walk_Int : {R : Type} → Int → Int → (Int → Int → Option R) → Option R) (l_walk_Walk_Int_v1 : {R : Type} → Int → (Int → Option R) → Option R) (l_walk_fit : {R : Type} → Int → Int → Int → (Int → Option R) → Option R) {R : Type} (fuel : Nat) (K : AV → List O → Option R) (k : Int) (low : Int) (high : Int) (o0 : Int) :
    fnRun Try.prog (T_walk_Walk_Word @l_walk_Walk_Int @l_walk_Walk_Int_v1 @l_walk_fit) cuts_walk_Walk_Word Try.f20 fuel [.ptr 0 0, .v (.int .i64 k), .v (.int .i64 low), .v (.int .i64 high)] [.box 94 [.v (.int .u64 o0)]] K =
    (fun (g20_8 : Int → Int → Int → Int → (List Int) → Option R) (K0 : Int → Int → (List Int) → Option R) (k : Int) (low : Int) (high : Int) (o0 : Int) =>
    l_walk_fit k low high
     (fun r1 =>
      bi (r1 != 0)
       (K0 r1 o0 ([] : List Int))
       (l_walk_Walk_Int (IntKind.i64.wrap ((IntKind.i64.wrap (high - low)) + 1)) o0
        (fun r2 r3 =>
         bi (decide (0 ≤ (IntKind.i64.wrap (low + r2)) ∧ (IntKind.i64.wrap (low + r2)) ≤ (IntKind.i64.wrap (low + r2)) ∧ (IntKind.i64.wrap (low + r2)) ≤ 1073741824))
          (g20_8 k ((List.replicate (IntKind.i64.wrap (low + r2)).toNat (0 : Int)).length : Int) 0 r3 (List.replicate (IntKind.i64.wrap (low + r2)).toNat (0 : Int)))
          none)))) (fun k x32 x33 o0 o1 => (runO Try.prog (T_walk_Walk_Word @l_walk_Walk_Int @l_walk_Walk_Int_v1 @l_walk_fit) cuts_walk_Walk_Word 1 (finish Try.prog Try.f20 1 K) fuel) (at' Try.f20 8) ⟨fr0 44 [(0, .ptr 0 0), (1, .v (.int .i64 k)), (11, .own 1), (32, .v (.int .i64 x32)), (33, .v (.int .i64 x33))], [.box 94 [.v (.int .u64 o0)], .row ⟨true, 3, (.int .i64), o1⟩]⟩) (fun r0 r1 r2 => K (.tup [.own 1, .v (.int .i64 r0)]) [.box 94 [.v (.int .u64 r1)], .row ⟨true, 3, (.int .i64), r2⟩]) k low high o0 := by kernel_rfl

theorem entry_walk_Walk_Word {R : Type} (fuel : Nat) (K : AV → List O → Option R) (k : Int) (low : Int) (high : Int) (o0 : Int) :
    fnRun Try.prog (T_walk_Walk_Word @l_walk_Walk_Int @l_walk_Walk_Int_v1 @l_walk_fit) cuts_walk_Walk_Word Try.f20 fuel [.ptr 0 0, .v (.int .i64 k), .v (.int .i64 low), .v (.int .i64 high)] [.box 94 [.v (.int .u64 o0)]] K =
    e_walk_Walk_Word (fun k x32 x33 o0 o1 => (runO Try.prog (T_walk_Walk_Word @l_walk_Walk_Int @l_walk_Walk_Int_v1 @l_walk_fit) cuts_walk_Walk_Word 1 (finish Try.prog Try.f20 1 K) fuel) (at' Try.f20 8) ⟨fr0 44 [(0, .ptr 0 0), (1, .v (.int .i64 k)), (11, .own 1), (32, .v (.int .i64 x32)), (33, .v (.int .i64 x33))], [.box 94 [.v (.int .u64 o0)], .row ⟨true, 3, (.int .i64), o1⟩]⟩) (fun r0 r1 r2 => K (.tup [.own 1, .v (.int .i64 r0)]) [.box 94 [.v (.int .u64 r1)], .row ⟨true, 3, (.int .i64), r2⟩]) k low high o0 := gentry_walk_Walk_Word @l_walk_Walk_Int @l_walk_Walk_Int_v1 @l_walk_fit fuel K k low high o0

theorem runs_walk_Walk_Word {R : Type} (K : AV → List O → Option R) : ∀ fuel : Nat,
    (fun k x32 x33 o0 o1 => (runO Try.prog (T_walk_Walk_Word @l_walk_Walk_Int @l_walk_Walk_Int_v1 @l_walk_fit) cuts_walk_Walk_Word 1 (finish Try.prog Try.f20 1 K) fuel) (at' Try.f20 8) ⟨fr0 44 [(0, .ptr 0 0), (1, .v (.int .i64 k)), (11, .own 1), (32, .v (.int .i64 x32)), (33, .v (.int .i64 x33))], [.box 94 [.v (.int .u64 o0)], .row ⟨true, 3, (.int .i64), o1⟩]⟩) = (run_walk_Walk_Word (fun r0 r1 r2 => K (.tup [.own 1, .v (.int .i64 r0)]) [.box 94 [.v (.int .u64 r1)], .row ⟨true, 3, (.int .i64), r2⟩]) fuel)
  | 0 => rfl
  | fuel + 1 => by
    have ih := runs_walk_Walk_Word K fuel
    funext k x32 x33 o0 o1
    refine (step_walk_Walk_Word_8 _ K k x32 x33 o0 o1).trans ?_
    rw [ih]
    rfl

abbrev cuts_walk_Walk_Word_v1 : Cuts := [(8, [0, 1, 11, 32, 33])]

theorem gentry_walk_Walk_Word_v1 (l_walk_Walk_Int : {R : Type} → Int → Int → (Int → Int → Option R) → Option R) (l_walk_Walk_Int_v1 : {R : Type} → Int → (Int → Option R) → Option R) (l_walk_fit : {R : Type} → Int → Int → Int → (Int → Option R) → Option R) {R : Type} (K : AV → List O → Option R) (k : Int) (low : Int) (high : Int) :
    fnRun Try.prog (T_walk_Walk_Word @l_walk_Walk_Int @l_walk_Walk_Int_v1 @l_walk_fit) cuts_walk_Walk_Word_v1 Try.f20 0 [.v (.pointer none), .v (.int .i64 k), .v (.int .i64 low), .v (.int .i64 high)] [] K =
    (fun (k : Int) (low : Int) (high : Int) (K0 : Int → (List Int) → Option R) =>
    K0 1 ([] : List Int)) k low high (fun r0 r1 => K (.tup [.own 0, .v (.int .i64 r0)]) [.row ⟨true, 3, (.int .i64), r1⟩]) := by kernel_rfl

theorem entry_walk_Walk_Word_v1 {R : Type} (K : AV → List O → Option R) (k : Int) (low : Int) (high : Int) :
    fnRun Try.prog (T_walk_Walk_Word @l_walk_Walk_Int @l_walk_Walk_Int_v1 @l_walk_fit) cuts_walk_Walk_Word_v1 Try.f20 0 [.v (.pointer none), .v (.int .i64 k), .v (.int .i64 low), .v (.int .i64 high)] [] K =
    l_walk_Walk_Word_v1 k low high (fun r0 r1 => K (.tup [.own 0, .v (.int .i64 r0)]) [.row ⟨true, 3, (.int .i64), r1⟩]) := gentry_walk_Walk_Word_v1 @l_walk_Walk_Int @l_walk_Walk_Int_v1 @l_walk_fit K k low high

def S_walk_Walk_Word (l_walk_Walk_Word : {R : Type} → Int → Int → Int → Int → (Int → Int → (List Int) → Option R) → Option R) (l_walk_Walk_Word_v1 : {R : Type} → Int → Int → Int → (Int → (List Int) → Option R) → Option R) : Sum := ⟨[], fun {R} args ob K => match args, ob with
  | [.ptr 0 0, .v (.int .i64 k), .v (.int .i64 low), .v (.int .i64 high)], [.box 94 [.v (.int .u64 o0)]] => l_walk_Walk_Word k low high o0 (fun r0 r1 r2 => K (.tup [.own 1, .v (.int .i64 r0)]) [.box 94 [.v (.int .u64 r1)], .row ⟨true, 3, (.int .i64), r2⟩])
  | [.v (.pointer none), .v (.int .i64 k), .v (.int .i64 low), .v (.int .i64 high)], [] => l_walk_Walk_Word_v1 k low high (fun r0 r1 => K (.tup [.own 0, .v (.int .i64 r0)]) [.row ⟨true, 3, (.int .i64), r1⟩])
  | _, _ => none⟩

theorem sound_walk_Walk_Word : Sound Try.prog 20 (S_walk_Walk_Word @l_walk_Walk_Word @l_walk_Walk_Word_v1) := by
  refine fn_sound (cuts := cuts_walk_Walk_Word) (fn := Try.f20) (Γ := (T_walk_Walk_Word @l_walk_Walk_Int @l_walk_Walk_Int_v1 @l_walk_fit)) wide right_T_walk_Walk_Word Try.func20 fun {R} K r args ob h => ?_
  unfold S_walk_Walk_Word at h
  dsimp only at h
  split at h
  · obtain ⟨n, hn⟩ := ok_walk_Walk_Word _ _ _ _ _ h
    refine ⟨Nat.le_of_ble_eq_true (by kernel_rfl), n, (entry_walk_Walk_Word n K _ _ _ _).trans ?_⟩
    rw [(runs_walk_Walk_Word K n)]
    exact hn
  · exact ⟨Nat.le_of_ble_eq_true (by kernel_rfl), 0, (entry_walk_Walk_Word_v1 K _ _ _).trans h⟩
  · cases h

theorem call_walk_Walk_Word : Callable Try.prog 20 := ⟨_, Try.func20, by kernel_rfl, by kernel_rfl⟩

def T_tutorref21_fit : FuncId → Option Sum := G0

theorem right_T_tutorref21_fit : Right Try.prog T_tutorref21_fit := right_G0

abbrev cuts_tutorref21_fit : Cuts := []

theorem gentry_tutorref21_fit {R : Type} (K : AV → List O → Option R) (k : Int) (low : Int) (high : Int) :
    fnRun Try.prog T_tutorref21_fit cuts_tutorref21_fit Try.f57 0 [.v (.int .i64 k), .v (.int .i64 low), .v (.int .i64 high)] [] K =
    (fun (k : Int) (low : Int) (high : Int) (K0 : Int → Option R) =>
    bi (decide (k < 1))
     (K0 1)
     (bi (decide (k > 64))
      (K0 1)
      (bi (decide (low < 0))
       (K0 1)
       (bi (decide (high < low))
        (K0 1)
        (bi (decide (high > 4096))
         (K0 2)
         (K0 0)))))) k low high (fun r0 => K (.v (.int .i64 r0)) []) := by kernel_rfl

theorem entry_tutorref21_fit {R : Type} (K : AV → List O → Option R) (k : Int) (low : Int) (high : Int) :
    fnRun Try.prog T_tutorref21_fit cuts_tutorref21_fit Try.f57 0 [.v (.int .i64 k), .v (.int .i64 low), .v (.int .i64 high)] [] K =
    l_tutorref21_fit k low high (fun r0 => K (.v (.int .i64 r0)) []) := gentry_tutorref21_fit K k low high

def S_tutorref21_fit (l_tutorref21_fit : {R : Type} → Int → Int → Int → (Int → Option R) → Option R) : Sum := ⟨[], fun {R} args ob K => match args, ob with
  | [.v (.int .i64 k), .v (.int .i64 low), .v (.int .i64 high)], [] => l_tutorref21_fit k low high (fun r0 => K (.v (.int .i64 r0)) [])
  | _, _ => none⟩

theorem sound_tutorref21_fit : Sound Try.prog 57 (S_tutorref21_fit @l_tutorref21_fit) := by
  refine fn_sound (cuts := cuts_tutorref21_fit) (fn := Try.f57) (Γ := T_tutorref21_fit) wide right_T_tutorref21_fit Try.func57 fun {R} K r args ob h => ?_
  unfold S_tutorref21_fit at h
  dsimp only at h
  split at h
  · exact ⟨Nat.le_of_ble_eq_true (by kernel_rfl), 0, (entry_tutorref21_fit K _ _ _).trans h⟩
  · cases h

theorem call_tutorref21_fit : Callable Try.prog 57 := ⟨_, Try.func57, by kernel_rfl, by kernel_rfl⟩

def T_tutorref21_Word (l_tutorref21_Int : {R : Type} → Int → Int → (Int → Int → Option R) → Option R) (l_tutorref21_fit : {R : Type} → Int → Int → Int → (Int → Option R) → Option R) : FuncId → Option Sum := (addS (addS G0 18 (S_tutorref21_Int @l_tutorref21_Int)) 57 (S_tutorref21_fit @l_tutorref21_fit))

theorem right_T_tutorref21_Word : Right Try.prog (T_tutorref21_Word @l_tutorref21_Int @l_tutorref21_fit) := (right_add (right_add right_G0 call_tutorref21_Int sound_tutorref21_Int) call_tutorref21_fit sound_tutorref21_fit)

abbrev cuts_tutorref21_Word : Cuts := [(7, [0, 1, 2, 12, 13, 14])]

theorem gstep_tutorref21_Word_7 (l_tutorref21_Int : {R : Type} → Int → Int → (Int → Int → Option R) → Option R) (l_tutorref21_fit : {R : Type} → Int → Int → Int → (Int → Option R) → Option R) {R : Type} (g : List Item → St → Option R) (K : AV → List O → Option R) (x : Int) (k : Int) (low : Int) (n : Int) (i : Int) (o0 : List Int) :
    runSeg Try.prog (T_tutorref21_Word @l_tutorref21_Int @l_tutorref21_fit) cuts_tutorref21_Word 0 g (finish Try.prog Try.f21 0 K) (at' Try.f21 7) ⟨fr0 54 [(0, .v (.int .u64 x)), (1, .v (.int .i64 k)), (2, .v (.int .i64 low)), (12, .v (.int .i64 n)), (13, .own 0), (14, .v (.int .i64 i))], [.row ⟨true, 3, (.int .i64), o0⟩]⟩ =
    (fun (g21_7 : Int → Int → Int → Int → Int → (List Int) → Option R) (K0 : Int → Int → (List Int) → Option R) (x : Int) (k : Int) (low : Int) (n : Int) (i : Int) (o0 : List Int) =>
    bi (decide (i < (IntKind.i64.wrap (low + n))))
     (l_tutorref21_Int x k
      (fun r4 r5 =>
       bi (decide ((o0.length + [r4].length) * 8 ≤ lim))
        (g21_7 r5 k low n (IntKind.i64.wrap (i + 1)) (o0 ++ [r4]))
        none))
     (K0 x 0 o0)) (fun x k low n i o0 => g (at' Try.f21 7) ⟨fr0 54 [(0, .v (.int .u64 x)), (1, .v (.int .i64 k)), (2, .v (.int .i64 low)), (12, .v (.int .i64 n)), (13, .own 0), (14, .v (.int .i64 i))], [.row ⟨true, 3, (.int .i64), o0⟩]⟩) (fun r0 r1 r2 => K (.tup [.own 0, .v (.int .u64 r0), .v (.int .i64 r1)]) [.row ⟨true, 3, (.int .i64), r2⟩]) x k low n i o0 := by kernel_rfl

theorem step_tutorref21_Word_7 {R : Type} (g : List Item → St → Option R) (K : AV → List O → Option R) (x : Int) (k : Int) (low : Int) (n : Int) (i : Int) (o0 : List Int) :
    runSeg Try.prog (T_tutorref21_Word @l_tutorref21_Int @l_tutorref21_fit) cuts_tutorref21_Word 0 g (finish Try.prog Try.f21 0 K) (at' Try.f21 7) ⟨fr0 54 [(0, .v (.int .u64 x)), (1, .v (.int .i64 k)), (2, .v (.int .i64 low)), (12, .v (.int .i64 n)), (13, .own 0), (14, .v (.int .i64 i))], [.row ⟨true, 3, (.int .i64), o0⟩]⟩ =
    s_tutorref21_Word_7 (fun x k low n i o0 => g (at' Try.f21 7) ⟨fr0 54 [(0, .v (.int .u64 x)), (1, .v (.int .i64 k)), (2, .v (.int .i64 low)), (12, .v (.int .i64 n)), (13, .own 0), (14, .v (.int .i64 i))], [.row ⟨true, 3, (.int .i64), o0⟩]⟩) (fun r0 r1 r2 => K (.tup [.own 0, .v (.int .u64 r0), .v (.int .i64 r1)]) [.row ⟨true, 3, (.int .i64), r2⟩]) x k low n i o0 := gstep_tutorref21_Word_7 @l_tutorref21_Int @l_tutorref21_fit g K x k low n i o0

theorem gentry_tutorref21_Word (l_tutorref21_Int : {R : Type} → Int → Int → (Int → Int → Option R) → Option R) (l_tutorref21_fit : {R : Type} → Int → Int → Int → (Int → Option R) → Option R) {R : Type} (fuel : Nat) (K : AV → List O → Option R) (x : Int) (k : Int) (low : Int) (high : Int) :
    fnRun Try.prog (T_tutorref21_Word @l_tutorref21_Int @l_tutorref21_fit) cuts_tutorref21_Word Try.f21 fuel [.v (.int .u64 x), .v (.int .i64 k), .v (.int .i64 low), .v (.int .i64 high)] [] K =
    (fun (g21_7 : Int → Int → Int → Int → Int → (List Int) → Option R) (K0 : Int → Int → (List Int) → Option R) (x : Int) (k : Int) (low : Int) (high : Int) =>
    l_tutorref21_fit k low high
     (fun r1 =>
      bi (r1 != 0)
       (K0 x r1 ([] : List Int))
       (l_tutorref21_Int x (IntKind.i64.wrap ((IntKind.i64.wrap (high - low)) + 1))
        (fun r2 r3 =>
         g21_7 r3 k low r2 0 ([] : List Int))))) (fun x k low n i o0 => (runO Try.prog (T_tutorref21_Word @l_tutorref21_Int @l_tutorref21_fit) cuts_tutorref21_Word 0 (finish Try.prog Try.f21 0 K) fuel) (at' Try.f21 7) ⟨fr0 54 [(0, .v (.int .u64 x)), (1, .v (.int .i64 k)), (2, .v (.int .i64 low)), (12, .v (.int .i64 n)), (13, .own 0), (14, .v (.int .i64 i))], [.row ⟨true, 3, (.int .i64), o0⟩]⟩) (fun r0 r1 r2 => K (.tup [.own 0, .v (.int .u64 r0), .v (.int .i64 r1)]) [.row ⟨true, 3, (.int .i64), r2⟩]) x k low high := by kernel_rfl

theorem entry_tutorref21_Word {R : Type} (fuel : Nat) (K : AV → List O → Option R) (x : Int) (k : Int) (low : Int) (high : Int) :
    fnRun Try.prog (T_tutorref21_Word @l_tutorref21_Int @l_tutorref21_fit) cuts_tutorref21_Word Try.f21 fuel [.v (.int .u64 x), .v (.int .i64 k), .v (.int .i64 low), .v (.int .i64 high)] [] K =
    e_tutorref21_Word (fun x k low n i o0 => (runO Try.prog (T_tutorref21_Word @l_tutorref21_Int @l_tutorref21_fit) cuts_tutorref21_Word 0 (finish Try.prog Try.f21 0 K) fuel) (at' Try.f21 7) ⟨fr0 54 [(0, .v (.int .u64 x)), (1, .v (.int .i64 k)), (2, .v (.int .i64 low)), (12, .v (.int .i64 n)), (13, .own 0), (14, .v (.int .i64 i))], [.row ⟨true, 3, (.int .i64), o0⟩]⟩) (fun r0 r1 r2 => K (.tup [.own 0, .v (.int .u64 r0), .v (.int .i64 r1)]) [.row ⟨true, 3, (.int .i64), r2⟩]) x k low high := gentry_tutorref21_Word @l_tutorref21_Int @l_tutorref21_fit fuel K x k low high

theorem runs_tutorref21_Word {R : Type} (K : AV → List O → Option R) : ∀ fuel : Nat,
    (fun x k low n i o0 => (runO Try.prog (T_tutorref21_Word @l_tutorref21_Int @l_tutorref21_fit) cuts_tutorref21_Word 0 (finish Try.prog Try.f21 0 K) fuel) (at' Try.f21 7) ⟨fr0 54 [(0, .v (.int .u64 x)), (1, .v (.int .i64 k)), (2, .v (.int .i64 low)), (12, .v (.int .i64 n)), (13, .own 0), (14, .v (.int .i64 i))], [.row ⟨true, 3, (.int .i64), o0⟩]⟩) = (run_tutorref21_Word (fun r0 r1 r2 => K (.tup [.own 0, .v (.int .u64 r0), .v (.int .i64 r1)]) [.row ⟨true, 3, (.int .i64), r2⟩]) fuel)
  | 0 => rfl
  | fuel + 1 => by
    have ih := runs_tutorref21_Word K fuel
    funext x k low n i o0
    refine (step_tutorref21_Word_7 _ K x k low n i o0).trans ?_
    rw [ih]
    rfl

def S_tutorref21_Word (l_tutorref21_Word : {R : Type} → Int → Int → Int → Int → (Int → Int → (List Int) → Option R) → Option R) : Sum := ⟨[], fun {R} args ob K => match args, ob with
  | [.v (.int .u64 x), .v (.int .i64 k), .v (.int .i64 low), .v (.int .i64 high)], [] => l_tutorref21_Word x k low high (fun r0 r1 r2 => K (.tup [.own 0, .v (.int .u64 r0), .v (.int .i64 r1)]) [.row ⟨true, 3, (.int .i64), r2⟩])
  | _, _ => none⟩

theorem sound_tutorref21_Word : Sound Try.prog 21 (S_tutorref21_Word @l_tutorref21_Word) := by
  refine fn_sound (cuts := cuts_tutorref21_Word) (fn := Try.f21) (Γ := (T_tutorref21_Word @l_tutorref21_Int @l_tutorref21_fit)) wide right_T_tutorref21_Word Try.func21 fun {R} K r args ob h => ?_
  unfold S_tutorref21_Word at h
  dsimp only at h
  split at h
  · obtain ⟨n, hn⟩ := ok_tutorref21_Word _ _ _ _ _ h
    refine ⟨Nat.le_of_ble_eq_true (by kernel_rfl), n, (entry_tutorref21_Word n K _ _ _ _).trans ?_⟩
    rw [(runs_tutorref21_Word K n)]
    exact hn
  · cases h

theorem call_tutorref21_Word : Callable Try.prog 21 := ⟨_, Try.func21, by kernel_rfl, by kernel_rfl⟩

def T_tutorref01_Same : FuncId → Option Sum := G0

theorem right_T_tutorref01_Same : Right Try.prog T_tutorref01_Same := right_G0

abbrev cuts_tutorref01_Same : Cuts := [(4, [0, 1, 5])]

theorem gstep_tutorref01_Same_4 {R : Type} (g : List Item → St → Option R) (K : AV → List O → Option R) (a : List Int) (b : List Int) (i : Int) :
    runSeg Try.prog T_tutorref01_Same cuts_tutorref01_Same 0 g (finish Try.prog Try.f22 0 K) (at' Try.f22 4) ⟨fr0 26 [(0, .rd ⟨false, 3, (.int .i64), a⟩), (1, .rd ⟨false, 3, (.int .i64), b⟩), (5, .v (.int .i64 i))], []⟩ =
    (fun (g22_4 : (List Int) → (List Int) → Int → Option R) (K0 : Bool → Option R) (a : List Int) (b : List Int) (i : Int) =>
    bi (decide (i < (a.length : Int)))
     (bi (decide (0 ≤ i ∧ i < ((a.length : Nat) : Int)))
      (bi (decide (0 ≤ i ∧ i < ((b.length : Nat) : Int)))
       (bi ((a.getD i.toNat 0) != (b.getD i.toNat 0))
        (K0 false)
        (g22_4 a b (IntKind.i64.wrap (i + 1))))
       none)
      none)
     (K0 true)) (fun a b i => g (at' Try.f22 4) ⟨fr0 26 [(0, .rd ⟨false, 3, (.int .i64), a⟩), (1, .rd ⟨false, 3, (.int .i64), b⟩), (5, .v (.int .i64 i))], []⟩) (fun r0 => K (.v (.bool r0)) []) a b i := by kernel_rfl

theorem step_tutorref01_Same_4 {R : Type} (g : List Item → St → Option R) (K : AV → List O → Option R) (a : List Int) (b : List Int) (i : Int) :
    runSeg Try.prog T_tutorref01_Same cuts_tutorref01_Same 0 g (finish Try.prog Try.f22 0 K) (at' Try.f22 4) ⟨fr0 26 [(0, .rd ⟨false, 3, (.int .i64), a⟩), (1, .rd ⟨false, 3, (.int .i64), b⟩), (5, .v (.int .i64 i))], []⟩ =
    s_tutorref01_Same_4 (fun a b i => g (at' Try.f22 4) ⟨fr0 26 [(0, .rd ⟨false, 3, (.int .i64), a⟩), (1, .rd ⟨false, 3, (.int .i64), b⟩), (5, .v (.int .i64 i))], []⟩) (fun r0 => K (.v (.bool r0)) []) a b i := gstep_tutorref01_Same_4 g K a b i

theorem gentry_tutorref01_Same {R : Type} (fuel : Nat) (K : AV → List O → Option R) (a : List Int) (b : List Int) :
    fnRun Try.prog T_tutorref01_Same cuts_tutorref01_Same Try.f22 fuel [.rd ⟨false, 3, (.int .i64), a⟩, .rd ⟨false, 3, (.int .i64), b⟩] [] K =
    (fun (g22_4 : (List Int) → (List Int) → Int → Option R) (K0 : Bool → Option R) (a : List Int) (b : List Int) =>
    bi ((a.length : Int) != (b.length : Int))
     (K0 false)
     (g22_4 a b 0)) (fun a b i => (runO Try.prog T_tutorref01_Same cuts_tutorref01_Same 0 (finish Try.prog Try.f22 0 K) fuel) (at' Try.f22 4) ⟨fr0 26 [(0, .rd ⟨false, 3, (.int .i64), a⟩), (1, .rd ⟨false, 3, (.int .i64), b⟩), (5, .v (.int .i64 i))], []⟩) (fun r0 => K (.v (.bool r0)) []) a b := by kernel_rfl

theorem entry_tutorref01_Same {R : Type} (fuel : Nat) (K : AV → List O → Option R) (a : List Int) (b : List Int) :
    fnRun Try.prog T_tutorref01_Same cuts_tutorref01_Same Try.f22 fuel [.rd ⟨false, 3, (.int .i64), a⟩, .rd ⟨false, 3, (.int .i64), b⟩] [] K =
    e_tutorref01_Same (fun a b i => (runO Try.prog T_tutorref01_Same cuts_tutorref01_Same 0 (finish Try.prog Try.f22 0 K) fuel) (at' Try.f22 4) ⟨fr0 26 [(0, .rd ⟨false, 3, (.int .i64), a⟩), (1, .rd ⟨false, 3, (.int .i64), b⟩), (5, .v (.int .i64 i))], []⟩) (fun r0 => K (.v (.bool r0)) []) a b := gentry_tutorref01_Same fuel K a b

theorem runs_tutorref01_Same {R : Type} (K : AV → List O → Option R) : ∀ fuel : Nat,
    (fun a b i => (runO Try.prog T_tutorref01_Same cuts_tutorref01_Same 0 (finish Try.prog Try.f22 0 K) fuel) (at' Try.f22 4) ⟨fr0 26 [(0, .rd ⟨false, 3, (.int .i64), a⟩), (1, .rd ⟨false, 3, (.int .i64), b⟩), (5, .v (.int .i64 i))], []⟩) = (run_tutorref01_Same (fun r0 => K (.v (.bool r0)) []) fuel)
  | 0 => rfl
  | fuel + 1 => by
    have ih := runs_tutorref01_Same K fuel
    funext a b i
    refine (step_tutorref01_Same_4 _ K a b i).trans ?_
    rw [ih]
    rfl

def S_tutorref01_Same (l_tutorref01_Same : {R : Type} → (List Int) → (List Int) → (Bool → Option R) → Option R) : Sum := ⟨[], fun {R} args ob K => match args, ob with
  | [.rd ⟨false, 3, (.int .i64), a⟩, .rd ⟨false, 3, (.int .i64), b⟩], [] => l_tutorref01_Same a b (fun r0 => K (.v (.bool r0)) [])
  | _, _ => none⟩

theorem sound_tutorref01_Same : Sound Try.prog 22 (S_tutorref01_Same @l_tutorref01_Same) := by
  refine fn_sound (cuts := cuts_tutorref01_Same) (fn := Try.f22) (Γ := T_tutorref01_Same) wide right_T_tutorref01_Same Try.func22 fun {R} K r args ob h => ?_
  unfold S_tutorref01_Same at h
  dsimp only at h
  split at h
  · obtain ⟨n, hn⟩ := ok_tutorref01_Same _ _ _ h
    refine ⟨Nat.le_of_ble_eq_true (by kernel_rfl), n, (entry_tutorref01_Same n K _ _).trans ?_⟩
    rw [(runs_tutorref01_Same K n)]
    exact hn
  · cases h

theorem call_tutorref01_Same : Callable Try.prog 22 := ⟨_, Try.func22, by kernel_rfl, by kernel_rfl⟩

def T_tutorlaw21_num : FuncId → Option Sum := G0

theorem right_T_tutorlaw21_num : Right Try.prog T_tutorlaw21_num := right_G0

abbrev cuts_tutorlaw21_num : Cuts := []

theorem gentry_tutorlaw21_num {R : Type} (K : AV → List O → Option R) (e : Int) :
    fnRun Try.prog T_tutorlaw21_num cuts_tutorlaw21_num Try.f23 0 [.v (.int .i64 e)] [] K =
    (fun (e : Int) (K0 : Int → Option R) =>
    K0 e) e (fun r0 => K (.v (.int .i64 r0)) []) := by kernel_rfl

theorem entry_tutorlaw21_num {R : Type} (K : AV → List O → Option R) (e : Int) :
    fnRun Try.prog T_tutorlaw21_num cuts_tutorlaw21_num Try.f23 0 [.v (.int .i64 e)] [] K =
    l_tutorlaw21_num e (fun r0 => K (.v (.int .i64 r0)) []) := gentry_tutorlaw21_num K e

def S_tutorlaw21_num (l_tutorlaw21_num : {R : Type} → Int → (Int → Option R) → Option R) : Sum := ⟨[], fun {R} args ob K => match args, ob with
  | [.v (.int .i64 e)], [] => l_tutorlaw21_num e (fun r0 => K (.v (.int .i64 r0)) [])
  | _, _ => none⟩

theorem sound_tutorlaw21_num : Sound Try.prog 23 (S_tutorlaw21_num @l_tutorlaw21_num) := by
  refine fn_sound (cuts := cuts_tutorlaw21_num) (fn := Try.f23) (Γ := T_tutorlaw21_num) wide right_T_tutorlaw21_num Try.func23 fun {R} K r args ob h => ?_
  unfold S_tutorlaw21_num at h
  dsimp only at h
  split at h
  · exact ⟨Nat.le_of_ble_eq_true (by kernel_rfl), 0, (entry_tutorlaw21_num K _).trans h⟩
  · cases h

theorem call_tutorlaw21_num : Callable Try.prog 23 := ⟨_, Try.func23, by kernel_rfl, by kernel_rfl⟩

def T_tutorlaw21_WalkDraws (l_tutorlaw21_live : {R : Type} → (Bool → Option R) → Option R) (l_tutorref21_Start : {R : Type} → Int → (Int → Option R) → Option R) (l_walk_New : {R : Type} → Int → (Int → Option R) → Option R) (l_walk_Walk_Int : {R : Type} → Int → Int → (Int → Int → Option R) → Option R) (l_walk_Walk_Int_v1 : {R : Type} → Int → (Int → Option R) → Option R) (l_tutorref21_Int : {R : Type} → Int → Int → (Int → Int → Option R) → Option R) (l_tutorlaw21_num : {R : Type} → Int → (Int → Option R) → Option R) (l_tutorref01_Same : {R : Type} → (List Int) → (List Int) → (Bool → Option R) → Option R) (l_walk_Walk_Word : {R : Type} → Int → Int → Int → Int → (Int → Int → (List Int) → Option R) → Option R) (l_walk_Walk_Word_v1 : {R : Type} → Int → Int → Int → (Int → (List Int) → Option R) → Option R) (l_tutorref21_Word : {R : Type} → Int → Int → Int → Int → (Int → Int → (List Int) → Option R) → Option R) : FuncId → Option Sum := (addS (addS (addS (addS (addS (addS (addS (addS (addS G0 15 (S_tutorlaw21_live @l_tutorlaw21_live)) 17 (S_tutorref21_Start @l_tutorref21_Start)) 16 (S_walk_New @l_walk_New)) 19 (S_walk_Walk_Int @l_walk_Walk_Int @l_walk_Walk_Int_v1)) 18 (S_tutorref21_Int @l_tutorref21_Int)) 23 (S_tutorlaw21_num @l_tutorlaw21_num)) 22 (S_tutorref01_Same @l_tutorref01_Same)) 20 (S_walk_Walk_Word @l_walk_Walk_Word @l_walk_Walk_Word_v1)) 21 (S_tutorref21_Word @l_tutorref21_Word))

theorem right_T_tutorlaw21_WalkDraws : Right Try.prog (T_tutorlaw21_WalkDraws @l_tutorlaw21_live @l_tutorref21_Start @l_walk_New @l_walk_Walk_Int @l_walk_Walk_Int_v1 @l_tutorref21_Int @l_tutorlaw21_num @l_tutorref01_Same @l_walk_Walk_Word @l_walk_Walk_Word_v1 @l_tutorref21_Word) := (right_add (right_add (right_add (right_add (right_add (right_add (right_add (right_add (right_add right_G0 call_tutorlaw21_live sound_tutorlaw21_live) call_tutorref21_Start sound_tutorref21_Start) call_walk_New sound_walk_New) call_walk_Walk_Int sound_walk_Walk_Int) call_tutorref21_Int sound_tutorref21_Int) call_tutorlaw21_num sound_tutorlaw21_num) call_tutorref01_Same sound_tutorref01_Same) call_walk_Walk_Word sound_walk_Walk_Word) call_tutorref21_Word sound_tutorref21_Word)

abbrev cuts_tutorlaw21_WalkDraws : Cuts := [(9, [1, 5, 6, 7, 8])]

theorem gstep_tutorlaw21_WalkDraws_9 (l_tutorlaw21_live : {R : Type} → (Bool → Option R) → Option R) (l_tutorref21_Start : {R : Type} → Int → (Int → Option R) → Option R) (l_walk_New : {R : Type} → Int → (Int → Option R) → Option R) (l_walk_Walk_Int : {R : Type} → Int → Int → (Int → Int → Option R) → Option R) (l_walk_Walk_Int_v1 : {R : Type} → Int → (Int → Option R) → Option R) (l_tutorref21_Int : {R : Type} → Int → Int → (Int → Int → Option R) → Option R) (l_tutorlaw21_num : {R : Type} → Int → (Int → Option R) → Option R) (l_tutorref01_Same : {R : Type} → (List Int) → (List Int) → (Bool → Option R) → Option R) (l_walk_Walk_Word : {R : Type} → Int → Int → Int → Int → (Int → Int → (List Int) → Option R) → Option R) (l_walk_Walk_Word_v1 : {R : Type} → Int → Int → Int → (Int → (List Int) → Option R) → Option R) (l_tutorref21_Word : {R : Type} → Int → Int → Int → Int → (Int → Int → (List Int) → Option R) → Option R) {R : Type} (g : List Item → St → Option R) (K : AV → List O → Option R) (l : List (Bool × (Int × (Int × Int)))) (x : Int) (i : Int) (o0 : Int) :
    runSeg Try.prog (T_tutorlaw21_WalkDraws @l_tutorlaw21_live @l_tutorref21_Start @l_walk_New @l_walk_Walk_Int @l_walk_Walk_Int_v1 @l_tutorref21_Int @l_tutorlaw21_num @l_tutorref01_Same @l_walk_Walk_Word @l_walk_Walk_Word_v1 @l_tutorref21_Word) cuts_tutorlaw21_WalkDraws 0 g (finish Try.prog Try.f3 0 K) (at' Try.f3 9) ⟨fr0 153 [(1, .rd ⟨false, 29, (.pr .bool (.pr (.int .i64) (.pr (.int .i64) (.int .i64)))), l⟩), (5, .ptr 0 0), (6, .v (.pointer none)), (7, .v (.int .u64 x)), (8, .v (.int .i64 i))], [.box 94 [.v (.int .u64 o0)]]⟩ =
    (fun (g3_9 : (List (Bool × (Int × (Int × Int)))) → Int → Int → Int → Option R) (K0 : Bool → Option R) (l : List (Bool × (Int × (Int × Int)))) (x : Int) (i : Int) (o0 : Int) =>
    bi (decide (i < (l.length : Int)))
     (bi (decide (0 ≤ i ∧ i < ((l.length : Nat) : Int)))
      (bi (!((l.getD i.toNat (false, (0, (0, 0)))).1))
       (bi (decide (0 ≤ i ∧ i < ((l.length : Nat) : Int)))
        (l_tutorref21_Int x (((l.getD i.toNat (false, (0, (0, 0)))).2).1)
         (fun r4 r5 =>
          bi (decide (0 ≤ i ∧ i < ((l.length : Nat) : Int)))
           (l_walk_Walk_Int (((l.getD i.toNat (false, (0, (0, 0)))).2).1) o0
            (fun r6 r7 =>
             bi (r6 != r4)
              (K0 false)
              (bi (decide (0 ≤ i ∧ i < ((l.length : Nat) : Int)))
               (l_walk_Walk_Int_v1 (((l.getD i.toNat (false, (0, (0, 0)))).2).1)
                (fun r8 =>
                 bi (r8 != 0)
                  (K0 false)
                  (g3_9 l r5 (IntKind.i64.wrap (i + 1)) r7)))
               none)))
           none))
        none)
       (bi (decide (0 ≤ i ∧ i < ((l.length : Nat) : Int)))
        (bi (decide (0 ≤ i ∧ i < ((l.length : Nat) : Int)))
         (bi (decide (0 ≤ i ∧ i < ((l.length : Nat) : Int)))
          (l_walk_Walk_Word (((l.getD i.toNat (false, (0, (0, 0)))).2).1) ((((l.getD i.toNat (false, (0, (0, 0)))).2).2).1) ((((l.getD i.toNat (false, (0, (0, 0)))).2).2).2) o0
           (fun r9 r10 r11 =>
            bi (decide (0 ≤ i ∧ i < ((l.length : Nat) : Int)))
             (bi (decide (0 ≤ i ∧ i < ((l.length : Nat) : Int)))
              (bi (decide (0 ≤ i ∧ i < ((l.length : Nat) : Int)))
               (l_tutorref21_Word x (((l.getD i.toNat (false, (0, (0, 0)))).2).1) ((((l.getD i.toNat (false, (0, (0, 0)))).2).2).1) ((((l.getD i.toNat (false, (0, (0, 0)))).2).2).2)
                (fun r12 r13 r14 =>
                 bi (decide (0 ≤ i ∧ i < ((l.length : Nat) : Int)))
                  (bi (decide (0 ≤ i ∧ i < ((l.length : Nat) : Int)))
                   (bi (decide (0 ≤ i ∧ i < ((l.length : Nat) : Int)))
                    (l_walk_Walk_Word_v1 (((l.getD i.toNat (false, (0, (0, 0)))).2).1) ((((l.getD i.toNat (false, (0, (0, 0)))).2).2).1) ((((l.getD i.toNat (false, (0, (0, 0)))).2).2).2)
                     (fun r15 r16 =>
                      l_tutorref01_Same r11 r14
                       (fun r17 =>
                        bi (!r17)
                         (K0 false)
                         (l_tutorlaw21_num r9
                          (fun r18 =>
                           bi (r18 != r13)
                            (K0 false)
                            (bi ((r16.length : Int) != 0)
                             (K0 false)
                             (l_tutorlaw21_num r15
                              (fun r19 =>
                               bi (r19 != 1)
                                (K0 false)
                                (g3_9 l r12 (IntKind.i64.wrap (i + 1)) r10)))))))))
                    none)
                   none)
                  none))
               none)
              none)
             none))
          none)
         none)
        none))
      none)
     (l_tutorlaw21_live
      (fun r20 =>
       K0 r20))) (fun l x i o0 => g (at' Try.f3 9) ⟨fr0 153 [(1, .rd ⟨false, 29, (.pr .bool (.pr (.int .i64) (.pr (.int .i64) (.int .i64)))), l⟩), (5, .ptr 0 0), (6, .v (.pointer none)), (7, .v (.int .u64 x)), (8, .v (.int .i64 i))], [.box 94 [.v (.int .u64 o0)]]⟩) (fun r0 => K (.v (.bool r0)) []) l x i o0 := by kernel_rfl

theorem step_tutorlaw21_WalkDraws_9 {R : Type} (g : List Item → St → Option R) (K : AV → List O → Option R) (l : List (Bool × (Int × (Int × Int)))) (x : Int) (i : Int) (o0 : Int) :
    runSeg Try.prog (T_tutorlaw21_WalkDraws @l_tutorlaw21_live @l_tutorref21_Start @l_walk_New @l_walk_Walk_Int @l_walk_Walk_Int_v1 @l_tutorref21_Int @l_tutorlaw21_num @l_tutorref01_Same @l_walk_Walk_Word @l_walk_Walk_Word_v1 @l_tutorref21_Word) cuts_tutorlaw21_WalkDraws 0 g (finish Try.prog Try.f3 0 K) (at' Try.f3 9) ⟨fr0 153 [(1, .rd ⟨false, 29, (.pr .bool (.pr (.int .i64) (.pr (.int .i64) (.int .i64)))), l⟩), (5, .ptr 0 0), (6, .v (.pointer none)), (7, .v (.int .u64 x)), (8, .v (.int .i64 i))], [.box 94 [.v (.int .u64 o0)]]⟩ =
    s_tutorlaw21_WalkDraws_9 (fun l x i o0 => g (at' Try.f3 9) ⟨fr0 153 [(1, .rd ⟨false, 29, (.pr .bool (.pr (.int .i64) (.pr (.int .i64) (.int .i64)))), l⟩), (5, .ptr 0 0), (6, .v (.pointer none)), (7, .v (.int .u64 x)), (8, .v (.int .i64 i))], [.box 94 [.v (.int .u64 o0)]]⟩) (fun r0 => K (.v (.bool r0)) []) l x i o0 := gstep_tutorlaw21_WalkDraws_9 @l_tutorlaw21_live @l_tutorref21_Start @l_walk_New @l_walk_Walk_Int @l_walk_Walk_Int_v1 @l_tutorref21_Int @l_tutorlaw21_num @l_tutorref01_Same @l_walk_Walk_Word @l_walk_Walk_Word_v1 @l_tutorref21_Word g K l x i o0

theorem gentry_tutorlaw21_WalkDraws (l_tutorlaw21_live : {R : Type} → (Bool → Option R) → Option R) (l_tutorref21_Start : {R : Type} → Int → (Int → Option R) → Option R) (l_walk_New : {R : Type} → Int → (Int → Option R) → Option R) (l_walk_Walk_Int : {R : Type} → Int → Int → (Int → Int → Option R) → Option R) (l_walk_Walk_Int_v1 : {R : Type} → Int → (Int → Option R) → Option R) (l_tutorref21_Int : {R : Type} → Int → Int → (Int → Int → Option R) → Option R) (l_tutorlaw21_num : {R : Type} → Int → (Int → Option R) → Option R) (l_tutorref01_Same : {R : Type} → (List Int) → (List Int) → (Bool → Option R) → Option R) (l_walk_Walk_Word : {R : Type} → Int → Int → Int → Int → (Int → Int → (List Int) → Option R) → Option R) (l_walk_Walk_Word_v1 : {R : Type} → Int → Int → Int → (Int → (List Int) → Option R) → Option R) (l_tutorref21_Word : {R : Type} → Int → Int → Int → Int → (Int → Int → (List Int) → Option R) → Option R) {R : Type} (fuel : Nat) (K : AV → List O → Option R) (seed : Int) (l : List (Bool × (Int × (Int × Int)))) :
    fnRun Try.prog (T_tutorlaw21_WalkDraws @l_tutorlaw21_live @l_tutorref21_Start @l_walk_New @l_walk_Walk_Int @l_walk_Walk_Int_v1 @l_tutorref21_Int @l_tutorlaw21_num @l_tutorref01_Same @l_walk_Walk_Word @l_walk_Walk_Word_v1 @l_tutorref21_Word) cuts_tutorlaw21_WalkDraws Try.f3 fuel [.v (.int .u64 seed), .rd ⟨false, 29, (.pr .bool (.pr (.int .i64) (.pr (.int .i64) (.int .i64)))), l⟩] [] K =
    (fun (g3_9 : (List (Bool × (Int × (Int × Int)))) → Int → Int → Int → Option R) (K0 : Bool → Option R) (seed : Int) (l : List (Bool × (Int × (Int × Int)))) =>
    bi (decide ((l.length : Int) > 100))
     (l_tutorlaw21_live
      (fun r1 =>
       K0 r1))
     (l_walk_New seed
      (fun r2 =>
       l_tutorref21_Start seed
        (fun r3 =>
         g3_9 l r3 0 r2)))) (fun l x i o0 => (runO Try.prog (T_tutorlaw21_WalkDraws @l_tutorlaw21_live @l_tutorref21_Start @l_walk_New @l_walk_Walk_Int @l_walk_Walk_Int_v1 @l_tutorref21_Int @l_tutorlaw21_num @l_tutorref01_Same @l_walk_Walk_Word @l_walk_Walk_Word_v1 @l_tutorref21_Word) cuts_tutorlaw21_WalkDraws 0 (finish Try.prog Try.f3 0 K) fuel) (at' Try.f3 9) ⟨fr0 153 [(1, .rd ⟨false, 29, (.pr .bool (.pr (.int .i64) (.pr (.int .i64) (.int .i64)))), l⟩), (5, .ptr 0 0), (6, .v (.pointer none)), (7, .v (.int .u64 x)), (8, .v (.int .i64 i))], [.box 94 [.v (.int .u64 o0)]]⟩) (fun r0 => K (.v (.bool r0)) []) seed l := by kernel_rfl

theorem entry_tutorlaw21_WalkDraws {R : Type} (fuel : Nat) (K : AV → List O → Option R) (seed : Int) (l : List (Bool × (Int × (Int × Int)))) :
    fnRun Try.prog (T_tutorlaw21_WalkDraws @l_tutorlaw21_live @l_tutorref21_Start @l_walk_New @l_walk_Walk_Int @l_walk_Walk_Int_v1 @l_tutorref21_Int @l_tutorlaw21_num @l_tutorref01_Same @l_walk_Walk_Word @l_walk_Walk_Word_v1 @l_tutorref21_Word) cuts_tutorlaw21_WalkDraws Try.f3 fuel [.v (.int .u64 seed), .rd ⟨false, 29, (.pr .bool (.pr (.int .i64) (.pr (.int .i64) (.int .i64)))), l⟩] [] K =
    e_tutorlaw21_WalkDraws (fun l x i o0 => (runO Try.prog (T_tutorlaw21_WalkDraws @l_tutorlaw21_live @l_tutorref21_Start @l_walk_New @l_walk_Walk_Int @l_walk_Walk_Int_v1 @l_tutorref21_Int @l_tutorlaw21_num @l_tutorref01_Same @l_walk_Walk_Word @l_walk_Walk_Word_v1 @l_tutorref21_Word) cuts_tutorlaw21_WalkDraws 0 (finish Try.prog Try.f3 0 K) fuel) (at' Try.f3 9) ⟨fr0 153 [(1, .rd ⟨false, 29, (.pr .bool (.pr (.int .i64) (.pr (.int .i64) (.int .i64)))), l⟩), (5, .ptr 0 0), (6, .v (.pointer none)), (7, .v (.int .u64 x)), (8, .v (.int .i64 i))], [.box 94 [.v (.int .u64 o0)]]⟩) (fun r0 => K (.v (.bool r0)) []) seed l := gentry_tutorlaw21_WalkDraws @l_tutorlaw21_live @l_tutorref21_Start @l_walk_New @l_walk_Walk_Int @l_walk_Walk_Int_v1 @l_tutorref21_Int @l_tutorlaw21_num @l_tutorref01_Same @l_walk_Walk_Word @l_walk_Walk_Word_v1 @l_tutorref21_Word fuel K seed l

theorem runs_tutorlaw21_WalkDraws {R : Type} (K : AV → List O → Option R) : ∀ fuel : Nat,
    (fun l x i o0 => (runO Try.prog (T_tutorlaw21_WalkDraws @l_tutorlaw21_live @l_tutorref21_Start @l_walk_New @l_walk_Walk_Int @l_walk_Walk_Int_v1 @l_tutorref21_Int @l_tutorlaw21_num @l_tutorref01_Same @l_walk_Walk_Word @l_walk_Walk_Word_v1 @l_tutorref21_Word) cuts_tutorlaw21_WalkDraws 0 (finish Try.prog Try.f3 0 K) fuel) (at' Try.f3 9) ⟨fr0 153 [(1, .rd ⟨false, 29, (.pr .bool (.pr (.int .i64) (.pr (.int .i64) (.int .i64)))), l⟩), (5, .ptr 0 0), (6, .v (.pointer none)), (7, .v (.int .u64 x)), (8, .v (.int .i64 i))], [.box 94 [.v (.int .u64 o0)]]⟩) = (run_tutorlaw21_WalkDraws (fun r0 => K (.v (.bool r0)) []) fuel)
  | 0 => rfl
  | fuel + 1 => by
    have ih := runs_tutorlaw21_WalkDraws K fuel
    funext l x i o0
    refine (step_tutorlaw21_WalkDraws_9 _ K l x i o0).trans ?_
    rw [ih]
    rfl

def S_tutorlaw21_WalkDraws (l_tutorlaw21_WalkDraws : {R : Type} → Int → (List (Bool × (Int × (Int × Int)))) → (Bool → Option R) → Option R) : Sum := ⟨[], fun {R} args ob K => match args, ob with
  | [.v (.int .u64 seed), .rd ⟨false, 29, (.pr .bool (.pr (.int .i64) (.pr (.int .i64) (.int .i64)))), l⟩], [] => l_tutorlaw21_WalkDraws seed l (fun r0 => K (.v (.bool r0)) [])
  | _, _ => none⟩

theorem sound_tutorlaw21_WalkDraws : Sound Try.prog 3 (S_tutorlaw21_WalkDraws @l_tutorlaw21_WalkDraws) := by
  refine fn_sound (cuts := cuts_tutorlaw21_WalkDraws) (fn := Try.f3) (Γ := (T_tutorlaw21_WalkDraws @l_tutorlaw21_live @l_tutorref21_Start @l_walk_New @l_walk_Walk_Int @l_walk_Walk_Int_v1 @l_tutorref21_Int @l_tutorlaw21_num @l_tutorref01_Same @l_walk_Walk_Word @l_walk_Walk_Word_v1 @l_tutorref21_Word)) wide right_T_tutorlaw21_WalkDraws Try.func3 fun {R} K r args ob h => ?_
  unfold S_tutorlaw21_WalkDraws at h
  dsimp only at h
  split at h
  · obtain ⟨n, hn⟩ := ok_tutorlaw21_WalkDraws _ _ _ h
    refine ⟨Nat.le_of_ble_eq_true (by kernel_rfl), n, (entry_tutorlaw21_WalkDraws n K _ _).trans ?_⟩
    rw [(runs_tutorlaw21_WalkDraws K n)]
    exact hn
  · cases h

theorem call_tutorlaw21_WalkDraws : Callable Try.prog 3 := ⟨_, Try.func3, by kernel_rfl, by kernel_rfl⟩

end Go.Ev
