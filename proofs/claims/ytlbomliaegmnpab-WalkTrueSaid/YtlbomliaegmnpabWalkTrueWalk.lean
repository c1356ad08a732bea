/- Each function of the program is its tree. -/
import Derived.Test.YtlbomliaegmnpabProg
import Derived.Test.YtlbomliaegmnpabEvFn
import Derived.Test.YtlbomliaegmnpabWalkTruePure
namespace Go.Ev
open Go.Proofs
noncomputable section
set_option linter.unusedVariables false
set_option linter.unusedSimpArgs false
set_option maxRecDepth 100000
set_option maxHeartbeats 4000000

theorem wide : Tables.follows Try.prog.toTables .mixedOrders = true := by kernel_rfl

def G0 : FuncId → Option Sum := fun _ => none
theorem right_G0 : Right Try.prog G0 := fun f S h => by cases h

def T_tutorref03_Big : FuncId → Option Sum := G0

theorem right_T_tutorref03_Big : Right Try.prog T_tutorref03_Big := right_G0

abbrev cuts_tutorref03_Big : Cuts := []

theorem gentry_tutorref03_Big {R : Type} (K : AV → List O → Option R) (m : Int) (m_1 : Int) (m_2 : Int) (m_3 : Int) (m_4 : List Int) (m_5 : List Int) (states : Int) :
    fnRun Try.prog T_tutorref03_Big cuts_tutorref03_Big Try.f14 0 [.agg [.v (.int .i64 m), .v (.int .i64 m_1), .v (.int .i64 m_2), .v (.int .i64 m_3), .rd ⟨false, 3, (.int .i64), m_4⟩, .rd ⟨false, 3, (.int .i64), m_5⟩], .v (.int .i64 states)] [] K =
    (fun (m : Int) (m_1 : Int) (m_2 : Int) (m_3 : Int) (m_4 : List Int) (m_5 : List Int) (states : Int) (K0 : Bool → Option R) =>
    bi (decide (m_3 > states))
     (K0 true)
     (bi (decide ((m_4.length : Int) > 70000))
      (K0 true)
      (K0 (decide ((m_5.length : Int) > 70000))))) m m_1 m_2 m_3 m_4 m_5 states (fun r0 => K (.v (.bool r0)) []) := by kernel_rfl

theorem entry_tutorref03_Big {R : Type} (K : AV → List O → Option R) (m : Int) (m_1 : Int) (m_2 : Int) (m_3 : Int) (m_4 : List Int) (m_5 : List Int) (states : Int) :
    fnRun Try.prog T_tutorref03_Big cuts_tutorref03_Big Try.f14 0 [.agg [.v (.int .i64 m), .v (.int .i64 m_1), .v (.int .i64 m_2), .v (.int .i64 m_3), .rd ⟨false, 3, (.int .i64), m_4⟩, .rd ⟨false, 3, (.int .i64), m_5⟩], .v (.int .i64 states)] [] K =
    l_tutorref03_Big m m_1 m_2 m_3 m_4 m_5 states (fun r0 => K (.v (.bool r0)) []) := gentry_tutorref03_Big K m m_1 m_2 m_3 m_4 m_5 states

def S_tutorref03_Big (l_tutorref03_Big : {R : Type} → Int → Int → Int → Int → (List Int) → (List Int) → Int → (Bool → Option R) → Option R) : Sum := ⟨[], fun {R} args ob K => match args, ob with
  | [.agg [.v (.int .i64 m), .v (.int .i64 m_1), .v (.int .i64 m_2), .v (.int .i64 m_3), .rd ⟨false, 3, (.int .i64), m_4⟩, .rd ⟨false, 3, (.int .i64), m_5⟩], .v (.int .i64 states)], [] => l_tutorref03_Big m m_1 m_2 m_3 m_4 m_5 states (fun r0 => K (.v (.bool r0)) [])
  | _, _ => none⟩

theorem sound_tutorref03_Big : Sound Try.prog 14 (S_tutorref03_Big @l_tutorref03_Big) := by
  refine fn_sound (cuts := cuts_tutorref03_Big) (fn := Try.f14) (Γ := T_tutorref03_Big) wide right_T_tutorref03_Big Try.func14 fun {R} K r args ob h => ?_
  unfold S_tutorref03_Big at h
  dsimp only at h
  split at h
  · exact ⟨Nat.le_of_ble_eq_true (by kernel_rfl), 0, (entry_tutorref03_Big K _ _ _ _ _ _ _).trans h⟩
  · cases h

theorem call_tutorref03_Big : Callable Try.prog 14 := ⟨_, Try.func14, by kernel_rfl, by kernel_rfl⟩

def T_walk_New : FuncId → Option Sum := G0

theorem right_T_walk_New : Right Try.prog T_walk_New := right_G0

abbrev cuts_walk_New : Cuts := []

theorem gentry_walk_New {R : Type} (K : AV → List O → Option R) (seed : Int) :
    fnRun Try.prog T_walk_New cuts_walk_New Try.f20 0 [.v (.int .u64 seed)] [] K =
    (fun (seed : Int) (K0 : Int → Option R) =>
    bi (seed == 0)
     (K0 88172645463325252)
     (K0 seed)) seed (fun r0 => K (.ptr 0 0) [.box 83 [.v (.int .u64 r0)]]) := by kernel_rfl

theorem entry_walk_New {R : Type} (K : AV → List O → Option R) (seed : Int) :
    fnRun Try.prog T_walk_New cuts_walk_New Try.f20 0 [.v (.int .u64 seed)] [] K =
    l_walk_New seed (fun r0 => K (.ptr 0 0) [.box 83 [.v (.int .u64 r0)]]) := gentry_walk_New K seed

def S_walk_New (l_walk_New : {R : Type} → Int → (Int → Option R) → Option R) : Sum := ⟨[], fun {R} args ob K => match args, ob with
  | [.v (.int .u64 seed)], [] => l_walk_New seed (fun r0 => K (.ptr 0 0) [.box 83 [.v (.int .u64 r0)]])
  | _, _ => none⟩

theorem sound_walk_New : Sound Try.prog 20 (S_walk_New @l_walk_New) := by
  refine fn_sound (cuts := cuts_walk_New) (fn := Try.f20) (Γ := T_walk_New) wide right_T_walk_New Try.func20 fun {R} K r args ob h => ?_
  unfold S_walk_New at h
  dsimp only at h
  split at h
  · exact ⟨Nat.le_of_ble_eq_true (by kernel_rfl), 0, (entry_walk_New K _).trans h⟩
  · cases h

theorem call_walk_New : Callable Try.prog 20 := ⟨_, Try.func20, by kernel_rfl, by kernel_rfl⟩

def T_tutorref21_Int : FuncId → Option Sum := G0

theorem right_T_tutorref21_Int : Right Try.prog T_tutorref21_Int := right_G0

abbrev cuts_tutorref21_Int : Cuts := []

theorem gentry_tutorref21_Int {R : Type} (K : AV → List O → Option R) (x : Int) (n : Int) :
    fnRun Try.prog T_tutorref21_Int cuts_tutorref21_Int Try.f29 0 [.v (.int .u64 x), .v (.int .i64 n)] [] K =
    (fun (x : Int) (n : Int) (K0 : Int → Int → Option R) =>
    bi (decide (n < 1))
     (K0 0 x)
     (bi (decide ((IntKind.u64.wrap n) = 0))
      none
      (K0 (IntKind.i64.wrap (((IntKind.u64.wrap ((IntKind.u64.wrap (BitVec.ofInt 64 (IntKind.u64.wrap (BitVec.ofInt 64 (IntKind.u64.wrap (BitVec.ofInt 64 x ^^^ BitVec.ofInt 64 (x.fdiv (2 ^ (min (12 : Int).toNat 64)))).toNat) ^^^ BitVec.ofInt 64 (IntKind.u64.wrap ((IntKind.u64.wrap (BitVec.ofInt 64 x ^^^ BitVec.ofInt 64 (x.fdiv (2 ^ (min (12 : Int).toNat 64)))).toNat) * 2 ^ (min (25 : Int).toNat 64)))).toNat) ^^^ BitVec.ofInt 64 ((IntKind.u64.wrap (BitVec.ofInt 64 (IntKind.u64.wrap (BitVec.ofInt 64 x ^^^ BitVec.ofInt 64 (x.fdiv (2 ^ (min (12 : Int).toNat 64)))).toNat) ^^^ BitVec.ofInt 64 (IntKind.u64.wrap ((IntKind.u64.wrap (BitVec.ofInt 64 x ^^^ BitVec.ofInt 64 (x.fdiv (2 ^ (min (12 : Int).toNat 64)))).toNat) * 2 ^ (min (25 : Int).toNat 64)))).toNat).fdiv (2 ^ (min (27 : Int).toNat 64)))).toNat) * 2685821657736338717)).fdiv (2 ^ (min (33 : Int).toNat 64))).tmod (IntKind.u64.wrap n))) (IntKind.u64.wrap (BitVec.ofInt 64 (IntKind.u64.wrap (BitVec.ofInt 64 (IntKind.u64.wrap (BitVec.ofInt 64 x ^^^ BitVec.ofInt 64 (x.fdiv (2 ^ (min (12 : Int).toNat 64)))).toNat) ^^^ BitVec.ofInt 64 (IntKind.u64.wrap ((IntKind.u64.wrap (BitVec.ofInt 64 x ^^^ BitVec.ofInt 64 (x.fdiv (2 ^ (min (12 : Int).toNat 64)))).toNat) * 2 ^ (min (25 : Int).toNat 64)))).toNat) ^^^ BitVec.ofInt 64 ((IntKind.u64.wrap (BitVec.ofInt 64 (IntKind.u64.wrap (BitVec.ofInt 64 x ^^^ BitVec.ofInt 64 (x.fdiv (2 ^ (min (12 : Int).toNat 64)))).toNat) ^^^ BitVec.ofInt 64 (IntKind.u64.wrap ((IntKind.u64.wrap (BitVec.ofInt 64 x ^^^ BitVec.ofInt 64 (x.fdiv (2 ^ (min (12 : Int).toNat 64)))).toNat) * 2 ^ (min (25 : Int).toNat 64)))).toNat).fdiv (2 ^ (min (27 : Int).toNat 64)))).toNat)))) x n (fun r0 r1 => K (.tup [.v (.int .i64 r0), .v (.int .u64 r1)]) []) := by kernel_rfl

theorem entry_tutorref21_Int {R : Type} (K : AV → List O → Option R) (x : Int) (n : Int) :
    fnRun Try.prog T_tutorref21_Int cuts_tutorref21_Int Try.f29 0 [.v (.int .u64 x), .v (.int .i64 n)] [] K =
    l_tutorref21_Int x n (fun r0 r1 => K (.tup [.v (.int .i64 r0), .v (.int .u64 r1)]) []) := gentry_tutorref21_Int K x n

def S_tutorref21_Int (l_tutorref21_Int : {R : Type} → Int → Int → (Int → Int → Option R) → Option R) : Sum := ⟨[], fun {R} args ob K => match args, ob with
  | [.v (.int .u64 x), .v (.int .i64 n)], [] => l_tutorref21_Int x n (fun r0 r1 => K (.tup [.v (.int .i64 r0), .v (.int .u64 r1)]) [])
  | _, _ => none⟩

theorem sound_tutorref21_Int : Sound Try.prog 29 (S_tutorref21_Int @l_tutorref21_Int) := by
  refine fn_sound (cuts := cuts_tutorref21_Int) (fn := Try.f29) (Γ := T_tutorref21_Int) wide right_T_tutorref21_Int Try.func29 fun {R} K r args ob h => ?_
  unfold S_tutorref21_Int at h
  dsimp only at h
  split at h
  · exact ⟨Nat.le_of_ble_eq_true (by kernel_rfl), 0, (entry_tutorref21_Int K _ _).trans h⟩
  · cases h

theorem call_tutorref21_Int : Callable Try.prog 29 := ⟨_, Try.func29, by kernel_rfl, by kernel_rfl⟩

def T_walk_source_draw : FuncId → Option Sum := G0

theorem right_T_walk_source_draw : Right Try.prog T_walk_source_draw := right_G0

abbrev cuts_walk_source_draw : Cuts := []

theorem gentry_walk_source_draw {R : Type} (K : AV → List O → Option R) (o0 : Int) :
    fnRun Try.prog T_walk_source_draw cuts_walk_source_draw Try.f38 0 [.ptr 0 0] [.box 83 [.v (.int .u64 o0)]] K =
    (fun (o0 : Int) (K0 : Int → Int → Option R) =>
    K0 ((IntKind.u64.wrap ((IntKind.u64.wrap (BitVec.ofInt 64 (IntKind.u64.wrap (BitVec.ofInt 64 (IntKind.u64.wrap (BitVec.ofInt 64 o0 ^^^ BitVec.ofInt 64 (o0.fdiv (2 ^ (min (12 : Int).toNat 64)))).toNat) ^^^ BitVec.ofInt 64 (IntKind.u64.wrap ((IntKind.u64.wrap (BitVec.ofInt 64 o0 ^^^ BitVec.ofInt 64 (o0.fdiv (2 ^ (min (12 : Int).toNat 64)))).toNat) * 2 ^ (min (25 : Int).toNat 64)))).toNat) ^^^ BitVec.ofInt 64 ((IntKind.u64.wrap (BitVec.ofInt 64 (IntKind.u64.wrap (BitVec.ofInt 64 o0 ^^^ BitVec.ofInt 64 (o0.fdiv (2 ^ (min (12 : Int).toNat 64)))).toNat) ^^^ BitVec.ofInt 64 (IntKind.u64.wrap ((IntKind.u64.wrap (BitVec.ofInt 64 o0 ^^^ BitVec.ofInt 64 (o0.fdiv (2 ^ (min (12 : Int).toNat 64)))).toNat) * 2 ^ (min (25 : Int).toNat 64)))).toNat).fdiv (2 ^ (min (27 : Int).toNat 64)))).toNat) * 2685821657736338717)).fdiv (2 ^ (min (33 : Int).toNat 64))) (IntKind.u64.wrap (BitVec.ofInt 64 (IntKind.u64.wrap (BitVec.ofInt 64 (IntKind.u64.wrap (BitVec.ofInt 64 o0 ^^^ BitVec.ofInt 64 (o0.fdiv (2 ^ (min (12 : Int).toNat 64)))).toNat) ^^^ BitVec.ofInt 64 (IntKind.u64.wrap ((IntKind.u64.wrap (BitVec.ofInt 64 o0 ^^^ BitVec.ofInt 64 (o0.fdiv (2 ^ (min (12 : Int).toNat 64)))).toNat) * 2 ^ (min (25 : Int).toNat 64)))).toNat) ^^^ BitVec.ofInt 64 ((IntKind.u64.wrap (BitVec.ofInt 64 (IntKind.u64.wrap (BitVec.ofInt 64 o0 ^^^ BitVec.ofInt 64 (o0.fdiv (2 ^ (min (12 : Int).toNat 64)))).toNat) ^^^ BitVec.ofInt 64 (IntKind.u64.wrap ((IntKind.u64.wrap (BitVec.ofInt 64 o0 ^^^ BitVec.ofInt 64 (o0.fdiv (2 ^ (min (12 : Int).toNat 64)))).toNat) * 2 ^ (min (25 : Int).toNat 64)))).toNat).fdiv (2 ^ (min (27 : Int).toNat 64)))).toNat)) o0 (fun r0 r1 => K (.v (.int .u64 r0)) [.box 83 [.v (.int .u64 r1)]]) := by kernel_rfl

theorem entry_walk_source_draw {R : Type} (K : AV → List O → Option R) (o0 : Int) :
    fnRun Try.prog T_walk_source_draw cuts_walk_source_draw Try.f38 0 [.ptr 0 0] [.box 83 [.v (.int .u64 o0)]] K =
    l_walk_source_draw o0 (fun r0 r1 => K (.v (.int .u64 r0)) [.box 83 [.v (.int .u64 r1)]]) := gentry_walk_source_draw K o0

def S_walk_source_draw (l_walk_source_draw : {R : Type} → Int → (Int → Int → Option R) → Option R) : Sum := ⟨[], fun {R} args ob K => match args, ob with
  | [.ptr 0 0], [.box 83 [.v (.int .u64 o0)]] => l_walk_source_draw o0 (fun r0 r1 => K (.v (.int .u64 r0)) [.box 83 [.v (.int .u64 r1)]])
  | _, _ => none⟩

theorem sound_walk_source_draw : Sound Try.prog 38 (S_walk_source_draw @l_walk_source_draw) := by
  refine fn_sound (cuts := cuts_walk_source_draw) (fn := Try.f38) (Γ := T_walk_source_draw) wide right_T_walk_source_draw Try.func38 fun {R} K r args ob h => ?_
  unfold S_walk_source_draw at h
  dsimp only at h
  split at h
  · exact ⟨Nat.le_of_ble_eq_true (by kernel_rfl), 0, (entry_walk_source_draw K _).trans h⟩
  · cases h

theorem call_walk_source_draw : Callable Try.prog 38 := ⟨_, Try.func38, by kernel_rfl, by kernel_rfl⟩

def T_walk_Walk_Int (l_walk_source_draw : {R : Type} → Int → (Int → Int → Option R) → Option R) : FuncId → Option Sum := (addS G0 38 (S_walk_source_draw @l_walk_source_draw))

theorem right_T_walk_Walk_Int : Right Try.prog (T_walk_Walk_Int @l_walk_source_draw) := (right_add right_G0 call_walk_source_draw sound_walk_source_draw)

abbrev cuts_walk_Walk_Int : Cuts := []

theorem gentry_walk_Walk_Int (l_walk_source_draw : {R : Type} → Int → (Int → Int → Option R) → Option R) {R : Type} (K : AV → List O → Option R) (n : Int) (o0 : Int) :
    fnRun Try.prog (T_walk_Walk_Int @l_walk_source_draw) cuts_walk_Walk_Int Try.f21 0 [.ptr 0 0, .v (.int .i64 n)] [.box 83 [.v (.int .u64 o0)]] K =
    (fun (n : Int) (o0 : Int) (K0 : Int → Int → Option R) =>
    bi (decide (n < 1))
     (K0 0 o0)
     (l_walk_source_draw o0
      (fun r1 r2 =>
       bi (decide ((IntKind.u64.wrap n) = 0))
        none
        (K0 (IntKind.i64.wrap (r1.tmod (IntKind.u64.wrap n))) r2)))) n o0 (fun r0 r1 => K (.v (.int .i64 r0)) [.box 83 [.v (.int .u64 r1)]]) := by kernel_rfl

theorem entry_walk_Walk_Int {R : Type} (K : AV → List O → Option R) (n : Int) (o0 : Int) :
    fnRun Try.prog (T_walk_Walk_Int @l_walk_source_draw) cuts_walk_Walk_Int Try.f21 0 [.ptr 0 0, .v (.int .i64 n)] [.box 83 [.v (.int .u64 o0)]] K =
    l_walk_Walk_Int n o0 (fun r0 r1 => K (.v (.int .i64 r0)) [.box 83 [.v (.int .u64 r1)]]) := gentry_walk_Walk_Int @l_walk_source_draw K n o0

def S_walk_Walk_Int (l_walk_Walk_Int : {R : Type} → Int → Int → (Int → Int → Option R) → Option R) : Sum := ⟨[], fun {R} args ob K => match args, ob with
  | [.ptr 0 0, .v (.int .i64 n)], [.box 83 [.v (.int .u64 o0)]] => l_walk_Walk_Int n o0 (fun r0 r1 => K (.v (.int .i64 r0)) [.box 83 [.v (.int .u64 r1)]])
  | _, _ => none⟩

theorem sound_walk_Walk_Int : Sound Try.prog 21 (S_walk_Walk_Int @l_walk_Walk_Int) := by
  refine fn_sound (cuts := cuts_walk_Walk_Int) (fn := Try.f21) (Γ := (T_walk_Walk_Int @l_walk_source_draw)) wide right_T_walk_Walk_Int Try.func21 fun {R} K r args ob h => ?_
  unfold S_walk_Walk_Int at h
  dsimp only at h
  split at h
  · exact ⟨Nat.le_of_ble_eq_true (by kernel_rfl), 0, (entry_walk_Walk_Int K _ _).trans h⟩
  · cases h

theorem call_walk_Walk_Int : Callable Try.prog 21 := ⟨_, Try.func21, by kernel_rfl, by kernel_rfl⟩

def T_tutorlaw21_live (l_walk_Walk_Int : {R : Type} → Int → Int → (Int → Int → Option R) → Option R) (l_tutorref21_Int : {R : Type} → Int → Int → (Int → Int → Option R) → Option R) (l_walk_New : {R : Type} → Int → (Int → Option R) → Option R) : FuncId → Option Sum := (addS (addS (addS G0 21 (S_walk_Walk_Int @l_walk_Walk_Int)) 29 (S_tutorref21_Int @l_tutorref21_Int)) 20 (S_walk_New @l_walk_New))

theorem right_T_tutorlaw21_live : Right Try.prog (T_tutorlaw21_live @l_walk_Walk_Int @l_tutorref21_Int @l_walk_New) := (right_add (right_add (right_add right_G0 call_walk_Walk_Int sound_walk_Walk_Int) call_tutorref21_Int sound_tutorref21_Int) call_walk_New sound_walk_New)

abbrev cuts_tutorlaw21_live : Cuts := []

theorem gentry_tutorlaw21_live (l_walk_Walk_Int : {R : Type} → Int → Int → (Int → Int → Option R) → Option R) (l_tutorref21_Int : {R : Type} → Int → Int → (Int → Int → Option R) → Option R) (l_walk_New : {R : Type} → Int → (Int → Option R) → Option R) {R : Type} (K : AV → List O → Option R)  :
    fnRun Try.prog (T_tutorlaw21_live @l_walk_Walk_Int @l_tutorref21_Int @l_walk_New) cuts_tutorlaw21_live Try.f8 0 [] [] K =
    (fun  (K0 : Bool → Option R) =>
    l_walk_New 1
     (fun r1 =>
      l_tutorref21_Int 1 1000
       (fun r2 r3 =>
        l_tutorref21_Int r3 1000
         (fun r4 r5 =>
          l_walk_Walk_Int 1000 r1
           (fun r6 r7 =>
            bi (r6 == r2)
             (l_walk_Walk_Int 1000 r7
              (fun r8 r9 =>
               bi (r8 == r4)
                (K0 (r2 != r4))
                (K0 false)))
             (K0 false))))))  (fun r0 => K (.v (.bool r0)) []) := by kernel_rfl

theorem entry_tutorlaw21_live {R : Type} (K : AV → List O → Option R)  :
    fnRun Try.prog (T_tutorlaw21_live @l_walk_Walk_Int @l_tutorref21_Int @l_walk_New) cuts_tutorlaw21_live Try.f8 0 [] [] K =
    l_tutorlaw21_live  (fun r0 => K (.v (.bool r0)) []) := gentry_tutorlaw21_live @l_walk_Walk_Int @l_tutorref21_Int @l_walk_New K 

def S_tutorlaw21_live (l_tutorlaw21_live : {R : Type} → (Bool → Option R) → Option R) : Sum := ⟨[], fun {R} args ob K => match args, ob with
  | [], [] => l_tutorlaw21_live  (fun r0 => K (.v (.bool r0)) [])
  | _, _ => none⟩

theorem sound_tutorlaw21_live : Sound Try.prog 8 (S_tutorlaw21_live @l_tutorlaw21_live) := by
  refine fn_sound (cuts := cuts_tutorlaw21_live) (fn := Try.f8) (Γ := (T_tutorlaw21_live @l_walk_Walk_Int @l_tutorref21_Int @l_walk_New)) wide right_T_tutorlaw21_live Try.func8 fun {R} K r args ob h => ?_
  unfold S_tutorlaw21_live at h
  dsimp only at h
  split at h
  · exact ⟨Nat.le_of_ble_eq_true (by kernel_rfl), 0, (entry_tutorlaw21_live K).trans h⟩
  · cases h

theorem call_tutorlaw21_live : Callable Try.prog 8 := ⟨_, Try.func8, by kernel_rfl, by kernel_rfl⟩

def T_machine_says : FuncId → Option Sum := G0

theorem right_T_machine_says : Right Try.prog T_machine_says := right_G0

abbrev cuts_machine_says : Cuts := []

theorem gentry_machine_says {R : Type} (K : AV → List O → Option R) (m : Int) (m_1 : Int) (m_2 : Int) (m_3 : Int) (m_4 : List Int) (m_5 : List Int) :
    fnRun Try.prog T_machine_says cuts_machine_says Try.f56 0 [.agg [.v (.int .i64 m), .v (.int .i64 m_1), .v (.int .i64 m_2), .v (.int .i64 m_3), .rd ⟨false, 3, (.int .i64), m_4⟩, .rd ⟨false, 3, (.int .i64), m_5⟩]] [] K =
    (fun (m : Int) (m_1 : Int) (m_2 : Int) (m_3 : Int) (m_4 : List Int) (m_5 : List Int) (K0 : Int → Option R) =>
    bi (m == 1)
     (K0 m_3)
     (K0 (IntKind.i64.wrap (m_3 * m_1)))) m m_1 m_2 m_3 m_4 m_5 (fun r0 => K (.v (.int .i64 r0)) []) := by kernel_rfl

theorem entry_machine_says {R : Type} (K : AV → List O → Option R) (m : Int) (m_1 : Int) (m_2 : Int) (m_3 : Int) (m_4 : List Int) (m_5 : List Int) :
    fnRun Try.prog T_machine_says cuts_machine_says Try.f56 0 [.agg [.v (.int .i64 m), .v (.int .i64 m_1), .v (.int .i64 m_2), .v (.int .i64 m_3), .rd ⟨false, 3, (.int .i64), m_4⟩, .rd ⟨false, 3, (.int .i64), m_5⟩]] [] K =
    l_machine_says m m_1 m_2 m_3 m_4 m_5 (fun r0 => K (.v (.int .i64 r0)) []) := gentry_machine_says K m m_1 m_2 m_3 m_4 m_5

def S_machine_says (l_machine_says : {R : Type} → Int → Int → Int → Int → (List Int) → (List Int) → (Int → Option R) → Option R) : Sum := ⟨[], fun {R} args ob K => match args, ob with
  | [.agg [.v (.int .i64 m), .v (.int .i64 m_1), .v (.int .i64 m_2), .v (.int .i64 m_3), .rd ⟨false, 3, (.int .i64), m_4⟩, .rd ⟨false, 3, (.int .i64), m_5⟩]], [] => l_machine_says m m_1 m_2 m_3 m_4 m_5 (fun r0 => K (.v (.int .i64 r0)) [])
  | _, _ => none⟩

theorem sound_machine_says : Sound Try.prog 56 (S_machine_says @l_machine_says) := by
  refine fn_sound (cuts := cuts_machine_says) (fn := Try.f56) (Γ := T_machine_says) wide right_T_machine_says Try.func56 fun {R} K r args ob h => ?_
  unfold S_machine_says at h
  dsimp only at h
  split at h
  · exact ⟨Nat.le_of_ble_eq_true (by kernel_rfl), 0, (entry_machine_says K _ _ _ _ _ _).trans h⟩
  · cases h

theorem call_machine_says : Callable Try.prog 56 := ⟨_, Try.func56, by kernel_rfl, by kernel_rfl⟩

def T_machine_head (l_machine_says : {R : Type} → Int → Int → Int → Int → (List Int) → (List Int) → (Int → Option R) → Option R) : FuncId → Option Sum := (addS G0 56 (S_machine_says @l_machine_says))

theorem right_T_machine_head : Right Try.prog (T_machine_head @l_machine_says) := (right_add right_G0 call_machine_says sound_machine_says)

abbrev cuts_machine_head : Cuts := []

theorem gentry_machine_head (l_machine_says : {R : Type} → Int → Int → Int → Int → (List Int) → (List Int) → (Int → Option R) → Option R) {R : Type} (K : AV → List O → Option R) (m : Int) (m_1 : Int) (m_2 : Int) (m_3 : Int) (m_4 : List Int) (m_5 : List Int) :
    fnRun Try.prog (T_machine_head @l_machine_says) cuts_machine_head Try.f48 0 [.agg [.v (.int .i64 m), .v (.int .i64 m_1), .v (.int .i64 m_2), .v (.int .i64 m_3), .rd ⟨false, 3, (.int .i64), m_4⟩, .rd ⟨false, 3, (.int .i64), m_5⟩]] [] K =
    (fun (m : Int) (m_1 : Int) (m_2 : Int) (m_3 : Int) (m_4 : List Int) (m_5 : List Int) (K0 : Int → Option R) =>
    bi (m != 1)
     (bi (m != 2)
      (K0 30)
      (bi (decide (m_1 < 1))
       (K0 1)
       (bi (decide (m_1 > 64))
        (K0 1)
        (bi (m == 1)
         (bi (m_2 != 2)
          (K0 33)
          (bi (decide (m_2 < 1))
           (K0 33)
           (bi (decide (m_2 > 64))
            (K0 33)
            (bi (decide (m_3 < 1))
             (K0 3)
             (bi (decide (m_3 > 1024))
              (K0 3)
              (bi ((m_4.length : Int) != (IntKind.i64.wrap (m_3 * m_1)))
               (K0 31)
               (l_machine_says m m_1 m_2 m_3 m_4 m_5
                (fun r1 =>
                 bi ((m_5.length : Int) != r1)
                  (K0 31)
                  (K0 0)))))))))
         (bi (decide (m_2 < 1))
          (K0 33)
          (bi (decide (m_2 > 64))
           (K0 33)
           (bi (decide (m_3 < 1))
            (K0 3)
            (bi (decide (m_3 > 1024))
             (K0 3)
             (bi ((m_4.length : Int) != (IntKind.i64.wrap (m_3 * m_1)))
              (K0 31)
              (l_machine_says m m_1 m_2 m_3 m_4 m_5
               (fun r2 =>
                bi ((m_5.length : Int) != r2)
                 (K0 31)
                 (K0 0))))))))))))
     (bi (decide (m_1 < 1))
      (K0 1)
      (bi (decide (m_1 > 64))
       (K0 1)
       (bi (m == 1)
        (bi (m_2 != 2)
         (K0 33)
         (bi (decide (m_2 < 1))
          (K0 33)
          (bi (decide (m_2 > 64))
           (K0 33)
           (bi (decide (m_3 < 1))
            (K0 3)
            (bi (decide (m_3 > 1024))
             (K0 3)
             (bi ((m_4.length : Int) != (IntKind.i64.wrap (m_3 * m_1)))
              (K0 31)
              (l_machine_says m m_1 m_2 m_3 m_4 m_5
               (fun r3 =>
                bi ((m_5.length : Int) != r3)
                 (K0 31)
                 (K0 0)))))))))
        (bi (decide (m_2 < 1))
         (K0 33)
         (bi (decide (m_2 > 64))
          (K0 33)
          (bi (decide (m_3 < 1))
           (K0 3)
           (bi (decide (m_3 > 1024))
            (K0 3)
            (bi ((m_4.length : Int) != (IntKind.i64.wrap (m_3 * m_1)))
             (K0 31)
             (l_machine_says m m_1 m_2 m_3 m_4 m_5
              (fun r4 =>
               bi ((m_5.length : Int) != r4)
                (K0 31)
                (K0 0)))))))))))) m m_1 m_2 m_3 m_4 m_5 (fun r0 => K (.v (.int .i64 r0)) []) := by kernel_rfl

theorem entry_machine_head {R : Type} (K : AV → List O → Option R) (m : Int) (m_1 : Int) (m_2 : Int) (m_3 : Int) (m_4 : List Int) (m_5 : List Int) :
    fnRun Try.prog (T_machine_head @l_machine_says) cuts_machine_head Try.f48 0 [.agg [.v (.int .i64 m), .v (.int .i64 m_1), .v (.int .i64 m_2), .v (.int .i64 m_3), .rd ⟨false, 3, (.int .i64), m_4⟩, .rd ⟨false, 3, (.int .i64), m_5⟩]] [] K =
    l_machine_head m m_1 m_2 m_3 m_4 m_5 (fun r0 => K (.v (.int .i64 r0)) []) := gentry_machine_head @l_machine_says K m m_1 m_2 m_3 m_4 m_5

def S_machine_head (l_machine_head : {R : Type} → Int → Int → Int → Int → (List Int) → (List Int) → (Int → Option R) → Option R) : Sum := ⟨[], fun {R} args ob K => match args, ob with
  | [.agg [.v (.int .i64 m), .v (.int .i64 m_1), .v (.int .i64 m_2), .v (.int .i64 m_3), .rd ⟨false, 3, (.int .i64), m_4⟩, .rd ⟨false, 3, (.int .i64), m_5⟩]], [] => l_machine_head m m_1 m_2 m_3 m_4 m_5 (fun r0 => K (.v (.int .i64 r0)) [])
  | _, _ => none⟩

theorem sound_machine_head : Sound Try.prog 48 (S_machine_head @l_machine_head) := by
  refine fn_sound (cuts := cuts_machine_head) (fn := Try.f48) (Γ := (T_machine_head @l_machine_says)) wide right_T_machine_head Try.func48 fun {R} K r args ob h => ?_
  unfold S_machine_head at h
  dsimp only at h
  split at h
  · exact ⟨Nat.le_of_ble_eq_true (by kernel_rfl), 0, (entry_machine_head K _ _ _ _ _ _).trans h⟩
  · cases h

theorem call_machine_head : Callable Try.prog 48 := ⟨_, Try.func48, by kernel_rfl, by kernel_rfl⟩

def T_machine_beyond : FuncId → Option Sum := G0

theorem right_T_machine_beyond : Right Try.prog T_machine_beyond := right_G0

abbrev cuts_machine_beyond : Cuts := [(2, [0, 1, 7, 8])]

theorem gstep_machine_beyond_2 {R : Type} (g : List Item → St → Option R) (K : AV → List O → Option R) (l : List Int) (n : Int) (x7 : Int) (x8 : Int) :
    runSeg Try.prog T_machine_beyond cuts_machine_beyond 0 g (finish Try.prog Try.f49 0 K) (at' Try.f49 2) ⟨fr0 21 [(0, .rd ⟨false, 3, (.int .i64), l⟩), (1, .v (.int .i64 n)), (7, .v (.int .i64 x7)), (8, .v (.int .i64 x8))], []⟩ =
    (fun (g49_2 : (List Int) → Int → Int → Int → Option R) (K0 : Int → Option R) (l : List Int) (n : Int) (x7 : Int) (x8 : Int) =>
    bi (decide (x8 < x7))
     (bi (decide (0 ≤ x8 ∧ x8 < ((l.length : Nat) : Int)))
      (bi (decide ((IntKind.u64.wrap (l.getD x8.toNat 0)) ≥ (IntKind.u64.wrap n)))
       (K0 x8)
       (g49_2 l n x7 (IntKind.i64.wrap (x8 + 1))))
      none)
     (K0 (-1))) (fun l n x7 x8 => g (at' Try.f49 2) ⟨fr0 21 [(0, .rd ⟨false, 3, (.int .i64), l⟩), (1, .v (.int .i64 n)), (7, .v (.int .i64 x7)), (8, .v (.int .i64 x8))], []⟩) (fun r0 => K (.v (.int .i64 r0)) []) l n x7 x8 := by kernel_rfl

theorem step_machine_beyond_2 {R : Type} (g : List Item → St → Option R) (K : AV → List O → Option R) (l : List Int) (n : Int) (x7 : Int) (x8 : Int) :
    runSeg Try.prog T_machine_beyond cuts_machine_beyond 0 g (finish Try.prog Try.f49 0 K) (at' Try.f49 2) ⟨fr0 21 [(0, .rd ⟨false, 3, (.int .i64), l⟩), (1, .v (.int .i64 n)), (7, .v (.int .i64 x7)), (8, .v (.int .i64 x8))], []⟩ =
    s_machine_beyond_2 (fun l n x7 x8 => g (at' Try.f49 2) ⟨fr0 21 [(0, .rd ⟨false, 3, (.int .i64), l⟩), (1, .v (.int .i64 n)), (7, .v (.int .i64 x7)), (8, .v (.int .i64 x8))], []⟩) (fun r0 => K (.v (.int .i64 r0)) []) l n x7 x8 := gstep_machine_beyond_2 g K l n x7 x8

theorem gentry_machine_beyond {R : Type} (fuel : Nat) (K : AV → List O → Option R) (l : List Int) (n : Int) :
    fnRun Try.prog T_machine_beyond cuts_machine_beyond Try.f49 fuel [.rd ⟨false, 3, (.int .i64), l⟩, .v (.int .i64 n)] [] K =
    (fun (g49_2 : (List Int) → Int → Int → Int → Option R) (K0 : Int → Option R) (l : List Int) (n : Int) =>
    g49_2 l n (l.length : Int) 0) (fun l n x7 x8 => (runO Try.prog T_machine_beyond cuts_machine_beyond 0 (finish Try.prog Try.f49 0 K) fuel) (at' Try.f49 2) ⟨fr0 21 [(0, .rd ⟨false, 3, (.int .i64), l⟩), (1, .v (.int .i64 n)), (7, .v (.int .i64 x7)), (8, .v (.int .i64 x8))], []⟩) (fun r0 => K (.v (.int .i64 r0)) []) l n := by kernel_rfl

theorem entry_machine_beyond {R : Type} (fuel : Nat) (K : AV → List O → Option R) (l : List Int) (n : Int) :
    fnRun Try.prog T_machine_beyond cuts_machine_beyond Try.f49 fuel [.rd ⟨false, 3, (.int .i64), l⟩, .v (.int .i64 n)] [] K =
    e_machine_beyond (fun l n x7 x8 => (runO Try.prog T_machine_beyond cuts_machine_beyond 0 (finish Try.prog Try.f49 0 K) fuel) (at' Try.f49 2) ⟨fr0 21 [(0, .rd ⟨false, 3, (.int .i64), l⟩), (1, .v (.int .i64 n)), (7, .v (.int .i64 x7)), (8, .v (.int .i64 x8))], []⟩) (fun r0 => K (.v (.int .i64 r0)) []) l n := gentry_machine_beyond fuel K l n

theorem runs_machine_beyond {R : Type} (K : AV → List O → Option R) : ∀ fuel : Nat,
    (fun l n x7 x8 => (runO Try.prog T_machine_beyond cuts_machine_beyond 0 (finish Try.prog Try.f49 0 K) fuel) (at' Try.f49 2) ⟨fr0 21 [(0, .rd ⟨false, 3, (.int .i64), l⟩), (1, .v (.int .i64 n)), (7, .v (.int .i64 x7)), (8, .v (.int .i64 x8))], []⟩) = (run_machine_beyond (fun r0 => K (.v (.int .i64 r0)) []) fuel)
  | 0 => rfl
  | fuel + 1 => by
    have ih := runs_machine_beyond K fuel
    funext l n x7 x8
    refine (step_machine_beyond_2 _ K l n x7 x8).trans ?_
    rw [ih]
    rfl

def S_machine_beyond (l_machine_beyond : {R : Type} → (List Int) → Int → (Int → Option R) → Option R) : Sum := ⟨[], fun {R} args ob K => match args, ob with
  | [.rd ⟨false, 3, (.int .i64), l⟩, .v (.int .i64 n)], [] => l_machine_beyond l n (fun r0 => K (.v (.int .i64 r0)) [])
  | _, _ => none⟩

theorem sound_machine_beyond : Sound Try.prog 49 (S_machine_beyond @l_machine_beyond) := by
  refine fn_sound (cuts := cuts_machine_beyond) (fn := Try.f49) (Γ := T_machine_beyond) wide right_T_machine_beyond Try.func49 fun {R} K r args ob h => ?_
  unfold S_machine_beyond at h
  dsimp only at h
  split at h
  · obtain ⟨n, hn⟩ := ok_machine_beyond _ _ _ h
    refine ⟨Nat.le_of_ble_eq_true (by kernel_rfl), n, (entry_machine_beyond n K _ _).trans ?_⟩
    rw [(runs_machine_beyond K n)]
    exact hn
  · cases h

theorem call_machine_beyond : Callable Try.prog 49 := ⟨_, Try.func49, by kernel_rfl, by kernel_rfl⟩

def T_machine_Check (l_machine_beyond : {R : Type} → (List Int) → Int → (Int → Option R) → Option R) (l_machine_head : {R : Type} → Int → Int → Int → Int → (List Int) → (List Int) → (Int → Option R) → Option R) : FuncId → Option Sum := (addS (addS G0 49 (S_machine_beyond @l_machine_beyond)) 48 (S_machine_head @l_machine_head))

theorem right_T_machine_Check : Right Try.prog (T_machine_Check @l_machine_beyond @l_machine_head) := (right_add (right_add right_G0 call_machine_beyond sound_machine_beyond) call_machine_head sound_machine_head)

abbrev cuts_machine_Check : Cuts := []

theorem gentry_machine_Check (l_machine_beyond : {R : Type} → (List Int) → Int → (Int → Option R) → Option R) (l_machine_head : {R : Type} → Int → Int → Int → Int → (List Int) → (List Int) → (Int → Option R) → Option R) {R : Type} (K : AV → List O → Option R) (m : Int) (m_1 : Int) (m_2 : Int) (m_3 : Int) (m_4 : List Int) (m_5 : List Int) :
    fnRun Try.prog (T_machine_Check @l_machine_beyond @l_machine_head) cuts_machine_Check Try.f36 0 [.agg [.v (.int .i64 m), .v (.int .i64 m_1), .v (.int .i64 m_2), .v (.int .i64 m_3), .rd ⟨false, 3, (.int .i64), m_4⟩, .rd ⟨false, 3, (.int .i64), m_5⟩]] [] K =
    (fun (m : Int) (m_1 : Int) (m_2 : Int) (m_3 : Int) (m_4 : List Int) (m_5 : List Int) (K0 : Int → Int → Option R) =>
    l_machine_head m m_1 m_2 m_3 m_4 m_5
     (fun r1 =>
      bi (r1 != 0)
       (K0 0 r1)
       (l_machine_beyond m_4 m_3
        (fun r2 =>
         bi (decide (r2 ≥ 0))
          (K0 r2 32)
          (l_machine_beyond m_5 m_2
           (fun r3 =>
            bi (decide (r3 ≥ 0))
             (K0 r3 33)
             (K0 0 0))))))) m m_1 m_2 m_3 m_4 m_5 (fun r0 r1 => K (.tup [.v (.int .i64 r0), .v (.int .i64 r1)]) []) := by kernel_rfl

theorem entry_machine_Check {R : Type} (K : AV → List O → Option R) (m : Int) (m_1 : Int) (m_2 : Int) (m_3 : Int) (m_4 : List Int) (m_5 : List Int) :
    fnRun Try.prog (T_machine_Check @l_machine_beyond @l_machine_head) cuts_machine_Check Try.f36 0 [.agg [.v (.int .i64 m), .v (.int .i64 m_1), .v (.int .i64 m_2), .v (.int .i64 m_3), .rd ⟨false, 3, (.int .i64), m_4⟩, .rd ⟨false, 3, (.int .i64), m_5⟩]] [] K =
    l_machine_Check m m_1 m_2 m_3 m_4 m_5 (fun r0 r1 => K (.tup [.v (.int .i64 r0), .v (.int .i64 r1)]) []) := gentry_machine_Check @l_machine_beyond @l_machine_head K m m_1 m_2 m_3 m_4 m_5

def S_machine_Check (l_machine_Check : {R : Type} → Int → Int → Int → Int → (List Int) → (List Int) → (Int → Int → Option R) → Option R) : Sum := ⟨[], fun {R} args ob K => match args, ob with
  | [.agg [.v (.int .i64 m), .v (.int .i64 m_1), .v (.int .i64 m_2), .v (.int .i64 m_3), .rd ⟨false, 3, (.int .i64), m_4⟩, .rd ⟨false, 3, (.int .i64), m_5⟩]], [] => l_machine_Check m m_1 m_2 m_3 m_4 m_5 (fun r0 r1 => K (.tup [.v (.int .i64 r0), .v (.int .i64 r1)]) [])
  | _, _ => none⟩

theorem sound_machine_Check : Sound Try.prog 36 (S_machine_Check @l_machine_Check) := by
  refine fn_sound (cuts := cuts_machine_Check) (fn := Try.f36) (Γ := (T_machine_Check @l_machine_beyond @l_machine_head)) wide right_T_machine_Check Try.func36 fun {R} K r args ob h => ?_
  unfold S_machine_Check at h
  dsimp only at h
  split at h
  · exact ⟨Nat.le_of_ble_eq_true (by kernel_rfl), 0, (entry_machine_Check K _ _ _ _ _ _).trans h⟩
  · cases h

theorem call_machine_Check : Callable Try.prog 36 := ⟨_, Try.func36, by kernel_rfl, by kernel_rfl⟩

def T_walk_Stroll (l_walk_New : {R : Type} → Int → (Int → Option R) → Option R) (l_machine_Check : {R : Type} → Int → Int → Int → Int → (List Int) → (List Int) → (Int → Int → Option R) → Option R) (l_walk_Walk_Int : {R : Type} → Int → Int → (Int → Int → Option R) → Option R) : FuncId → Option Sum := (addS (addS (addS G0 20 (S_walk_New @l_walk_New)) 36 (S_machine_Check @l_machine_Check)) 21 (S_walk_Walk_Int @l_walk_Walk_Int))

theorem right_T_walk_Stroll : Right Try.prog (T_walk_Stroll @l_walk_New @l_machine_Check @l_walk_Walk_Int) := (right_add (right_add (right_add right_G0 call_walk_New sound_walk_New) call_machine_Check sound_machine_Check) call_walk_Walk_Int sound_walk_Walk_Int)

abbrev cuts_walk_Stroll : Cuts := [(14, [3, 4, 8, 12, 13, 14, 15, 54, 55])]

theorem gstep_walk_Stroll_14 (l_walk_New : {R : Type} → Int → (Int → Option R) → Option R) (l_machine_Check : {R : Type} → Int → Int → Int → Int → (List Int) → (List Int) → (Int → Int → Option R) → Option R) (l_walk_Walk_Int : {R : Type} → Int → Int → (Int → Int → Option R) → Option R) {R : Type} (g : List Item → St → Option R) (K : AV → List O → Option R) (stop : Int) (s : Int) (x54 : Int) (x55 : Int) (o0 : Int) (o0_1 : Int) (o0_2 : Int) (o0_3 : Int) (o0_4 : List Int) (o0_5 : List Int) (o2 : List (List Int)) (o3 : List Int) (o4 : List Int) (o5 : Int) (o7 : List (List Int)) (o8 : List Int) (o9 : List Int) (o10 : List Int) :
    runSeg Try.prog (T_walk_Stroll @l_walk_New @l_machine_Check @l_walk_Walk_Int) cuts_walk_Stroll 0 g (finish Try.prog Try.f16 0 K) (at' Try.f16 14) ⟨fr0 123 [(3, .v (.int .i64 stop)), (4, .ptr 0 0), (8, .ptr 1 0), (12, .ptr 5 0), (13, .ptr 6 0), (14, .own 10), (15, .v (.int .i64 s)), (54, .v (.int .i64 x54)), (55, .v (.int .i64 x55))], [.box 36 [.v (.int .i64 o0), .v (.int .i64 o0_1), .v (.int .i64 o0_2), .v (.int .i64 o0_3), .rd ⟨false, 3, (.int .i64), o0_4⟩, .rd ⟨false, 3, (.int .i64), o0_5⟩], .box 40 [.nst 2, .own 3, .own 4], .nst ⟨true, 34, (.sl 3 (.int .i64)), o2⟩, .row ⟨true, 3, (.int .i64), o3⟩, .row ⟨true, 3, (.int .i64), o4⟩, .box 83 [.v (.int .u64 o5)], .box 40 [.nst 7, .own 8, .own 9], .nst ⟨true, 34, (.sl 3 (.int .i64)), o7⟩, .row ⟨true, 3, (.int .i64), o8⟩, .row ⟨true, 3, (.int .i64), o9⟩, .row ⟨true, 3, (.int .i64), o10⟩]⟩ =
    (fun (g16_14 : Int → Int → Int → Int → Int → Int → Int → Int → (List Int) → (List Int) → (List (List Int)) → (List Int) → (List Int) → Int → (List (List Int)) → (List Int) → (List Int) → (List Int) → Option R) (K0 : Int → (List (List Int)) → (List Int) → (List Int) → Option R) (stop : Int) (s : Int) (x54 : Int) (x55 : Int) (o0 : Int) (o0_1 : Int) (o0_2 : Int) (o0_3 : Int) (o0_4 : List Int) (o0_5 : List Int) (o2 : List (List Int)) (o3 : List Int) (o4 : List Int) (o5 : Int) (o7 : List (List Int)) (o8 : List Int) (o9 : List Int) (o10 : List Int) =>
    bi (decide (x55 < x54))
     (l_walk_Walk_Int stop o5
      (fun r4 r5 =>
       bi (r4 == 0)
        (bi (decide ((o7.length + [o10].length) * 24 ≤ lim))
         (bi (decide (0 ≤ (0 : Int) ∧ (0 : Int) < ((o8.length : Nat) : Int)))
          (bi (decide (0 ≤ (0 : Int) ∧ (0 : Int) < ((o8.length : Nat) : Int)))
           (l_walk_Walk_Int o0_1 r5
            (fun r6 r7 =>
             bi (decide ((([] : List Int).length + [r6].length) * 8 ≤ lim))
              (bi (decide (0 ≤ (IntKind.i64.wrap ((IntKind.i64.wrap (0 * o0_1)) + r6)) ∧ (IntKind.i64.wrap ((IntKind.i64.wrap (0 * o0_1)) + r6)) < ((o9.length : Nat) : Int)))
               (bi (decide (0 ≤ (IntKind.i64.wrap ((IntKind.i64.wrap (0 * o0_1)) + r6)) ∧ (IntKind.i64.wrap ((IntKind.i64.wrap (0 * o0_1)) + r6)) < ((o9.length : Nat) : Int)))
                (bi (decide (0 ≤ (IntKind.i64.wrap ((IntKind.i64.wrap (0 * o0_1)) + r6)) ∧ (IntKind.i64.wrap ((IntKind.i64.wrap (0 * o0_1)) + r6)) < ((o0_4.length : Nat) : Int)))
                 (bi (decide (0 ≤ (o0_4.getD ((IntKind.i64.wrap ((IntKind.i64.wrap (0 * o0_1)) + r6)).toNat) 0) ∧ (o0_4.getD ((IntKind.i64.wrap ((IntKind.i64.wrap (0 * o0_1)) + r6)).toNat) 0) < (((o8.set 0 (IntKind.i64.wrap ((o8.getD 0 0) + 1))).length : Nat) : Int)))
                  (bi (decide (0 ≤ (o0_4.getD ((IntKind.i64.wrap ((IntKind.i64.wrap (0 * o0_1)) + r6)).toNat) 0) ∧ (o0_4.getD ((IntKind.i64.wrap ((IntKind.i64.wrap (0 * o0_1)) + r6)).toNat) 0) < (((o8.set 0 (IntKind.i64.wrap ((o8.getD 0 0) + 1))).length : Nat) : Int)))
                   (g16_14 stop (o0_4.getD ((IntKind.i64.wrap ((IntKind.i64.wrap (0 * o0_1)) + r6)).toNat) 0) x54 (IntKind.i64.wrap (x55 + 1)) o0 o0_1 o0_2 o0_3 o0_4 o0_5 o2 o3 o4 r7 (o7 ++ [o10]) ((o8.set 0 (IntKind.i64.wrap ((o8.getD 0 0) + 1))).set ((o0_4.getD ((IntKind.i64.wrap ((IntKind.i64.wrap (0 * o0_1)) + r6)).toNat) 0).toNat) (IntKind.i64.wrap (((o8.set 0 (IntKind.i64.wrap ((o8.getD 0 0) + 1))).getD ((o0_4.getD ((IntKind.i64.wrap ((IntKind.i64.wrap (0 * o0_1)) + r6)).toNat) 0).toNat) 0) + 1))) (o9.set ((IntKind.i64.wrap ((IntKind.i64.wrap (0 * o0_1)) + r6)).toNat) (IntKind.i64.wrap ((o9.getD ((IntKind.i64.wrap ((IntKind.i64.wrap (0 * o0_1)) + r6)).toNat) 0) + 1))) (([] : List Int) ++ [r6]))
                   none)
                  none)
                 none)
                none)
               none)
              none))
           none)
          none)
         none)
        (bi ((o10.length : Int) == 4096)
         (bi (decide ((o7.length + [o10].length) * 24 ≤ lim))
          (bi (decide (0 ≤ (0 : Int) ∧ (0 : Int) < ((o8.length : Nat) : Int)))
           (bi (decide (0 ≤ (0 : Int) ∧ (0 : Int) < ((o8.length : Nat) : Int)))
            (l_walk_Walk_Int o0_1 r5
             (fun r8 r9 =>
              bi (decide ((([] : List Int).length + [r8].length) * 8 ≤ lim))
               (bi (decide (0 ≤ (IntKind.i64.wrap ((IntKind.i64.wrap (0 * o0_1)) + r8)) ∧ (IntKind.i64.wrap ((IntKind.i64.wrap (0 * o0_1)) + r8)) < ((o9.length : Nat) : Int)))
                (bi (decide (0 ≤ (IntKind.i64.wrap ((IntKind.i64.wrap (0 * o0_1)) + r8)) ∧ (IntKind.i64.wrap ((IntKind.i64.wrap (0 * o0_1)) + r8)) < ((o9.length : Nat) : Int)))
                 (bi (decide (0 ≤ (IntKind.i64.wrap ((IntKind.i64.wrap (0 * o0_1)) + r8)) ∧ (IntKind.i64.wrap ((IntKind.i64.wrap (0 * o0_1)) + r8)) < ((o0_4.length : Nat) : Int)))
                  (bi (decide (0 ≤ (o0_4.getD ((IntKind.i64.wrap ((IntKind.i64.wrap (0 * o0_1)) + r8)).toNat) 0) ∧ (o0_4.getD ((IntKind.i64.wrap ((IntKind.i64.wrap (0 * o0_1)) + r8)).toNat) 0) < (((o8.set 0 (IntKind.i64.wrap ((o8.getD 0 0) + 1))).length : Nat) : Int)))
                   (bi (decide (0 ≤ (o0_4.getD ((IntKind.i64.wrap ((IntKind.i64.wrap (0 * o0_1)) + r8)).toNat) 0) ∧ (o0_4.getD ((IntKind.i64.wrap ((IntKind.i64.wrap (0 * o0_1)) + r8)).toNat) 0) < (((o8.set 0 (IntKind.i64.wrap ((o8.getD 0 0) + 1))).length : Nat) : Int)))
                    (g16_14 stop (o0_4.getD ((IntKind.i64.wrap ((IntKind.i64.wrap (0 * o0_1)) + r8)).toNat) 0) x54 (IntKind.i64.wrap (x55 + 1)) o0 o0_1 o0_2 o0_3 o0_4 o0_5 o2 o3 o4 r9 (o7 ++ [o10]) ((o8.set 0 (IntKind.i64.wrap ((o8.getD 0 0) + 1))).set ((o0_4.getD ((IntKind.i64.wrap ((IntKind.i64.wrap (0 * o0_1)) + r8)).toNat) 0).toNat) (IntKind.i64.wrap (((o8.set 0 (IntKind.i64.wrap ((o8.getD 0 0) + 1))).getD ((o0_4.getD ((IntKind.i64.wrap ((IntKind.i64.wrap (0 * o0_1)) + r8)).toNat) 0).toNat) 0) + 1))) (o9.set ((IntKind.i64.wrap ((IntKind.i64.wrap (0 * o0_1)) + r8)).toNat) (IntKind.i64.wrap ((o9.getD ((IntKind.i64.wrap ((IntKind.i64.wrap (0 * o0_1)) + r8)).toNat) 0) + 1))) (([] : List Int) ++ [r8]))
                    none)
                   none)
                  none)
                 none)
                none)
               none))
            none)
           none)
          none)
         (l_walk_Walk_Int o0_1 r5
          (fun r10 r11 =>
           bi (decide ((o10.length + [r10].length) * 8 ≤ lim))
            (bi (decide (0 ≤ (IntKind.i64.wrap ((IntKind.i64.wrap (s * o0_1)) + r10)) ∧ (IntKind.i64.wrap ((IntKind.i64.wrap (s * o0_1)) + r10)) < ((o9.length : Nat) : Int)))
             (bi (decide (0 ≤ (IntKind.i64.wrap ((IntKind.i64.wrap (s * o0_1)) + r10)) ∧ (IntKind.i64.wrap ((IntKind.i64.wrap (s * o0_1)) + r10)) < ((o9.length : Nat) : Int)))
              (bi (decide (0 ≤ (IntKind.i64.wrap ((IntKind.i64.wrap (s * o0_1)) + r10)) ∧ (IntKind.i64.wrap ((IntKind.i64.wrap (s * o0_1)) + r10)) < ((o0_4.length : Nat) : Int)))
               (bi (decide (0 ≤ (o0_4.getD ((IntKind.i64.wrap ((IntKind.i64.wrap (s * o0_1)) + r10)).toNat) 0) ∧ (o0_4.getD ((IntKind.i64.wrap ((IntKind.i64.wrap (s * o0_1)) + r10)).toNat) 0) < ((o8.length : Nat) : Int)))
                (bi (decide (0 ≤ (o0_4.getD ((IntKind.i64.wrap ((IntKind.i64.wrap (s * o0_1)) + r10)).toNat) 0) ∧ (o0_4.getD ((IntKind.i64.wrap ((IntKind.i64.wrap (s * o0_1)) + r10)).toNat) 0) < ((o8.length : Nat) : Int)))
                 (g16_14 stop (o0_4.getD ((IntKind.i64.wrap ((IntKind.i64.wrap (s * o0_1)) + r10)).toNat) 0) x54 (IntKind.i64.wrap (x55 + 1)) o0 o0_1 o0_2 o0_3 o0_4 o0_5 o2 o3 o4 r11 o7 (o8.set ((o0_4.getD ((IntKind.i64.wrap ((IntKind.i64.wrap (s * o0_1)) + r10)).toNat) 0).toNat) (IntKind.i64.wrap ((o8.getD ((o0_4.getD ((IntKind.i64.wrap ((IntKind.i64.wrap (s * o0_1)) + r10)).toNat) 0).toNat) 0) + 1))) (o9.set ((IntKind.i64.wrap ((IntKind.i64.wrap (s * o0_1)) + r10)).toNat) (IntKind.i64.wrap ((o9.getD ((IntKind.i64.wrap ((IntKind.i64.wrap (s * o0_1)) + r10)).toNat) 0) + 1))) (o10 ++ [r10]))
                 none)
                none)
               none)
              none)
             none)
            none)))))
     (bi (decide ((o7.length + [o10].length) * 24 ≤ lim))
      (K0 0 (o7 ++ [o10]) o8 o9)
      none)) (fun stop s x54 x55 o0 o0_1 o0_2 o0_3 o0_4 o0_5 o2 o3 o4 o5 o7 o8 o9 o10 => g (at' Try.f16 14) ⟨fr0 123 [(3, .v (.int .i64 stop)), (4, .ptr 0 0), (8, .ptr 1 0), (12, .ptr 5 0), (13, .ptr 6 0), (14, .own 10), (15, .v (.int .i64 s)), (54, .v (.int .i64 x54)), (55, .v (.int .i64 x55))], [.box 36 [.v (.int .i64 o0), .v (.int .i64 o0_1), .v (.int .i64 o0_2), .v (.int .i64 o0_3), .rd ⟨false, 3, (.int .i64), o0_4⟩, .rd ⟨false, 3, (.int .i64), o0_5⟩], .box 40 [.nst 2, .own 3, .own 4], .nst ⟨true, 34, (.sl 3 (.int .i64)), o2⟩, .row ⟨true, 3, (.int .i64), o3⟩, .row ⟨true, 3, (.int .i64), o4⟩, .box 83 [.v (.int .u64 o5)], .box 40 [.nst 7, .own 8, .own 9], .nst ⟨true, 34, (.sl 3 (.int .i64)), o7⟩, .row ⟨true, 3, (.int .i64), o8⟩, .row ⟨true, 3, (.int .i64), o9⟩, .row ⟨true, 3, (.int .i64), o10⟩]⟩) (fun r0 r1 r2 r3 => K (.tup [.agg [.nst 0, .own 1, .own 2], .v (.int .i64 r0)]) [.nst ⟨true, 34, (.sl 3 (.int .i64)), r1⟩, .row ⟨true, 3, (.int .i64), r2⟩, .row ⟨true, 3, (.int .i64), r3⟩]) stop s x54 x55 o0 o0_1 o0_2 o0_3 o0_4 o0_5 o2 o3 o4 o5 o7 o8 o9 o10 := by kernel_rfl

theorem step_walk_Stroll_14 {R : Type} (g : List Item → St → Option R) (K : AV → List O → Option R) (stop : Int) (s : Int) (x54 : Int) (x55 : Int) (o0 : Int) (o0_1 : Int) (o0_2 : Int) (o0_3 : Int) (o0_4 : List Int) (o0_5 : List Int) (o2 : List (List Int)) (o3 : List Int) (o4 : List Int) (o5 : Int) (o7 : List (List Int)) (o8 : List Int) (o9 : List Int) (o10 : List Int) :
    runSeg Try.prog (T_walk_Stroll @l_walk_New @l_machine_Check @l_walk_Walk_Int) cuts_walk_Stroll 0 g (finish Try.prog Try.f16 0 K) (at' Try.f16 14) ⟨fr0 123 [(3, .v (.int .i64 stop)), (4, .ptr 0 0), (8, .ptr 1 0), (12, .ptr 5 0), (13, .ptr 6 0), (14, .own 10), (15, .v (.int .i64 s)), (54, .v (.int .i64 x54)), (55, .v (.int .i64 x55))], [.box 36 [.v (.int .i64 o0), .v (.int .i64 o0_1), .v (.int .i64 o0_2), .v (.int .i64 o0_3), .rd ⟨false, 3, (.int .i64), o0_4⟩, .rd ⟨false, 3, (.int .i64), o0_5⟩], .box 40 [.nst 2, .own 3, .own 4], .nst ⟨true, 34, (.sl 3 (.int .i64)), o2⟩, .row ⟨true, 3, (.int .i64), o3⟩, .row ⟨true, 3, (.int .i64), o4⟩, .box 83 [.v (.int .u64 o5)], .box 40 [.nst 7, .own 8, .own 9], .nst ⟨true, 34, (.sl 3 (.int .i64)), o7⟩, .row ⟨true, 3, (.int .i64), o8⟩, .row ⟨true, 3, (.int .i64), o9⟩, .row ⟨true, 3, (.int .i64), o10⟩]⟩ =
    s_walk_Stroll_14 (fun stop s x54 x55 o0 o0_1 o0_2 o0_3 o0_4 o0_5 o2 o3 o4 o5 o7 o8 o9 o10 => g (at' Try.f16 14) ⟨fr0 123 [(3, .v (.int .i64 stop)), (4, .ptr 0 0), (8, .ptr 1 0), (12, .ptr 5 0), (13, .ptr 6 0), (14, .own 10), (15, .v (.int .i64 s)), (54, .v (.int .i64 x54)), (55, .v (.int .i64 x55))], [.box 36 [.v (.int .i64 o0), .v (.int .i64 o0_1), .v (.int .i64 o0_2), .v (.int .i64 o0_3), .rd ⟨false, 3, (.int .i64), o0_4⟩, .rd ⟨false, 3, (.int .i64), o0_5⟩], .box 40 [.nst 2, .own 3, .own 4], .nst ⟨true, 34, (.sl 3 (.int .i64)), o2⟩, .row ⟨true, 3, (.int .i64), o3⟩, .row ⟨true, 3, (.int .i64), o4⟩, .box 83 [.v (.int .u64 o5)], .box 40 [.nst 7, .own 8, .own 9], .nst ⟨true, 34, (.sl 3 (.int .i64)), o7⟩, .row ⟨true, 3, (.int .i64), o8⟩, .row ⟨true, 3, (.int .i64), o9⟩, .row ⟨true, 3, (.int .i64), o10⟩]⟩) (fun r0 r1 r2 r3 => K (.tup [.agg [.nst 0, .own 1, .own 2], .v (.int .i64 r0)]) [.nst ⟨true, 34, (.sl 3 (.int .i64)), r1⟩, .row ⟨true, 3, (.int .i64), r2⟩, .row ⟨true, 3, (.int .i64), r3⟩]) stop s x54 x55 o0 o0_1 o0_2 o0_3 o0_4 o0_5 o2 o3 o4 o5 o7 o8 o9 o10 := gstep_walk_Stroll_14 @l_walk_New @l_machine_Check @l_walk_Walk_Int g K stop s x54 x55 o0 o0_1 o0_2 o0_3 o0_4 o0_5 o2 o3 o4 o5 o7 o8 o9 o10

theorem gentry_walk_Stroll (l_walk_New : {R : Type} → Int → (Int → Option R) → Option R) (l_machine_Check : {R : Type} → Int → Int → Int → Int → (List Int) → (List Int) → (Int → Int → Option R) → Option R) (l_walk_Walk_Int : {R : Type} → Int → Int → (Int → Int → Option R) → Option R) {R : Type} (fuel : Nat) (K : AV → List O → Option R) (m : Int) (m_1 : Int) (m_2 : Int) (m_3 : Int) (m_4 : List Int) (m_5 : List Int) (seed : Int) (steps : Int) (stop : Int) :
    fnRun Try.prog (T_walk_Stroll @l_walk_New @l_machine_Check @l_walk_Walk_Int) cuts_walk_Stroll Try.f16 fuel [.agg [.v (.int .i64 m), .v (.int .i64 m_1), .v (.int .i64 m_2), .v (.int .i64 m_3), .rd ⟨false, 3, (.int .i64), m_4⟩, .rd ⟨false, 3, (.int .i64), m_5⟩], .v (.int .u64 seed), .v (.int .i64 steps), .v (.int .i64 stop)] [] K =
    (fun (g16_14 : Int → Int → Int → Int → Int → Int → Int → Int → (List Int) → (List Int) → (List (List Int)) → (List Int) → (List Int) → Int → (List (List Int)) → (List Int) → (List Int) → (List Int) → Option R) (K0 : Int → (List (List Int)) → (List Int) → (List Int) → Option R) (m : Int) (m_1 : Int) (m_2 : Int) (m_3 : Int) (m_4 : List Int) (m_5 : List Int) (seed : Int) (steps : Int) (stop : Int) =>
    l_machine_Check m m_1 m_2 m_3 m_4 m_5
     (fun r1 r2 =>
      bi (r2 != 0)
       (K0 r2 ([] : List (List Int)) ([] : List Int) ([] : List Int))
       (bi (decide (steps < 0))
        (K0 1 ([] : List (List Int)) ([] : List Int) ([] : List Int))
        (bi (decide (stop < 1))
         (K0 1 ([] : List (List Int)) ([] : List Int) ([] : List Int))
         (bi (decide (steps > 65536))
          (K0 3 ([] : List (List Int)) ([] : List Int) ([] : List Int))
          (l_walk_New seed
           (fun r3 =>
            both
             (bi (decide (0 ≤ m_3 ∧ m_3 ≤ m_3 ∧ m_3 ≤ 1073741824))
              (both
               (bi (decide (0 ≤ (m_4.length : Int) ∧ (m_4.length : Int) ≤ (m_4.length : Int) ∧ (m_4.length : Int) ≤ 1073741824))
                (both
                 (bi (decide (0 ≤ (0 : Int) ∧ (0 : Int) < (((List.replicate m_3.toNat (0 : Int)).length : Nat) : Int)))
                  (bi (decide (0 ≤ (0 : Int) ∧ (0 : Int) < (((List.replicate m_3.toNat (0 : Int)).length : Nat) : Int)))
                   (g16_14 stop 0 steps 0 m m_1 m_2 m_3 m_4 m_5 ([] : List (List Int)) ([] : List Int) ([] : List Int) r3 ([] : List (List Int)) ((List.replicate m_3.toNat (0 : Int)).set 0 (IntKind.i64.wrap (((List.replicate m_3.toNat (0 : Int)).getD 0 0) + 1))) (List.replicate (m_4.length : Int).toNat (0 : Int)) ([] : List Int))
                   none)
                  none)
                 (bi (decide (0 ≤ (0 : Int) ∧ (0 : Int) < (((List.replicate m_3.toNat (0 : Int)).length : Nat) : Int)))
                  (bi (decide (0 ≤ (0 : Int) ∧ (0 : Int) < (((List.replicate m_3.toNat (0 : Int)).length : Nat) : Int)))
                   (g16_14 stop 0 steps 0 m m_1 m_2 m_3 m_4 m_5 ([] : List (List Int)) ([] : List Int) ([] : List Int) r3 ([] : List (List Int)) ((List.replicate m_3.toNat (0 : Int)).set 0 (IntKind.i64.wrap (((List.replicate m_3.toNat (0 : Int)).getD 0 0) + 1))) (List.replicate (m_4.length : Int).toNat (0 : Int)) ([] : List Int))
                   none)
                  none))
                none)
               (bi (decide (0 ≤ (m_4.length : Int) ∧ (m_4.length : Int) ≤ (m_4.length : Int) ∧ (m_4.length : Int) ≤ 1073741824))
                (bi (decide (0 ≤ (0 : Int) ∧ (0 : Int) < (((List.replicate m_3.toNat (0 : Int)).length : Nat) : Int)))
                 (bi (decide (0 ≤ (0 : Int) ∧ (0 : Int) < (((List.replicate m_3.toNat (0 : Int)).length : Nat) : Int)))
                  (g16_14 stop 0 steps 0 m m_1 m_2 m_3 m_4 m_5 ([] : List (List Int)) ([] : List Int) ([] : List Int) r3 ([] : List (List Int)) ((List.replicate m_3.toNat (0 : Int)).set 0 (IntKind.i64.wrap (((List.replicate m_3.toNat (0 : Int)).getD 0 0) + 1))) (List.replicate (m_4.length : Int).toNat (0 : Int)) ([] : List Int))
                  none)
                 none)
                none))
              none)
             (both
              (bi (decide (0 ≤ (m_4.length : Int) ∧ (m_4.length : Int) ≤ (m_4.length : Int) ∧ (m_4.length : Int) ≤ 1073741824))
               (both
                (bi (decide (0 ≤ m_3 ∧ m_3 ≤ m_3 ∧ m_3 ≤ 1073741824))
                 (both
                  (bi (decide (0 ≤ (0 : Int) ∧ (0 : Int) < (((List.replicate m_3.toNat (0 : Int)).length : Nat) : Int)))
                   (bi (decide (0 ≤ (0 : Int) ∧ (0 : Int) < (((List.replicate m_3.toNat (0 : Int)).length : Nat) : Int)))
                    (g16_14 stop 0 steps 0 m m_1 m_2 m_3 m_4 m_5 ([] : List (List Int)) ([] : List Int) ([] : List Int) r3 ([] : List (List Int)) ((List.replicate m_3.toNat (0 : Int)).set 0 (IntKind.i64.wrap (((List.replicate m_3.toNat (0 : Int)).getD 0 0) + 1))) (List.replicate (m_4.length : Int).toNat (0 : Int)) ([] : List Int))
                    none)
                   none)
                  (bi (decide (0 ≤ (0 : Int) ∧ (0 : Int) < (((List.replicate m_3.toNat (0 : Int)).length : Nat) : Int)))
                   (bi (decide (0 ≤ (0 : Int) ∧ (0 : Int) < (((List.replicate m_3.toNat (0 : Int)).length : Nat) : Int)))
                    (g16_14 stop 0 steps 0 m m_1 m_2 m_3 m_4 m_5 ([] : List (List Int)) ([] : List Int) ([] : List Int) r3 ([] : List (List Int)) ((List.replicate m_3.toNat (0 : Int)).set 0 (IntKind.i64.wrap (((List.replicate m_3.toNat (0 : Int)).getD 0 0) + 1))) (List.replicate (m_4.length : Int).toNat (0 : Int)) ([] : List Int))
                    none)
                   none))
                 none)
                (bi (decide (0 ≤ m_3 ∧ m_3 ≤ m_3 ∧ m_3 ≤ 1073741824))
                 (bi (decide (0 ≤ (0 : Int) ∧ (0 : Int) < (((List.replicate m_3.toNat (0 : Int)).length : Nat) : Int)))
                  (bi (decide (0 ≤ (0 : Int) ∧ (0 : Int) < (((List.replicate m_3.toNat (0 : Int)).length : Nat) : Int)))
                   (g16_14 stop 0 steps 0 m m_1 m_2 m_3 m_4 m_5 ([] : List (List Int)) ([] : List Int) ([] : List Int) r3 ([] : List (List Int)) ((List.replicate m_3.toNat (0 : Int)).set 0 (IntKind.i64.wrap (((List.replicate m_3.toNat (0 : Int)).getD 0 0) + 1))) (List.replicate (m_4.length : Int).toNat (0 : Int)) ([] : List Int))
                   none)
                  none)
                 none))
               none)
              (both
               (bi (decide (0 ≤ m_3 ∧ m_3 ≤ m_3 ∧ m_3 ≤ 1073741824))
                (bi (decide (0 ≤ (m_4.length : Int) ∧ (m_4.length : Int) ≤ (m_4.length : Int) ∧ (m_4.length : Int) ≤ 1073741824))
                 (bi (decide (0 ≤ (0 : Int) ∧ (0 : Int) < (((List.replicate m_3.toNat (0 : Int)).length : Nat) : Int)))
                  (bi (decide (0 ≤ (0 : Int) ∧ (0 : Int) < (((List.replicate m_3.toNat (0 : Int)).length : Nat) : Int)))
                   (g16_14 stop 0 steps 0 m m_1 m_2 m_3 m_4 m_5 ([] : List (List Int)) ([] : List Int) ([] : List Int) r3 ([] : List (List Int)) ((List.replicate m_3.toNat (0 : Int)).set 0 (IntKind.i64.wrap (((List.replicate m_3.toNat (0 : Int)).getD 0 0) + 1))) (List.replicate (m_4.length : Int).toNat (0 : Int)) ([] : List Int))
                   none)
                  none)
                 none)
                none)
               (bi (decide (0 ≤ (m_4.length : Int) ∧ (m_4.length : Int) ≤ (m_4.length : Int) ∧ (m_4.length : Int) ≤ 1073741824))
                (bi (decide (0 ≤ m_3 ∧ m_3 ≤ m_3 ∧ m_3 ≤ 1073741824))
                 (bi (decide (0 ≤ (0 : Int) ∧ (0 : Int) < (((List.replicate m_3.toNat (0 : Int)).length : Nat) : Int)))
                  (bi (decide (0 ≤ (0 : Int) ∧ (0 : Int) < (((List.replicate m_3.toNat (0 : Int)).length : Nat) : Int)))
                   (g16_14 stop 0 steps 0 m m_1 m_2 m_3 m_4 m_5 ([] : List (List Int)) ([] : List Int) ([] : List Int) r3 ([] : List (List Int)) ((List.replicate m_3.toNat (0 : Int)).set 0 (IntKind.i64.wrap (((List.replicate m_3.toNat (0 : Int)).getD 0 0) + 1))) (List.replicate (m_4.length : Int).toNat (0 : Int)) ([] : List Int))
                   none)
                  none)
                 none)
                none)))))))))) (fun stop s x54 x55 o0 o0_1 o0_2 o0_3 o0_4 o0_5 o2 o3 o4 o5 o7 o8 o9 o10 => (runO Try.prog (T_walk_Stroll @l_walk_New @l_machine_Check @l_walk_Walk_Int) cuts_walk_Stroll 0 (finish Try.prog Try.f16 0 K) fuel) (at' Try.f16 14) ⟨fr0 123 [(3, .v (.int .i64 stop)), (4, .ptr 0 0), (8, .ptr 1 0), (12, .ptr 5 0), (13, .ptr 6 0), (14, .own 10), (15, .v (.int .i64 s)), (54, .v (.int .i64 x54)), (55, .v (.int .i64 x55))], [.box 36 [.v (.int .i64 o0), .v (.int .i64 o0_1), .v (.int .i64 o0_2), .v (.int .i64 o0_3), .rd ⟨false, 3, (.int .i64), o0_4⟩, .rd ⟨false, 3, (.int .i64), o0_5⟩], .box 40 [.nst 2, .own 3, .own 4], .nst ⟨true, 34, (.sl 3 (.int .i64)), o2⟩, .row ⟨true, 3, (.int .i64), o3⟩, .row ⟨true, 3, (.int .i64), o4⟩, .box 83 [.v (.int .u64 o5)], .box 40 [.nst 7, .own 8, .own 9], .nst ⟨true, 34, (.sl 3 (.int .i64)), o7⟩, .row ⟨true, 3, (.int .i64), o8⟩, .row ⟨true, 3, (.int .i64), o9⟩, .row ⟨true, 3, (.int .i64), o10⟩]⟩) (fun r0 r1 r2 r3 => K (.tup [.agg [.nst 0, .own 1, .own 2], .v (.int .i64 r0)]) [.nst ⟨true, 34, (.sl 3 (.int .i64)), r1⟩, .row ⟨true, 3, (.int .i64), r2⟩, .row ⟨true, 3, (.int .i64), r3⟩]) m m_1 m_2 m_3 m_4 m_5 seed steps stop := by kernel_rfl

theorem entry_walk_Stroll {R : Type} (fuel : Nat) (K : AV → List O → Option R) (m : Int) (m_1 : Int) (m_2 : Int) (m_3 : Int) (m_4 : List Int) (m_5 : List Int) (seed : Int) (steps : Int) (stop : Int) :
    fnRun Try.prog (T_walk_Stroll @l_walk_New @l_machine_Check @l_walk_Walk_Int) cuts_walk_Stroll Try.f16 fuel [.agg [.v (.int .i64 m), .v (.int .i64 m_1), .v (.int .i64 m_2), .v (.int .i64 m_3), .rd ⟨false, 3, (.int .i64), m_4⟩, .rd ⟨false, 3, (.int .i64), m_5⟩], .v (.int .u64 seed), .v (.int .i64 steps), .v (.int .i64 stop)] [] K =
    e_walk_Stroll (fun stop s x54 x55 o0 o0_1 o0_2 o0_3 o0_4 o0_5 o2 o3 o4 o5 o7 o8 o9 o10 => (runO Try.prog (T_walk_Stroll @l_walk_New @l_machine_Check @l_walk_Walk_Int) cuts_walk_Stroll 0 (finish Try.prog Try.f16 0 K) fuel) (at' Try.f16 14) ⟨fr0 123 [(3, .v (.int .i64 stop)), (4, .ptr 0 0), (8, .ptr 1 0), (12, .ptr 5 0), (13, .ptr 6 0), (14, .own 10), (15, .v (.int .i64 s)), (54, .v (.int .i64 x54)), (55, .v (.int .i64 x55))], [.box 36 [.v (.int .i64 o0), .v (.int .i64 o0_1), .v (.int .i64 o0_2), .v (.int .i64 o0_3), .rd ⟨false, 3, (.int .i64), o0_4⟩, .rd ⟨false, 3, (.int .i64), o0_5⟩], .box 40 [.nst 2, .own 3, .own 4], .nst ⟨true, 34, (.sl 3 (.int .i64)), o2⟩, .row ⟨true, 3, (.int .i64), o3⟩, .row ⟨true, 3, (.int .i64), o4⟩, .box 83 [.v (.int .u64 o5)], .box 40 [.nst 7, .own 8, .own 9], .nst ⟨true, 34, (.sl 3 (.int .i64)), o7⟩, .row ⟨true, 3, (.int .i64), o8⟩, .row ⟨true, 3, (.int .i64), o9⟩, .row ⟨true, 3, (.int .i64), o10⟩]⟩) (fun r0 r1 r2 r3 => K (.tup [.agg [.nst 0, .own 1, .own 2], .v (.int .i64 r0)]) [.nst ⟨true, 34, (.sl 3 (.int .i64)), r1⟩, .row ⟨true, 3, (.int .i64), r2⟩, .row ⟨true, 3, (.int .i64), r3⟩]) m m_1 m_2 m_3 m_4 m_5 seed steps stop := gentry_walk_Stroll @l_walk_New @l_machine_Check @l_walk_Walk_Int fuel K m m_1 m_2 m_3 m_4 m_5 seed steps stop

theorem runs_walk_Stroll {R : Type} (K : AV → List O → Option R) : ∀ fuel : Nat,
    (fun stop s x54 x55 o0 o0_1 o0_2 o0_3 o0_4 o0_5 o2 o3 o4 o5 o7 o8 o9 o10 => (runO Try.prog (T_walk_Stroll @l_walk_New @l_machine_Check @l_walk_Walk_Int) cuts_walk_Stroll 0 (finish Try.prog Try.f16 0 K) fuel) (at' Try.f16 14) ⟨fr0 123 [(3, .v (.int .i64 stop)), (4, .ptr 0 0), (8, .ptr 1 0), (12, .ptr 5 0), (13, .ptr 6 0), (14, .own 10), (15, .v (.int .i64 s)), (54, .v (.int .i64 x54)), (55, .v (.int .i64 x55))], [.box 36 [.v (.int .i64 o0), .v (.int .i64 o0_1), .v (.int .i64 o0_2), .v (.int .i64 o0_3), .rd ⟨false, 3, (.int .i64), o0_4⟩, .rd ⟨false, 3, (.int .i64), o0_5⟩], .box 40 [.nst 2, .own 3, .own 4], .nst ⟨true, 34, (.sl 3 (.int .i64)), o2⟩, .row ⟨true, 3, (.int .i64), o3⟩, .row ⟨true, 3, (.int .i64), o4⟩, .box 83 [.v (.int .u64 o5)], .box 40 [.nst 7, .own 8, .own 9], .nst ⟨true, 34, (.sl 3 (.int .i64)), o7⟩, .row ⟨true, 3, (.int .i64), o8⟩, .row ⟨true, 3, (.int .i64), o9⟩, .row ⟨true, 3, (.int .i64), o10⟩]⟩) = (run_walk_Stroll (fun r0 r1 r2 r3 => K (.tup [.agg [.nst 0, .own 1, .own 2], .v (.int .i64 r0)]) [.nst ⟨true, 34, (.sl 3 (.int .i64)), r1⟩, .row ⟨true, 3, (.int .i64), r2⟩, .row ⟨true, 3, (.int .i64), r3⟩]) fuel)
  | 0 => rfl
  | fuel + 1 => by
    have ih := runs_walk_Stroll K fuel
    funext stop s x54 x55 o0 o0_1 o0_2 o0_3 o0_4 o0_5 o2 o3 o4 o5 o7 o8 o9 o10
    refine (step_walk_Stroll_14 _ K stop s x54 x55 o0 o0_1 o0_2 o0_3 o0_4 o0_5 o2 o3 o4 o5 o7 o8 o9 o10).trans ?_
    rw [ih]
    rfl

def S_walk_Stroll (l_walk_Stroll : {R : Type} → Int → Int → Int → Int → (List Int) → (List Int) → Int → Int → Int → (Int → (List (List Int)) → (List Int) → (List Int) → Option R) → Option R) : Sum := ⟨[], fun {R} args ob K => match args, ob with
  | [.agg [.v (.int .i64 m), .v (.int .i64 m_1), .v (.int .i64 m_2), .v (.int .i64 m_3), .rd ⟨false, 3, (.int .i64), m_4⟩, .rd ⟨false, 3, (.int .i64), m_5⟩], .v (.int .u64 seed), .v (.int .i64 steps), .v (.int .i64 stop)], [] => l_walk_Stroll m m_1 m_2 m_3 m_4 m_5 seed steps stop (fun r0 r1 r2 r3 => K (.tup [.agg [.nst 0, .own 1, .own 2], .v (.int .i64 r0)]) [.nst ⟨true, 34, (.sl 3 (.int .i64)), r1⟩, .row ⟨true, 3, (.int .i64), r2⟩, .row ⟨true, 3, (.int .i64), r3⟩])
  | _, _ => none⟩

theorem sound_walk_Stroll : Sound Try.prog 16 (S_walk_Stroll @l_walk_Stroll) := by
  refine fn_sound (cuts := cuts_walk_Stroll) (fn := Try.f16) (Γ := (T_walk_Stroll @l_walk_New @l_machine_Check @l_walk_Walk_Int)) wide right_T_walk_Stroll Try.func16 fun {R} K r args ob h => ?_
  unfold S_walk_Stroll at h
  dsimp only at h
  split at h
  · obtain ⟨n, hn⟩ := ok_walk_Stroll _ _ _ _ _ _ _ _ _ _ h
    refine ⟨Nat.le_of_ble_eq_true (by kernel_rfl), n, (entry_walk_Stroll n K _ _ _ _ _ _ _ _ _).trans ?_⟩
    rw [(runs_walk_Stroll K n)]
    exact hn
  · cases h

theorem call_walk_Stroll : Callable Try.prog 16 := ⟨_, Try.func16, by kernel_rfl, by kernel_rfl⟩

def T_tutorlaw21_num : FuncId → Option Sum := G0

theorem right_T_tutorlaw21_num : Right Try.prog T_tutorlaw21_num := right_G0

abbrev cuts_tutorlaw21_num : Cuts := []

theorem gentry_tutorlaw21_num {R : Type} (K : AV → List O → Option R) (e : Int) :
    fnRun Try.prog T_tutorlaw21_num cuts_tutorlaw21_num Try.f12 0 [.v (.int .i64 e)] [] K =
    (fun (e : Int) (K0 : Int → Option R) =>
    K0 e) e (fun r0 => K (.v (.int .i64 r0)) []) := by kernel_rfl

theorem entry_tutorlaw21_num {R : Type} (K : AV → List O → Option R) (e : Int) :
    fnRun Try.prog T_tutorlaw21_num cuts_tutorlaw21_num Try.f12 0 [.v (.int .i64 e)] [] K =
    l_tutorlaw21_num e (fun r0 => K (.v (.int .i64 r0)) []) := gentry_tutorlaw21_num K e

def S_tutorlaw21_num (l_tutorlaw21_num : {R : Type} → Int → (Int → Option R) → Option R) : Sum := ⟨[], fun {R} args ob K => match args, ob with
  | [.v (.int .i64 e)], [] => l_tutorlaw21_num e (fun r0 => K (.v (.int .i64 r0)) [])
  | _, _ => none⟩

theorem sound_tutorlaw21_num : Sound Try.prog 12 (S_tutorlaw21_num @l_tutorlaw21_num) := by
  refine fn_sound (cuts := cuts_tutorlaw21_num) (fn := Try.f12) (Γ := T_tutorlaw21_num) wide right_T_tutorlaw21_num Try.func12 fun {R} K r args ob h => ?_
  unfold S_tutorlaw21_num at h
  dsimp only at h
  split at h
  · exact ⟨Nat.le_of_ble_eq_true (by kernel_rfl), 0, (entry_tutorlaw21_num K _).trans h⟩
  · cases h

theorem call_tutorlaw21_num : Callable Try.prog 12 := ⟨_, Try.func12, by kernel_rfl, by kernel_rfl⟩

def T_tutorref01_Check : FuncId → Option Sum := G0

theorem right_T_tutorref01_Check : Right Try.prog T_tutorref01_Check := right_G0

abbrev cuts_tutorref01_Check : Cuts := [(6, [0, 1, 6])]

theorem gstep_tutorref01_Check_6 {R : Type} (g : List Item → St → Option R) (K : AV → List O → Option R) (w : List Int) (k : Int) (i : Int) :
    runSeg Try.prog T_tutorref01_Check cuts_tutorref01_Check 0 g (finish Try.prog Try.f22 0 K) (at' Try.f22 6) ⟨fr0 36 [(0, .rd ⟨false, 3, (.int .i64), w⟩), (1, .v (.int .i64 k)), (6, .v (.int .i64 i))], []⟩ =
    (fun (g22_6 : (List Int) → Int → Int → Option R) (K0 : Int → Int → Option R) (w : List Int) (k : Int) (i : Int) =>
    bi (decide (i < (w.length : Int)))
     (bi (decide (0 ≤ i ∧ i < ((w.length : Nat) : Int)))
      (bi (decide ((w.getD i.toNat 0) < 0))
       (K0 i 10)
       (bi (decide (0 ≤ i ∧ i < ((w.length : Nat) : Int)))
        (bi (decide ((w.getD i.toNat 0) ≥ k))
         (K0 i 10)
         (g22_6 w k (IntKind.i64.wrap (i + 1))))
        none))
      none)
     (K0 0 0)) (fun w k i => g (at' Try.f22 6) ⟨fr0 36 [(0, .rd ⟨false, 3, (.int .i64), w⟩), (1, .v (.int .i64 k)), (6, .v (.int .i64 i))], []⟩) (fun r0 r1 => K (.tup [.v (.int .i64 r0), .v (.int .i64 r1)]) []) w k i := by kernel_rfl

theorem step_tutorref01_Check_6 {R : Type} (g : List Item → St → Option R) (K : AV → List O → Option R) (w : List Int) (k : Int) (i : Int) :
    runSeg Try.prog T_tutorref01_Check cuts_tutorref01_Check 0 g (finish Try.prog Try.f22 0 K) (at' Try.f22 6) ⟨fr0 36 [(0, .rd ⟨false, 3, (.int .i64), w⟩), (1, .v (.int .i64 k)), (6, .v (.int .i64 i))], []⟩ =
    s_tutorref01_Check_6 (fun w k i => g (at' Try.f22 6) ⟨fr0 36 [(0, .rd ⟨false, 3, (.int .i64), w⟩), (1, .v (.int .i64 k)), (6, .v (.int .i64 i))], []⟩) (fun r0 r1 => K (.tup [.v (.int .i64 r0), .v (.int .i64 r1)]) []) w k i := gstep_tutorref01_Check_6 g K w k i

theorem gentry_tutorref01_Check {R : Type} (fuel : Nat) (K : AV → List O → Option R) (w : List Int) (k : Int) :
    fnRun Try.prog T_tutorref01_Check cuts_tutorref01_Check Try.f22 fuel [.rd ⟨false, 3, (.int .i64), w⟩, .v (.int .i64 k)] [] K =
    (fun (g22_6 : (List Int) → Int → Int → Option R) (K0 : Int → Int → Option R) (w : List Int) (k : Int) =>
    bi (decide (k < 1))
     (K0 0 1)
     (bi (decide (k > 64))
      (K0 0 1)
      (bi (decide ((w.length : Int) > 4096))
       (K0 0 2)
       (g22_6 w k 0)))) (fun w k i => (runO Try.prog T_tutorref01_Check cuts_tutorref01_Check 0 (finish Try.prog Try.f22 0 K) fuel) (at' Try.f22 6) ⟨fr0 36 [(0, .rd ⟨false, 3, (.int .i64), w⟩), (1, .v (.int .i64 k)), (6, .v (.int .i64 i))], []⟩) (fun r0 r1 => K (.tup [.v (.int .i64 r0), .v (.int .i64 r1)]) []) w k := by kernel_rfl

theorem entry_tutorref01_Check {R : Type} (fuel : Nat) (K : AV → List O → Option R) (w : List Int) (k : Int) :
    fnRun Try.prog T_tutorref01_Check cuts_tutorref01_Check Try.f22 fuel [.rd ⟨false, 3, (.int .i64), w⟩, .v (.int .i64 k)] [] K =
    e_tutorref01_Check (fun w k i => (runO Try.prog T_tutorref01_Check cuts_tutorref01_Check 0 (finish Try.prog Try.f22 0 K) fuel) (at' Try.f22 6) ⟨fr0 36 [(0, .rd ⟨false, 3, (.int .i64), w⟩), (1, .v (.int .i64 k)), (6, .v (.int .i64 i))], []⟩) (fun r0 r1 => K (.tup [.v (.int .i64 r0), .v (.int .i64 r1)]) []) w k := gentry_tutorref01_Check fuel K w k

theorem runs_tutorref01_Check {R : Type} (K : AV → List O → Option R) : ∀ fuel : Nat,
    (fun w k i => (runO Try.prog T_tutorref01_Check cuts_tutorref01_Check 0 (finish Try.prog Try.f22 0 K) fuel) (at' Try.f22 6) ⟨fr0 36 [(0, .rd ⟨false, 3, (.int .i64), w⟩), (1, .v (.int .i64 k)), (6, .v (.int .i64 i))], []⟩) = (run_tutorref01_Check (fun r0 r1 => K (.tup [.v (.int .i64 r0), .v (.int .i64 r1)]) []) fuel)
  | 0 => rfl
  | fuel + 1 => by
    have ih := runs_tutorref01_Check K fuel
    funext w k i
    refine (step_tutorref01_Check_6 _ K w k i).trans ?_
    rw [ih]
    rfl

def S_tutorref01_Check (l_tutorref01_Check : {R : Type} → (List Int) → Int → (Int → Int → Option R) → Option R) : Sum := ⟨[], fun {R} args ob K => match args, ob with
  | [.rd ⟨false, 3, (.int .i64), w⟩, .v (.int .i64 k)], [] => l_tutorref01_Check w k (fun r0 r1 => K (.tup [.v (.int .i64 r0), .v (.int .i64 r1)]) [])
  | _, _ => none⟩

theorem sound_tutorref01_Check : Sound Try.prog 22 (S_tutorref01_Check @l_tutorref01_Check) := by
  refine fn_sound (cuts := cuts_tutorref01_Check) (fn := Try.f22) (Γ := T_tutorref01_Check) wide right_T_tutorref01_Check Try.func22 fun {R} K r args ob h => ?_
  unfold S_tutorref01_Check at h
  dsimp only at h
  split at h
  · obtain ⟨n, hn⟩ := ok_tutorref01_Check _ _ _ h
    refine ⟨Nat.le_of_ble_eq_true (by kernel_rfl), n, (entry_tutorref01_Check n K _ _).trans ?_⟩
    rw [(runs_tutorref01_Check K n)]
    exact hn
  · cases h

theorem call_tutorref01_Check : Callable Try.prog 22 := ⟨_, Try.func22, by kernel_rfl, by kernel_rfl⟩

def T_tutorref21_Told : FuncId → Option Sum := G0

theorem right_T_tutorref21_Told : Right Try.prog T_tutorref21_Told := right_G0

abbrev cuts_tutorref21_Told : Cuts := [(3, [1, 2, 4, 5, 6]), (8, [1, 2, 4, 5, 6, 7, 8])]

theorem gstep_tutorref21_Told_3 {R : Type} (g : List Item → St → Option R) (K : AV → List O → Option R) (words : List (List Int)) (i : Int) (o0 : Int) (o0_1 : Int) (o0_2 : Int) (o0_3 : Int) (o0_4 : List Int) (o0_5 : List Int) (o2 : List (List Int)) (o3 : List Int) (o4 : List Int) (o5 : List (List Int)) (o6 : List Int) (o7 : List Int) :
    runSeg Try.prog T_tutorref21_Told cuts_tutorref21_Told 0 g (finish Try.prog Try.f23 0 K) (at' Try.f23 3) ⟨fr0 72 [(1, .rd ⟨false, 34, (.sl 3 (.int .i64)), words⟩), (2, .ptr 0 0), (4, .ptr 1 0), (5, .ptr 5 0), (6, .v (.int .i64 i))], [.box 36 [.v (.int .i64 o0), .v (.int .i64 o0_1), .v (.int .i64 o0_2), .v (.int .i64 o0_3), .rd ⟨false, 3, (.int .i64), o0_4⟩, .rd ⟨false, 3, (.int .i64), o0_5⟩], .box 40 [.nst 2, .own 3, .own 4], .nst ⟨true, 34, (.sl 3 (.int .i64)), o2⟩, .row ⟨true, 3, (.int .i64), o3⟩, .row ⟨true, 3, (.int .i64), o4⟩, .box 40 [.rd ⟨false, 34, (.sl 3 (.int .i64)), o5⟩, .own 6, .own 7], .row ⟨true, 3, (.int .i64), o6⟩, .row ⟨true, 3, (.int .i64), o7⟩]⟩ =
    (fun (g23_3 : (List (List Int)) → Int → Int → Int → Int → Int → (List Int) → (List Int) → (List (List Int)) → (List Int) → (List Int) → (List (List Int)) → (List Int) → (List Int) → Option R) (g23_8 : (List (List Int)) → Int → Int → Int → Int → Int → Int → Int → (List Int) → (List Int) → (List (List Int)) → (List Int) → (List Int) → (List (List Int)) → (List Int) → (List Int) → Option R) (K0 : (List (List Int)) → (List Int) → (List Int) → Option R) (words : List (List Int)) (i : Int) (o0 : Int) (o0_1 : Int) (o0_2 : Int) (o0_3 : Int) (o0_4 : List Int) (o0_5 : List Int) (o2 : List (List Int)) (o3 : List Int) (o4 : List Int) (o5 : List (List Int)) (o6 : List Int) (o7 : List Int) =>
    bi (decide (i < (words.length : Int)))
     (bi (decide (0 ≤ (0 : Int) ∧ (0 : Int) < ((o6.length : Nat) : Int)))
      (bi (decide (0 ≤ (0 : Int) ∧ (0 : Int) < ((o6.length : Nat) : Int)))
       (g23_8 words i 0 0 o0 o0_1 o0_2 o0_3 o0_4 o0_5 o2 o3 o4 o5 (o6.set 0 (IntKind.i64.wrap ((o6.getD 0 0) + 1))) o7)
       none)
      none)
     (K0 o5 o6 o7)) (fun words i o0 o0_1 o0_2 o0_3 o0_4 o0_5 o2 o3 o4 o5 o6 o7 => g (at' Try.f23 3) ⟨fr0 72 [(1, .rd ⟨false, 34, (.sl 3 (.int .i64)), words⟩), (2, .ptr 0 0), (4, .ptr 1 0), (5, .ptr 5 0), (6, .v (.int .i64 i))], [.box 36 [.v (.int .i64 o0), .v (.int .i64 o0_1), .v (.int .i64 o0_2), .v (.int .i64 o0_3), .rd ⟨false, 3, (.int .i64), o0_4⟩, .rd ⟨false, 3, (.int .i64), o0_5⟩], .box 40 [.nst 2, .own 3, .own 4], .nst ⟨true, 34, (.sl 3 (.int .i64)), o2⟩, .row ⟨true, 3, (.int .i64), o3⟩, .row ⟨true, 3, (.int .i64), o4⟩, .box 40 [.rd ⟨false, 34, (.sl 3 (.int .i64)), o5⟩, .own 6, .own 7], .row ⟨true, 3, (.int .i64), o6⟩, .row ⟨true, 3, (.int .i64), o7⟩]⟩) (fun words i s k o0 o0_1 o0_2 o0_3 o0_4 o0_5 o2 o3 o4 o5 o6 o7 => g (at' Try.f23 8) ⟨fr0 72 [(1, .rd ⟨false, 34, (.sl 3 (.int .i64)), words⟩), (2, .ptr 0 0), (4, .ptr 1 0), (5, .ptr 5 0), (6, .v (.int .i64 i)), (7, .v (.int .i64 s)), (8, .v (.int .i64 k))], [.box 36 [.v (.int .i64 o0), .v (.int .i64 o0_1), .v (.int .i64 o0_2), .v (.int .i64 o0_3), .rd ⟨false, 3, (.int .i64), o0_4⟩, .rd ⟨false, 3, (.int .i64), o0_5⟩], .box 40 [.nst 2, .own 3, .own 4], .nst ⟨true, 34, (.sl 3 (.int .i64)), o2⟩, .row ⟨true, 3, (.int .i64), o3⟩, .row ⟨true, 3, (.int .i64), o4⟩, .box 40 [.rd ⟨false, 34, (.sl 3 (.int .i64)), o5⟩, .own 6, .own 7], .row ⟨true, 3, (.int .i64), o6⟩, .row ⟨true, 3, (.int .i64), o7⟩]⟩) (fun r0 r1 r2 => K (.agg [.rd ⟨false, 34, (.sl 3 (.int .i64)), r0⟩, .own 0, .own 1]) [.row ⟨true, 3, (.int .i64), r1⟩, .row ⟨true, 3, (.int .i64), r2⟩]) words i o0 o0_1 o0_2 o0_3 o0_4 o0_5 o2 o3 o4 o5 o6 o7 := by kernel_rfl

theorem step_tutorref21_Told_3 {R : Type} (g : List Item → St → Option R) (K : AV → List O → Option R) (words : List (List Int)) (i : Int) (o0 : Int) (o0_1 : Int) (o0_2 : Int) (o0_3 : Int) (o0_4 : List Int) (o0_5 : List Int) (o2 : List (List Int)) (o3 : List Int) (o4 : List Int) (o5 : List (List Int)) (o6 : List Int) (o7 : List Int) :
    runSeg Try.prog T_tutorref21_Told cuts_tutorref21_Told 0 g (finish Try.prog Try.f23 0 K) (at' Try.f23 3) ⟨fr0 72 [(1, .rd ⟨false, 34, (.sl 3 (.int .i64)), words⟩), (2, .ptr 0 0), (4, .ptr 1 0), (5, .ptr 5 0), (6, .v (.int .i64 i))], [.box 36 [.v (.int .i64 o0), .v (.int .i64 o0_1), .v (.int .i64 o0_2), .v (.int .i64 o0_3), .rd ⟨false, 3, (.int .i64), o0_4⟩, .rd ⟨false, 3, (.int .i64), o0_5⟩], .box 40 [.nst 2, .own 3, .own 4], .nst ⟨true, 34, (.sl 3 (.int .i64)), o2⟩, .row ⟨true, 3, (.int .i64), o3⟩, .row ⟨true, 3, (.int .i64), o4⟩, .box 40 [.rd ⟨false, 34, (.sl 3 (.int .i64)), o5⟩, .own 6, .own 7], .row ⟨true, 3, (.int .i64), o6⟩, .row ⟨true, 3, (.int .i64), o7⟩]⟩ =
    s_tutorref21_Told_3 (fun words i o0 o0_1 o0_2 o0_3 o0_4 o0_5 o2 o3 o4 o5 o6 o7 => g (at' Try.f23 3) ⟨fr0 72 [(1, .rd ⟨false, 34, (.sl 3 (.int .i64)), words⟩), (2, .ptr 0 0), (4, .ptr 1 0), (5, .ptr 5 0), (6, .v (.int .i64 i))], [.box 36 [.v (.int .i64 o0), .v (.int .i64 o0_1), .v (.int .i64 o0_2), .v (.int .i64 o0_3), .rd ⟨false, 3, (.int .i64), o0_4⟩, .rd ⟨false, 3, (.int .i64), o0_5⟩], .box 40 [.nst 2, .own 3, .own 4], .nst ⟨true, 34, (.sl 3 (.int .i64)), o2⟩, .row ⟨true, 3, (.int .i64), o3⟩, .row ⟨true, 3, (.int .i64), o4⟩, .box 40 [.rd ⟨false, 34, (.sl 3 (.int .i64)), o5⟩, .own 6, .own 7], .row ⟨true, 3, (.int .i64), o6⟩, .row ⟨true, 3, (.int .i64), o7⟩]⟩) (fun words i s k o0 o0_1 o0_2 o0_3 o0_4 o0_5 o2 o3 o4 o5 o6 o7 => g (at' Try.f23 8) ⟨fr0 72 [(1, .rd ⟨false, 34, (.sl 3 (.int .i64)), words⟩), (2, .ptr 0 0), (4, .ptr 1 0), (5, .ptr 5 0), (6, .v (.int .i64 i)), (7, .v (.int .i64 s)), (8, .v (.int .i64 k))], [.box 36 [.v (.int .i64 o0), .v (.int .i64 o0_1), .v (.int .i64 o0_2), .v (.int .i64 o0_3), .rd ⟨false, 3, (.int .i64), o0_4⟩, .rd ⟨false, 3, (.int .i64), o0_5⟩], .box 40 [.nst 2, .own 3, .own 4], .nst ⟨true, 34, (.sl 3 (.int .i64)), o2⟩, .row ⟨true, 3, (.int .i64), o3⟩, .row ⟨true, 3, (.int .i64), o4⟩, .box 40 [.rd ⟨false, 34, (.sl 3 (.int .i64)), o5⟩, .own 6, .own 7], .row ⟨true, 3, (.int .i64), o6⟩, .row ⟨true, 3, (.int .i64), o7⟩]⟩) (fun r0 r1 r2 => K (.agg [.rd ⟨false, 34, (.sl 3 (.int .i64)), r0⟩, .own 0, .own 1]) [.row ⟨true, 3, (.int .i64), r1⟩, .row ⟨true, 3, (.int .i64), r2⟩]) words i o0 o0_1 o0_2 o0_3 o0_4 o0_5 o2 o3 o4 o5 o6 o7 := gstep_tutorref21_Told_3 g K words i o0 o0_1 o0_2 o0_3 o0_4 o0_5 o2 o3 o4 o5 o6 o7

theorem gstep_tutorref21_Told_8 {R : Type} (g : List Item → St → Option R) (K : AV → List O → Option R) (words : List (List Int)) (i : Int) (s : Int) (k : Int) (o0 : Int) (o0_1 : Int) (o0_2 : Int) (o0_3 : Int) (o0_4 : List Int) (o0_5 : List Int) (o2 : List (List Int)) (o3 : List Int) (o4 : List Int) (o5 : List (List Int)) (o6 : List Int) (o7 : List Int) :
    runSeg Try.prog T_tutorref21_Told cuts_tutorref21_Told 0 g (finish Try.prog Try.f23 0 K) (at' Try.f23 8) ⟨fr0 72 [(1, .rd ⟨false, 34, (.sl 3 (.int .i64)), words⟩), (2, .ptr 0 0), (4, .ptr 1 0), (5, .ptr 5 0), (6, .v (.int .i64 i)), (7, .v (.int .i64 s)), (8, .v (.int .i64 k))], [.box 36 [.v (.int .i64 o0), .v (.int .i64 o0_1), .v (.int .i64 o0_2), .v (.int .i64 o0_3), .rd ⟨false, 3, (.int .i64), o0_4⟩, .rd ⟨false, 3, (.int .i64), o0_5⟩], .box 40 [.nst 2, .own 3, .own 4], .nst ⟨true, 34, (.sl 3 (.int .i64)), o2⟩, .row ⟨true, 3, (.int .i64), o3⟩, .row ⟨true, 3, (.int .i64), o4⟩, .box 40 [.rd ⟨false, 34, (.sl 3 (.int .i64)), o5⟩, .own 6, .own 7], .row ⟨true, 3, (.int .i64), o6⟩, .row ⟨true, 3, (.int .i64), o7⟩]⟩ =
    (fun (g23_3 : (List (List Int)) → Int → Int → Int → Int → Int → (List Int) → (List Int) → (List (List Int)) → (List Int) → (List Int) → (List (List Int)) → (List Int) → (List Int) → Option R) (g23_8 : (List (List Int)) → Int → Int → Int → Int → Int → Int → Int → (List Int) → (List Int) → (List (List Int)) → (List Int) → (List Int) → (List (List Int)) → (List Int) → (List Int) → Option R) (K0 : (List (List Int)) → (List Int) → (List Int) → Option R) (words : List (List Int)) (i : Int) (s : Int) (k : Int) (o0 : Int) (o0_1 : Int) (o0_2 : Int) (o0_3 : Int) (o0_4 : List Int) (o0_5 : List Int) (o2 : List (List Int)) (o3 : List Int) (o4 : List Int) (o5 : List (List Int)) (o6 : List Int) (o7 : List Int) =>
    bi (decide (0 ≤ i ∧ i < ((words.length : Nat) : Int)))
     (bi (decide (k < ((words.getD i.toNat []).length : Int)))
      (bi (decide (0 ≤ i ∧ i < ((words.length : Nat) : Int)))
       (bi (decide (0 ≤ k ∧ k < (((words.getD i.toNat []).length : Nat) : Int)))
        (bi (decide (0 ≤ (IntKind.i64.wrap ((IntKind.i64.wrap (s * o0_1)) + ((words.getD i.toNat []).getD k.toNat 0))) ∧ (IntKind.i64.wrap ((IntKind.i64.wrap (s * o0_1)) + ((words.getD i.toNat []).getD k.toNat 0))) < ((o7.length : Nat) : Int)))
         (bi (decide (0 ≤ (IntKind.i64.wrap ((IntKind.i64.wrap (s * o0_1)) + ((words.getD i.toNat []).getD k.toNat 0))) ∧ (IntKind.i64.wrap ((IntKind.i64.wrap (s * o0_1)) + ((words.getD i.toNat []).getD k.toNat 0))) < ((o7.length : Nat) : Int)))
          (bi (decide (0 ≤ (IntKind.i64.wrap ((IntKind.i64.wrap (s * o0_1)) + ((words.getD i.toNat []).getD k.toNat 0))) ∧ (IntKind.i64.wrap ((IntKind.i64.wrap (s * o0_1)) + ((words.getD i.toNat []).getD k.toNat 0))) < ((o0_4.length : Nat) : Int)))
           (bi (decide (0 ≤ (o0_4.getD ((IntKind.i64.wrap ((IntKind.i64.wrap (s * o0_1)) + ((words.getD i.toNat []).getD k.toNat 0))).toNat) 0) ∧ (o0_4.getD ((IntKind.i64.wrap ((IntKind.i64.wrap (s * o0_1)) + ((words.getD i.toNat []).getD k.toNat 0))).toNat) 0) < ((o6.length : Nat) : Int)))
            (bi (decide (0 ≤ (o0_4.getD ((IntKind.i64.wrap ((IntKind.i64.wrap (s * o0_1)) + ((words.getD i.toNat []).getD k.toNat 0))).toNat) 0) ∧ (o0_4.getD ((IntKind.i64.wrap ((IntKind.i64.wrap (s * o0_1)) + ((words.getD i.toNat []).getD k.toNat 0))).toNat) 0) < ((o6.length : Nat) : Int)))
             (g23_8 words i (o0_4.getD ((IntKind.i64.wrap ((IntKind.i64.wrap (s * o0_1)) + ((words.getD i.toNat []).getD k.toNat 0))).toNat) 0) (IntKind.i64.wrap (k + 1)) o0 o0_1 o0_2 o0_3 o0_4 o0_5 o2 o3 o4 o5 (o6.set ((o0_4.getD ((IntKind.i64.wrap ((IntKind.i64.wrap (s * o0_1)) + ((words.getD i.toNat []).getD k.toNat 0))).toNat) 0).toNat) (IntKind.i64.wrap ((o6.getD ((o0_4.getD ((IntKind.i64.wrap ((IntKind.i64.wrap (s * o0_1)) + ((words.getD i.toNat []).getD k.toNat 0))).toNat) 0).toNat) 0) + 1))) (o7.set ((IntKind.i64.wrap ((IntKind.i64.wrap (s * o0_1)) + ((words.getD i.toNat []).getD k.toNat 0))).toNat) (IntKind.i64.wrap ((o7.getD ((IntKind.i64.wrap ((IntKind.i64.wrap (s * o0_1)) + ((words.getD i.toNat []).getD k.toNat 0))).toNat) 0) + 1))))
             none)
            none)
           none)
          none)
         none)
        none)
       none)
      (g23_3 words (IntKind.i64.wrap (i + 1)) o0 o0_1 o0_2 o0_3 o0_4 o0_5 o2 o3 o4 o5 o6 o7))
     none) (fun words i o0 o0_1 o0_2 o0_3 o0_4 o0_5 o2 o3 o4 o5 o6 o7 => g (at' Try.f23 3) ⟨fr0 72 [(1, .rd ⟨false, 34, (.sl 3 (.int .i64)), words⟩), (2, .ptr 0 0), (4, .ptr 1 0), (5, .ptr 5 0), (6, .v (.int .i64 i))], [.box 36 [.v (.int .i64 o0), .v (.int .i64 o0_1), .v (.int .i64 o0_2), .v (.int .i64 o0_3), .rd ⟨false, 3, (.int .i64), o0_4⟩, .rd ⟨false, 3, (.int .i64), o0_5⟩], .box 40 [.nst 2, .own 3, .own 4], .nst ⟨true, 34, (.sl 3 (.int .i64)), o2⟩, .row ⟨true, 3, (.int .i64), o3⟩, .row ⟨true, 3, (.int .i64), o4⟩, .box 40 [.rd ⟨false, 34, (.sl 3 (.int .i64)), o5⟩, .own 6, .own 7], .row ⟨true, 3, (.int .i64), o6⟩, .row ⟨true, 3, (.int .i64), o7⟩]⟩) (fun words i s k o0 o0_1 o0_2 o0_3 o0_4 o0_5 o2 o3 o4 o5 o6 o7 => g (at' Try.f23 8) ⟨fr0 72 [(1, .rd ⟨false, 34, (.sl 3 (.int .i64)), words⟩), (2, .ptr 0 0), (4, .ptr 1 0), (5, .ptr 5 0), (6, .v (.int .i64 i)), (7, .v (.int .i64 s)), (8, .v (.int .i64 k))], [.box 36 [.v (.int .i64 o0), .v (.int .i64 o0_1), .v (.int .i64 o0_2), .v (.int .i64 o0_3), .rd ⟨false, 3, (.int .i64), o0_4⟩, .rd ⟨false, 3, (.int .i64), o0_5⟩], .box 40 [.nst 2, .own 3, .own 4], .nst ⟨true, 34, (.sl 3 (.int .i64)), o2⟩, .row ⟨true, 3, (.int .i64), o3⟩, .row ⟨true, 3, (.int .i64), o4⟩, .box 40 [.rd ⟨false, 34, (.sl 3 (.int .i64)), o5⟩, .own 6, .own 7], .row ⟨true, 3, (.int .i64), o6⟩, .row ⟨true, 3, (.int .i64), o7⟩]⟩) (fun r0 r1 r2 => K (.agg [.rd ⟨false, 34, (.sl 3 (.int .i64)), r0⟩, .own 0, .own 1]) [.row ⟨true, 3, (.int .i64), r1⟩, .row ⟨true, 3, (.int .i64), r2⟩]) words i s k o0 o0_1 o0_2 o0_3 o0_4 o0_5 o2 o3 o4 o5 o6 o7 := by kernel_rfl

theorem step_tutorref21_Told_8 {R : Type} (g : List Item → St → Option R) (K : AV → List O → Option R) (words : List (List Int)) (i : Int) (s : Int) (k : Int) (o0 : Int) (o0_1 : Int) (o0_2 : Int) (o0_3 : Int) (o0_4 : List Int) (o0_5 : List Int) (o2 : List (List Int)) (o3 : List Int) (o4 : List Int) (o5 : List (List Int)) (o6 : List Int) (o7 : List Int) :
    runSeg Try.prog T_tutorref21_Told cuts_tutorref21_Told 0 g (finish Try.prog Try.f23 0 K) (at' Try.f23 8) ⟨fr0 72 [(1, .rd ⟨false, 34, (.sl 3 (.int .i64)), words⟩), (2, .ptr 0 0), (4, .ptr 1 0), (5, .ptr 5 0), (6, .v (.int .i64 i)), (7, .v (.int .i64 s)), (8, .v (.int .i64 k))], [.box 36 [.v (.int .i64 o0), .v (.int .i64 o0_1), .v (.int .i64 o0_2), .v (.int .i64 o0_3), .rd ⟨false, 3, (.int .i64), o0_4⟩, .rd ⟨false, 3, (.int .i64), o0_5⟩], .box 40 [.nst 2, .own 3, .own 4], .nst ⟨true, 34, (.sl 3 (.int .i64)), o2⟩, .row ⟨true, 3, (.int .i64), o3⟩, .row ⟨true, 3, (.int .i64), o4⟩, .box 40 [.rd ⟨false, 34, (.sl 3 (.int .i64)), o5⟩, .own 6, .own 7], .row ⟨true, 3, (.int .i64), o6⟩, .row ⟨true, 3, (.int .i64), o7⟩]⟩ =
    s_tutorref21_Told_8 (fun words i o0 o0_1 o0_2 o0_3 o0_4 o0_5 o2 o3 o4 o5 o6 o7 => g (at' Try.f23 3) ⟨fr0 72 [(1, .rd ⟨false, 34, (.sl 3 (.int .i64)), words⟩), (2, .ptr 0 0), (4, .ptr 1 0), (5, .ptr 5 0), (6, .v (.int .i64 i))], [.box 36 [.v (.int .i64 o0), .v (.int .i64 o0_1), .v (.int .i64 o0_2), .v (.int .i64 o0_3), .rd ⟨false, 3, (.int .i64), o0_4⟩, .rd ⟨false, 3, (.int .i64), o0_5⟩], .box 40 [.nst 2, .own 3, .own 4], .nst ⟨true, 34, (.sl 3 (.int .i64)), o2⟩, .row ⟨true, 3, (.int .i64), o3⟩, .row ⟨true, 3, (.int .i64), o4⟩, .box 40 [.rd ⟨false, 34, (.sl 3 (.int .i64)), o5⟩, .own 6, .own 7], .row ⟨true, 3, (.int .i64), o6⟩, .row ⟨true, 3, (.int .i64), o7⟩]⟩) (fun words i s k o0 o0_1 o0_2 o0_3 o0_4 o0_5 o2 o3 o4 o5 o6 o7 => g (at' Try.f23 8) ⟨fr0 72 [(1, .rd ⟨false, 34, (.sl 3 (.int .i64)), words⟩), (2, .ptr 0 0), (4, .ptr 1 0), (5, .ptr 5 0), (6, .v (.int .i64 i)), (7, .v (.int .i64 s)), (8, .v (.int .i64 k))], [.box 36 [.v (.int .i64 o0), .v (.int .i64 o0_1), .v (.int .i64 o0_2), .v (.int .i64 o0_3), .rd ⟨false, 3, (.int .i64), o0_4⟩, .rd ⟨false, 3, (.int .i64), o0_5⟩], .box 40 [.nst 2, .own 3, .own 4], .nst ⟨true, 34, (.sl 3 (.int .i64)), o2⟩, .row ⟨true, 3, (.int .i64), o3⟩, .row ⟨true, 3, (.int .i64), o4⟩, .box 40 [.rd ⟨false, 34, (.sl 3 (.int .i64)), o5⟩, .own 6, .own 7], .row ⟨true, 3, (.int .i64), o6⟩, .row ⟨true, 3, (.int .i64), o7⟩]⟩) (fun r0 r1 r2 => K (.agg [.rd ⟨false, 34, (.sl 3 (.int .i64)), r0⟩, .own 0, .own 1]) [.row ⟨true, 3, (.int .i64), r1⟩, .row ⟨true, 3, (.int .i64), r2⟩]) words i s k o0 o0_1 o0_2 o0_3 o0_4 o0_5 o2 o3 o4 o5 o6 o7 := gstep_tutorref21_Told_8 g K words i s k o0 o0_1 o0_2 o0_3 o0_4 o0_5 o2 o3 o4 o5 o6 o7

theorem gentry_tutorref21_Told {R : Type} (fuel : Nat) (K : AV → List O → Option R) (m : Int) (m_1 : Int) (m_2 : Int) (m_3 : Int) (m_4 : List Int) (m_5 : List Int) (words : List (List Int)) :
    fnRun Try.prog T_tutorref21_Told cuts_tutorref21_Told Try.f23 fuel [.agg [.v (.int .i64 m), .v (.int .i64 m_1), .v (.int .i64 m_2), .v (.int .i64 m_3), .rd ⟨false, 3, (.int .i64), m_4⟩, .rd ⟨false, 3, (.int .i64), m_5⟩], .rd ⟨false, 34, (.sl 3 (.int .i64)), words⟩] [] K =
    (fun (g23_3 : (List (List Int)) → Int → Int → Int → Int → Int → (List Int) → (List Int) → (List (List Int)) → (List Int) → (List Int) → (List (List Int)) → (List Int) → (List Int) → Option R) (g23_8 : (List (List Int)) → Int → Int → Int → Int → Int → Int → Int → (List Int) → (List Int) → (List (List Int)) → (List Int) → (List Int) → (List (List Int)) → (List Int) → (List Int) → Option R) (K0 : (List (List Int)) → (List Int) → (List Int) → Option R) (m : Int) (m_1 : Int) (m_2 : Int) (m_3 : Int) (m_4 : List Int) (m_5 : List Int) (words : List (List Int)) =>
    both
     (bi (decide (0 ≤ m_3 ∧ m_3 ≤ m_3 ∧ m_3 ≤ 1073741824))
      (both
       (bi (decide (0 ≤ (m_4.length : Int) ∧ (m_4.length : Int) ≤ (m_4.length : Int) ∧ (m_4.length : Int) ≤ 1073741824))
        (both
         (g23_3 words 0 m m_1 m_2 m_3 m_4 m_5 ([] : List (List Int)) ([] : List Int) ([] : List Int) words (List.replicate m_3.toNat (0 : Int)) (List.replicate (m_4.length : Int).toNat (0 : Int)))
         (g23_3 words 0 m m_1 m_2 m_3 m_4 m_5 ([] : List (List Int)) ([] : List Int) ([] : List Int) words (List.replicate m_3.toNat (0 : Int)) (List.replicate (m_4.length : Int).toNat (0 : Int))))
        none)
       (bi (decide (0 ≤ (m_4.length : Int) ∧ (m_4.length : Int) ≤ (m_4.length : Int) ∧ (m_4.length : Int) ≤ 1073741824))
        (g23_3 words 0 m m_1 m_2 m_3 m_4 m_5 ([] : List (List Int)) ([] : List Int) ([] : List Int) words (List.replicate m_3.toNat (0 : Int)) (List.replicate (m_4.length : Int).toNat (0 : Int)))
        none))
      none)
     (both
      (bi (decide (0 ≤ (m_4.length : Int) ∧ (m_4.length : Int) ≤ (m_4.length : Int) ∧ (m_4.length : Int) ≤ 1073741824))
       (both
        (bi (decide (0 ≤ m_3 ∧ m_3 ≤ m_3 ∧ m_3 ≤ 1073741824))
         (both
          (g23_3 words 0 m m_1 m_2 m_3 m_4 m_5 ([] : List (List Int)) ([] : List Int) ([] : List Int) words (List.replicate m_3.toNat (0 : Int)) (List.replicate (m_4.length : Int).toNat (0 : Int)))
          (g23_3 words 0 m m_1 m_2 m_3 m_4 m_5 ([] : List (List Int)) ([] : List Int) ([] : List Int) words (List.replicate m_3.toNat (0 : Int)) (List.replicate (m_4.length : Int).toNat (0 : Int))))
         none)
        (bi (decide (0 ≤ m_3 ∧ m_3 ≤ m_3 ∧ m_3 ≤ 1073741824))
         (g23_3 words 0 m m_1 m_2 m_3 m_4 m_5 ([] : List (List Int)) ([] : List Int) ([] : List Int) words (List.replicate m_3.toNat (0 : Int)) (List.replicate (m_4.length : Int).toNat (0 : Int)))
         none))
       none)
      (both
       (bi (decide (0 ≤ m_3 ∧ m_3 ≤ m_3 ∧ m_3 ≤ 1073741824))
        (bi (decide (0 ≤ (m_4.length : Int) ∧ (m_4.length : Int) ≤ (m_4.length : Int) ∧ (m_4.length : Int) ≤ 1073741824))
         (g23_3 words 0 m m_1 m_2 m_3 m_4 m_5 ([] : List (List Int)) ([] : List Int) ([] : List Int) words (List.replicate m_3.toNat (0 : Int)) (List.replicate (m_4.length : Int).toNat (0 : Int)))
         none)
        none)
       (bi (decide (0 ≤ (m_4.length : Int) ∧ (m_4.length : Int) ≤ (m_4.length : Int) ∧ (m_4.length : Int) ≤ 1073741824))
        (bi (decide (0 ≤ m_3 ∧ m_3 ≤ m_3 ∧ m_3 ≤ 1073741824))
         (g23_3 words 0 m m_1 m_2 m_3 m_4 m_5 ([] : List (List Int)) ([] : List Int) ([] : List Int) words (List.replicate m_3.toNat (0 : Int)) (List.replicate (m_4.length : Int).toNat (0 : Int)))
         none)
        none)))) (fun words i o0 o0_1 o0_2 o0_3 o0_4 o0_5 o2 o3 o4 o5 o6 o7 => (runO Try.prog T_tutorref21_Told cuts_tutorref21_Told 0 (finish Try.prog Try.f23 0 K) fuel) (at' Try.f23 3) ⟨fr0 72 [(1, .rd ⟨false, 34, (.sl 3 (.int .i64)), words⟩), (2, .ptr 0 0), (4, .ptr 1 0), (5, .ptr 5 0), (6, .v (.int .i64 i))], [.box 36 [.v (.int .i64 o0), .v (.int .i64 o0_1), .v (.int .i64 o0_2), .v (.int .i64 o0_3), .rd ⟨false, 3, (.int .i64), o0_4⟩, .rd ⟨false, 3, (.int .i64), o0_5⟩], .box 40 [.nst 2, .own 3, .own 4], .nst ⟨true, 34, (.sl 3 (.int .i64)), o2⟩, .row ⟨true, 3, (.int .i64), o3⟩, .row ⟨true, 3, (.int .i64), o4⟩, .box 40 [.rd ⟨false, 34, (.sl 3 (.int .i64)), o5⟩, .own 6, .own 7], .row ⟨true, 3, (.int .i64), o6⟩, .row ⟨true, 3, (.int .i64), o7⟩]⟩) (fun words i s k o0 o0_1 o0_2 o0_3 o0_4 o0_5 o2 o3 o4 o5 o6 o7 => (runO Try.prog T_tutorref21_Told cuts_tutorref21_Told 0 (finish Try.prog Try.f23 0 K) fuel) (at' Try.f23 8) ⟨fr0 72 [(1, .rd ⟨false, 34, (.sl 3 (.int .i64)), words⟩), (2, .ptr 0 0), (4, .ptr 1 0), (5, .ptr 5 0), (6, .v (.int .i64 i)), (7, .v (.int .i64 s)), (8, .v (.int .i64 k))], [.box 36 [.v (.int .i64 o0), .v (.int .i64 o0_1), .v (.int .i64 o0_2), .v (.int .i64 o0_3), .rd ⟨false, 3, (.int .i64), o0_4⟩, .rd ⟨false, 3, (.int .i64), o0_5⟩], .box 40 [.nst 2, .own 3, .own 4], .nst ⟨true, 34, (.sl 3 (.int .i64)), o2⟩, .row ⟨true, 3, (.int .i64), o3⟩, .row ⟨true, 3, (.int .i64), o4⟩, .box 40 [.rd ⟨false, 34, (.sl 3 (.int .i64)), o5⟩, .own 6, .own 7], .row ⟨true, 3, (.int .i64), o6⟩, .row ⟨true, 3, (.int .i64), o7⟩]⟩) (fun r0 r1 r2 => K (.agg [.rd ⟨false, 34, (.sl 3 (.int .i64)), r0⟩, .own 0, .own 1]) [.row ⟨true, 3, (.int .i64), r1⟩, .row ⟨true, 3, (.int .i64), r2⟩]) m m_1 m_2 m_3 m_4 m_5 words := by kernel_rfl

theorem entry_tutorref21_Told {R : Type} (fuel : Nat) (K : AV → List O → Option R) (m : Int) (m_1 : Int) (m_2 : Int) (m_3 : Int) (m_4 : List Int) (m_5 : List Int) (words : List (List Int)) :
    fnRun Try.prog T_tutorref21_Told cuts_tutorref21_Told Try.f23 fuel [.agg [.v (.int .i64 m), .v (.int .i64 m_1), .v (.int .i64 m_2), .v (.int .i64 m_3), .rd ⟨false, 3, (.int .i64), m_4⟩, .rd ⟨false, 3, (.int .i64), m_5⟩], .rd ⟨false, 34, (.sl 3 (.int .i64)), words⟩] [] K =
    e_tutorref21_Told (fun words i o0 o0_1 o0_2 o0_3 o0_4 o0_5 o2 o3 o4 o5 o6 o7 => (runO Try.prog T_tutorref21_Told cuts_tutorref21_Told 0 (finish Try.prog Try.f23 0 K) fuel) (at' Try.f23 3) ⟨fr0 72 [(1, .rd ⟨false, 34, (.sl 3 (.int .i64)), words⟩), (2, .ptr 0 0), (4, .ptr 1 0), (5, .ptr 5 0), (6, .v (.int .i64 i))], [.box 36 [.v (.int .i64 o0), .v (.int .i64 o0_1), .v (.int .i64 o0_2), .v (.int .i64 o0_3), .rd ⟨false, 3, (.int .i64), o0_4⟩, .rd ⟨false, 3, (.int .i64), o0_5⟩], .box 40 [.nst 2, .own 3, .own 4], .nst ⟨true, 34, (.sl 3 (.int .i64)), o2⟩, .row ⟨true, 3, (.int .i64), o3⟩, .row ⟨true, 3, (.int .i64), o4⟩, .box 40 [.rd ⟨false, 34, (.sl 3 (.int .i64)), o5⟩, .own 6, .own 7], .row ⟨true, 3, (.int .i64), o6⟩, .row ⟨true, 3, (.int .i64), o7⟩]⟩) (fun words i s k o0 o0_1 o0_2 o0_3 o0_4 o0_5 o2 o3 o4 o5 o6 o7 => (runO Try.prog T_tutorref21_Told cuts_tutorref21_Told 0 (finish Try.prog Try.f23 0 K) fuel) (at' Try.f23 8) ⟨fr0 72 [(1, .rd ⟨false, 34, (.sl 3 (.int .i64)), words⟩), (2, .ptr 0 0), (4, .ptr 1 0), (5, .ptr 5 0), (6, .v (.int .i64 i)), (7, .v (.int .i64 s)), (8, .v (.int .i64 k))], [.box 36 [.v (.int .i64 o0), .v (.int .i64 o0_1), .v (.int .i64 o0_2), .v (.int .i64 o0_3), .rd ⟨false, 3, (.int .i64), o0_4⟩, .rd ⟨false, 3, (.int .i64), o0_5⟩], .box 40 [.nst 2, .own 3, .own 4], .nst ⟨true, 34, (.sl 3 (.int .i64)), o2⟩, .row ⟨true, 3, (.int .i64), o3⟩, .row ⟨true, 3, (.int .i64), o4⟩, .box 40 [.rd ⟨false, 34, (.sl 3 (.int .i64)), o5⟩, .own 6, .own 7], .row ⟨true, 3, (.int .i64), o6⟩, .row ⟨true, 3, (.int .i64), o7⟩]⟩) (fun r0 r1 r2 => K (.agg [.rd ⟨false, 34, (.sl 3 (.int .i64)), r0⟩, .own 0, .own 1]) [.row ⟨true, 3, (.int .i64), r1⟩, .row ⟨true, 3, (.int .i64), r2⟩]) m m_1 m_2 m_3 m_4 m_5 words := gentry_tutorref21_Told fuel K m m_1 m_2 m_3 m_4 m_5 words

theorem runs_tutorref21_Told {R : Type} (K : AV → List O → Option R) : ∀ fuel : Nat,
    (fun words i o0 o0_1 o0_2 o0_3 o0_4 o0_5 o2 o3 o4 o5 o6 o7 => (runO Try.prog T_tutorref21_Told cuts_tutorref21_Told 0 (finish Try.prog Try.f23 0 K) fuel) (at' Try.f23 3) ⟨fr0 72 [(1, .rd ⟨false, 34, (.sl 3 (.int .i64)), words⟩), (2, .ptr 0 0), (4, .ptr 1 0), (5, .ptr 5 0), (6, .v (.int .i64 i))], [.box 36 [.v (.int .i64 o0), .v (.int .i64 o0_1), .v (.int .i64 o0_2), .v (.int .i64 o0_3), .rd ⟨false, 3, (.int .i64), o0_4⟩, .rd ⟨false, 3, (.int .i64), o0_5⟩], .box 40 [.nst 2, .own 3, .own 4], .nst ⟨true, 34, (.sl 3 (.int .i64)), o2⟩, .row ⟨true, 3, (.int .i64), o3⟩, .row ⟨true, 3, (.int .i64), o4⟩, .box 40 [.rd ⟨false, 34, (.sl 3 (.int .i64)), o5⟩, .own 6, .own 7], .row ⟨true, 3, (.int .i64), o6⟩, .row ⟨true, 3, (.int .i64), o7⟩]⟩) = (run_tutorref21_Told (fun r0 r1 r2 => K (.agg [.rd ⟨false, 34, (.sl 3 (.int .i64)), r0⟩, .own 0, .own 1]) [.row ⟨true, 3, (.int .i64), r1⟩, .row ⟨true, 3, (.int .i64), r2⟩]) fuel).1 ∧
    (fun words i s k o0 o0_1 o0_2 o0_3 o0_4 o0_5 o2 o3 o4 o5 o6 o7 => (runO Try.prog T_tutorref21_Told cuts_tutorref21_Told 0 (finish Try.prog Try.f23 0 K) fuel) (at' Try.f23 8) ⟨fr0 72 [(1, .rd ⟨false, 34, (.sl 3 (.int .i64)), words⟩), (2, .ptr 0 0), (4, .ptr 1 0), (5, .ptr 5 0), (6, .v (.int .i64 i)), (7, .v (.int .i64 s)), (8, .v (.int .i64 k))], [.box 36 [.v (.int .i64 o0), .v (.int .i64 o0_1), .v (.int .i64 o0_2), .v (.int .i64 o0_3), .rd ⟨false, 3, (.int .i64), o0_4⟩, .rd ⟨false, 3, (.int .i64), o0_5⟩], .box 40 [.nst 2, .own 3, .own 4], .nst ⟨true, 34, (.sl 3 (.int .i64)), o2⟩, .row ⟨true, 3, (.int .i64), o3⟩, .row ⟨true, 3, (.int .i64), o4⟩, .box 40 [.rd ⟨false, 34, (.sl 3 (.int .i64)), o5⟩, .own 6, .own 7], .row ⟨true, 3, (.int .i64), o6⟩, .row ⟨true, 3, (.int .i64), o7⟩]⟩) = (run_tutorref21_Told (fun r0 r1 r2 => K (.agg [.rd ⟨false, 34, (.sl 3 (.int .i64)), r0⟩, .own 0, .own 1]) [.row ⟨true, 3, (.int .i64), r1⟩, .row ⟨true, 3, (.int .i64), r2⟩]) fuel).2
  | 0 => ⟨rfl, rfl⟩
  | fuel + 1 => by
    have ih := runs_tutorref21_Told K fuel
    refine ⟨?_, ?_⟩
    · funext words i o0 o0_1 o0_2 o0_3 o0_4 o0_5 o2 o3 o4 o5 o6 o7
      refine (step_tutorref21_Told_3 _ K words i o0 o0_1 o0_2 o0_3 o0_4 o0_5 o2 o3 o4 o5 o6 o7).trans ?_
      rw [ih.1, ih.2]
      rfl
    · funext words i s k o0 o0_1 o0_2 o0_3 o0_4 o0_5 o2 o3 o4 o5 o6 o7
      refine (step_tutorref21_Told_8 _ K words i s k o0 o0_1 o0_2 o0_3 o0_4 o0_5 o2 o3 o4 o5 o6 o7).trans ?_
      rw [ih.1, ih.2]
      rfl

def S_tutorref21_Told (l_tutorref21_Told : {R : Type} → Int → Int → Int → Int → (List Int) → (List Int) → (List (List Int)) → ((List (List Int)) → (List Int) → (List Int) → Option R) → Option R) : Sum := ⟨[], fun {R} args ob K => match args, ob with
  | [.agg [.v (.int .i64 m), .v (.int .i64 m_1), .v (.int .i64 m_2), .v (.int .i64 m_3), .rd ⟨false, 3, (.int .i64), m_4⟩, .rd ⟨false, 3, (.int .i64), m_5⟩], .rd ⟨false, 34, (.sl 3 (.int .i64)), words⟩], [] => l_tutorref21_Told m m_1 m_2 m_3 m_4 m_5 words (fun r0 r1 r2 => K (.agg [.rd ⟨false, 34, (.sl 3 (.int .i64)), r0⟩, .own 0, .own 1]) [.row ⟨true, 3, (.int .i64), r1⟩, .row ⟨true, 3, (.int .i64), r2⟩])
  | _, _ => none⟩

theorem sound_tutorref21_Told : Sound Try.prog 23 (S_tutorref21_Told @l_tutorref21_Told) := by
  refine fn_sound (cuts := cuts_tutorref21_Told) (fn := Try.f23) (Γ := T_tutorref21_Told) wide right_T_tutorref21_Told Try.func23 fun {R} K r args ob h => ?_
  unfold S_tutorref21_Told at h
  dsimp only at h
  split at h
  · obtain ⟨n, hn⟩ := ok_tutorref21_Told _ _ _ _ _ _ _ _ h
    refine ⟨Nat.le_of_ble_eq_true (by kernel_rfl), n, (entry_tutorref21_Told n K _ _ _ _ _ _ _).trans ?_⟩
    rw [(runs_tutorref21_Told K n).1, (runs_tutorref21_Told K n).2]
    exact hn
  · cases h

theorem call_tutorref21_Told : Callable Try.prog 23 := ⟨_, Try.func23, by kernel_rfl, by kernel_rfl⟩

def T_tutorref01_Same : FuncId → Option Sum := G0

theorem right_T_tutorref01_Same : Right Try.prog T_tutorref01_Same := right_G0

abbrev cuts_tutorref01_Same : Cuts := [(4, [0, 1, 5])]

theorem gstep_tutorref01_Same_4 {R : Type} (g : List Item → St → Option R) (K : AV → List O → Option R) (a : List Int) (b : List Int) (i : Int) :
    runSeg Try.prog T_tutorref01_Same cuts_tutorref01_Same 0 g (finish Try.prog Try.f26 0 K) (at' Try.f26 4) ⟨fr0 26 [(0, .rd ⟨false, 3, (.int .i64), a⟩), (1, .rd ⟨false, 3, (.int .i64), b⟩), (5, .v (.int .i64 i))], []⟩ =
    (fun (g26_4 : (List Int) → (List Int) → Int → Option R) (K0 : Bool → Option R) (a : List Int) (b : List Int) (i : Int) =>
    bi (decide (i < (a.length : Int)))
     (bi (decide (0 ≤ i ∧ i < ((a.length : Nat) : Int)))
      (bi (decide (0 ≤ i ∧ i < ((b.length : Nat) : Int)))
       (bi ((a.getD i.toNat 0) != (b.getD i.toNat 0))
        (K0 false)
        (g26_4 a b (IntKind.i64.wrap (i + 1))))
       none)
      none)
     (K0 true)) (fun a b i => g (at' Try.f26 4) ⟨fr0 26 [(0, .rd ⟨false, 3, (.int .i64), a⟩), (1, .rd ⟨false, 3, (.int .i64), b⟩), (5, .v (.int .i64 i))], []⟩) (fun r0 => K (.v (.bool r0)) []) a b i := by kernel_rfl

theorem step_tutorref01_Same_4 {R : Type} (g : List Item → St → Option R) (K : AV → List O → Option R) (a : List Int) (b : List Int) (i : Int) :
    runSeg Try.prog T_tutorref01_Same cuts_tutorref01_Same 0 g (finish Try.prog Try.f26 0 K) (at' Try.f26 4) ⟨fr0 26 [(0, .rd ⟨false, 3, (.int .i64), a⟩), (1, .rd ⟨false, 3, (.int .i64), b⟩), (5, .v (.int .i64 i))], []⟩ =
    s_tutorref01_Same_4 (fun a b i => g (at' Try.f26 4) ⟨fr0 26 [(0, .rd ⟨false, 3, (.int .i64), a⟩), (1, .rd ⟨false, 3, (.int .i64), b⟩), (5, .v (.int .i64 i))], []⟩) (fun r0 => K (.v (.bool r0)) []) a b i := gstep_tutorref01_Same_4 g K a b i

theorem gentry_tutorref01_Same {R : Type} (fuel : Nat) (K : AV → List O → Option R) (a : List Int) (b : List Int) :
    fnRun Try.prog T_tutorref01_Same cuts_tutorref01_Same Try.f26 fuel [.rd ⟨false, 3, (.int .i64), a⟩, .rd ⟨false, 3, (.int .i64), b⟩] [] K =
    (fun (g26_4 : (List Int) → (List Int) → Int → Option R) (K0 : Bool → Option R) (a : List Int) (b : List Int) =>
    bi ((a.length : Int) != (b.length : Int))
     (K0 false)
     (g26_4 a b 0)) (fun a b i => (runO Try.prog T_tutorref01_Same cuts_tutorref01_Same 0 (finish Try.prog Try.f26 0 K) fuel) (at' Try.f26 4) ⟨fr0 26 [(0, .rd ⟨false, 3, (.int .i64), a⟩), (1, .rd ⟨false, 3, (.int .i64), b⟩), (5, .v (.int .i64 i))], []⟩) (fun r0 => K (.v (.bool r0)) []) a b := by kernel_rfl

theorem entry_tutorref01_Same {R : Type} (fuel : Nat) (K : AV → List O → Option R) (a : List Int) (b : List Int) :
    fnRun Try.prog T_tutorref01_Same cuts_tutorref01_Same Try.f26 fuel [.rd ⟨false, 3, (.int .i64), a⟩, .rd ⟨false, 3, (.int .i64), b⟩] [] K =
    e_tutorref01_Same (fun a b i => (runO Try.prog T_tutorref01_Same cuts_tutorref01_Same 0 (finish Try.prog Try.f26 0 K) fuel) (at' Try.f26 4) ⟨fr0 26 [(0, .rd ⟨false, 3, (.int .i64), a⟩), (1, .rd ⟨false, 3, (.int .i64), b⟩), (5, .v (.int .i64 i))], []⟩) (fun r0 => K (.v (.bool r0)) []) a b := gentry_tutorref01_Same fuel K a b

theorem runs_tutorref01_Same {R : Type} (K : AV → List O → Option R) : ∀ fuel : Nat,
    (fun a b i => (runO Try.prog T_tutorref01_Same cuts_tutorref01_Same 0 (finish Try.prog Try.f26 0 K) fuel) (at' Try.f26 4) ⟨fr0 26 [(0, .rd ⟨false, 3, (.int .i64), a⟩), (1, .rd ⟨false, 3, (.int .i64), b⟩), (5, .v (.int .i64 i))], []⟩) = (run_tutorref01_Same (fun r0 => K (.v (.bool r0)) []) fuel)
  | 0 => rfl
  | fuel + 1 => by
    have ih := runs_tutorref01_Same K fuel
    funext a b i
    refine (step_tutorref01_Same_4 _ K a b i).trans ?_
    rw [ih]
    rfl

def S_tutorref01_Same (l_tutorref01_Same : {R : Type} → (List Int) → (List Int) → (Bool → Option R) → Option R) : Sum := ⟨[], fun {R} args ob K => match args, ob with
  | [.rd ⟨false, 3, (.int .i64), a⟩, .rd ⟨false, 3, (.int .i64), b⟩], [] => l_tutorref01_Same a b (fun r0 => K (.v (.bool r0)) [])
  | _, _ => none⟩

theorem sound_tutorref01_Same : Sound Try.prog 26 (S_tutorref01_Same @l_tutorref01_Same) := by
  refine fn_sound (cuts := cuts_tutorref01_Same) (fn := Try.f26) (Γ := T_tutorref01_Same) wide right_T_tutorref01_Same Try.func26 fun {R} K r args ob h => ?_
  unfold S_tutorref01_Same at h
  dsimp only at h
  split at h
  · obtain ⟨n, hn⟩ := ok_tutorref01_Same _ _ _ h
    refine ⟨Nat.le_of_ble_eq_true (by kernel_rfl), n, (entry_tutorref01_Same n K _ _).trans ?_⟩
    rw [(runs_tutorref01_Same K n)]
    exact hn
  · cases h

theorem call_tutorref01_Same : Callable Try.prog 26 := ⟨_, Try.func26, by kernel_rfl, by kernel_rfl⟩

def T_tutorref01_Lists (l_tutorref01_Same : {R : Type} → (List Int) → (List Int) → (Bool → Option R) → Option R) : FuncId → Option Sum := (addS G0 26 (S_tutorref01_Same @l_tutorref01_Same))

theorem right_T_tutorref01_Lists : Right Try.prog (T_tutorref01_Lists @l_tutorref01_Same) := (right_add right_G0 call_tutorref01_Same sound_tutorref01_Same)

abbrev cuts_tutorref01_Lists : Cuts := [(4, [0, 1, 5])]

theorem gstep_tutorref01_Lists_4 (l_tutorref01_Same : {R : Type} → (List Int) → (List Int) → (Bool → Option R) → Option R) {R : Type} (g : List Item → St → Option R) (K : AV → List O → Option R) (a : List (List Int)) (b : List (List Int)) (i : Int) :
    runSeg Try.prog (T_tutorref01_Lists @l_tutorref01_Same) cuts_tutorref01_Lists 0 g (finish Try.prog Try.f11 0 K) (at' Try.f11 4) ⟨fr0 27 [(0, .rd ⟨false, 34, (.sl 3 (.int .i64)), a⟩), (1, .rd ⟨false, 34, (.sl 3 (.int .i64)), b⟩), (5, .v (.int .i64 i))], []⟩ =
    (fun (g11_4 : (List (List Int)) → (List (List Int)) → Int → Option R) (K0 : Bool → Option R) (a : List (List Int)) (b : List (List Int)) (i : Int) =>
    bi (decide (i < (a.length : Int)))
     (bi (decide (0 ≤ i ∧ i < ((a.length : Nat) : Int)))
      (bi (decide (0 ≤ i ∧ i < ((b.length : Nat) : Int)))
       (l_tutorref01_Same (a.getD i.toNat []) (b.getD i.toNat [])
        (fun r1 =>
         bi (!r1)
          (K0 false)
          (g11_4 a b (IntKind.i64.wrap (i + 1)))))
       none)
      none)
     (K0 true)) (fun a b i => g (at' Try.f11 4) ⟨fr0 27 [(0, .rd ⟨false, 34, (.sl 3 (.int .i64)), a⟩), (1, .rd ⟨false, 34, (.sl 3 (.int .i64)), b⟩), (5, .v (.int .i64 i))], []⟩) (fun r0 => K (.v (.bool r0)) []) a b i := by kernel_rfl

theorem step_tutorref01_Lists_4 {R : Type} (g : List Item → St → Option R) (K : AV → List O → Option R) (a : List (List Int)) (b : List (List Int)) (i : Int) :
    runSeg Try.prog (T_tutorref01_Lists @l_tutorref01_Same) cuts_tutorref01_Lists 0 g (finish Try.prog Try.f11 0 K) (at' Try.f11 4) ⟨fr0 27 [(0, .rd ⟨false, 34, (.sl 3 (.int .i64)), a⟩), (1, .rd ⟨false, 34, (.sl 3 (.int .i64)), b⟩), (5, .v (.int .i64 i))], []⟩ =
    s_tutorref01_Lists_4 (fun a b i => g (at' Try.f11 4) ⟨fr0 27 [(0, .rd ⟨false, 34, (.sl 3 (.int .i64)), a⟩), (1, .rd ⟨false, 34, (.sl 3 (.int .i64)), b⟩), (5, .v (.int .i64 i))], []⟩) (fun r0 => K (.v (.bool r0)) []) a b i := gstep_tutorref01_Lists_4 @l_tutorref01_Same g K a b i

theorem gentry_tutorref01_Lists (l_tutorref01_Same : {R : Type} → (List Int) → (List Int) → (Bool → Option R) → Option R) {R : Type} (fuel : Nat) (K : AV → List O → Option R) (a : List (List Int)) (b : List (List Int)) :
    fnRun Try.prog (T_tutorref01_Lists @l_tutorref01_Same) cuts_tutorref01_Lists Try.f11 fuel [.rd ⟨false, 34, (.sl 3 (.int .i64)), a⟩, .rd ⟨false, 34, (.sl 3 (.int .i64)), b⟩] [] K =
    (fun (g11_4 : (List (List Int)) → (List (List Int)) → Int → Option R) (K0 : Bool → Option R) (a : List (List Int)) (b : List (List Int)) =>
    bi ((a.length : Int) != (b.length : Int))
     (K0 false)
     (g11_4 a b 0)) (fun a b i => (runO Try.prog (T_tutorref01_Lists @l_tutorref01_Same) cuts_tutorref01_Lists 0 (finish Try.prog Try.f11 0 K) fuel) (at' Try.f11 4) ⟨fr0 27 [(0, .rd ⟨false, 34, (.sl 3 (.int .i64)), a⟩), (1, .rd ⟨false, 34, (.sl 3 (.int .i64)), b⟩), (5, .v (.int .i64 i))], []⟩) (fun r0 => K (.v (.bool r0)) []) a b := by kernel_rfl

theorem entry_tutorref01_Lists {R : Type} (fuel : Nat) (K : AV → List O → Option R) (a : List (List Int)) (b : List (List Int)) :
    fnRun Try.prog (T_tutorref01_Lists @l_tutorref01_Same) cuts_tutorref01_Lists Try.f11 fuel [.rd ⟨false, 34, (.sl 3 (.int .i64)), a⟩, .rd ⟨false, 34, (.sl 3 (.int .i64)), b⟩] [] K =
    e_tutorref01_Lists (fun a b i => (runO Try.prog (T_tutorref01_Lists @l_tutorref01_Same) cuts_tutorref01_Lists 0 (finish Try.prog Try.f11 0 K) fuel) (at' Try.f11 4) ⟨fr0 27 [(0, .rd ⟨false, 34, (.sl 3 (.int .i64)), a⟩), (1, .rd ⟨false, 34, (.sl 3 (.int .i64)), b⟩), (5, .v (.int .i64 i))], []⟩) (fun r0 => K (.v (.bool r0)) []) a b := gentry_tutorref01_Lists @l_tutorref01_Same fuel K a b

theorem runs_tutorref01_Lists {R : Type} (K : AV → List O → Option R) : ∀ fuel : Nat,
    (fun a b i => (runO Try.prog (T_tutorref01_Lists @l_tutorref01_Same) cuts_tutorref01_Lists 0 (finish Try.prog Try.f11 0 K) fuel) (at' Try.f11 4) ⟨fr0 27 [(0, .rd ⟨false, 34, (.sl 3 (.int .i64)), a⟩), (1, .rd ⟨false, 34, (.sl 3 (.int .i64)), b⟩), (5, .v (.int .i64 i))], []⟩) = (run_tutorref01_Lists (fun r0 => K (.v (.bool r0)) []) fuel)
  | 0 => rfl
  | fuel + 1 => by
    have ih := runs_tutorref01_Lists K fuel
    funext a b i
    refine (step_tutorref01_Lists_4 _ K a b i).trans ?_
    rw [ih]
    rfl

def S_tutorref01_Lists (l_tutorref01_Lists : {R : Type} → (List (List Int)) → (List (List Int)) → (Bool → Option R) → Option R) : Sum := ⟨[], fun {R} args ob K => match args, ob with
  | [.rd ⟨false, 34, (.sl 3 (.int .i64)), a⟩, .rd ⟨false, 34, (.sl 3 (.int .i64)), b⟩], [] => l_tutorref01_Lists a b (fun r0 => K (.v (.bool r0)) [])
  | _, _ => none⟩

theorem sound_tutorref01_Lists : Sound Try.prog 11 (S_tutorref01_Lists @l_tutorref01_Lists) := by
  refine fn_sound (cuts := cuts_tutorref01_Lists) (fn := Try.f11) (Γ := (T_tutorref01_Lists @l_tutorref01_Same)) wide right_T_tutorref01_Lists Try.func11 fun {R} K r args ob h => ?_
  unfold S_tutorref01_Lists at h
  dsimp only at h
  split at h
  · obtain ⟨n, hn⟩ := ok_tutorref01_Lists _ _ _ h
    refine ⟨Nat.le_of_ble_eq_true (by kernel_rfl), n, (entry_tutorref01_Lists n K _ _).trans ?_⟩
    rw [(runs_tutorref01_Lists K n)]
    exact hn
  · cases h

theorem call_tutorref01_Lists : Callable Try.prog 11 := ⟨_, Try.func11, by kernel_rfl, by kernel_rfl⟩

def T_tutorref21_Same (l_tutorref01_Same : {R : Type} → (List Int) → (List Int) → (Bool → Option R) → Option R) (l_tutorref01_Lists : {R : Type} → (List (List Int)) → (List (List Int)) → (Bool → Option R) → Option R) : FuncId → Option Sum := (addS (addS G0 26 (S_tutorref01_Same @l_tutorref01_Same)) 11 (S_tutorref01_Lists @l_tutorref01_Lists))

theorem right_T_tutorref21_Same : Right Try.prog (T_tutorref21_Same @l_tutorref01_Same @l_tutorref01_Lists) := (right_add (right_add right_G0 call_tutorref01_Same sound_tutorref01_Same) call_tutorref01_Lists sound_tutorref01_Lists)

abbrev cuts_tutorref21_Same : Cuts := []

theorem gentry_tutorref21_Same (l_tutorref01_Same : {R : Type} → (List Int) → (List Int) → (Bool → Option R) → Option R) (l_tutorref01_Lists : {R : Type} → (List (List Int)) → (List (List Int)) → (Bool → Option R) → Option R) {R : Type} (K : AV → List O → Option R) (a : List (List Int)) (a_1 : List Int) (a_2 : List Int) (b : List (List Int)) (b_1 : List Int) (b_2 : List Int) :
    fnRun Try.prog (T_tutorref21_Same @l_tutorref01_Same @l_tutorref01_Lists) cuts_tutorref21_Same Try.f18 0 [.agg [.rd ⟨false, 34, (.sl 3 (.int .i64)), a⟩, .rd ⟨false, 3, (.int .i64), a_1⟩, .rd ⟨false, 3, (.int .i64), a_2⟩], .agg [.rd ⟨false, 34, (.sl 3 (.int .i64)), b⟩, .rd ⟨false, 3, (.int .i64), b_1⟩, .rd ⟨false, 3, (.int .i64), b_2⟩]] [] K =
    (fun (a : List (List Int)) (a_1 : List Int) (a_2 : List Int) (b : List (List Int)) (b_1 : List Int) (b_2 : List Int) (K0 : Bool → Option R) =>
    l_tutorref01_Lists a b
     (fun r1 =>
      bi r1
       (l_tutorref01_Same a_1 b_1
        (fun r2 =>
         bi r2
          (l_tutorref01_Same a_2 b_2
           (fun r3 =>
            K0 r3))
          (K0 false)))
       (K0 false))) a a_1 a_2 b b_1 b_2 (fun r0 => K (.v (.bool r0)) []) := by kernel_rfl

theorem entry_tutorref21_Same {R : Type} (K : AV → List O → Option R) (a : List (List Int)) (a_1 : List Int) (a_2 : List Int) (b : List (List Int)) (b_1 : List Int) (b_2 : List Int) :
    fnRun Try.prog (T_tutorref21_Same @l_tutorref01_Same @l_tutorref01_Lists) cuts_tutorref21_Same Try.f18 0 [.agg [.rd ⟨false, 34, (.sl 3 (.int .i64)), a⟩, .rd ⟨false, 3, (.int .i64), a_1⟩, .rd ⟨false, 3, (.int .i64), a_2⟩], .agg [.rd ⟨false, 34, (.sl 3 (.int .i64)), b⟩, .rd ⟨false, 3, (.int .i64), b_1⟩, .rd ⟨false, 3, (.int .i64), b_2⟩]] [] K =
    l_tutorref21_Same a a_1 a_2 b b_1 b_2 (fun r0 => K (.v (.bool r0)) []) := gentry_tutorref21_Same @l_tutorref01_Same @l_tutorref01_Lists K a a_1 a_2 b b_1 b_2

def S_tutorref21_Same (l_tutorref21_Same : {R : Type} → (List (List Int)) → (List Int) → (List Int) → (List (List Int)) → (List Int) → (List Int) → (Bool → Option R) → Option R) : Sum := ⟨[], fun {R} args ob K => match args, ob with
  | [.agg [.rd ⟨false, 34, (.sl 3 (.int .i64)), a⟩, .rd ⟨false, 3, (.int .i64), a_1⟩, .rd ⟨false, 3, (.int .i64), a_2⟩], .agg [.rd ⟨false, 34, (.sl 3 (.int .i64)), b⟩, .rd ⟨false, 3, (.int .i64), b_1⟩, .rd ⟨false, 3, (.int .i64), b_2⟩]], [] => l_tutorref21_Same a a_1 a_2 b b_1 b_2 (fun r0 => K (.v (.bool r0)) [])
  | _, _ => none⟩

theorem sound_tutorref21_Same : Sound Try.prog 18 (S_tutorref21_Same @l_tutorref21_Same) := by
  refine fn_sound (cuts := cuts_tutorref21_Same) (fn := Try.f18) (Γ := (T_tutorref21_Same @l_tutorref01_Same @l_tutorref01_Lists)) wide right_T_tutorref21_Same Try.func18 fun {R} K r args ob h => ?_
  unfold S_tutorref21_Same at h
  dsimp only at h
  split at h
  · exact ⟨Nat.le_of_ble_eq_true (by kernel_rfl), 0, (entry_tutorref21_Same K _ _ _ _ _ _).trans h⟩
  · cases h

theorem call_tutorref21_Same : Callable Try.prog 18 := ⟨_, Try.func18, by kernel_rfl, by kernel_rfl⟩

def T_tutorlaw21_WalkTrue (l_tutorlaw21_live : {R : Type} → (Bool → Option R) → Option R) (l_walk_New : {R : Type} → Int → (Int → Option R) → Option R) (l_tutorref03_Big : {R : Type} → Int → Int → Int → Int → (List Int) → (List Int) → Int → (Bool → Option R) → Option R) (l_walk_Walk_Int : {R : Type} → Int → Int → (Int → Int → Option R) → Option R) (l_tutorlaw21_num : {R : Type} → Int → (Int → Option R) → Option R) (l_walk_Stroll : {R : Type} → Int → Int → Int → Int → (List Int) → (List Int) → Int → Int → Int → (Int → (List (List Int)) → (List Int) → (List Int) → Option R) → Option R) (l_tutorref01_Check : {R : Type} → (List Int) → Int → (Int → Int → Option R) → Option R) (l_tutorref21_Same : {R : Type} → (List (List Int)) → (List Int) → (List Int) → (List (List Int)) → (List Int) → (List Int) → (Bool → Option R) → Option R) (l_tutorref21_Told : {R : Type} → Int → Int → Int → Int → (List Int) → (List Int) → (List (List Int)) → ((List (List Int)) → (List Int) → (List Int) → Option R) → Option R) : FuncId → Option Sum := (addS (addS (addS (addS (addS (addS (addS (addS (addS G0 8 (S_tutorlaw21_live @l_tutorlaw21_live)) 20 (S_walk_New @l_walk_New)) 14 (S_tutorref03_Big @l_tutorref03_Big)) 21 (S_walk_Walk_Int @l_walk_Walk_Int)) 12 (S_tutorlaw21_num @l_tutorlaw21_num)) 16 (S_walk_Stroll @l_walk_Stroll)) 22 (S_tutorref01_Check @l_tutorref01_Check)) 18 (S_tutorref21_Same @l_tutorref21_Same)) 23 (S_tutorref21_Told @l_tutorref21_Told))

theorem right_T_tutorlaw21_WalkTrue : Right Try.prog (T_tutorlaw21_WalkTrue @l_tutorlaw21_live @l_walk_New @l_tutorref03_Big @l_walk_Walk_Int @l_tutorlaw21_num @l_walk_Stroll @l_tutorref01_Check @l_tutorref21_Same @l_tutorref21_Told) := (right_add (right_add (right_add (right_add (right_add (right_add (right_add (right_add (right_add right_G0 call_tutorlaw21_live sound_tutorlaw21_live) call_walk_New sound_walk_New) call_tutorref03_Big sound_tutorref03_Big) call_walk_Walk_Int sound_walk_Walk_Int) call_tutorlaw21_num sound_tutorlaw21_num) call_walk_Stroll sound_walk_Stroll) call_tutorref01_Check sound_tutorref01_Check) call_tutorref21_Same sound_tutorref21_Same) call_tutorref21_Told sound_tutorref21_Told)

abbrev cuts_tutorlaw21_WalkTrue : Cuts := [(7, [1, 2, 3, 4, 5, 11, 12, 13]), (17, [2, 5, 15, 17, 18])]

theorem gstep_tutorlaw21_WalkTrue_7 (l_tutorlaw21_live : {R : Type} → (Bool → Option R) → Option R) (l_walk_New : {R : Type} → Int → (Int → Option R) → Option R) (l_tutorref03_Big : {R : Type} → Int → Int → Int → Int → (List Int) → (List Int) → Int → (Bool → Option R) → Option R) (l_walk_Walk_Int : {R : Type} → Int → Int → (Int → Int → Option R) → Option R) (l_tutorlaw21_num : {R : Type} → Int → (Int → Option R) → Option R) (l_walk_Stroll : {R : Type} → Int → Int → Int → Int → (List Int) → (List Int) → Int → Int → Int → (Int → (List (List Int)) → (List Int) → (List Int) → Option R) → Option R) (l_tutorref01_Check : {R : Type} → (List Int) → Int → (Int → Int → Option R) → Option R) (l_tutorref21_Same : {R : Type} → (List (List Int)) → (List Int) → (List Int) → (List (List Int)) → (List Int) → (List Int) → (Bool → Option R) → Option R) (l_tutorref21_Told : {R : Type} → Int → Int → Int → Int → (List Int) → (List Int) → (List (List Int)) → ((List (List Int)) → (List Int) → (List Int) → Option R) → Option R) {R : Type} (g : List Item → St → Option R) (K : AV → List O → Option R) (seed : Int) (steps : Int) (stop : Int) (n : Int) (i : Int) (o0 : Int) (o0_1 : Int) (o0_2 : Int) (o0_3 : Int) (o0_4 : List Int) (o0_5 : List Int) (o1 : Int) (o2 : Int) :
    runSeg Try.prog (T_tutorlaw21_WalkTrue @l_tutorlaw21_live @l_walk_New @l_tutorref03_Big @l_walk_Walk_Int @l_tutorlaw21_num @l_walk_Stroll @l_tutorref01_Check @l_tutorref21_Same @l_tutorref21_Told) cuts_tutorlaw21_WalkTrue 0 g (finish Try.prog Try.f5 0 K) (at' Try.f5 7) ⟨fr0 139 [(1, .v (.int .u64 seed)), (2, .v (.int .i64 steps)), (3, .v (.int .i64 stop)), (4, .v (.int .i64 n)), (5, .ptr 0 0), (11, .ptr 1 0), (12, .ptr 2 0), (13, .v (.int .i64 i))], [.box 36 [.v (.int .i64 o0), .v (.int .i64 o0_1), .v (.int .i64 o0_2), .v (.int .i64 o0_3), .rd ⟨false, 3, (.int .i64), o0_4⟩, .rd ⟨false, 3, (.int .i64), o0_5⟩], .box 83 [.v (.int .u64 o1)], .box 83 [.v (.int .u64 o2)]]⟩ =
    (fun (g5_7 : Int → Int → Int → Int → Int → Int → Int → Int → Int → (List Int) → (List Int) → Int → Int → Option R) (g5_17 : Int → Int → Int → Int → Int → Int → Int → (List Int) → (List Int) → (List (List Int)) → (List Int) → (List Int) → Option R) (K0 : Bool → Option R) (seed : Int) (steps : Int) (stop : Int) (n : Int) (i : Int) (o0 : Int) (o0_1 : Int) (o0_2 : Int) (o0_3 : Int) (o0_4 : List Int) (o0_5 : List Int) (o1 : Int) (o2 : Int) =>
    bi (decide (i < 20))
     (l_walk_Walk_Int n o1
      (fun r6 r7 =>
       l_walk_Walk_Int n o2
        (fun r8 r9 =>
         bi (r6 != r8)
          (K0 false)
          (bi (decide (r6 < 0))
           (K0 false)
           (bi (decide (n > 0))
            (bi (decide (r6 ≥ n))
             (K0 false)
             (bi (decide (n < 1))
              (bi (r6 != 0)
               (K0 false)
               (g5_7 seed steps stop n (IntKind.i64.wrap (i + 1)) o0 o0_1 o0_2 o0_3 o0_4 o0_5 r7 r9))
              (g5_7 seed steps stop n (IntKind.i64.wrap (i + 1)) o0 o0_1 o0_2 o0_3 o0_4 o0_5 r7 r9)))
            (bi (decide (n < 1))
             (bi (r6 != 0)
              (K0 false)
              (g5_7 seed steps stop n (IntKind.i64.wrap (i + 1)) o0 o0_1 o0_2 o0_3 o0_4 o0_5 r7 r9))
             (g5_7 seed steps stop n (IntKind.i64.wrap (i + 1)) o0 o0_1 o0_2 o0_3 o0_4 o0_5 r7 r9)))))))
     (l_walk_Stroll o0 o0_1 o0_2 o0_3 o0_4 o0_5 seed steps stop
      (fun r10 r11 r12 r13 =>
       l_tutorlaw21_num r10
        (fun r14 =>
         bi (r14 != 0)
          (bi ((IntKind.i64.wrap ((IntKind.i64.wrap ((r11.length : Int) + (r12.length : Int))) + (r13.length : Int))) == 0)
           (l_tutorlaw21_live
            (fun r15 =>
             K0 r15))
           (K0 false))
          (g5_17 steps 0 0 o0 o0_1 o0_2 o0_3 o0_4 o0_5 r11 r12 r13))))) (fun seed steps stop n i o0 o0_1 o0_2 o0_3 o0_4 o0_5 o1 o2 => g (at' Try.f5 7) ⟨fr0 139 [(1, .v (.int .u64 seed)), (2, .v (.int .i64 steps)), (3, .v (.int .i64 stop)), (4, .v (.int .i64 n)), (5, .ptr 0 0), (11, .ptr 1 0), (12, .ptr 2 0), (13, .v (.int .i64 i))], [.box 36 [.v (.int .i64 o0), .v (.int .i64 o0_1), .v (.int .i64 o0_2), .v (.int .i64 o0_3), .rd ⟨false, 3, (.int .i64), o0_4⟩, .rd ⟨false, 3, (.int .i64), o0_5⟩], .box 83 [.v (.int .u64 o1)], .box 83 [.v (.int .u64 o2)]]⟩) (fun steps sum i o0 o0_1 o0_2 o0_3 o0_4 o0_5 o2 o3 o4 => g (at' Try.f5 17) ⟨fr0 139 [(2, .v (.int .i64 steps)), (5, .ptr 0 0), (15, .ptr 1 0), (17, .v (.int .i64 sum)), (18, .v (.int .i64 i))], [.box 36 [.v (.int .i64 o0), .v (.int .i64 o0_1), .v (.int .i64 o0_2), .v (.int .i64 o0_3), .rd ⟨false, 3, (.int .i64), o0_4⟩, .rd ⟨false, 3, (.int .i64), o0_5⟩], .box 40 [.nst 2, .own 3, .own 4], .nst ⟨true, 34, (.sl 3 (.int .i64)), o2⟩, .row ⟨true, 3, (.int .i64), o3⟩, .row ⟨true, 3, (.int .i64), o4⟩]⟩) (fun r0 => K (.v (.bool r0)) []) seed steps stop n i o0 o0_1 o0_2 o0_3 o0_4 o0_5 o1 o2 := by kernel_rfl

theorem step_tutorlaw21_WalkTrue_7 {R : Type} (g : List Item → St → Option R) (K : AV → List O → Option R) (seed : Int) (steps : Int) (stop : Int) (n : Int) (i : Int) (o0 : Int) (o0_1 : Int) (o0_2 : Int) (o0_3 : Int) (o0_4 : List Int) (o0_5 : List Int) (o1 : Int) (o2 : Int) :
    runSeg Try.prog (T_tutorlaw21_WalkTrue @l_tutorlaw21_live @l_walk_New @l_tutorref03_Big @l_walk_Walk_Int @l_tutorlaw21_num @l_walk_Stroll @l_tutorref01_Check @l_tutorref21_Same @l_tutorref21_Told) cuts_tutorlaw21_WalkTrue 0 g (finish Try.prog Try.f5 0 K) (at' Try.f5 7) ⟨fr0 139 [(1, .v (.int .u64 seed)), (2, .v (.int .i64 steps)), (3, .v (.int .i64 stop)), (4, .v (.int .i64 n)), (5, .ptr 0 0), (11, .ptr 1 0), (12, .ptr 2 0), (13, .v (.int .i64 i))], [.box 36 [.v (.int .i64 o0), .v (.int .i64 o0_1), .v (.int .i64 o0_2), .v (.int .i64 o0_3), .rd ⟨false, 3, (.int .i64), o0_4⟩, .rd ⟨false, 3, (.int .i64), o0_5⟩], .box 83 [.v (.int .u64 o1)], .box 83 [.v (.int .u64 o2)]]⟩ =
    s_tutorlaw21_WalkTrue_7 (fun seed steps stop n i o0 o0_1 o0_2 o0_3 o0_4 o0_5 o1 o2 => g (at' Try.f5 7) ⟨fr0 139 [(1, .v (.int .u64 seed)), (2, .v (.int .i64 steps)), (3, .v (.int .i64 stop)), (4, .v (.int .i64 n)), (5, .ptr 0 0), (11, .ptr 1 0), (12, .ptr 2 0), (13, .v (.int .i64 i))], [.box 36 [.v (.int .i64 o0), .v (.int .i64 o0_1), .v (.int .i64 o0_2), .v (.int .i64 o0_3), .rd ⟨false, 3, (.int .i64), o0_4⟩, .rd ⟨false, 3, (.int .i64), o0_5⟩], .box 83 [.v (.int .u64 o1)], .box 83 [.v (.int .u64 o2)]]⟩) (fun steps sum i o0 o0_1 o0_2 o0_3 o0_4 o0_5 o2 o3 o4 => g (at' Try.f5 17) ⟨fr0 139 [(2, .v (.int .i64 steps)), (5, .ptr 0 0), (15, .ptr 1 0), (17, .v (.int .i64 sum)), (18, .v (.int .i64 i))], [.box 36 [.v (.int .i64 o0), .v (.int .i64 o0_1), .v (.int .i64 o0_2), .v (.int .i64 o0_3), .rd ⟨false, 3, (.int .i64), o0_4⟩, .rd ⟨false, 3, (.int .i64), o0_5⟩], .box 40 [.nst 2, .own 3, .own 4], .nst ⟨true, 34, (.sl 3 (.int .i64)), o2⟩, .row ⟨true, 3, (.int .i64), o3⟩, .row ⟨true, 3, (.int .i64), o4⟩]⟩) (fun r0 => K (.v (.bool r0)) []) seed steps stop n i o0 o0_1 o0_2 o0_3 o0_4 o0_5 o1 o2 := gstep_tutorlaw21_WalkTrue_7 @l_tutorlaw21_live @l_walk_New @l_tutorref03_Big @l_walk_Walk_Int @l_tutorlaw21_num @l_walk_Stroll @l_tutorref01_Check @l_tutorref21_Same @l_tutorref21_Told g K seed steps stop n i o0 o0_1 o0_2 o0_3 o0_4 o0_5 o1 o2

theorem gstep_tutorlaw21_WalkTrue_17 (l_tutorlaw21_live : {R : Type} → (Bool → Option R) → Option R) (l_walk_New : {R : Type} → Int → (Int → Option R) → Option R) (l_tutorref03_Big : {R : Type} → Int → Int → Int → Int → (List Int) → (List Int) → Int → (Bool → Option R) → Option R) (l_walk_Walk_Int : {R : Type} → Int → Int → (Int → Int → Option R) → Option R) (l_tutorlaw21_num : {R : Type} → Int → (Int → Option R) → Option R) (l_walk_Stroll : {R : Type} → Int → Int → Int → Int → (List Int) → (List Int) → Int → Int → Int → (Int → (List (List Int)) → (List Int) → (List Int) → Option R) → Option R) (l_tutorref01_Check : {R : Type} → (List Int) → Int → (Int → Int → Option R) → Option R) (l_tutorref21_Same : {R : Type} → (List (List Int)) → (List Int) → (List Int) → (List (List Int)) → (List Int) → (List Int) → (Bool → Option R) → Option R) (l_tutorref21_Told : {R : Type} → Int → Int → Int → Int → (List Int) → (List Int) → (List (List Int)) → ((List (List Int)) → (List Int) → (List Int) → Option R) → Option R) {R : Type} (g : List Item → St → Option R) (K : AV → List O → Option R) (steps : Int) (sum : Int) (i : Int) (o0 : Int) (o0_1 : Int) (o0_2 : Int) (o0_3 : Int) (o0_4 : List Int) (o0_5 : List Int) (o2 : List (List Int)) (o3 : List Int) (o4 : List Int) :
    runSeg Try.prog (T_tutorlaw21_WalkTrue @l_tutorlaw21_live @l_walk_New @l_tutorref03_Big @l_walk_Walk_Int @l_tutorlaw21_num @l_walk_Stroll @l_tutorref01_Check @l_tutorref21_Same @l_tutorref21_Told) cuts_tutorlaw21_WalkTrue 0 g (finish Try.prog Try.f5 0 K) (at' Try.f5 17) ⟨fr0 139 [(2, .v (.int .i64 steps)), (5, .ptr 0 0), (15, .ptr 1 0), (17, .v (.int .i64 sum)), (18, .v (.int .i64 i))], [.box 36 [.v (.int .i64 o0), .v (.int .i64 o0_1), .v (.int .i64 o0_2), .v (.int .i64 o0_3), .rd ⟨false, 3, (.int .i64), o0_4⟩, .rd ⟨false, 3, (.int .i64), o0_5⟩], .box 40 [.nst 2, .own 3, .own 4], .nst ⟨true, 34, (.sl 3 (.int .i64)), o2⟩, .row ⟨true, 3, (.int .i64), o3⟩, .row ⟨true, 3, (.int .i64), o4⟩]⟩ =
    (fun (g5_7 : Int → Int → Int → Int → Int → Int → Int → Int → Int → (List Int) → (List Int) → Int → Int → Option R) (g5_17 : Int → Int → Int → Int → Int → Int → Int → (List Int) → (List Int) → (List (List Int)) → (List Int) → (List Int) → Option R) (K0 : Bool → Option R) (steps : Int) (sum : Int) (i : Int) (o0 : Int) (o0_1 : Int) (o0_2 : Int) (o0_3 : Int) (o0_4 : List Int) (o0_5 : List Int) (o2 : List (List Int)) (o3 : List Int) (o4 : List Int) =>
    bi (decide (i < (o2.length : Int)))
     (bi (decide (0 ≤ i ∧ i < ((o2.length : Nat) : Int)))
      (l_tutorref01_Check (o2.getD i.toNat []) o0_1
       (fun r16 r17 =>
        bi (r17 != 0)
         (K0 false)
         (bi (decide (0 ≤ i ∧ i < ((o2.length : Nat) : Int)))
          (g5_17 steps (IntKind.i64.wrap (sum + ((o2.getD i.toNat []).length : Int))) (IntKind.i64.wrap (i + 1)) o0 o0_1 o0_2 o0_3 o0_4 o0_5 o2 o3 o4)
          none)))
      none)
     (bi (sum == steps)
      (l_tutorref21_Told o0 o0_1 o0_2 o0_3 o0_4 o0_5 o2
       (fun r18 r19 r20 =>
        l_tutorref21_Same o2 o3 o4 r18 r19 r20
         (fun r21 =>
          bi r21
           (l_tutorlaw21_live
            (fun r22 =>
             K0 r22))
           (K0 false))))
      (K0 false))) (fun seed steps stop n i o0 o0_1 o0_2 o0_3 o0_4 o0_5 o1 o2 => g (at' Try.f5 7) ⟨fr0 139 [(1, .v (.int .u64 seed)), (2, .v (.int .i64 steps)), (3, .v (.int .i64 stop)), (4, .v (.int .i64 n)), (5, .ptr 0 0), (11, .ptr 1 0), (12, .ptr 2 0), (13, .v (.int .i64 i))], [.box 36 [.v (.int .i64 o0), .v (.int .i64 o0_1), .v (.int .i64 o0_2), .v (.int .i64 o0_3), .rd ⟨false, 3, (.int .i64), o0_4⟩, .rd ⟨false, 3, (.int .i64), o0_5⟩], .box 83 [.v (.int .u64 o1)], .box 83 [.v (.int .u64 o2)]]⟩) (fun steps sum i o0 o0_1 o0_2 o0_3 o0_4 o0_5 o2 o3 o4 => g (at' Try.f5 17) ⟨fr0 139 [(2, .v (.int .i64 steps)), (5, .ptr 0 0), (15, .ptr 1 0), (17, .v (.int .i64 sum)), (18, .v (.int .i64 i))], [.box 36 [.v (.int .i64 o0), .v (.int .i64 o0_1), .v (.int .i64 o0_2), .v (.int .i64 o0_3), .rd ⟨false, 3, (.int .i64), o0_4⟩, .rd ⟨false, 3, (.int .i64), o0_5⟩], .box 40 [.nst 2, .own 3, .own 4], .nst ⟨true, 34, (.sl 3 (.int .i64)), o2⟩, .row ⟨true, 3, (.int .i64), o3⟩, .row ⟨true, 3, (.int .i64), o4⟩]⟩) (fun r0 => K (.v (.bool r0)) []) steps sum i o0 o0_1 o0_2 o0_3 o0_4 o0_5 o2 o3 o4 := by kernel_rfl

theorem step_tutorlaw21_WalkTrue_17 {R : Type} (g : List Item → St → Option R) (K : AV → List O → Option R) (steps : Int) (sum : Int) (i : Int) (o0 : Int) (o0_1 : Int) (o0_2 : Int) (o0_3 : Int) (o0_4 : List Int) (o0_5 : List Int) (o2 : List (List Int)) (o3 : List Int) (o4 : List Int) :
    runSeg Try.prog (T_tutorlaw21_WalkTrue @l_tutorlaw21_live @l_walk_New @l_tutorref03_Big @l_walk_Walk_Int @l_tutorlaw21_num @l_walk_Stroll @l_tutorref01_Check @l_tutorref21_Same @l_tutorref21_Told) cuts_tutorlaw21_WalkTrue 0 g (finish Try.prog Try.f5 0 K) (at' Try.f5 17) ⟨fr0 139 [(2, .v (.int .i64 steps)), (5, .ptr 0 0), (15, .ptr 1 0), (17, .v (.int .i64 sum)), (18, .v (.int .i64 i))], [.box 36 [.v (.int .i64 o0), .v (.int .i64 o0_1), .v (.int .i64 o0_2), .v (.int .i64 o0_3), .rd ⟨false, 3, (.int .i64), o0_4⟩, .rd ⟨false, 3, (.int .i64), o0_5⟩], .box 40 [.nst 2, .own 3, .own 4], .nst ⟨true, 34, (.sl 3 (.int .i64)), o2⟩, .row ⟨true, 3, (.int .i64), o3⟩, .row ⟨true, 3, (.int .i64), o4⟩]⟩ =
    s_tutorlaw21_WalkTrue_17 (fun seed steps stop n i o0 o0_1 o0_2 o0_3 o0_4 o0_5 o1 o2 => g (at' Try.f5 7) ⟨fr0 139 [(1, .v (.int .u64 seed)), (2, .v (.int .i64 steps)), (3, .v (.int .i64 stop)), (4, .v (.int .i64 n)), (5, .ptr 0 0), (11, .ptr 1 0), (12, .ptr 2 0), (13, .v (.int .i64 i))], [.box 36 [.v (.int .i64 o0), .v (.int .i64 o0_1), .v (.int .i64 o0_2), .v (.int .i64 o0_3), .rd ⟨false, 3, (.int .i64), o0_4⟩, .rd ⟨false, 3, (.int .i64), o0_5⟩], .box 83 [.v (.int .u64 o1)], .box 83 [.v (.int .u64 o2)]]⟩) (fun steps sum i o0 o0_1 o0_2 o0_3 o0_4 o0_5 o2 o3 o4 => g (at' Try.f5 17) ⟨fr0 139 [(2, .v (.int .i64 steps)), (5, .ptr 0 0), (15, .ptr 1 0), (17, .v (.int .i64 sum)), (18, .v (.int .i64 i))], [.box 36 [.v (.int .i64 o0), .v (.int .i64 o0_1), .v (.int .i64 o0_2), .v (.int .i64 o0_3), .rd ⟨false, 3, (.int .i64), o0_4⟩, .rd ⟨false, 3, (.int .i64), o0_5⟩], .box 40 [.nst 2, .own 3, .own 4], .nst ⟨true, 34, (.sl 3 (.int .i64)), o2⟩, .row ⟨true, 3, (.int .i64), o3⟩, .row ⟨true, 3, (.int .i64), o4⟩]⟩) (fun r0 => K (.v (.bool r0)) []) steps sum i o0 o0_1 o0_2 o0_3 o0_4 o0_5 o2 o3 o4 := gstep_tutorlaw21_WalkTrue_17 @l_tutorlaw21_live @l_walk_New @l_tutorref03_Big @l_walk_Walk_Int @l_tutorlaw21_num @l_walk_Stroll @l_tutorref01_Check @l_tutorref21_Same @l_tutorref21_Told g K steps sum i o0 o0_1 o0_2 o0_3 o0_4 o0_5 o2 o3 o4

theorem gentry_tutorlaw21_WalkTrue (l_tutorlaw21_live : {R : Type} → (Bool → Option R) → Option R) (l_walk_New : {R : Type} → Int → (Int → Option R) → Option R) (l_tutorref03_Big : {R : Type} → Int → Int → Int → Int → (List Int) → (List Int) → Int → (Bool → Option R) → Option R) (l_walk_Walk_Int : {R : Type} → Int → Int → (Int → Int → Option R) → Option R) (l_tutorlaw21_num : {R : Type} → Int → (Int → Option R) → Option R) (l_walk_Stroll : {R : Type} → Int → Int → Int → Int → (List Int) → (List Int) → Int → Int → Int → (Int → (List (List Int)) → (List Int) → (List Int) → Option R) → Option R) (l_tutorref01_Check : {R : Type} → (List Int) → Int → (Int → Int → Option R) → Option R) (l_tutorref21_Same : {R : Type} → (List (List Int)) → (List Int) → (List Int) → (List (List Int)) → (List Int) → (List Int) → (Bool → Option R) → Option R) (l_tutorref21_Told : {R : Type} → Int → Int → Int → Int → (List Int) → (List Int) → (List (List Int)) → ((List (List Int)) → (List Int) → (List Int) → Option R) → Option R) {R : Type} (fuel : Nat) (K : AV → List O → Option R) (m : Int) (m_1 : Int) (m_2 : Int) (m_3 : Int) (m_4 : List Int) (m_5 : List Int) (seed : Int) (steps : Int) (stop : Int) (n : Int) :
    fnRun Try.prog (T_tutorlaw21_WalkTrue @l_tutorlaw21_live @l_walk_New @l_tutorref03_Big @l_walk_Walk_Int @l_tutorlaw21_num @l_walk_Stroll @l_tutorref01_Check @l_tutorref21_Same @l_tutorref21_Told) cuts_tutorlaw21_WalkTrue Try.f5 fuel [.agg [.v (.int .i64 m), .v (.int .i64 m_1), .v (.int .i64 m_2), .v (.int .i64 m_3), .rd ⟨false, 3, (.int .i64), m_4⟩, .rd ⟨false, 3, (.int .i64), m_5⟩], .v (.int .u64 seed), .v (.int .i64 steps), .v (.int .i64 stop), .v (.int .i64 n)] [] K =
    (fun (g5_7 : Int → Int → Int → Int → Int → Int → Int → Int → Int → (List Int) → (List Int) → Int → Int → Option R) (g5_17 : Int → Int → Int → Int → Int → Int → Int → (List Int) → (List Int) → (List (List Int)) → (List Int) → (List Int) → Option R) (K0 : Bool → Option R) (m : Int) (m_1 : Int) (m_2 : Int) (m_3 : Int) (m_4 : List Int) (m_5 : List Int) (seed : Int) (steps : Int) (stop : Int) (n : Int) =>
    l_tutorref03_Big m m_1 m_2 m_3 m_4 m_5 60
     (fun r1 =>
      bi r1
       (l_tutorlaw21_live
        (fun r2 =>
         K0 r2))
       (bi (decide (steps > 2000))
        (l_tutorlaw21_live
         (fun r3 =>
          K0 r3))
        (l_walk_New seed
         (fun r4 =>
          l_walk_New seed
           (fun r5 =>
            g5_7 seed steps stop n 0 m m_1 m_2 m_3 m_4 m_5 r4 r5)))))) (fun seed steps stop n i o0 o0_1 o0_2 o0_3 o0_4 o0_5 o1 o2 => (runO Try.prog (T_tutorlaw21_WalkTrue @l_tutorlaw21_live @l_walk_New @l_tutorref03_Big @l_walk_Walk_Int @l_tutorlaw21_num @l_walk_Stroll @l_tutorref01_Check @l_tutorref21_Same @l_tutorref21_Told) cuts_tutorlaw21_WalkTrue 0 (finish Try.prog Try.f5 0 K) fuel) (at' Try.f5 7) ⟨fr0 139 [(1, .v (.int .u64 seed)), (2, .v (.int .i64 steps)), (3, .v (.int .i64 stop)), (4, .v (.int .i64 n)), (5, .ptr 0 0), (11, .ptr 1 0), (12, .ptr 2 0), (13, .v (.int .i64 i))], [.box 36 [.v (.int .i64 o0), .v (.int .i64 o0_1), .v (.int .i64 o0_2), .v (.int .i64 o0_3), .rd ⟨false, 3, (.int .i64), o0_4⟩, .rd ⟨false, 3, (.int .i64), o0_5⟩], .box 83 [.v (.int .u64 o1)], .box 83 [.v (.int .u64 o2)]]⟩) (fun steps sum i o0 o0_1 o0_2 o0_3 o0_4 o0_5 o2 o3 o4 => (runO Try.prog (T_tutorlaw21_WalkTrue @l_tutorlaw21_live @l_walk_New @l_tutorref03_Big @l_walk_Walk_Int @l_tutorlaw21_num @l_walk_Stroll @l_tutorref01_Check @l_tutorref21_Same @l_tutorref21_Told) cuts_tutorlaw21_WalkTrue 0 (finish Try.prog Try.f5 0 K) fuel) (at' Try.f5 17) ⟨fr0 139 [(2, .v (.int .i64 steps)), (5, .ptr 0 0), (15, .ptr 1 0), (17, .v (.int .i64 sum)), (18, .v (.int .i64 i))], [.box 36 [.v (.int .i64 o0), .v (.int .i64 o0_1), .v (.int .i64 o0_2), .v (.int .i64 o0_3), .rd ⟨false, 3, (.int .i64), o0_4⟩, .rd ⟨false, 3, (.int .i64), o0_5⟩], .box 40 [.nst 2, .own 3, .own 4], .nst ⟨true, 34, (.sl 3 (.int .i64)), o2⟩, .row ⟨true, 3, (.int .i64), o3⟩, .row ⟨true, 3, (.int .i64), o4⟩]⟩) (fun r0 => K (.v (.bool r0)) []) m m_1 m_2 m_3 m_4 m_5 seed steps stop n := by kernel_rfl

theorem entry_tutorlaw21_WalkTrue {R : Type} (fuel : Nat) (K : AV → List O → Option R) (m : Int) (m_1 : Int) (m_2 : Int) (m_3 : Int) (m_4 : List Int) (m_5 : List Int) (seed : Int) (steps : Int) (stop : Int) (n : Int) :
    fnRun Try.prog (T_tutorlaw21_WalkTrue @l_tutorlaw21_live @l_walk_New @l_tutorref03_Big @l_walk_Walk_Int @l_tutorlaw21_num @l_walk_Stroll @l_tutorref01_Check @l_tutorref21_Same @l_tutorref21_Told) cuts_tutorlaw21_WalkTrue Try.f5 fuel [.agg [.v (.int .i64 m), .v (.int .i64 m_1), .v (.int .i64 m_2), .v (.int .i64 m_3), .rd ⟨false, 3, (.int .i64), m_4⟩, .rd ⟨false, 3, (.int .i64), m_5⟩], .v (.int .u64 seed), .v (.int .i64 steps), .v (.int .i64 stop), .v (.int .i64 n)] [] K =
    e_tutorlaw21_WalkTrue (fun seed steps stop n i o0 o0_1 o0_2 o0_3 o0_4 o0_5 o1 o2 => (runO Try.prog (T_tutorlaw21_WalkTrue @l_tutorlaw21_live @l_walk_New @l_tutorref03_Big @l_walk_Walk_Int @l_tutorlaw21_num @l_walk_Stroll @l_tutorref01_Check @l_tutorref21_Same @l_tutorref21_Told) cuts_tutorlaw21_WalkTrue 0 (finish Try.prog Try.f5 0 K) fuel) (at' Try.f5 7) ⟨fr0 139 [(1, .v (.int .u64 seed)), (2, .v (.int .i64 steps)), (3, .v (.int .i64 stop)), (4, .v (.int .i64 n)), (5, .ptr 0 0), (11, .ptr 1 0), (12, .ptr 2 0), (13, .v (.int .i64 i))], [.box 36 [.v (.int .i64 o0), .v (.int .i64 o0_1), .v (.int .i64 o0_2), .v (.int .i64 o0_3), .rd ⟨false, 3, (.int .i64), o0_4⟩, .rd ⟨false, 3, (.int .i64), o0_5⟩], .box 83 [.v (.int .u64 o1)], .box 83 [.v (.int .u64 o2)]]⟩) (fun steps sum i o0 o0_1 o0_2 o0_3 o0_4 o0_5 o2 o3 o4 => (runO Try.prog (T_tutorlaw21_WalkTrue @l_tutorlaw21_live @l_walk_New @l_tutorref03_Big @l_walk_Walk_Int @l_tutorlaw21_num @l_walk_Stroll @l_tutorref01_Check @l_tutorref21_Same @l_tutorref21_Told) cuts_tutorlaw21_WalkTrue 0 (finish Try.prog Try.f5 0 K) fuel) (at' Try.f5 17) ⟨fr0 139 [(2, .v (.int .i64 steps)), (5, .ptr 0 0), (15, .ptr 1 0), (17, .v (.int .i64 sum)), (18, .v (.int .i64 i))], [.box 36 [.v (.int .i64 o0), .v (.int .i64 o0_1), .v (.int .i64 o0_2), .v (.int .i64 o0_3), .rd ⟨false, 3, (.int .i64), o0_4⟩, .rd ⟨false, 3, (.int .i64), o0_5⟩], .box 40 [.nst 2, .own 3, .own 4], .nst ⟨true, 34, (.sl 3 (.int .i64)), o2⟩, .row ⟨true, 3, (.int .i64), o3⟩, .row ⟨true, 3, (.int .i64), o4⟩]⟩) (fun r0 => K (.v (.bool r0)) []) m m_1 m_2 m_3 m_4 m_5 seed steps stop n := gentry_tutorlaw21_WalkTrue @l_tutorlaw21_live @l_walk_New @l_tutorref03_Big @l_walk_Walk_Int @l_tutorlaw21_num @l_walk_Stroll @l_tutorref01_Check @l_tutorref21_Same @l_tutorref21_Told fuel K m m_1 m_2 m_3 m_4 m_5 seed steps stop n

theorem runs_tutorlaw21_WalkTrue {R : Type} (K : AV → List O → Option R) : ∀ fuel : Nat,
    (fun seed steps stop n i o0 o0_1 o0_2 o0_3 o0_4 o0_5 o1 o2 => (runO Try.prog (T_tutorlaw21_WalkTrue @l_tutorlaw21_live @l_walk_New @l_tutorref03_Big @l_walk_Walk_Int @l_tutorlaw21_num @l_walk_Stroll @l_tutorref01_Check @l_tutorref21_Same @l_tutorref21_Told) cuts_tutorlaw21_WalkTrue 0 (finish Try.prog Try.f5 0 K) fuel) (at' Try.f5 7) ⟨fr0 139 [(1, .v (.int .u64 seed)), (2, .v (.int .i64 steps)), (3, .v (.int .i64 stop)), (4, .v (.int .i64 n)), (5, .ptr 0 0), (11, .ptr 1 0), (12, .ptr 2 0), (13, .v (.int .i64 i))], [.box 36 [.v (.int .i64 o0), .v (.int .i64 o0_1), .v (.int .i64 o0_2), .v (.int .i64 o0_3), .rd ⟨false, 3, (.int .i64), o0_4⟩, .rd ⟨false, 3, (.int .i64), o0_5⟩], .box 83 [.v (.int .u64 o1)], .box 83 [.v (.int .u64 o2)]]⟩) = (run_tutorlaw21_WalkTrue (fun r0 => K (.v (.bool r0)) []) fuel).1 ∧
    (fun steps sum i o0 o0_1 o0_2 o0_3 o0_4 o0_5 o2 o3 o4 => (runO Try.prog (T_tutorlaw21_WalkTrue @l_tutorlaw21_live @l_walk_New @l_tutorref03_Big @l_walk_Walk_Int @l_tutorlaw21_num @l_walk_Stroll @l_tutorref01_Check @l_tutorref21_Same @l_tutorref21_Told) cuts_tutorlaw21_WalkTrue 0 (finish Try.prog Try.f5 0 K) fuel) (at' Try.f5 17) ⟨fr0 139 [(2, .v (.int .i64 steps)), (5, .ptr 0 0), (15, .ptr 1 0), (17, .v (.int .i64 sum)), (18, .v (.int .i64 i))], [.box 36 [.v (.int .i64 o0), .v (.int .i64 o0_1), .v (.int .i64 o0_2), .v (.int .i64 o0_3), .rd ⟨false, 3, (.int .i64), o0_4⟩, .rd ⟨false, 3, (.int .i64), o0_5⟩], .box 40 [.nst 2, .own 3, .own 4], .nst ⟨true, 34, (.sl 3 (.int .i64)), o2⟩, .row ⟨true, 3, (.int .i64), o3⟩, .row ⟨true, 3, (.int .i64), o4⟩]⟩) = (run_tutorlaw21_WalkTrue (fun r0 => K (.v (.bool r0)) []) fuel).2
  | 0 => ⟨rfl, rfl⟩
  | fuel + 1 => by
    have ih := runs_tutorlaw21_WalkTrue K fuel
    refine ⟨?_, ?_⟩
    · funext seed steps stop n i o0 o0_1 o0_2 o0_3 o0_4 o0_5 o1 o2
      refine (step_tutorlaw21_WalkTrue_7 _ K seed steps stop n i o0 o0_1 o0_2 o0_3 o0_4 o0_5 o1 o2).trans ?_
      rw [ih.1, ih.2]
      rfl
    · funext steps sum i o0 o0_1 o0_2 o0_3 o0_4 o0_5 o2 o3 o4
      refine (step_tutorlaw21_WalkTrue_17 _ K steps sum i o0 o0_1 o0_2 o0_3 o0_4 o0_5 o2 o3 o4).trans ?_
      rw [ih.1, ih.2]
      rfl

def S_tutorlaw21_WalkTrue (l_tutorlaw21_WalkTrue : {R : Type} → Int → Int → Int → Int → (List Int) → (List Int) → Int → Int → Int → Int → (Bool → Option R) → Option R) : Sum := ⟨[], fun {R} args ob K => match args, ob with
  | [.agg [.v (.int .i64 m), .v (.int .i64 m_1), .v (.int .i64 m_2), .v (.int .i64 m_3), .rd ⟨false, 3, (.int .i64), m_4⟩, .rd ⟨false, 3, (.int .i64), m_5⟩], .v (.int .u64 seed), .v (.int .i64 steps), .v (.int .i64 stop), .v (.int .i64 n)], [] => l_tutorlaw21_WalkTrue m m_1 m_2 m_3 m_4 m_5 seed steps stop n (fun r0 => K (.v (.bool r0)) [])
  | _, _ => none⟩

theorem sound_tutorlaw21_WalkTrue : Sound Try.prog 5 (S_tutorlaw21_WalkTrue @l_tutorlaw21_WalkTrue) := by
  refine fn_sound (cuts := cuts_tutorlaw21_WalkTrue) (fn := Try.f5) (Γ := (T_tutorlaw21_WalkTrue @l_tutorlaw21_live @l_walk_New @l_tutorref03_Big @l_walk_Walk_Int @l_tutorlaw21_num @l_walk_Stroll @l_tutorref01_Check @l_tutorref21_Same @l_tutorref21_Told)) wide right_T_tutorlaw21_WalkTrue Try.func5 fun {R} K r args ob h => ?_
  unfold S_tutorlaw21_WalkTrue at h
  dsimp only at h
  split at h
  · obtain ⟨n, hn⟩ := ok_tutorlaw21_WalkTrue _ _ _ _ _ _ _ _ _ _ _ h
    refine ⟨Nat.le_of_ble_eq_true (by kernel_rfl), n, (entry_tutorlaw21_WalkTrue n K _ _ _ _ _ _ _ _ _ _).trans ?_⟩
    rw [(runs_tutorlaw21_WalkTrue K n).1, (runs_tutorlaw21_WalkTrue K n).2]
    exact hn
  · cases h

theorem call_tutorlaw21_WalkTrue : Callable Try.prog 5 := ⟨_, Try.func5, by kernel_rfl, by kernel_rfl⟩

end
end Go.Ev
