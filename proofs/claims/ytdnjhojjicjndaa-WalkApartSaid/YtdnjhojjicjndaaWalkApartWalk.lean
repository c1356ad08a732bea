/- Each function of the program is its tree. -/
import Derived.Test.YtdnjhojjicjndaaProg
import Derived.Test.YtdnjhojjicjndaaEvFn
import Derived.Test.YtdnjhojjicjndaaWalkApartPure
namespace Go.Ev
open Go.Proofs
noncomputable section
set_option linter.unusedVariables false
set_option linter.unusedSimpArgs false
set_option maxRecDepth 100000
set_option maxHeartbeats 4000000

instance : TabG := ⟨fun _ => none⟩

instance : LoopG := ⟨fun k => rfOf Try.prog k⟩

theorem wide : Tables.follows Try.prog.toTables .mixedOrders = true := by kernel_rfl

def G0 : FuncId → Option Sum := fun _ => none
theorem right_G0 : Right Try.prog G0 := fun f S h => by cases h

def T_tutorref03_Big : FuncId → Option Sum := G0

theorem right_T_tutorref03_Big : Right Try.prog T_tutorref03_Big := right_G0

abbrev cuts_tutorref03_Big : Cuts := []

theorem gentry_tutorref03_Big {R : Type} (K : AV → List O → Option R) (m m_1 m_2 m_3 : Int) (m_4 m_5 : List Int) (states : Int) :
    fnRun Try.prog T_tutorref03_Big cuts_tutorref03_Big Try.f22 0 [.agg [.v (.int .i64 m), .v (.int .i64 m_1), .v (.int .i64 m_2), .v (.int .i64 m_3), .rd ⟨false, 3, (.int .i64), m_4⟩, .rd ⟨false, 3, (.int .i64), m_5⟩], .v (.int .i64 states)] [] K =
    (fun (m m_1 m_2 m_3 : Int) (m_4 m_5 : List Int) (states : Int) (K0 : Bool → Option R) =>
    bi (decide (m_3 > states))
     (K0 true)
     (bi (decide ((m_4.length : Int) > 70000))
      (K0 true)
      (K0 (decide ((m_5.length : Int) > 70000))))) m m_1 m_2 m_3 m_4 m_5 states (fun r0 => K (.v (.bool r0)) []) := by kernel_rfl

def S_tutorref03_Big (l_tutorref03_Big : LT_tutorref03_Big) : Sum := ⟨[], fun {R} args ob K => match args, ob with
  | [.agg [.v (.int .i64 m), .v (.int .i64 m_1), .v (.int .i64 m_2), .v (.int .i64 m_3), .rd ⟨false, 3, (.int .i64), m_4⟩, .rd ⟨false, 3, (.int .i64), m_5⟩], .v (.int .i64 states)], [] => l_tutorref03_Big m m_1 m_2 m_3 m_4 m_5 states (fun r0 => K (.v (.bool r0)) [])
  | _, _ => none⟩

theorem sound_tutorref03_Big : Sound Try.prog 22 (S_tutorref03_Big @l_tutorref03_Big) := by
  refine fn_sound (cuts := cuts_tutorref03_Big) (fn := Try.f22) (Γ := T_tutorref03_Big) wide right_T_tutorref03_Big Try.func22 fun {R} K r args ob h => ?_
  unfold S_tutorref03_Big at h
  dsimp only at h
  split at h
  · exact ⟨Nat.le_of_ble_eq_true (by kernel_rfl), 0, (gentry_tutorref03_Big K _ _ _ _ _ _ _).trans h⟩
  · cases h

theorem call_tutorref03_Big : Callable Try.prog 22 := ⟨_, Try.func22, by kernel_rfl, by kernel_rfl⟩

def T_walk_New : FuncId → Option Sum := G0

theorem right_T_walk_New : Right Try.prog T_walk_New := right_G0

abbrev cuts_walk_New : Cuts := []

theorem gentry_walk_New {R : Type} (K : AV → List O → Option R) (seed : Int) :
    fnRun Try.prog T_walk_New cuts_walk_New Try.f10 0 [.v (.int .u64 seed)] [] K =
    (fun (seed : Int) (K0 : Int → Option R) =>
    bi (seed == 0)
     (K0 88172645463325252)
     (K0 seed)) seed (fun r0 => K (.ptr 0 0) [.box 80 [.v (.int .u64 r0)]]) := by kernel_rfl

def S_walk_New (l_walk_New : LT_walk_New) : Sum := ⟨[], fun {R} args ob K => match args, ob with
  | [.v (.int .u64 seed)], [] => l_walk_New seed (fun r0 => K (.ptr 0 0) [.box 80 [.v (.int .u64 r0)]])
  | _, _ => none⟩

theorem sound_walk_New : Sound Try.prog 10 (S_walk_New @l_walk_New) := by
  refine fn_sound (cuts := cuts_walk_New) (fn := Try.f10) (Γ := T_walk_New) wide right_T_walk_New Try.func10 fun {R} K r args ob h => ?_
  unfold S_walk_New at h
  dsimp only at h
  split at h
  · exact ⟨Nat.le_of_ble_eq_true (by kernel_rfl), 0, (gentry_walk_New K _).trans h⟩
  · cases h

theorem call_walk_New : Callable Try.prog 10 := ⟨_, Try.func10, by kernel_rfl, by kernel_rfl⟩

def T_tutorref21_Int : FuncId → Option Sum := G0

theorem right_T_tutorref21_Int : Right Try.prog T_tutorref21_Int := right_G0

abbrev cuts_tutorref21_Int : Cuts := []

theorem gentry_tutorref21_Int {R : Type} (K : AV → List O → Option R) (x n : Int) :
    fnRun Try.prog T_tutorref21_Int cuts_tutorref21_Int Try.f12 0 [.v (.int .u64 x), .v (.int .i64 n)] [] K =
    (fun (x n : Int) (K0 : Int → Int → Option R) =>
    bi (decide (n < 1))
     (K0 0 x)
     (bi (decide ((IntKind.u64.wrap n) = 0))
      none
      (K0 (IntKind.i64.wrap (((IntKind.u64.wrap ((IntKind.u64.wrap (BitVec.ofInt 64 (IntKind.u64.wrap (BitVec.ofInt 64 (IntKind.u64.wrap (BitVec.ofInt 64 x ^^^ BitVec.ofInt 64 (x.fdiv (2 ^ (min (12 : Int).toNat 64)))).toNat) ^^^ BitVec.ofInt 64 (IntKind.u64.wrap ((IntKind.u64.wrap (BitVec.ofInt 64 x ^^^ BitVec.ofInt 64 (x.fdiv (2 ^ (min (12 : Int).toNat 64)))).toNat) * 2 ^ (min (25 : Int).toNat 64)))).toNat) ^^^ BitVec.ofInt 64 ((IntKind.u64.wrap (BitVec.ofInt 64 (IntKind.u64.wrap (BitVec.ofInt 64 x ^^^ BitVec.ofInt 64 (x.fdiv (2 ^ (min (12 : Int).toNat 64)))).toNat) ^^^ BitVec.ofInt 64 (IntKind.u64.wrap ((IntKind.u64.wrap (BitVec.ofInt 64 x ^^^ BitVec.ofInt 64 (x.fdiv (2 ^ (min (12 : Int).toNat 64)))).toNat) * 2 ^ (min (25 : Int).toNat 64)))).toNat).fdiv (2 ^ (min (27 : Int).toNat 64)))).toNat) * 2685821657736338717)).fdiv (2 ^ (min (33 : Int).toNat 64))).tmod (IntKind.u64.wrap n))) (IntKind.u64.wrap (BitVec.ofInt 64 (IntKind.u64.wrap (BitVec.ofInt 64 (IntKind.u64.wrap (BitVec.ofInt 64 x ^^^ BitVec.ofInt 64 (x.fdiv (2 ^ (min (12 : Int).toNat 64)))).toNat) ^^^ BitVec.ofInt 64 (IntKind.u64.wrap ((IntKind.u64.wrap (BitVec.ofInt 64 x ^^^ BitVec.ofInt 64 (x.fdiv (2 ^ (min (12 : Int).toNat 64)))).toNat) * 2 ^ (min (25 : Int).toNat 64)))).toNat) ^^^ BitVec.ofInt 64 ((IntKind.u64.wrap (BitVec.ofInt 64 (IntKind.u64.wrap (BitVec.ofInt 64 x ^^^ BitVec.ofInt 64 (x.fdiv (2 ^ (min (12 : Int).toNat 64)))).toNat) ^^^ BitVec.ofInt 64 (IntKind.u64.wrap ((IntKind.u64.wrap (BitVec.ofInt 64 x ^^^ BitVec.ofInt 64 (x.fdiv (2 ^ (min (12 : Int).toNat 64)))).toNat) * 2 ^ (min (25 : Int).toNat 64)))).toNat).fdiv (2 ^ (min (27 : Int).toNat 64)))).toNat)))) x n (fun r0 r1 => K (.tup [.v (.int .i64 r0), .v (.int .u64 r1)]) []) := by kernel_rfl

def S_tutorref21_Int (l_tutorref21_Int : LT_tutorref21_Int) : Sum := ⟨[], fun {R} args ob K => match args, ob with
  | [.v (.int .u64 x), .v (.int .i64 n)], [] => l_tutorref21_Int x n (fun r0 r1 => K (.tup [.v (.int .i64 r0), .v (.int .u64 r1)]) [])
  | _, _ => none⟩

theorem sound_tutorref21_Int : Sound Try.prog 12 (S_tutorref21_Int @l_tutorref21_Int) := by
  refine fn_sound (cuts := cuts_tutorref21_Int) (fn := Try.f12) (Γ := T_tutorref21_Int) wide right_T_tutorref21_Int Try.func12 fun {R} K r args ob h => ?_
  unfold S_tutorref21_Int at h
  dsimp only at h
  split at h
  · exact ⟨Nat.le_of_ble_eq_true (by kernel_rfl), 0, (gentry_tutorref21_Int K _ _).trans h⟩
  · cases h

theorem call_tutorref21_Int : Callable Try.prog 12 := ⟨_, Try.func12, by kernel_rfl, by kernel_rfl⟩

def T_walk_source_draw : FuncId → Option Sum := G0

theorem right_T_walk_source_draw : Right Try.prog T_walk_source_draw := right_G0

abbrev cuts_walk_source_draw : Cuts := []

theorem gentry_walk_source_draw {R : Type} (K : AV → List O → Option R) (o0 : Int) :
    fnRun Try.prog T_walk_source_draw cuts_walk_source_draw Try.f34 0 [.ptr 0 0] [.box 80 [.v (.int .u64 o0)]] K =
    (fun (o0 : Int) (K0 : Int → Int → Option R) =>
    K0 ((IntKind.u64.wrap ((IntKind.u64.wrap (BitVec.ofInt 64 (IntKind.u64.wrap (BitVec.ofInt 64 (IntKind.u64.wrap (BitVec.ofInt 64 o0 ^^^ BitVec.ofInt 64 (o0.fdiv (2 ^ (min (12 : Int).toNat 64)))).toNat) ^^^ BitVec.ofInt 64 (IntKind.u64.wrap ((IntKind.u64.wrap (BitVec.ofInt 64 o0 ^^^ BitVec.ofInt 64 (o0.fdiv (2 ^ (min (12 : Int).toNat 64)))).toNat) * 2 ^ (min (25 : Int).toNat 64)))).toNat) ^^^ BitVec.ofInt 64 ((IntKind.u64.wrap (BitVec.ofInt 64 (IntKind.u64.wrap (BitVec.ofInt 64 o0 ^^^ BitVec.ofInt 64 (o0.fdiv (2 ^ (min (12 : Int).toNat 64)))).toNat) ^^^ BitVec.ofInt 64 (IntKind.u64.wrap ((IntKind.u64.wrap (BitVec.ofInt 64 o0 ^^^ BitVec.ofInt 64 (o0.fdiv (2 ^ (min (12 : Int).toNat 64)))).toNat) * 2 ^ (min (25 : Int).toNat 64)))).toNat).fdiv (2 ^ (min (27 : Int).toNat 64)))).toNat) * 2685821657736338717)).fdiv (2 ^ (min (33 : Int).toNat 64))) (IntKind.u64.wrap (BitVec.ofInt 64 (IntKind.u64.wrap (BitVec.ofInt 64 (IntKind.u64.wrap (BitVec.ofInt 64 o0 ^^^ BitVec.ofInt 64 (o0.fdiv (2 ^ (min (12 : Int).toNat 64)))).toNat) ^^^ BitVec.ofInt 64 (IntKind.u64.wrap ((IntKind.u64.wrap (BitVec.ofInt 64 o0 ^^^ BitVec.ofInt 64 (o0.fdiv (2 ^ (min (12 : Int).toNat 64)))).toNat) * 2 ^ (min (25 : Int).toNat 64)))).toNat) ^^^ BitVec.ofInt 64 ((IntKind.u64.wrap (BitVec.ofInt 64 (IntKind.u64.wrap (BitVec.ofInt 64 o0 ^^^ BitVec.ofInt 64 (o0.fdiv (2 ^ (min (12 : Int).toNat 64)))).toNat) ^^^ BitVec.ofInt 64 (IntKind.u64.wrap ((IntKind.u64.wrap (BitVec.ofInt 64 o0 ^^^ BitVec.ofInt 64 (o0.fdiv (2 ^ (min (12 : Int).toNat 64)))).toNat) * 2 ^ (min (25 : Int).toNat 64)))).toNat).fdiv (2 ^ (min (27 : Int).toNat 64)))).toNat)) o0 (fun r0 r1 => K (.v (.int .u64 r0)) [.box 80 [.v (.int .u64 r1)]]) := by kernel_rfl

def S_walk_source_draw (l_walk_source_draw : LT_walk_source_draw) : Sum := ⟨[], fun {R} args ob K => match args, ob with
  | [.ptr 0 0], [.box 80 [.v (.int .u64 o0)]] => l_walk_source_draw o0 (fun r0 r1 => K (.v (.int .u64 r0)) [.box 80 [.v (.int .u64 r1)]])
  | _, _ => none⟩

theorem sound_walk_source_draw : Sound Try.prog 34 (S_walk_source_draw @l_walk_source_draw) := by
  refine fn_sound (cuts := cuts_walk_source_draw) (fn := Try.f34) (Γ := T_walk_source_draw) wide right_T_walk_source_draw Try.func34 fun {R} K r args ob h => ?_
  unfold S_walk_source_draw at h
  dsimp only at h
  split at h
  · exact ⟨Nat.le_of_ble_eq_true (by kernel_rfl), 0, (gentry_walk_source_draw K _).trans h⟩
  · cases h

theorem call_walk_source_draw : Callable Try.prog 34 := ⟨_, Try.func34, by kernel_rfl, by kernel_rfl⟩

def T_walk_Walk_Int (l_walk_source_draw : LT_walk_source_draw) : FuncId → Option Sum := (addS G0 34 (S_walk_source_draw @l_walk_source_draw))

theorem right_T_walk_Walk_Int : Right Try.prog (T_walk_Walk_Int @l_walk_source_draw) := (right_add right_G0 call_walk_source_draw sound_walk_source_draw)

abbrev cuts_walk_Walk_Int : Cuts := []

theorem gentry_walk_Walk_Int (l_walk_source_draw : LT_walk_source_draw) {R : Type} (K : AV → List O → Option R) (n o0 : Int) :
    fnRun Try.prog (T_walk_Walk_Int @l_walk_source_draw) cuts_walk_Walk_Int Try.f13 0 [.ptr 0 0, .v (.int .i64 n)] [.box 80 [.v (.int .u64 o0)]] K =
    (fun (n o0 : Int) (K0 : Int → Int → Option R) =>
    bi (decide (n < 1))
     (K0 0 o0)
     (l_walk_source_draw o0
      (fun r1 r2 =>
       bi (decide ((IntKind.u64.wrap n) = 0))
        none
        (K0 (IntKind.i64.wrap (r1.tmod (IntKind.u64.wrap n))) r2)))) n o0 (fun r0 r1 => K (.v (.int .i64 r0)) [.box 80 [.v (.int .u64 r1)]]) := by kernel_rfl

def S_walk_Walk_Int (l_walk_Walk_Int : LT_walk_Walk_Int) : Sum := ⟨[], fun {R} args ob K => match args, ob with
  | [.ptr 0 0, .v (.int .i64 n)], [.box 80 [.v (.int .u64 o0)]] => l_walk_Walk_Int n o0 (fun r0 r1 => K (.v (.int .i64 r0)) [.box 80 [.v (.int .u64 r1)]])
  | _, _ => none⟩

theorem sound_walk_Walk_Int : Sound Try.prog 13 (S_walk_Walk_Int @l_walk_Walk_Int) := by
  refine fn_sound (cuts := cuts_walk_Walk_Int) (fn := Try.f13) (Γ := (T_walk_Walk_Int @l_walk_source_draw)) wide right_T_walk_Walk_Int Try.func13 fun {R} K r args ob h => ?_
  unfold S_walk_Walk_Int at h
  dsimp only at h
  split at h
  · exact ⟨Nat.le_of_ble_eq_true (by kernel_rfl), 0, (gentry_walk_Walk_Int @l_walk_source_draw K _ _).trans h⟩
  · cases h

theorem call_walk_Walk_Int : Callable Try.prog 13 := ⟨_, Try.func13, by kernel_rfl, by kernel_rfl⟩

def T_tutorlaw21_live (l_walk_Walk_Int : LT_walk_Walk_Int) (l_tutorref21_Int : LT_tutorref21_Int) (l_walk_New : LT_walk_New) : FuncId → Option Sum := (addS (addS (addS G0 13 (S_walk_Walk_Int @l_walk_Walk_Int)) 12 (S_tutorref21_Int @l_tutorref21_Int)) 10 (S_walk_New @l_walk_New))

theorem right_T_tutorlaw21_live : Right Try.prog (T_tutorlaw21_live @l_walk_Walk_Int @l_tutorref21_Int @l_walk_New) := (right_add (right_add (right_add right_G0 call_walk_Walk_Int sound_walk_Walk_Int) call_tutorref21_Int sound_tutorref21_Int) call_walk_New sound_walk_New)

abbrev cuts_tutorlaw21_live : Cuts := []

theorem gentry_tutorlaw21_live (l_walk_Walk_Int : LT_walk_Walk_Int) (l_tutorref21_Int : LT_tutorref21_Int) (l_walk_New : LT_walk_New) {R : Type} (K : AV → List O → Option R)  :
    fnRun Try.prog (T_tutorlaw21_live @l_walk_Walk_Int @l_tutorref21_Int @l_walk_New) cuts_tutorlaw21_live Try.f9 0 [] [] K =
    (fun  (K0 : Bool → Option R) =>
    l_walk_New 1
     (fun r1 =>
      l_tutorref21_Int 1 1000
       (fun r2 r3 =>
        l_tutorref21_Int r3 1000
         (fun r4 r5 =>
          l_walk_Walk_Int 1000 r1
           (fun r6 r7 =>
            bi (r6 == r2)
             (l_walk_Walk_Int 1000 r7
              (fun r8 r9 =>
               bi (r8 == r4)
                (K0 (r2 != r4))
                (K0 false)))
             (K0 false))))))  (fun r0 => K (.v (.bool r0)) []) := by kernel_rfl

def S_tutorlaw21_live (l_tutorlaw21_live : LT_tutorlaw21_live) : Sum := ⟨[], fun {R} args ob K => match args, ob with
  | [], [] => l_tutorlaw21_live  (fun r0 => K (.v (.bool r0)) [])
  | _, _ => none⟩

theorem sound_tutorlaw21_live : Sound Try.prog 9 (S_tutorlaw21_live @l_tutorlaw21_live) := by
  refine fn_sound (cuts := cuts_tutorlaw21_live) (fn := Try.f9) (Γ := (T_tutorlaw21_live @l_walk_Walk_Int @l_tutorref21_Int @l_walk_New)) wide right_T_tutorlaw21_live Try.func9 fun {R} K r args ob h => ?_
  unfold S_tutorlaw21_live at h
  dsimp only at h
  split at h
  · exact ⟨Nat.le_of_ble_eq_true (by kernel_rfl), 0, (gentry_tutorlaw21_live @l_walk_Walk_Int @l_tutorref21_Int @l_walk_New K).trans h⟩
  · cases h

theorem call_tutorlaw21_live : Callable Try.prog 9 := ⟨_, Try.func9, by kernel_rfl, by kernel_rfl⟩

def T_machine_says : FuncId → Option Sum := G0

theorem right_T_machine_says : Right Try.prog T_machine_says := right_G0

abbrev cuts_machine_says : Cuts := []

theorem gentry_machine_says {R : Type} (K : AV → List O → Option R) (m m_1 m_2 m_3 : Int) (m_4 m_5 : List Int) :
    fnRun Try.prog T_machine_says cuts_machine_says Try.f57 0 [.agg [.v (.int .i64 m), .v (.int .i64 m_1), .v (.int .i64 m_2), .v (.int .i64 m_3), .rd ⟨false, 3, (.int .i64), m_4⟩, .rd ⟨false, 3, (.int .i64), m_5⟩]] [] K =
    (fun (m m_1 m_2 m_3 : Int) (m_4 m_5 : List Int) (K0 : Int → Option R) =>
    bi (m == 1)
     (K0 m_3)
     (K0 (IntKind.i64.wrap (m_3 * m_1)))) m m_1 m_2 m_3 m_4 m_5 (fun r0 => K (.v (.int .i64 r0)) []) := by kernel_rfl

def S_machine_says (l_machine_says : LT_machine_says) : Sum := ⟨[], fun {R} args ob K => match args, ob with
  | [.agg [.v (.int .i64 m), .v (.int .i64 m_1), .v (.int .i64 m_2), .v (.int .i64 m_3), .rd ⟨false, 3, (.int .i64), m_4⟩, .rd ⟨false, 3, (.int .i64), m_5⟩]], [] => l_machine_says m m_1 m_2 m_3 m_4 m_5 (fun r0 => K (.v (.int .i64 r0)) [])
  | _, _ => none⟩

theorem sound_machine_says : Sound Try.prog 57 (S_machine_says @l_machine_says) := by
  refine fn_sound (cuts := cuts_machine_says) (fn := Try.f57) (Γ := T_machine_says) wide right_T_machine_says Try.func57 fun {R} K r args ob h => ?_
  unfold S_machine_says at h
  dsimp only at h
  split at h
  · exact ⟨Nat.le_of_ble_eq_true (by kernel_rfl), 0, (gentry_machine_says K _ _ _ _ _ _).trans h⟩
  · cases h

theorem call_machine_says : Callable Try.prog 57 := ⟨_, Try.func57, by kernel_rfl, by kernel_rfl⟩

def T_machine_head (l_machine_says : LT_machine_says) : FuncId → Option Sum := (addS G0 57 (S_machine_says @l_machine_says))

theorem right_T_machine_head : Right Try.prog (T_machine_head @l_machine_says) := (right_add right_G0 call_machine_says sound_machine_says)

abbrev cuts_machine_head : Cuts := []

theorem gentry_machine_head (l_machine_says : LT_machine_says) {R : Type} (K : AV → List O → Option R) (m m_1 m_2 m_3 : Int) (m_4 m_5 : List Int) :
    fnRun Try.prog (T_machine_head @l_machine_says) cuts_machine_head Try.f49 0 [.agg [.v (.int .i64 m), .v (.int .i64 m_1), .v (.int .i64 m_2), .v (.int .i64 m_3), .rd ⟨false, 3, (.int .i64), m_4⟩, .rd ⟨false, 3, (.int .i64), m_5⟩]] [] K =
    (fun (m m_1 m_2 m_3 : Int) (m_4 m_5 : List Int) (K0 : Int → Option R) =>
    bi (m != 1)
     (bi (m != 2)
      (K0 30)
      (bi (decide (m_1 < 1))
       (K0 1)
       (bi (decide (m_1 > 64))
        (K0 1)
        (bi (m == 1)
         (bi (m_2 != 2)
          (K0 33)
          (bi (decide (m_2 < 1))
           (K0 33)
           (bi (decide (m_2 > 64))
            (K0 33)
            (bi (decide (m_3 < 1))
             (K0 3)
             (bi (decide (m_3 > 1024))
              (K0 3)
              (bi ((m_4.length : Int) != (IntKind.i64.wrap (m_3 * m_1)))
               (K0 31)
               (l_machine_says m m_1 m_2 m_3 m_4 m_5
                (fun r1 =>
                 bi ((m_5.length : Int) != r1)
                  (K0 31)
                  (K0 0)))))))))
         (bi (decide (m_2 < 1))
          (K0 33)
          (bi (decide (m_2 > 64))
           (K0 33)
           (bi (decide (m_3 < 1))
            (K0 3)
            (bi (decide (m_3 > 1024))
             (K0 3)
             (bi ((m_4.length : Int) != (IntKind.i64.wrap (m_3 * m_1)))
              (K0 31)
              (l_machine_says m m_1 m_2 m_3 m_4 m_5
               (fun r2 =>
                bi ((m_5.length : Int) != r2)
                 (K0 31)
                 (K0 0))))))))))))
     (bi (decide (m_1 < 1))
      (K0 1)
      (bi (decide (m_1 > 64))
       (K0 1)
       (bi (m == 1)
        (bi (m_2 != 2)
         (K0 33)
         (bi (decide (m_2 < 1))
          (K0 33)
          (bi (decide (m_2 > 64))
           (K0 33)
           (bi (decide (m_3 < 1))
            (K0 3)
            (bi (decide (m_3 > 1024))
             (K0 3)
             (bi ((m_4.length : Int) != (IntKind.i64.wrap (m_3 * m_1)))
              (K0 31)
              (l_machine_says m m_1 m_2 m_3 m_4 m_5
               (fun r3 =>
                bi ((m_5.length : Int) != r3)
                 (K0 31)
                 (K0 0)))))))))
        (bi (decide (m_2 < 1))
         (K0 33)
         (bi (decide (m_2 > 64))
          (K0 33)
          (bi (decide (m_3 < 1))
           (K0 3)
           (bi (decide (m_3 > 1024))
            (K0 3)
            (bi ((m_4.length : Int) != (IntKind.i64.wrap (m_3 * m_1)))
             (K0 31)
             (l_machine_says m m_1 m_2 m_3 m_4 m_5
              (fun r4 =>
               bi ((m_5.length : Int) != r4)
                (K0 31)
                (K0 0)))))))))))) m m_1 m_2 m_3 m_4 m_5 (fun r0 => K (.v (.int .i64 r0)) []) := by kernel_rfl

def S_machine_head (l_machine_head : LT_machine_head) : Sum := ⟨[], fun {R} args ob K => match args, ob with
  | [.agg [.v (.int .i64 m), .v (.int .i64 m_1), .v (.int .i64 m_2), .v (.int .i64 m_3), .rd ⟨false, 3, (.int .i64), m_4⟩, .rd ⟨false, 3, (.int .i64), m_5⟩]], [] => l_machine_head m m_1 m_2 m_3 m_4 m_5 (fun r0 => K (.v (.int .i64 r0)) [])
  | _, _ => none⟩

theorem sound_machine_head : Sound Try.prog 49 (S_machine_head @l_machine_head) := by
  refine fn_sound (cuts := cuts_machine_head) (fn := Try.f49) (Γ := (T_machine_head @l_machine_says)) wide right_T_machine_head Try.func49 fun {R} K r args ob h => ?_
  unfold S_machine_head at h
  dsimp only at h
  split at h
  · exact ⟨Nat.le_of_ble_eq_true (by kernel_rfl), 0, (gentry_machine_head @l_machine_says K _ _ _ _ _ _).trans h⟩
  · cases h

theorem call_machine_head : Callable Try.prog 49 := ⟨_, Try.func49, by kernel_rfl, by kernel_rfl⟩

def T_machine_beyond : FuncId → Option Sum := G0

theorem right_T_machine_beyond : Right Try.prog T_machine_beyond := right_G0

abbrev cuts_machine_beyond : Cuts := [(2, [0, 1, 7, 8])]

abbrev sta_machine_beyond_2 (l : List Int) (n x7 x8 : Int) : St := ⟨fr0 21 [(0, .rd ⟨false, 3, (.int .i64), l⟩), (1, .v (.int .i64 n)), (7, .v (.int .i64 x7)), (8, .v (.int .i64 x8))], []⟩

abbrev gt_machine_beyond_2 {R : Type} (g : List Item → St → Option R) : GT_machine_beyond_2 R := fun (l : List Int) (n x7 x8 : Int) => g (at' Try.f50 2) (sta_machine_beyond_2 l n x7 x8)

theorem gstep_machine_beyond_2 {R : Type} (g : List Item → St → Option R) (K : AV → List O → Option R) (l : List Int) (n x7 x8 : Int) :
    runSeg Try.prog T_machine_beyond cuts_machine_beyond 0 g (finish Try.prog Try.f50 0 K) (at' Try.f50 2) (sta_machine_beyond_2 l n x7 x8) =
    (fun (g50_2 : GT_machine_beyond_2 R) (K0 : Int → Option R) (l : List Int) (n x7 x8 : Int) =>
    bi (decide (x8 < x7))
     (bi (decide (0 ≤ x8 ∧ x8 < ((l.length : Nat) : Int)))
      (bi (decide ((IntKind.u64.wrap (l.getD x8.toNat 0)) ≥ (IntKind.u64.wrap n)))
       (K0 x8)
       (g50_2 l n x7 (IntKind.i64.wrap (x8 + 1))))
      none)
     (K0 (-1))) (gt_machine_beyond_2 g) (fun r0 => K (.v (.int .i64 r0)) []) l n x7 x8 := by kernel_rfl

theorem gentry_machine_beyond {R : Type} (fuel : Nat) (K : AV → List O → Option R) (l : List Int) (n : Int) :
    fnRun Try.prog T_machine_beyond cuts_machine_beyond Try.f50 fuel [.rd ⟨false, 3, (.int .i64), l⟩, .v (.int .i64 n)] [] K =
    (fun (g50_2 : GT_machine_beyond_2 R) (K0 : Int → Option R) (l : List Int) (n : Int) =>
    g50_2 l n (l.length : Int) 0) (gt_machine_beyond_2 (runO Try.prog T_machine_beyond cuts_machine_beyond 0 (finish Try.prog Try.f50 0 K) fuel)) (fun r0 => K (.v (.int .i64 r0)) []) l n := by kernel_rfl

theorem runs_machine_beyond {R : Type} (K : AV → List O → Option R) : ∀ fuel : Nat,
    (gt_machine_beyond_2 (runO Try.prog T_machine_beyond cuts_machine_beyond 0 (finish Try.prog Try.f50 0 K) fuel)) = (run_machine_beyond (fun r0 => K (.v (.int .i64 r0)) []) fuel)
  | 0 => rfl
  | fuel + 1 => by
    have ih := runs_machine_beyond K fuel
    funext l n x7 x8
    refine (gstep_machine_beyond_2 _ K l n x7 x8).trans ?_
    rw [ih]
    rfl

def S_machine_beyond (l_machine_beyond : LT_machine_beyond) : Sum := ⟨[], fun {R} args ob K => match args, ob with
  | [.rd ⟨false, 3, (.int .i64), l⟩, .v (.int .i64 n)], [] => l_machine_beyond l n (fun r0 => K (.v (.int .i64 r0)) [])
  | _, _ => none⟩

theorem sound_machine_beyond : Sound Try.prog 50 (S_machine_beyond @l_machine_beyond) := by
  refine fn_sound (cuts := cuts_machine_beyond) (fn := Try.f50) (Γ := T_machine_beyond) wide right_T_machine_beyond Try.func50 fun {R} K r args ob h => ?_
  unfold S_machine_beyond at h
  dsimp only at h
  split at h
  · obtain ⟨n, hn⟩ := ok_machine_beyond _ _ _ h
    refine ⟨Nat.le_of_ble_eq_true (by kernel_rfl), n, (gentry_machine_beyond n K _ _).trans ?_⟩
    rw [(runs_machine_beyond K n)]
    exact hn
  · cases h

theorem call_machine_beyond : Callable Try.prog 50 := ⟨_, Try.func50, by kernel_rfl, by kernel_rfl⟩

def T_machine_Check (l_machine_beyond : LT_machine_beyond) (l_machine_head : LT_machine_head) : FuncId → Option Sum := (addS (addS G0 50 (S_machine_beyond @l_machine_beyond)) 49 (S_machine_head @l_machine_head))

theorem right_T_machine_Check : Right Try.prog (T_machine_Check @l_machine_beyond @l_machine_head) := (right_add (right_add right_G0 call_machine_beyond sound_machine_beyond) call_machine_head sound_machine_head)

abbrev cuts_machine_Check : Cuts := []

theorem gentry_machine_Check (l_machine_beyond : LT_machine_beyond) (l_machine_head : LT_machine_head) {R : Type} (K : AV → List O → Option R) (m m_1 m_2 m_3 : Int) (m_4 m_5 : List Int) :
    fnRun Try.prog (T_machine_Check @l_machine_beyond @l_machine_head) cuts_machine_Check Try.f40 0 [.agg [.v (.int .i64 m), .v (.int .i64 m_1), .v (.int .i64 m_2), .v (.int .i64 m_3), .rd ⟨false, 3, (.int .i64), m_4⟩, .rd ⟨false, 3, (.int .i64), m_5⟩]] [] K =
    (fun (m m_1 m_2 m_3 : Int) (m_4 m_5 : List Int) (K0 : Int → Int → Option R) =>
    l_machine_head m m_1 m_2 m_3 m_4 m_5
     (fun r1 =>
      bi (r1 != 0)
       (K0 0 r1)
       (l_machine_beyond m_4 m_3
        (fun r2 =>
         bi (decide (r2 ≥ 0))
          (K0 r2 32)
          (l_machine_beyond m_5 m_2
           (fun r3 =>
            bi (decide (r3 ≥ 0))
             (K0 r3 33)
             (K0 0 0))))))) m m_1 m_2 m_3 m_4 m_5 (fun r0 r1 => K (.tup [.v (.int .i64 r0), .v (.int .i64 r1)]) []) := by kernel_rfl

def S_machine_Check (l_machine_Check : LT_machine_Check) : Sum := ⟨[], fun {R} args ob K => match args, ob with
  | [.agg [.v (.int .i64 m), .v (.int .i64 m_1), .v (.int .i64 m_2), .v (.int .i64 m_3), .rd ⟨false, 3, (.int .i64), m_4⟩, .rd ⟨false, 3, (.int .i64), m_5⟩]], [] => l_machine_Check m m_1 m_2 m_3 m_4 m_5 (fun r0 r1 => K (.tup [.v (.int .i64 r0), .v (.int .i64 r1)]) [])
  | _, _ => none⟩

theorem sound_machine_Check : Sound Try.prog 40 (S_machine_Check @l_machine_Check) := by
  refine fn_sound (cuts := cuts_machine_Check) (fn := Try.f40) (Γ := (T_machine_Check @l_machine_beyond @l_machine_head)) wide right_T_machine_Check Try.func40 fun {R} K r args ob h => ?_
  unfold S_machine_Check at h
  dsimp only at h
  split at h
  · exact ⟨Nat.le_of_ble_eq_true (by kernel_rfl), 0, (gentry_machine_Check @l_machine_beyond @l_machine_head K _ _ _ _ _ _).trans h⟩
  · cases h

theorem call_machine_Check : Callable Try.prog 40 := ⟨_, Try.func40, by kernel_rfl, by kernel_rfl⟩

def T_differ_fit (l_machine_Check : LT_machine_Check) : FuncId → Option Sum := (addS G0 40 (S_machine_Check @l_machine_Check))

theorem right_T_differ_fit : Right Try.prog (T_differ_fit @l_machine_Check) := (right_add right_G0 call_machine_Check sound_machine_Check)

abbrev cuts_differ_fit : Cuts := [(2, [2, 3, 11, 12, 13])]

abbrev sta_differ_fit_2 (x12 x13 o0 o0_1 o0_2 o0_3 : Int) (o0_4 o0_5 : List Int) (o1 o1_1 o1_2 o1_3 : Int) (o1_4 o1_5 : List Int) (o2 : List (Int × (Int × (Int × (Int × (List Int × List Int)))))) : St := ⟨fr0 44 [(2, .ptr 0 0), (3, .ptr 1 0), (11, .own 2), (12, .v (.int .i64 x12)), (13, .v (.int .i64 x13))], [.box 51 [.v (.int .i64 o0), .v (.int .i64 o0_1), .v (.int .i64 o0_2), .v (.int .i64 o0_3), .rd ⟨false, 3, (.int .i64), o0_4⟩, .rd ⟨false, 3, (.int .i64), o0_5⟩], .box 51 [.v (.int .i64 o1), .v (.int .i64 o1_1), .v (.int .i64 o1_2), .v (.int .i64 o1_3), .rd ⟨false, 3, (.int .i64), o1_4⟩, .rd ⟨false, 3, (.int .i64), o1_5⟩], .row ⟨false, 51, (.pr (.int .i64) (.pr (.int .i64) (.pr (.int .i64) (.pr (.int .i64) (.pr (.sl 3 (.int .i64)) (.sl 3 (.int .i64))))))), o2⟩]⟩

abbrev gt_differ_fit_2 {R : Type} (g : List Item → St → Option R) : GT_differ_fit_2 R := fun (x12 x13 o0 o0_1 o0_2 o0_3 : Int) (o0_4 o0_5 : List Int) (o1 o1_1 o1_2 o1_3 : Int) (o1_4 o1_5 : List Int) (o2 : List (Int × (Int × (Int × (Int × (List Int × List Int)))))) => g (at' Try.f51 2) (sta_differ_fit_2 x12 x13 o0 o0_1 o0_2 o0_3 o0_4 o0_5 o1 o1_1 o1_2 o1_3 o1_4 o1_5 o2)

theorem gstep_differ_fit_2 (l_machine_Check : LT_machine_Check) {R : Type} (g : List Item → St → Option R) (K : AV → List O → Option R) (x12 x13 o0 o0_1 o0_2 o0_3 : Int) (o0_4 o0_5 : List Int) (o1 o1_1 o1_2 o1_3 : Int) (o1_4 o1_5 : List Int) (o2 : List (Int × (Int × (Int × (Int × (List Int × List Int)))))) :
    runSeg Try.prog (T_differ_fit @l_machine_Check) cuts_differ_fit 0 g (finish Try.prog Try.f51 0 K) (at' Try.f51 2) (sta_differ_fit_2 x12 x13 o0 o0_1 o0_2 o0_3 o0_4 o0_5 o1 o1_1 o1_2 o1_3 o1_4 o1_5 o2) =
    (fun (g51_2 : GT_differ_fit_2 R) (K0 : Int → Option R) (x12 x13 o0 o0_1 o0_2 o0_3 : Int) (o0_4 o0_5 : List Int) (o1 o1_1 o1_2 o1_3 : Int) (o1_4 o1_5 : List Int) (o2 : List (Int × (Int × (Int × (Int × (List Int × List Int)))))) =>
    bi (decide (x13 < x12))
     (bi (decide (0 ≤ x13 ∧ x13 < ((o2.length : Nat) : Int)))
      (l_machine_Check ((o2.getD x13.toNat (0, (0, (0, (0, ([], [])))))).1) (((o2.getD x13.toNat (0, (0, (0, (0, ([], [])))))).2).1) ((((o2.getD x13.toNat (0, (0, (0, (0, ([], [])))))).2).2).1) (((((o2.getD x13.toNat (0, (0, (0, (0, ([], [])))))).2).2).2).1) ((((((o2.getD x13.toNat (0, (0, (0, (0, ([], [])))))).2).2).2).2).1) ((((((o2.getD x13.toNat (0, (0, (0, (0, ([], [])))))).2).2).2).2).2)
       (fun r1 r2 =>
        bi (r2 != 0)
         (K0 r2)
         (g51_2 x12 (IntKind.i64.wrap (x13 + 1)) o0 o0_1 o0_2 o0_3 o0_4 o0_5 o1 o1_1 o1_2 o1_3 o1_4 o1_5 o2)))
      none)
     (bi (o0 != o1)
      (K0 30)
      (bi (o0_1 != o1_1)
       (K0 1)
       (bi (o0_2 != o1_2)
        (K0 33)
        (K0 0))))) (gt_differ_fit_2 g) (fun r0 => K (.v (.int .i64 r0)) []) x12 x13 o0 o0_1 o0_2 o0_3 o0_4 o0_5 o1 o1_1 o1_2 o1_3 o1_4 o1_5 o2 := by kernel_rfl

theorem gentry_differ_fit (l_machine_Check : LT_machine_Check) {R : Type} (fuel : Nat) (K : AV → List O → Option R) (a a_1 a_2 a_3 : Int) (a_4 a_5 : List Int) (b b_1 b_2 b_3 : Int) (b_4 b_5 : List Int) :
    fnRun Try.prog (T_differ_fit @l_machine_Check) cuts_differ_fit Try.f51 fuel [.agg [.v (.int .i64 a), .v (.int .i64 a_1), .v (.int .i64 a_2), .v (.int .i64 a_3), .rd ⟨false, 3, (.int .i64), a_4⟩, .rd ⟨false, 3, (.int .i64), a_5⟩], .agg [.v (.int .i64 b), .v (.int .i64 b_1), .v (.int .i64 b_2), .v (.int .i64 b_3), .rd ⟨false, 3, (.int .i64), b_4⟩, .rd ⟨false, 3, (.int .i64), b_5⟩]] [] K =
    (fun (g51_2 : GT_differ_fit_2 R) (K0 : Int → Option R) (a a_1 a_2 a_3 : Int) (a_4 a_5 : List Int) (b b_1 b_2 b_3 : Int) (b_4 b_5 : List Int) =>
    g51_2 ([(a, (a_1, (a_2, (a_3, (a_4, a_5))))), (b, (b_1, (b_2, (b_3, (b_4, b_5)))))].length : Int) 0 a a_1 a_2 a_3 a_4 a_5 b b_1 b_2 b_3 b_4 b_5 [(a, (a_1, (a_2, (a_3, (a_4, a_5))))), (b, (b_1, (b_2, (b_3, (b_4, b_5)))))]) (gt_differ_fit_2 (runO Try.prog (T_differ_fit @l_machine_Check) cuts_differ_fit 0 (finish Try.prog Try.f51 0 K) fuel)) (fun r0 => K (.v (.int .i64 r0)) []) a a_1 a_2 a_3 a_4 a_5 b b_1 b_2 b_3 b_4 b_5 := by kernel_rfl

theorem runs_differ_fit {R : Type} (K : AV → List O → Option R) : ∀ fuel : Nat,
    (gt_differ_fit_2 (runO Try.prog (T_differ_fit @l_machine_Check) cuts_differ_fit 0 (finish Try.prog Try.f51 0 K) fuel)) = (run_differ_fit (fun r0 => K (.v (.int .i64 r0)) []) fuel)
  | 0 => rfl
  | fuel + 1 => by
    have ih := runs_differ_fit K fuel
    funext x12 x13 o0 o0_1 o0_2 o0_3 o0_4 o0_5 o1 o1_1 o1_2 o1_3 o1_4 o1_5 o2
    refine (gstep_differ_fit_2 @l_machine_Check _ K x12 x13 o0 o0_1 o0_2 o0_3 o0_4 o0_5 o1 o1_1 o1_2 o1_3 o1_4 o1_5 o2).trans ?_
    rw [ih]
    rfl

def S_differ_fit (l_differ_fit : LT_differ_fit) : Sum := ⟨[], fun {R} args ob K => match args, ob with
  | [.agg [.v (.int .i64 a), .v (.int .i64 a_1), .v (.int .i64 a_2), .v (.int .i64 a_3), .rd ⟨false, 3, (.int .i64), a_4⟩, .rd ⟨false, 3, (.int .i64), a_5⟩], .agg [.v (.int .i64 b), .v (.int .i64 b_1), .v (.int .i64 b_2), .v (.int .i64 b_3), .rd ⟨false, 3, (.int .i64), b_4⟩, .rd ⟨false, 3, (.int .i64), b_5⟩]], [] => l_differ_fit a a_1 a_2 a_3 a_4 a_5 b b_1 b_2 b_3 b_4 b_5 (fun r0 => K (.v (.int .i64 r0)) [])
  | _, _ => none⟩

theorem sound_differ_fit : Sound Try.prog 51 (S_differ_fit @l_differ_fit) := by
  refine fn_sound (cuts := cuts_differ_fit) (fn := Try.f51) (Γ := (T_differ_fit @l_machine_Check)) wide right_T_differ_fit Try.func51 fun {R} K r args ob h => ?_
  unfold S_differ_fit at h
  dsimp only at h
  split at h
  · obtain ⟨n, hn⟩ := ok_differ_fit _ _ _ _ _ _ _ _ _ _ _ _ _ h
    refine ⟨Nat.le_of_ble_eq_true (by kernel_rfl), n, (gentry_differ_fit @l_machine_Check n K _ _ _ _ _ _ _ _ _ _ _ _).trans ?_⟩
    rw [(runs_differ_fit K n)]
    exact hn
  · cases h

theorem call_differ_fit : Callable Try.prog 51 := ⟨_, Try.func51, by kernel_rfl, by kernel_rfl⟩

def T_slices_Reverse_int_int : FuncId → Option Sum := G0

theorem right_T_slices_Reverse_int_int : Right Try.prog T_slices_Reverse_int_int := right_G0

abbrev cuts_slices_Reverse_int_int : Cuts := [(1, [0, 2, 3])]

abbrev sta_slices_Reverse_int_int_1 (i j : Int) (o0 : List Int) : St := ⟨fr0 28 [(0, .own 0), (2, .v (.int .i64 i)), (3, .v (.int .i64 j))], [.row ⟨false, 3, (.int .i64), o0⟩]⟩

abbrev gt_slices_Reverse_int_int_1 {R : Type} (g : List Item → St → Option R) : GT_slices_Reverse_int_int_1 R := fun (i j : Int) (o0 : List Int) => g (at' Try.f60 1) (sta_slices_Reverse_int_int_1 i j o0)

theorem gstep_slices_Reverse_int_int_1 {R : Type} (g : List Item → St → Option R) (K : AV → List O → Option R) (i j : Int) (o0 : List Int) :
    runSeg Try.prog T_slices_Reverse_int_int cuts_slices_Reverse_int_int 1 g (finish Try.prog Try.f60 1 K) (at' Try.f60 1) (sta_slices_Reverse_int_int_1 i j o0) =
    (fun (g60_1 : GT_slices_Reverse_int_int_1 R) (K0 : (List Int) → Option R) (i j : Int) (o0 : List Int) =>
    bi (decide (i < j))
     (bi (decide (0 ≤ j ∧ j < ((o0.length : Nat) : Int)))
      (bi (decide (0 ≤ i ∧ i < ((o0.length : Nat) : Int)))
       (bi (decide (0 ≤ i ∧ i < ((o0.length : Nat) : Int)))
        (bi (decide (0 ≤ j ∧ j < (((o0.set i.toNat (o0.getD j.toNat 0)).length : Nat) : Int)))
         (g60_1 (IntKind.i64.wrap (i + 1)) (IntKind.i64.wrap (j - 1)) ((o0.set i.toNat (o0.getD j.toNat 0)).set j.toNat (o0.getD i.toNat 0)))
         none)
        none)
       none)
      none)
     (K0 o0)) (gt_slices_Reverse_int_int_1 g) (fun r0 => K (.tup []) [.row ⟨false, 3, (.int .i64), r0⟩]) i j o0 := by kernel_rfl

theorem gentry_slices_Reverse_int_int {R : Type} (fuel : Nat) (K : AV → List O → Option R) (o0 : List Int) :
    fnRun Try.prog T_slices_Reverse_int_int cuts_slices_Reverse_int_int Try.f60 fuel [.own 0] [.row ⟨false, 3, (.int .i64), o0⟩] K =
    (fun (g60_1 : GT_slices_Reverse_int_int_1 R) (K0 : (List Int) → Option R) (o0 : List Int) =>
    g60_1 0 (IntKind.i64.wrap ((o0.length : Int) - 1)) o0) (gt_slices_Reverse_int_int_1 (runO Try.prog T_slices_Reverse_int_int cuts_slices_Reverse_int_int 1 (finish Try.prog Try.f60 1 K) fuel)) (fun r0 => K (.tup []) [.row ⟨false, 3, (.int .i64), r0⟩]) o0 := by kernel_rfl

theorem runs_slices_Reverse_int_int {R : Type} (K : AV → List O → Option R) : ∀ fuel : Nat,
    (gt_slices_Reverse_int_int_1 (runO Try.prog T_slices_Reverse_int_int cuts_slices_Reverse_int_int 1 (finish Try.prog Try.f60 1 K) fuel)) = (run_slices_Reverse_int_int (fun r0 => K (.tup []) [.row ⟨false, 3, (.int .i64), r0⟩]) fuel)
  | 0 => rfl
  | fuel + 1 => by
    have ih := runs_slices_Reverse_int_int K fuel
    funext i j o0
    refine (gstep_slices_Reverse_int_int_1 _ K i j o0).trans ?_
    rw [ih]
    rfl

def S_slices_Reverse_int_int (l_slices_Reverse_int_int : LT_slices_Reverse_int_int) : Sum := ⟨[0], fun {R} args ob K => match args, ob with
  | [.own 0], [.row ⟨false, 3, (.int .i64), o0⟩] => l_slices_Reverse_int_int o0 (fun r0 => K (.tup []) [.row ⟨false, 3, (.int .i64), r0⟩])
  | _, _ => none⟩

theorem sound_slices_Reverse_int_int : Sound Try.prog 60 (S_slices_Reverse_int_int @l_slices_Reverse_int_int) := by
  refine fn_sound (cuts := cuts_slices_Reverse_int_int) (fn := Try.f60) (Γ := T_slices_Reverse_int_int) wide right_T_slices_Reverse_int_int Try.func60 fun {R} K r args ob h => ?_
  unfold S_slices_Reverse_int_int at h
  dsimp only at h
  split at h
  · obtain ⟨n, hn⟩ := ok_slices_Reverse_int_int _ _ h
    refine ⟨Nat.le_of_ble_eq_true (by kernel_rfl), n, (gentry_slices_Reverse_int_int n K _).trans ?_⟩
    rw [(runs_slices_Reverse_int_int K n)]
    exact hn
  · cases h

theorem call_slices_Reverse_int_int : Callable Try.prog 60 := ⟨_, Try.func60, by kernel_rfl, by kernel_rfl⟩

def T_differ_back (l_slices_Reverse_int_int : LT_slices_Reverse_int_int) : FuncId → Option Sum := (addS G0 60 (S_slices_Reverse_int_int @l_slices_Reverse_int_int))

theorem right_T_differ_back : Right Try.prog (T_differ_back @l_slices_Reverse_int_int) := (right_add right_G0 call_slices_Reverse_int_int sound_slices_Reverse_int_int)

abbrev cuts_differ_back : Cuts := [(2, [0, 4, 5, 7])]

abbrev sta_differ_back_2 (o0 : List ((Int × Int) × ((Int × Int) × Int))) (o1 o1_1 o2 o2_1 : Int) (o3 : List Int) : St := ⟨fr0 25 [(0, .mp 0), (4, .ptr 1 0), (5, .ptr 2 0), (7, .own 3)], [.map (.pr (.int .i64) (.int .i64)) (.pr (.pr (.int .i64) (.int .i64)) (.int .i64)) o0, .box 108 [.v (.int .i64 o1), .v (.int .i64 o1_1)], .box 108 [.v (.int .i64 o2), .v (.int .i64 o2_1)], .row ⟨true, 3, (.int .i64), o3⟩]⟩

abbrev gt_differ_back_2 {R : Type} (g : List Item → St → Option R) : GT_differ_back_2 R := fun (o0 : List ((Int × Int) × ((Int × Int) × Int))) (o1 o1_1 o2 o2_1 : Int) (o3 : List Int) => g (at' Try.f58 2) (sta_differ_back_2 o0 o1 o1_1 o2 o2_1 o3)

theorem gstep_differ_back_2 (l_slices_Reverse_int_int : LT_slices_Reverse_int_int) {R : Type} (g : List Item → St → Option R) (K : AV → List O → Option R) (o0 : List ((Int × Int) × ((Int × Int) × Int))) (o1 o1_1 o2 o2_1 : Int) (o3 : List Int) :
    runSeg Try.prog (T_differ_back @l_slices_Reverse_int_int) cuts_differ_back 1 g (finish Try.prog Try.f58 1 K) (at' Try.f58 2) (sta_differ_back_2 o0 o1 o1_1 o2 o2_1 o3) =
    (fun (g58_2 : GT_differ_back_2 R) (K0 : (List ((Int × Int) × ((Int × Int) × Int))) → (List Int) → Option R) (o0 : List ((Int × Int) × ((Int × Int) × Int))) (o1 o1_1 o2 o2_1 : Int) (o3 : List Int) =>
    bi (!(eqS (.pr (.int .i64) (.int .i64)) (o2, o2_1) (o1, o1_1)))
     (bi (decide ((o3.length + [(mgetD (.pr (.int .i64) (.int .i64)) (.pr (.pr (.int .i64) (.int .i64)) (.int .i64)) o0 (o2, o2_1)).2].length) * 8 ≤ lim))
      (g58_2 o0 o1 o1_1 (((mgetD (.pr (.int .i64) (.int .i64)) (.pr (.pr (.int .i64) (.int .i64)) (.int .i64)) o0 (o2, o2_1)).1).1) (((mgetD (.pr (.int .i64) (.int .i64)) (.pr (.pr (.int .i64) (.int .i64)) (.int .i64)) o0 (o2, o2_1)).1).2) (o3 ++ [(mgetD (.pr (.int .i64) (.int .i64)) (.pr (.pr (.int .i64) (.int .i64)) (.int .i64)) o0 (o2, o2_1)).2]))
      none)
     (l_slices_Reverse_int_int o3
      (fun r1 =>
       K0 o0 r1))) (gt_differ_back_2 g) (fun r0 r1 => K (.own 1) [.map (.pr (.int .i64) (.int .i64)) (.pr (.pr (.int .i64) (.int .i64)) (.int .i64)) r0, .row ⟨true, 3, (.int .i64), r1⟩]) o0 o1 o1_1 o2 o2_1 o3 := by kernel_rfl

theorem gentry_differ_back (l_slices_Reverse_int_int : LT_slices_Reverse_int_int) {R : Type} (fuel : Nat) (K : AV → List O → Option R) (start start_1 p p_1 : Int) (o0 : List ((Int × Int) × ((Int × Int) × Int))) :
    fnRun Try.prog (T_differ_back @l_slices_Reverse_int_int) cuts_differ_back Try.f58 fuel [.mp 0, .agg [.v (.int .i64 start), .v (.int .i64 start_1)], .agg [.v (.int .i64 p), .v (.int .i64 p_1)]] [.map (.pr (.int .i64) (.int .i64)) (.pr (.pr (.int .i64) (.int .i64)) (.int .i64)) o0] K =
    (fun (g58_2 : GT_differ_back_2 R) (K0 : (List ((Int × Int) × ((Int × Int) × Int))) → (List Int) → Option R) (start start_1 p p_1 : Int) (o0 : List ((Int × Int) × ((Int × Int) × Int))) =>
    g58_2 o0 start start_1 p p_1 ([] : List Int)) (gt_differ_back_2 (runO Try.prog (T_differ_back @l_slices_Reverse_int_int) cuts_differ_back 1 (finish Try.prog Try.f58 1 K) fuel)) (fun r0 r1 => K (.own 1) [.map (.pr (.int .i64) (.int .i64)) (.pr (.pr (.int .i64) (.int .i64)) (.int .i64)) r0, .row ⟨true, 3, (.int .i64), r1⟩]) start start_1 p p_1 o0 := by kernel_rfl

theorem runs_differ_back {R : Type} (K : AV → List O → Option R) : ∀ fuel : Nat,
    (gt_differ_back_2 (runO Try.prog (T_differ_back @l_slices_Reverse_int_int) cuts_differ_back 1 (finish Try.prog Try.f58 1 K) fuel)) = (run_differ_back (fun r0 r1 => K (.own 1) [.map (.pr (.int .i64) (.int .i64)) (.pr (.pr (.int .i64) (.int .i64)) (.int .i64)) r0, .row ⟨true, 3, (.int .i64), r1⟩]) fuel)
  | 0 => rfl
  | fuel + 1 => by
    have ih := runs_differ_back K fuel
    funext o0 o1 o1_1 o2 o2_1 o3
    refine (gstep_differ_back_2 @l_slices_Reverse_int_int _ K o0 o1 o1_1 o2 o2_1 o3).trans ?_
    rw [ih]
    rfl

def S_differ_back (l_differ_back : LT_differ_back) : Sum := ⟨[], fun {R} args ob K => match args, ob with
  | [.mp 0, .agg [.v (.int .i64 start), .v (.int .i64 start_1)], .agg [.v (.int .i64 p), .v (.int .i64 p_1)]], [.map (.pr (.int .i64) (.int .i64)) (.pr (.pr (.int .i64) (.int .i64)) (.int .i64)) o0] => l_differ_back start start_1 p p_1 o0 (fun r0 r1 => K (.own 1) [.map (.pr (.int .i64) (.int .i64)) (.pr (.pr (.int .i64) (.int .i64)) (.int .i64)) r0, .row ⟨true, 3, (.int .i64), r1⟩])
  | _, _ => none⟩

theorem sound_differ_back : Sound Try.prog 58 (S_differ_back @l_differ_back) := by
  refine fn_sound (cuts := cuts_differ_back) (fn := Try.f58) (Γ := (T_differ_back @l_slices_Reverse_int_int)) wide right_T_differ_back Try.func58 fun {R} K r args ob h => ?_
  unfold S_differ_back at h
  dsimp only at h
  split at h
  · obtain ⟨n, hn⟩ := ok_differ_back _ _ _ _ _ _ h
    refine ⟨Nat.le_of_ble_eq_true (by kernel_rfl), n, (gentry_differ_back @l_slices_Reverse_int_int n K _ _ _ _ _).trans ?_⟩
    rw [(runs_differ_back K n)]
    exact hn
  · cases h

theorem call_differ_back : Callable Try.prog 58 := ⟨_, Try.func58, by kernel_rfl, by kernel_rfl⟩

def T_differ_search (l_differ_back : LT_differ_back) : FuncId → Option Sum := (addS G0 58 (S_differ_back @l_differ_back))

theorem right_T_differ_search : Right Try.prog (T_differ_search @l_differ_back) := (right_add right_G0 call_differ_back sound_differ_back)

abbrev cuts_differ_search : Cuts := [(9, [3, 4, 5, 8, 9, 10, 11, 12]), (13, [3, 4, 5, 8, 9, 10, 11, 12, 13, 55, 56])]

abbrev sta_differ_search_9 (i o0 o0_1 o0_2 o0_3 : Int) (o0_4 o0_5 : List Int) (o1 o1_1 o1_2 o1_3 : Int) (o1_4 o1_5 : List Int) (o2 o2_1 : Int) (o3 : List ((Int × Int) × ((Int × Int) × Int))) (o4 : List (Int × Int)) (o5 o5_1 : Int) (o6 : List Int) : St := ⟨fr0 145 [(3, .ptr 0 0), (4, .ptr 1 0), (5, .ptr 2 0), (8, .mp 3), (9, .own 4), (10, .ptr 5 0), (11, .own 6), (12, .v (.int .i64 i))], [.box 51 [.v (.int .i64 o0), .v (.int .i64 o0_1), .v (.int .i64 o0_2), .v (.int .i64 o0_3), .rd ⟨false, 3, (.int .i64), o0_4⟩, .rd ⟨false, 3, (.int .i64), o0_5⟩], .box 51 [.v (.int .i64 o1), .v (.int .i64 o1_1), .v (.int .i64 o1_2), .v (.int .i64 o1_3), .rd ⟨false, 3, (.int .i64), o1_4⟩, .rd ⟨false, 3, (.int .i64), o1_5⟩], .box 108 [.v (.int .i64 o2), .v (.int .i64 o2_1)], .map (.pr (.int .i64) (.int .i64)) (.pr (.pr (.int .i64) (.int .i64)) (.int .i64)) o3, .row ⟨true, 108, (.pr (.int .i64) (.int .i64)), o4⟩, .box 108 [.v (.int .i64 o5), .v (.int .i64 o5_1)], .row ⟨true, 3, (.int .i64), o6⟩]⟩

abbrev gt_differ_search_9 {R : Type} (g : List Item → St → Option R) : GT_differ_search_9 R := fun (i o0 o0_1 o0_2 o0_3 : Int) (o0_4 o0_5 : List Int) (o1 o1_1 o1_2 o1_3 : Int) (o1_4 o1_5 : List Int) (o2 o2_1 : Int) (o3 : List ((Int × Int) × ((Int × Int) × Int))) (o4 : List (Int × Int)) (o5 o5_1 : Int) (o6 : List Int) => g (at' Try.f52 9) (sta_differ_search_9 i o0 o0_1 o0_2 o0_3 o0_4 o0_5 o1 o1_1 o1_2 o1_3 o1_4 o1_5 o2 o2_1 o3 o4 o5 o5_1 o6)

abbrev sta_differ_search_13 (i x55 x56 o0 o0_1 o0_2 o0_3 : Int) (o0_4 o0_5 : List Int) (o1 o1_1 o1_2 o1_3 : Int) (o1_4 o1_5 : List Int) (o2 o2_1 : Int) (o3 : List ((Int × Int) × ((Int × Int) × Int))) (o4 : List (Int × Int)) (o5 o5_1 : Int) (o6 : List Int) (o7 o7_1 : Int) : St := ⟨fr0 145 [(3, .ptr 0 0), (4, .ptr 1 0), (5, .ptr 2 0), (8, .mp 3), (9, .own 4), (10, .ptr 5 0), (11, .own 6), (12, .v (.int .i64 i)), (13, .ptr 7 0), (55, .v (.int .i64 x55)), (56, .v (.int .i64 x56))], [.box 51 [.v (.int .i64 o0), .v (.int .i64 o0_1), .v (.int .i64 o0_2), .v (.int .i64 o0_3), .rd ⟨false, 3, (.int .i64), o0_4⟩, .rd ⟨false, 3, (.int .i64), o0_5⟩], .box 51 [.v (.int .i64 o1), .v (.int .i64 o1_1), .v (.int .i64 o1_2), .v (.int .i64 o1_3), .rd ⟨false, 3, (.int .i64), o1_4⟩, .rd ⟨false, 3, (.int .i64), o1_5⟩], .box 108 [.v (.int .i64 o2), .v (.int .i64 o2_1)], .map (.pr (.int .i64) (.int .i64)) (.pr (.pr (.int .i64) (.int .i64)) (.int .i64)) o3, .row ⟨true, 108, (.pr (.int .i64) (.int .i64)), o4⟩, .box 108 [.v (.int .i64 o5), .v (.int .i64 o5_1)], .row ⟨true, 3, (.int .i64), o6⟩, .box 108 [.v (.int .i64 o7), .v (.int .i64 o7_1)]]⟩

abbrev gt_differ_search_13 {R : Type} (g : List Item → St → Option R) : GT_differ_search_13 R := fun (i x55 x56 o0 o0_1 o0_2 o0_3 : Int) (o0_4 o0_5 : List Int) (o1 o1_1 o1_2 o1_3 : Int) (o1_4 o1_5 : List Int) (o2 o2_1 : Int) (o3 : List ((Int × Int) × ((Int × Int) × Int))) (o4 : List (Int × Int)) (o5 o5_1 : Int) (o6 : List Int) (o7 o7_1 : Int) => g (at' Try.f52 13) (sta_differ_search_13 i x55 x56 o0 o0_1 o0_2 o0_3 o0_4 o0_5 o1 o1_1 o1_2 o1_3 o1_4 o1_5 o2 o2_1 o3 o4 o5 o5_1 o6 o7 o7_1)

theorem gstep_differ_search_9 (l_differ_back : LT_differ_back) {R : Type} (g : List Item → St → Option R) (K : AV → List O → Option R) (i o0 o0_1 o0_2 o0_3 : Int) (o0_4 o0_5 : List Int) (o1 o1_1 o1_2 o1_3 : Int) (o1_4 o1_5 : List Int) (o2 o2_1 : Int) (o3 : List ((Int × Int) × ((Int × Int) × Int))) (o4 : List (Int × Int)) (o5 o5_1 : Int) (o6 : List Int) :
    runSeg Try.prog (T_differ_search @l_differ_back) cuts_differ_search 0 g (finish Try.prog Try.f52 0 K) (at' Try.f52 9) (sta_differ_search_9 i o0 o0_1 o0_2 o0_3 o0_4 o0_5 o1 o1_1 o1_2 o1_3 o1_4 o1_5 o2 o2_1 o3 o4 o5 o5_1 o6) =
    (fun (g52_9 : GT_differ_search_9 R) (g52_13 : GT_differ_search_13 R) (K0 : Bool → (List Int) → Option R) (i o0 o0_1 o0_2 o0_3 : Int) (o0_4 o0_5 : List Int) (o1 o1_1 o1_2 o1_3 : Int) (o1_4 o1_5 : List Int) (o2 o2_1 : Int) (o3 : List ((Int × Int) × ((Int × Int) × Int))) (o4 : List (Int × Int)) (o5 o5_1 : Int) (o6 : List Int) =>
    bi (i == (o4.length : Int))
     (K0 false ([] : List Int))
     (bi (decide (0 ≤ i ∧ i < ((o4.length : Nat) : Int)))
      (g52_13 i o0_1 0 o0 o0_1 o0_2 o0_3 o0_4 o0_5 o1 o1_1 o1_2 o1_3 o1_4 o1_5 o2 o2_1 o3 o4 o5 o5_1 o6 ((o4.getD i.toNat (0, 0)).1) ((o4.getD i.toNat (0, 0)).2))
      none)) (gt_differ_search_9 g) (gt_differ_search_13 g) (fun r0 r1 => K (.tup [.own 0, .v (.bool r0)]) [.row ⟨true, 3, (.int .i64), r1⟩]) i o0 o0_1 o0_2 o0_3 o0_4 o0_5 o1 o1_1 o1_2 o1_3 o1_4 o1_5 o2 o2_1 o3 o4 o5 o5_1 o6 := by kernel_rfl

theorem gstep_differ_search_13 (l_differ_back : LT_differ_back) {R : Type} (g : List Item → St → Option R) (K : AV → List O → Option R) (i x55 x56 o0 o0_1 o0_2 o0_3 : Int) (o0_4 o0_5 : List Int) (o1 o1_1 o1_2 o1_3 : Int) (o1_4 o1_5 : List Int) (o2 o2_1 : Int) (o3 : List ((Int × Int) × ((Int × Int) × Int))) (o4 : List (Int × Int)) (o5 o5_1 : Int) (o6 : List Int) (o7 o7_1 : Int) :
    runSeg Try.prog (T_differ_search @l_differ_back) cuts_differ_search 0 g (finish Try.prog Try.f52 0 K) (at' Try.f52 13) (sta_differ_search_13 i x55 x56 o0 o0_1 o0_2 o0_3 o0_4 o0_5 o1 o1_1 o1_2 o1_3 o1_4 o1_5 o2 o2_1 o3 o4 o5 o5_1 o6 o7 o7_1) =
    (fun (g52_9 : GT_differ_search_9 R) (g52_13 : GT_differ_search_13 R) (K0 : Bool → (List Int) → Option R) (i x55 x56 o0 o0_1 o0_2 o0_3 : Int) (o0_4 o0_5 : List Int) (o1 o1_1 o1_2 o1_3 : Int) (o1_4 o1_5 : List Int) (o2 o2_1 : Int) (o3 : List ((Int × Int) × ((Int × Int) × Int))) (o4 : List (Int × Int)) (o5 o5_1 : Int) (o6 : List Int) (o7 o7_1 : Int) =>
    bi (decide (x56 < x55))
     (bi (decide (0 ≤ (IntKind.i64.wrap ((IntKind.i64.wrap (o7 * o0_1)) + x56)) ∧ (IntKind.i64.wrap ((IntKind.i64.wrap (o7 * o0_1)) + x56)) < ((o0_4.length : Nat) : Int)))
      (bi (decide (0 ≤ (IntKind.i64.wrap ((IntKind.i64.wrap (o7_1 * o1_1)) + x56)) ∧ (IntKind.i64.wrap ((IntKind.i64.wrap (o7_1 * o1_1)) + x56)) < ((o1_4.length : Nat) : Int)))
       (bi (o0 == 2)
        (bi (decide (0 ≤ (IntKind.i64.wrap ((IntKind.i64.wrap (o7 * o0_1)) + x56)) ∧ (IntKind.i64.wrap ((IntKind.i64.wrap (o7 * o0_1)) + x56)) < ((o0_5.length : Nat) : Int)))
         (bi (decide (0 ≤ (IntKind.i64.wrap ((IntKind.i64.wrap (o7_1 * o1_1)) + x56)) ∧ (IntKind.i64.wrap ((IntKind.i64.wrap (o7_1 * o1_1)) + x56)) < ((o1_5.length : Nat) : Int)))
          (bi ((o0_5.getD ((IntKind.i64.wrap ((IntKind.i64.wrap (o7 * o0_1)) + x56)).toNat) 0) != (o1_5.getD ((IntKind.i64.wrap ((IntKind.i64.wrap (o7_1 * o1_1)) + x56)).toNat) 0))
           (l_differ_back o2 o2_1 o7 o7_1 o3
            (fun r1 r2 =>
             bi (decide ((r2.length + [x56].length) * 8 ≤ lim))
              (K0 true (r2 ++ [x56]))
              none))
           (bi (mhas (.pr (.int .i64) (.int .i64)) (.pr (.pr (.int .i64) (.int .i64)) (.int .i64)) o3 (o0_4.getD ((IntKind.i64.wrap ((IntKind.i64.wrap (o7 * o0_1)) + x56)).toNat) 0, o1_4.getD ((IntKind.i64.wrap ((IntKind.i64.wrap (o7_1 * o1_1)) + x56)).toNat) 0))
            (g52_13 i x55 (IntKind.i64.wrap (x56 + 1)) o0 o0_1 o0_2 o0_3 o0_4 o0_5 o1 o1_1 o1_2 o1_3 o1_4 o1_5 o2 o2_1 o3 o4 o5 o5_1 o6 o7 o7_1)
            (bi (decide ((o4.length + [(o0_4.getD ((IntKind.i64.wrap ((IntKind.i64.wrap (o7 * o0_1)) + x56)).toNat) 0, o1_4.getD ((IntKind.i64.wrap ((IntKind.i64.wrap (o7_1 * o1_1)) + x56)).toNat) 0)].length) * 16 ≤ lim))
             (bi (o0 == 1)
              (bi (decide (0 ≤ (o0_4.getD ((IntKind.i64.wrap ((IntKind.i64.wrap (o7 * o0_1)) + x56)).toNat) 0) ∧ (o0_4.getD ((IntKind.i64.wrap ((IntKind.i64.wrap (o7 * o0_1)) + x56)).toNat) 0) < ((o0_5.length : Nat) : Int)))
               (bi (decide (0 ≤ (o1_4.getD ((IntKind.i64.wrap ((IntKind.i64.wrap (o7_1 * o1_1)) + x56)).toNat) 0) ∧ (o1_4.getD ((IntKind.i64.wrap ((IntKind.i64.wrap (o7_1 * o1_1)) + x56)).toNat) 0) < ((o1_5.length : Nat) : Int)))
                (bi ((o0_5.getD ((o0_4.getD ((IntKind.i64.wrap ((IntKind.i64.wrap (o7 * o0_1)) + x56)).toNat) 0).toNat) 0) != (o1_5.getD ((o1_4.getD ((IntKind.i64.wrap ((IntKind.i64.wrap (o7_1 * o1_1)) + x56)).toNat) 0).toNat) 0))
                 (l_differ_back o2 o2_1 (o0_4.getD ((IntKind.i64.wrap ((IntKind.i64.wrap (o7 * o0_1)) + x56)).toNat) 0) (o1_4.getD ((IntKind.i64.wrap ((IntKind.i64.wrap (o7_1 * o1_1)) + x56)).toNat) 0) (mput (.pr (.int .i64) (.int .i64)) (.pr (.pr (.int .i64) (.int .i64)) (.int .i64)) (o0_4.getD ((IntKind.i64.wrap ((IntKind.i64.wrap (o7 * o0_1)) + x56)).toNat) 0, o1_4.getD ((IntKind.i64.wrap ((IntKind.i64.wrap (o7_1 * o1_1)) + x56)).toNat) 0) ((o7, o7_1), x56) o3)
                  (fun r3 r4 =>
                   bi (decide ((r4.length + o6.length) * 8 ≤ lim))
                    (K0 true (r4 ++ o6))
                    none))
                 (g52_13 i x55 (IntKind.i64.wrap (x56 + 1)) o0 o0_1 o0_2 o0_3 o0_4 o0_5 o1 o1_1 o1_2 o1_3 o1_4 o1_5 o2 o2_1 (mput (.pr (.int .i64) (.int .i64)) (.pr (.pr (.int .i64) (.int .i64)) (.int .i64)) (o0_4.getD ((IntKind.i64.wrap ((IntKind.i64.wrap (o7 * o0_1)) + x56)).toNat) 0, o1_4.getD ((IntKind.i64.wrap ((IntKind.i64.wrap (o7_1 * o1_1)) + x56)).toNat) 0) ((o7, o7_1), x56) o3) (o4 ++ [(o0_4.getD ((IntKind.i64.wrap ((IntKind.i64.wrap (o7 * o0_1)) + x56)).toNat) 0, o1_4.getD ((IntKind.i64.wrap ((IntKind.i64.wrap (o7_1 * o1_1)) + x56)).toNat) 0)]) o5 o5_1 o6 o7 o7_1))
                none)
               none)
              (g52_13 i x55 (IntKind.i64.wrap (x56 + 1)) o0 o0_1 o0_2 o0_3 o0_4 o0_5 o1 o1_1 o1_2 o1_3 o1_4 o1_5 o2 o2_1 (mput (.pr (.int .i64) (.int .i64)) (.pr (.pr (.int .i64) (.int .i64)) (.int .i64)) (o0_4.getD ((IntKind.i64.wrap ((IntKind.i64.wrap (o7 * o0_1)) + x56)).toNat) 0, o1_4.getD ((IntKind.i64.wrap ((IntKind.i64.wrap (o7_1 * o1_1)) + x56)).toNat) 0) ((o7, o7_1), x56) o3) (o4 ++ [(o0_4.getD ((IntKind.i64.wrap ((IntKind.i64.wrap (o7 * o0_1)) + x56)).toNat) 0, o1_4.getD ((IntKind.i64.wrap ((IntKind.i64.wrap (o7_1 * o1_1)) + x56)).toNat) 0)]) o5 o5_1 o6 o7 o7_1))
             none)))
          none)
         none)
        (bi (mhas (.pr (.int .i64) (.int .i64)) (.pr (.pr (.int .i64) (.int .i64)) (.int .i64)) o3 (o0_4.getD ((IntKind.i64.wrap ((IntKind.i64.wrap (o7 * o0_1)) + x56)).toNat) 0, o1_4.getD ((IntKind.i64.wrap ((IntKind.i64.wrap (o7_1 * o1_1)) + x56)).toNat) 0))
         (g52_13 i x55 (IntKind.i64.wrap (x56 + 1)) o0 o0_1 o0_2 o0_3 o0_4 o0_5 o1 o1_1 o1_2 o1_3 o1_4 o1_5 o2 o2_1 o3 o4 o5 o5_1 o6 o7 o7_1)
         (bi (decide ((o4.length + [(o0_4.getD ((IntKind.i64.wrap ((IntKind.i64.wrap (o7 * o0_1)) + x56)).toNat) 0, o1_4.getD ((IntKind.i64.wrap ((IntKind.i64.wrap (o7_1 * o1_1)) + x56)).toNat) 0)].length) * 16 ≤ lim))
          (bi (o0 == 1)
           (bi (decide (0 ≤ (o0_4.getD ((IntKind.i64.wrap ((IntKind.i64.wrap (o7 * o0_1)) + x56)).toNat) 0) ∧ (o0_4.getD ((IntKind.i64.wrap ((IntKind.i64.wrap (o7 * o0_1)) + x56)).toNat) 0) < ((o0_5.length : Nat) : Int)))
            (bi (decide (0 ≤ (o1_4.getD ((IntKind.i64.wrap ((IntKind.i64.wrap (o7_1 * o1_1)) + x56)).toNat) 0) ∧ (o1_4.getD ((IntKind.i64.wrap ((IntKind.i64.wrap (o7_1 * o1_1)) + x56)).toNat) 0) < ((o1_5.length : Nat) : Int)))
             (bi ((o0_5.getD ((o0_4.getD ((IntKind.i64.wrap ((IntKind.i64.wrap (o7 * o0_1)) + x56)).toNat) 0).toNat) 0) != (o1_5.getD ((o1_4.getD ((IntKind.i64.wrap ((IntKind.i64.wrap (o7_1 * o1_1)) + x56)).toNat) 0).toNat) 0))
              (l_differ_back o2 o2_1 (o0_4.getD ((IntKind.i64.wrap ((IntKind.i64.wrap (o7 * o0_1)) + x56)).toNat) 0) (o1_4.getD ((IntKind.i64.wrap ((IntKind.i64.wrap (o7_1 * o1_1)) + x56)).toNat) 0) (mput (.pr (.int .i64) (.int .i64)) (.pr (.pr (.int .i64) (.int .i64)) (.int .i64)) (o0_4.getD ((IntKind.i64.wrap ((IntKind.i64.wrap (o7 * o0_1)) + x56)).toNat) 0, o1_4.getD ((IntKind.i64.wrap ((IntKind.i64.wrap (o7_1 * o1_1)) + x56)).toNat) 0) ((o7, o7_1), x56) o3)
               (fun r5 r6 =>
                bi (decide ((r6.length + o6.length) * 8 ≤ lim))
                 (K0 true (r6 ++ o6))
                 none))
              (g52_13 i x55 (IntKind.i64.wrap (x56 + 1)) o0 o0_1 o0_2 o0_3 o0_4 o0_5 o1 o1_1 o1_2 o1_3 o1_4 o1_5 o2 o2_1 (mput (.pr (.int .i64) (.int .i64)) (.pr (.pr (.int .i64) (.int .i64)) (.int .i64)) (o0_4.getD ((IntKind.i64.wrap ((IntKind.i64.wrap (o7 * o0_1)) + x56)).toNat) 0, o1_4.getD ((IntKind.i64.wrap ((IntKind.i64.wrap (o7_1 * o1_1)) + x56)).toNat) 0) ((o7, o7_1), x56) o3) (o4 ++ [(o0_4.getD ((IntKind.i64.wrap ((IntKind.i64.wrap (o7 * o0_1)) + x56)).toNat) 0, o1_4.getD ((IntKind.i64.wrap ((IntKind.i64.wrap (o7_1 * o1_1)) + x56)).toNat) 0)]) o5 o5_1 o6 o7 o7_1))
             none)
            none)
           (g52_13 i x55 (IntKind.i64.wrap (x56 + 1)) o0 o0_1 o0_2 o0_3 o0_4 o0_5 o1 o1_1 o1_2 o1_3 o1_4 o1_5 o2 o2_1 (mput (.pr (.int .i64) (.int .i64)) (.pr (.pr (.int .i64) (.int .i64)) (.int .i64)) (o0_4.getD ((IntKind.i64.wrap ((IntKind.i64.wrap (o7 * o0_1)) + x56)).toNat) 0, o1_4.getD ((IntKind.i64.wrap ((IntKind.i64.wrap (o7_1 * o1_1)) + x56)).toNat) 0) ((o7, o7_1), x56) o3) (o4 ++ [(o0_4.getD ((IntKind.i64.wrap ((IntKind.i64.wrap (o7 * o0_1)) + x56)).toNat) 0, o1_4.getD ((IntKind.i64.wrap ((IntKind.i64.wrap (o7_1 * o1_1)) + x56)).toNat) 0)]) o5 o5_1 o6 o7 o7_1))
          none)))
       none)
      none)
     (g52_9 (IntKind.i64.wrap (i + 1)) o0 o0_1 o0_2 o0_3 o0_4 o0_5 o1 o1_1 o1_2 o1_3 o1_4 o1_5 o2 o2_1 o3 o4 o5 o5_1 o6)) (gt_differ_search_9 g) (gt_differ_search_13 g) (fun r0 r1 => K (.tup [.own 0, .v (.bool r0)]) [.row ⟨true, 3, (.int .i64), r1⟩]) i x55 x56 o0 o0_1 o0_2 o0_3 o0_4 o0_5 o1 o1_1 o1_2 o1_3 o1_4 o1_5 o2 o2_1 o3 o4 o5 o5_1 o6 o7 o7_1 := by kernel_rfl

theorem gentry_differ_search (l_differ_back : LT_differ_back) {R : Type} (fuel : Nat) (K : AV → List O → Option R) (a a_1 a_2 a_3 : Int) (a_4 a_5 : List Int) (b b_1 b_2 b_3 : Int) (b_4 b_5 : List Int) (start start_1 : Int) :
    fnRun Try.prog (T_differ_search @l_differ_back) cuts_differ_search Try.f52 fuel [.agg [.v (.int .i64 a), .v (.int .i64 a_1), .v (.int .i64 a_2), .v (.int .i64 a_3), .rd ⟨false, 3, (.int .i64), a_4⟩, .rd ⟨false, 3, (.int .i64), a_5⟩], .agg [.v (.int .i64 b), .v (.int .i64 b_1), .v (.int .i64 b_2), .v (.int .i64 b_3), .rd ⟨false, 3, (.int .i64), b_4⟩, .rd ⟨false, 3, (.int .i64), b_5⟩], .agg [.v (.int .i64 start), .v (.int .i64 start_1)]] [] K =
    (fun (g52_9 : GT_differ_search_9 R) (g52_13 : GT_differ_search_13 R) (K0 : Bool → (List Int) → Option R) (a a_1 a_2 a_3 : Int) (a_4 a_5 : List Int) (b b_1 b_2 b_3 : Int) (b_4 b_5 : List Int) (start start_1 : Int) =>
    bi (a == 1)
     (bi (decide (0 ≤ start ∧ start < ((a_5.length : Nat) : Int)))
      (bi (decide (0 ≤ start_1 ∧ start_1 < ((b_5.length : Nat) : Int)))
       (bi ((a_5.getD start.toNat 0) != (b_5.getD start_1.toNat 0))
        (K0 true ([] : List Int))
        (g52_9 0 a a_1 a_2 a_3 a_4 a_5 b b_1 b_2 b_3 b_4 b_5 start start_1 (mput (.pr (.int .i64) (.int .i64)) (.pr (.pr (.int .i64) (.int .i64)) (.int .i64)) (start, start_1) ((0, 0), 0) ([] : List ((Int × Int) × ((Int × Int) × Int)))) [(start, start_1)] 0 0 ([] : List Int)))
       none)
      none)
     (g52_9 0 a a_1 a_2 a_3 a_4 a_5 b b_1 b_2 b_3 b_4 b_5 start start_1 (mput (.pr (.int .i64) (.int .i64)) (.pr (.pr (.int .i64) (.int .i64)) (.int .i64)) (start, start_1) ((0, 0), 0) ([] : List ((Int × Int) × ((Int × Int) × Int)))) [(start, start_1)] 0 0 ([] : List Int))) (gt_differ_search_9 (runO Try.prog (T_differ_search @l_differ_back) cuts_differ_search 0 (finish Try.prog Try.f52 0 K) fuel)) (gt_differ_search_13 (runO Try.prog (T_differ_search @l_differ_back) cuts_differ_search 0 (finish Try.prog Try.f52 0 K) fuel)) (fun r0 r1 => K (.tup [.own 0, .v (.bool r0)]) [.row ⟨true, 3, (.int .i64), r1⟩]) a a_1 a_2 a_3 a_4 a_5 b b_1 b_2 b_3 b_4 b_5 start start_1 := by kernel_rfl

theorem runs_differ_search {R : Type} (K : AV → List O → Option R) : ∀ fuel : Nat,
    (gt_differ_search_9 (runO Try.prog (T_differ_search @l_differ_back) cuts_differ_search 0 (finish Try.prog Try.f52 0 K) fuel)) = (run_differ_search (fun r0 r1 => K (.tup [.own 0, .v (.bool r0)]) [.row ⟨true, 3, (.int .i64), r1⟩]) fuel).1 ∧
    (gt_differ_search_13 (runO Try.prog (T_differ_search @l_differ_back) cuts_differ_search 0 (finish Try.prog Try.f52 0 K) fuel)) = (run_differ_search (fun r0 r1 => K (.tup [.own 0, .v (.bool r0)]) [.row ⟨true, 3, (.int .i64), r1⟩]) fuel).2
  | 0 => ⟨rfl, rfl⟩
  | fuel + 1 => by
    have ih := runs_differ_search K fuel
    refine ⟨?_, ?_⟩
    · funext i o0 o0_1 o0_2 o0_3 o0_4 o0_5 o1 o1_1 o1_2 o1_3 o1_4 o1_5 o2 o2_1 o3 o4 o5 o5_1 o6
      refine (gstep_differ_search_9 @l_differ_back _ K i o0 o0_1 o0_2 o0_3 o0_4 o0_5 o1 o1_1 o1_2 o1_3 o1_4 o1_5 o2 o2_1 o3 o4 o5 o5_1 o6).trans ?_
      rw [ih.1, ih.2]
      rfl
    · funext i x55 x56 o0 o0_1 o0_2 o0_3 o0_4 o0_5 o1 o1_1 o1_2 o1_3 o1_4 o1_5 o2 o2_1 o3 o4 o5 o5_1 o6 o7 o7_1
      refine (gstep_differ_search_13 @l_differ_back _ K i x55 x56 o0 o0_1 o0_2 o0_3 o0_4 o0_5 o1 o1_1 o1_2 o1_3 o1_4 o1_5 o2 o2_1 o3 o4 o5 o5_1 o6 o7 o7_1).trans ?_
      rw [ih.1, ih.2]
      rfl

def S_differ_search (l_differ_search : LT_differ_search) : Sum := ⟨[], fun {R} args ob K => match args, ob with
  | [.agg [.v (.int .i64 a), .v (.int .i64 a_1), .v (.int .i64 a_2), .v (.int .i64 a_3), .rd ⟨false, 3, (.int .i64), a_4⟩, .rd ⟨false, 3, (.int .i64), a_5⟩], .agg [.v (.int .i64 b), .v (.int .i64 b_1), .v (.int .i64 b_2), .v (.int .i64 b_3), .rd ⟨false, 3, (.int .i64), b_4⟩, .rd ⟨false, 3, (.int .i64), b_5⟩], .agg [.v (.int .i64 start), .v (.int .i64 start_1)]], [] => l_differ_search a a_1 a_2 a_3 a_4 a_5 b b_1 b_2 b_3 b_4 b_5 start start_1 (fun r0 r1 => K (.tup [.own 0, .v (.bool r0)]) [.row ⟨true, 3, (.int .i64), r1⟩])
  | _, _ => none⟩

theorem sound_differ_search : Sound Try.prog 52 (S_differ_search @l_differ_search) := by
  refine fn_sound (cuts := cuts_differ_search) (fn := Try.f52) (Γ := (T_differ_search @l_differ_back)) wide right_T_differ_search Try.func52 fun {R} K r args ob h => ?_
  unfold S_differ_search at h
  dsimp only at h
  split at h
  · obtain ⟨n, hn⟩ := ok_differ_search _ _ _ _ _ _ _ _ _ _ _ _ _ _ _ h
    refine ⟨Nat.le_of_ble_eq_true (by kernel_rfl), n, (gentry_differ_search @l_differ_back n K _ _ _ _ _ _ _ _ _ _ _ _ _ _).trans ?_⟩
    rw [(runs_differ_search K n).1, (runs_differ_search K n).2]
    exact hn
  · cases h

theorem call_differ_search : Callable Try.prog 52 := ⟨_, Try.func52, by kernel_rfl, by kernel_rfl⟩

def T_differ_Separate (l_differ_search : LT_differ_search) (l_differ_fit : LT_differ_fit) : FuncId → Option Sum := (addS (addS G0 52 (S_differ_search @l_differ_search)) 51 (S_differ_fit @l_differ_fit))

theorem right_T_differ_Separate : Right Try.prog (T_differ_Separate @l_differ_search @l_differ_fit) := (right_add (right_add right_G0 call_differ_search sound_differ_search) call_differ_fit sound_differ_fit)

abbrev cuts_differ_Separate : Cuts := []

theorem gentry_differ_Separate (l_differ_search : LT_differ_search) (l_differ_fit : LT_differ_fit) {R : Type} (K : AV → List O → Option R) (a a_1 a_2 a_3 : Int) (a_4 a_5 : List Int) (b b_1 b_2 b_3 : Int) (b_4 b_5 : List Int) :
    fnRun Try.prog (T_differ_Separate @l_differ_search @l_differ_fit) cuts_differ_Separate Try.f42 0 [.agg [.v (.int .i64 a), .v (.int .i64 a_1), .v (.int .i64 a_2), .v (.int .i64 a_3), .rd ⟨false, 3, (.int .i64), a_4⟩, .rd ⟨false, 3, (.int .i64), a_5⟩], .agg [.v (.int .i64 b), .v (.int .i64 b_1), .v (.int .i64 b_2), .v (.int .i64 b_3), .rd ⟨false, 3, (.int .i64), b_4⟩, .rd ⟨false, 3, (.int .i64), b_5⟩]] [] K =
    (fun (a a_1 a_2 a_3 : Int) (a_4 a_5 : List Int) (b b_1 b_2 b_3 : Int) (b_4 b_5 : List Int) (K0 : Bool → Int → (List Int) → Option R) =>
    l_differ_fit a a_1 a_2 a_3 a_4 a_5 b b_1 b_2 b_3 b_4 b_5
     (fun r1 =>
      bi (r1 != 0)
       (K0 false r1 ([] : List Int))
       (l_differ_search a a_1 a_2 a_3 a_4 a_5 b b_1 b_2 b_3 b_4 b_5 0 0
        (fun r2 r3 =>
         K0 r2 0 r3)))) a a_1 a_2 a_3 a_4 a_5 b b_1 b_2 b_3 b_4 b_5 (fun r0 r1 r2 => K (.tup [.own 0, .v (.bool r0), .v (.int .i64 r1)]) [.row ⟨true, 3, (.int .i64), r2⟩]) := by kernel_rfl

def S_differ_Separate (l_differ_Separate : LT_differ_Separate) : Sum := ⟨[], fun {R} args ob K => match args, ob with
  | [.agg [.v (.int .i64 a), .v (.int .i64 a_1), .v (.int .i64 a_2), .v (.int .i64 a_3), .rd ⟨false, 3, (.int .i64), a_4⟩, .rd ⟨false, 3, (.int .i64), a_5⟩], .agg [.v (.int .i64 b), .v (.int .i64 b_1), .v (.int .i64 b_2), .v (.int .i64 b_3), .rd ⟨false, 3, (.int .i64), b_4⟩, .rd ⟨false, 3, (.int .i64), b_5⟩]], [] => l_differ_Separate a a_1 a_2 a_3 a_4 a_5 b b_1 b_2 b_3 b_4 b_5 (fun r0 r1 r2 => K (.tup [.own 0, .v (.bool r0), .v (.int .i64 r1)]) [.row ⟨true, 3, (.int .i64), r2⟩])
  | _, _ => none⟩

theorem sound_differ_Separate : Sound Try.prog 42 (S_differ_Separate @l_differ_Separate) := by
  refine fn_sound (cuts := cuts_differ_Separate) (fn := Try.f42) (Γ := (T_differ_Separate @l_differ_search @l_differ_fit)) wide right_T_differ_Separate Try.func42 fun {R} K r args ob h => ?_
  unfold S_differ_Separate at h
  dsimp only at h
  split at h
  · exact ⟨Nat.le_of_ble_eq_true (by kernel_rfl), 0, (gentry_differ_Separate @l_differ_search @l_differ_fit K _ _ _ _ _ _ _ _ _ _ _ _).trans h⟩
  · cases h

theorem call_differ_Separate : Callable Try.prog 42 := ⟨_, Try.func42, by kernel_rfl, by kernel_rfl⟩

def T_walk_fit : FuncId → Option Sum := G0

theorem right_T_walk_fit : Right Try.prog T_walk_fit := right_G0

abbrev cuts_walk_fit : Cuts := []

theorem gentry_walk_fit {R : Type} (K : AV → List O → Option R) (k low high : Int) :
    fnRun Try.prog T_walk_fit cuts_walk_fit Try.f35 0 [.v (.int .i64 k), .v (.int .i64 low), .v (.int .i64 high)] [] K =
    (fun (k low high : Int) (K0 : Int → Option R) =>
    bi (decide (k < 1))
     (K0 1)
     (bi (decide (k > 64))
      (K0 1)
      (bi (decide (low < 0))
       (K0 1)
       (bi (decide (high < low))
        (K0 1)
        (bi (decide (high > 4096))
         (K0 2)
         (K0 0)))))) k low high (fun r0 => K (.v (.int .i64 r0)) []) := by kernel_rfl

def S_walk_fit (l_walk_fit : LT_walk_fit) : Sum := ⟨[], fun {R} args ob K => match args, ob with
  | [.v (.int .i64 k), .v (.int .i64 low), .v (.int .i64 high)], [] => l_walk_fit k low high (fun r0 => K (.v (.int .i64 r0)) [])
  | _, _ => none⟩

theorem sound_walk_fit : Sound Try.prog 35 (S_walk_fit @l_walk_fit) := by
  refine fn_sound (cuts := cuts_walk_fit) (fn := Try.f35) (Γ := T_walk_fit) wide right_T_walk_fit Try.func35 fun {R} K r args ob h => ?_
  unfold S_walk_fit at h
  dsimp only at h
  split at h
  · exact ⟨Nat.le_of_ble_eq_true (by kernel_rfl), 0, (gentry_walk_fit K _ _ _).trans h⟩
  · cases h

theorem call_walk_fit : Callable Try.prog 35 := ⟨_, Try.func35, by kernel_rfl, by kernel_rfl⟩

def T_walk_asked (l_walk_fit : LT_walk_fit) : FuncId → Option Sum := (addS G0 35 (S_walk_fit @l_walk_fit))

theorem right_T_walk_asked : Right Try.prog (T_walk_asked @l_walk_fit) := (right_add right_G0 call_walk_fit sound_walk_fit)

abbrev cuts_walk_asked : Cuts := []

theorem gentry_walk_asked (l_walk_fit : LT_walk_fit) {R : Type} (K : AV → List O → Option R) (k count low high : Int) :
    fnRun Try.prog (T_walk_asked @l_walk_fit) cuts_walk_asked Try.f37 0 [.v (.int .i64 k), .v (.int .i64 count), .v (.int .i64 low), .v (.int .i64 high)] [] K =
    (fun (k count low high : Int) (K0 : Int → Option R) =>
    l_walk_fit k low high
     (fun r1 =>
      bi (r1 != 0)
       (K0 r1)
       (bi (decide (count < 0))
        (K0 1)
        (bi (decide (count > 65536))
         (K0 3)
         (K0 0))))) k count low high (fun r0 => K (.v (.int .i64 r0)) []) := by kernel_rfl

def S_walk_asked (l_walk_asked : LT_walk_asked) : Sum := ⟨[], fun {R} args ob K => match args, ob with
  | [.v (.int .i64 k), .v (.int .i64 count), .v (.int .i64 low), .v (.int .i64 high)], [] => l_walk_asked k count low high (fun r0 => K (.v (.int .i64 r0)) [])
  | _, _ => none⟩

theorem sound_walk_asked : Sound Try.prog 37 (S_walk_asked @l_walk_asked) := by
  refine fn_sound (cuts := cuts_walk_asked) (fn := Try.f37) (Γ := (T_walk_asked @l_walk_fit)) wide right_T_walk_asked Try.func37 fun {R} K r args ob h => ?_
  unfold S_walk_asked at h
  dsimp only at h
  split at h
  · exact ⟨Nat.le_of_ble_eq_true (by kernel_rfl), 0, (gentry_walk_asked @l_walk_fit K _ _ _ _).trans h⟩
  · cases h

theorem call_walk_asked : Callable Try.prog 37 := ⟨_, Try.func37, by kernel_rfl, by kernel_rfl⟩

def T_walk_drawn : FuncId → Option Sum := G0

theorem right_T_walk_drawn : Right Try.prog T_walk_drawn := right_G0

abbrev cuts_walk_drawn : Cuts := []

theorem gentry_walk_drawn {R : Type} (K : AV → List O → Option R) (seed k count low high : Int) :
    fnRun Try.prog T_walk_drawn cuts_walk_drawn Try.f39 0 [.v (.int .u64 seed), .v (.int .i64 k), .v (.int .i64 count), .v (.int .i64 low), .v (.int .i64 high)] [] K =
    (fun (seed k count low high : Int) (K0 : Int → Int → Int → Int → Int → Option R) =>
    K0 seed count k low high) seed k count low high (fun r0 r1 r2 r3 r4 => K (.clo 48 [.ptr 0 0, .ptr 1 0, .ptr 2 0, .ptr 3 0, .ptr 4 0]) [.box 22 [.v (.int .u64 r0)], .box 3 [.v (.int .i64 r1)], .box 3 [.v (.int .i64 r2)], .box 3 [.v (.int .i64 r3)], .box 3 [.v (.int .i64 r4)]]) := by kernel_rfl

def S_walk_drawn (l_walk_drawn : LT_walk_drawn) : Sum := ⟨[], fun {R} args ob K => match args, ob with
  | [.v (.int .u64 seed), .v (.int .i64 k), .v (.int .i64 count), .v (.int .i64 low), .v (.int .i64 high)], [] => l_walk_drawn seed k count low high (fun r0 r1 r2 r3 r4 => K (.clo 48 [.ptr 0 0, .ptr 1 0, .ptr 2 0, .ptr 3 0, .ptr 4 0]) [.box 22 [.v (.int .u64 r0)], .box 3 [.v (.int .i64 r1)], .box 3 [.v (.int .i64 r2)], .box 3 [.v (.int .i64 r3)], .box 3 [.v (.int .i64 r4)]])
  | _, _ => none⟩

theorem sound_walk_drawn : Sound Try.prog 39 (S_walk_drawn @l_walk_drawn) := by
  refine fn_sound (cuts := cuts_walk_drawn) (fn := Try.f39) (Γ := T_walk_drawn) wide right_T_walk_drawn Try.func39 fun {R} K r args ob h => ?_
  unfold S_walk_drawn at h
  dsimp only at h
  split at h
  · exact ⟨Nat.le_of_ble_eq_true (by kernel_rfl), 0, (gentry_walk_drawn K _ _ _ _ _).trans h⟩
  · cases h

theorem call_walk_drawn : Callable Try.prog 39 := ⟨_, Try.func39, by kernel_rfl, by kernel_rfl⟩

def T_walk_Walk_Word (l_walk_Walk_Int : LT_walk_Walk_Int) (l_walk_fit : LT_walk_fit) : FuncId → Option Sum := (addS (addS G0 13 (S_walk_Walk_Int @l_walk_Walk_Int)) 35 (S_walk_fit @l_walk_fit))

theorem right_T_walk_Walk_Word : Right Try.prog (T_walk_Walk_Word @l_walk_Walk_Int @l_walk_fit) := (right_add (right_add right_G0 call_walk_Walk_Int sound_walk_Walk_Int) call_walk_fit sound_walk_fit)

abbrev cuts_walk_Walk_Word : Cuts := [(8, [0, 1, 11, 32, 33])]

abbrev sta_walk_Walk_Word_8 (k x32 x33 o0 : Int) (o1 : List Int) : St := ⟨fr0 44 [(0, .ptr 0 0), (1, .v (.int .i64 k)), (11, .own 1), (32, .v (.int .i64 x32)), (33, .v (.int .i64 x33))], [.box 80 [.v (.int .u64 o0)], .row ⟨true, 3, (.int .i64), o1⟩]⟩

abbrev gt_walk_Walk_Word_8 {R : Type} (g : List Item → St → Option R) : GT_walk_Walk_Word_8 R := fun (k x32 x33 o0 : Int) (o1 : List Int) => g (at' Try.f14 8) (sta_walk_Walk_Word_8 k x32 x33 o0 o1)

theorem gstep_walk_Walk_Word_8 (l_walk_Walk_Int : LT_walk_Walk_Int) (l_walk_fit : LT_walk_fit) {R : Type} (g : List Item → St → Option R) (K : AV → List O → Option R) (k x32 x33 o0 : Int) (o1 : List Int) :
    runSeg Try.prog (T_walk_Walk_Word @l_walk_Walk_Int @l_walk_fit) cuts_walk_Walk_Word 1 g (finish Try.prog Try.f14 1 K) (at' Try.f14 8) (sta_walk_Walk_Word_8 k x32 x33 o0 o1) =
    (fun (g14_8 : GT_walk_Walk_Word_8 R) (K0 : Int → Int → (List Int) → Option R) (k x32 x33 o0 : Int) (o1 : List Int) =>
    bi (decide (x33 < x32))
     (l_walk_Walk_Int k o0
      (fun r4 r5 =>
       bi (decide (0 ≤ x33 ∧ x33 < ((o1.length : Nat) : Int)))
        (g14_8 k x32 (IntKind.i64.wrap (x33 + 1)) r5 (o1.set x33.toNat r4))
        none))
     (K0 0 o0 o1)) (gt_walk_Walk_Word_8 g) (fun r0 r1 r2 => K (.tup [.own 1, .v (.int .i64 r0)]) [.box 80 [.v (.int .u64 r1)], .row ⟨true, 3, (.int .i64), r2⟩]) k x32 x33 o0 o1 := by kernel_rfl

theorem gentry_walk_Walk_Word (l_walk_Walk_Int : LT_walk_Walk_Int) (l_walk_fit : LT_walk_fit) {R : Type} (fuel : Nat) (K : AV → List O → Option R) (k low high o0 : Int) :
    fnRun Try.prog (T_walk_Walk_Word @l_walk_Walk_Int @l_walk_fit) cuts_walk_Walk_Word Try.f14 fuel [.ptr 0 0, .v (.int .i64 k), .v (.int .i64 low), .v (.int .i64 high)] [.box 80 [.v (.int .u64 o0)]] K =
    (fun (g14_8 : GT_walk_Walk_Word_8 R) (K0 : Int → Int → (List Int) → Option R) (k low high o0 : Int) =>
    l_walk_fit k low high
     (fun r1 =>
      bi (r1 != 0)
       (K0 r1 o0 ([] : List Int))
       (l_walk_Walk_Int (IntKind.i64.wrap ((IntKind.i64.wrap (high - low)) + 1)) o0
        (fun r2 r3 =>
         bi (decide (0 ≤ (IntKind.i64.wrap (low + r2)) ∧ (IntKind.i64.wrap (low + r2)) ≤ (IntKind.i64.wrap (low + r2)) ∧ (IntKind.i64.wrap (low + r2)) ≤ 1073741824))
          (g14_8 k ((List.replicate (IntKind.i64.wrap (low + r2)).toNat (0 : Int)).length : Int) 0 r3 (List.replicate (IntKind.i64.wrap (low + r2)).toNat (0 : Int)))
          none)))) (gt_walk_Walk_Word_8 (runO Try.prog (T_walk_Walk_Word @l_walk_Walk_Int @l_walk_fit) cuts_walk_Walk_Word 1 (finish Try.prog Try.f14 1 K) fuel)) (fun r0 r1 r2 => K (.tup [.own 1, .v (.int .i64 r0)]) [.box 80 [.v (.int .u64 r1)], .row ⟨true, 3, (.int .i64), r2⟩]) k low high o0 := by kernel_rfl

theorem runs_walk_Walk_Word {R : Type} (K : AV → List O → Option R) : ∀ fuel : Nat,
    (gt_walk_Walk_Word_8 (runO Try.prog (T_walk_Walk_Word @l_walk_Walk_Int @l_walk_fit) cuts_walk_Walk_Word 1 (finish Try.prog Try.f14 1 K) fuel)) = (run_walk_Walk_Word (fun r0 r1 r2 => K (.tup [.own 1, .v (.int .i64 r0)]) [.box 80 [.v (.int .u64 r1)], .row ⟨true, 3, (.int .i64), r2⟩]) fuel)
  | 0 => rfl
  | fuel + 1 => by
    have ih := runs_walk_Walk_Word K fuel
    funext k x32 x33 o0 o1
    refine (gstep_walk_Walk_Word_8 @l_walk_Walk_Int @l_walk_fit _ K k x32 x33 o0 o1).trans ?_
    rw [ih]
    rfl

def S_walk_Walk_Word (l_walk_Walk_Word : LT_walk_Walk_Word) : Sum := ⟨[], fun {R} args ob K => match args, ob with
  | [.ptr 0 0, .v (.int .i64 k), .v (.int .i64 low), .v (.int .i64 high)], [.box 80 [.v (.int .u64 o0)]] => l_walk_Walk_Word k low high o0 (fun r0 r1 r2 => K (.tup [.own 1, .v (.int .i64 r0)]) [.box 80 [.v (.int .u64 r1)], .row ⟨true, 3, (.int .i64), r2⟩])
  | _, _ => none⟩

theorem sound_walk_Walk_Word : Sound Try.prog 14 (S_walk_Walk_Word @l_walk_Walk_Word) := by
  refine fn_sound (cuts := cuts_walk_Walk_Word) (fn := Try.f14) (Γ := (T_walk_Walk_Word @l_walk_Walk_Int @l_walk_fit)) wide right_T_walk_Walk_Word Try.func14 fun {R} K r args ob h => ?_
  unfold S_walk_Walk_Word at h
  dsimp only at h
  split at h
  · obtain ⟨n, hn⟩ := ok_walk_Walk_Word _ _ _ _ _ h
    refine ⟨Nat.le_of_ble_eq_true (by kernel_rfl), n, (gentry_walk_Walk_Word @l_walk_Walk_Int @l_walk_fit n K _ _ _ _).trans ?_⟩
    rw [(runs_walk_Walk_Word K n)]
    exact hn
  · cases h

theorem call_walk_Walk_Word : Callable Try.prog 14 := ⟨_, Try.func14, by kernel_rfl, by kernel_rfl⟩

def T_word_alphabet : FuncId → Option Sum := G0

theorem right_T_word_alphabet : Right Try.prog T_word_alphabet := right_G0

abbrev cuts_word_alphabet : Cuts := []

theorem gentry_word_alphabet {R : Type} (K : AV → List O → Option R) (k : Int) :
    fnRun Try.prog T_word_alphabet cuts_word_alphabet Try.f61 0 [.v (.int .i64 k)] [] K =
    (fun (k : Int) (K0 : Bool → Option R) =>
    bi (decide (k ≥ 1))
     (K0 (decide (k ≤ 64)))
     (K0 false)) k (fun r0 => K (.v (.bool r0)) []) := by kernel_rfl

def S_word_alphabet (l_word_alphabet : LT_word_alphabet) : Sum := ⟨[], fun {R} args ob K => match args, ob with
  | [.v (.int .i64 k)], [] => l_word_alphabet k (fun r0 => K (.v (.bool r0)) [])
  | _, _ => none⟩

theorem sound_word_alphabet : Sound Try.prog 61 (S_word_alphabet @l_word_alphabet) := by
  refine fn_sound (cuts := cuts_word_alphabet) (fn := Try.f61) (Γ := T_word_alphabet) wide right_T_word_alphabet Try.func61 fun {R} K r args ob h => ?_
  unfold S_word_alphabet at h
  dsimp only at h
  split at h
  · exact ⟨Nat.le_of_ble_eq_true (by kernel_rfl), 0, (gentry_word_alphabet K _).trans h⟩
  · cases h

theorem call_word_alphabet : Callable Try.prog 61 := ⟨_, Try.func61, by kernel_rfl, by kernel_rfl⟩

def T_word_Check (l_word_alphabet : LT_word_alphabet) : FuncId → Option Sum := (addS G0 61 (S_word_alphabet @l_word_alphabet))

theorem right_T_word_Check : Right Try.prog (T_word_Check @l_word_alphabet) := (right_add right_G0 call_word_alphabet sound_word_alphabet)

abbrev cuts_word_Check : Cuts := [(6, [0, 1, 16, 17])]

abbrev sta_word_Check_6 (w : List Int) (k x16 x17 : Int) : St := ⟨fr0 35 [(0, .rd ⟨false, 3, (.int .i64), w⟩), (1, .v (.int .i64 k)), (16, .v (.int .i64 x16)), (17, .v (.int .i64 x17))], []⟩

abbrev gt_word_Check_6 {R : Type} (g : List Item → St → Option R) : GT_word_Check_6 R := fun (w : List Int) (k x16 x17 : Int) => g (at' Try.f59 6) (sta_word_Check_6 w k x16 x17)

theorem gstep_word_Check_6 (l_word_alphabet : LT_word_alphabet) {R : Type} (g : List Item → St → Option R) (K : AV → List O → Option R) (w : List Int) (k x16 x17 : Int) :
    runSeg Try.prog (T_word_Check @l_word_alphabet) cuts_word_Check 0 g (finish Try.prog Try.f59 0 K) (at' Try.f59 6) (sta_word_Check_6 w k x16 x17) =
    (fun (g59_6 : GT_word_Check_6 R) (K0 : Int → Int → Option R) (w : List Int) (k x16 x17 : Int) =>
    bi (decide (x17 < x16))
     (bi (decide (0 ≤ x17 ∧ x17 < ((w.length : Nat) : Int)))
      (bi (decide ((w.getD x17.toNat 0) < 0))
       (K0 x17 10)
       (bi (decide (0 ≤ x17 ∧ x17 < ((w.length : Nat) : Int)))
        (bi (decide ((w.getD x17.toNat 0) ≥ k))
         (K0 x17 10)
         (g59_6 w k x16 (IntKind.i64.wrap (x17 + 1))))
        none))
      none)
     (K0 0 0)) (gt_word_Check_6 g) (fun r0 r1 => K (.tup [.v (.int .i64 r0), .v (.int .i64 r1)]) []) w k x16 x17 := by kernel_rfl

theorem gentry_word_Check (l_word_alphabet : LT_word_alphabet) {R : Type} (fuel : Nat) (K : AV → List O → Option R) (w : List Int) (k : Int) :
    fnRun Try.prog (T_word_Check @l_word_alphabet) cuts_word_Check Try.f59 fuel [.rd ⟨false, 3, (.int .i64), w⟩, .v (.int .i64 k)] [] K =
    (fun (g59_6 : GT_word_Check_6 R) (K0 : Int → Int → Option R) (w : List Int) (k : Int) =>
    l_word_alphabet k
     (fun r1 =>
      bi (!r1)
       (K0 0 1)
       (bi (decide ((w.length : Int) > 4096))
        (K0 0 2)
        (g59_6 w k (w.length : Int) 0)))) (gt_word_Check_6 (runO Try.prog (T_word_Check @l_word_alphabet) cuts_word_Check 0 (finish Try.prog Try.f59 0 K) fuel)) (fun r0 r1 => K (.tup [.v (.int .i64 r0), .v (.int .i64 r1)]) []) w k := by kernel_rfl

theorem runs_word_Check {R : Type} (K : AV → List O → Option R) : ∀ fuel : Nat,
    (gt_word_Check_6 (runO Try.prog (T_word_Check @l_word_alphabet) cuts_word_Check 0 (finish Try.prog Try.f59 0 K) fuel)) = (run_word_Check (fun r0 r1 => K (.tup [.v (.int .i64 r0), .v (.int .i64 r1)]) []) fuel)
  | 0 => rfl
  | fuel + 1 => by
    have ih := runs_word_Check K fuel
    funext w k x16 x17
    refine (gstep_word_Check_6 @l_word_alphabet _ K w k x16 x17).trans ?_
    rw [ih]
    rfl

def S_word_Check (l_word_Check : LT_word_Check) : Sum := ⟨[], fun {R} args ob K => match args, ob with
  | [.rd ⟨false, 3, (.int .i64), w⟩, .v (.int .i64 k)], [] => l_word_Check w k (fun r0 r1 => K (.tup [.v (.int .i64 r0), .v (.int .i64 r1)]) [])
  | _, _ => none⟩

theorem sound_word_Check : Sound Try.prog 59 (S_word_Check @l_word_Check) := by
  refine fn_sound (cuts := cuts_word_Check) (fn := Try.f59) (Γ := (T_word_Check @l_word_alphabet)) wide right_T_word_Check Try.func59 fun {R} K r args ob h => ?_
  unfold S_word_Check at h
  dsimp only at h
  split at h
  · obtain ⟨n, hn⟩ := ok_word_Check _ _ _ h
    refine ⟨Nat.le_of_ble_eq_true (by kernel_rfl), n, (gentry_word_Check @l_word_alphabet n K _ _).trans ?_⟩
    rw [(runs_word_Check K n)]
    exact hn
  · cases h

theorem call_word_Check : Callable Try.prog 59 := ⟨_, Try.func59, by kernel_rfl, by kernel_rfl⟩

def T_machine_From (l_word_Check : LT_word_Check) (l_machine_Check : LT_machine_Check) : FuncId → Option Sum := (addS (addS G0 59 (S_word_Check @l_word_Check)) 40 (S_machine_Check @l_machine_Check))

theorem right_T_machine_From : Right Try.prog (T_machine_From @l_word_Check @l_machine_Check) := (right_add (right_add right_G0 call_word_Check sound_word_Check) call_machine_Check sound_machine_Check)

abbrev cuts_machine_From : Cuts := [(10, [1, 3, 7, 42, 43, 44])]

abbrev sta_machine_From_10 (s : Int) (x42 : List Int) (x43 x44 o0 o0_1 o0_2 o0_3 : Int) (o0_4 o0_5 o1 : List Int) : St := ⟨fr0 82 [(1, .v (.int .i64 s)), (3, .ptr 0 0), (7, .own 1), (42, .rd ⟨false, 3, (.int .i64), x42⟩), (43, .v (.int .i64 x43)), (44, .v (.int .i64 x44))], [.box 51 [.v (.int .i64 o0), .v (.int .i64 o0_1), .v (.int .i64 o0_2), .v (.int .i64 o0_3), .rd ⟨false, 3, (.int .i64), o0_4⟩, .rd ⟨false, 3, (.int .i64), o0_5⟩], .row ⟨true, 3, (.int .i64), o1⟩]⟩

abbrev gt_machine_From_10 {R : Type} (g : List Item → St → Option R) : GT_machine_From_10 R := fun (s : Int) (x42 : List Int) (x43 x44 o0 o0_1 o0_2 o0_3 : Int) (o0_4 o0_5 o1 : List Int) => g (at' Try.f53 10) (sta_machine_From_10 s x42 x43 x44 o0 o0_1 o0_2 o0_3 o0_4 o0_5 o1)

theorem gstep_machine_From_10 (l_word_Check : LT_word_Check) (l_machine_Check : LT_machine_Check) {R : Type} (g : List Item → St → Option R) (K : AV → List O → Option R) (s : Int) (x42 : List Int) (x43 x44 o0 o0_1 o0_2 o0_3 : Int) (o0_4 o0_5 o1 : List Int) :
    runSeg Try.prog (T_machine_From @l_word_Check @l_machine_Check) cuts_machine_From 0 g (finish Try.prog Try.f53 0 K) (at' Try.f53 10) (sta_machine_From_10 s x42 x43 x44 o0 o0_1 o0_2 o0_3 o0_4 o0_5 o1) =
    (fun (g53_10 : GT_machine_From_10 R) (K0 : Int → Int → (List Int) → Option R) (s : Int) (x42 : List Int) (x43 x44 o0 o0_1 o0_2 o0_3 : Int) (o0_4 o0_5 o1 : List Int) =>
    bi (decide (x44 < x43))
     (bi (decide (0 ≤ x44 ∧ x44 < ((x42.length : Nat) : Int)))
      (bi (o0 == 2)
       (bi (decide (0 ≤ (IntKind.i64.wrap ((IntKind.i64.wrap (s * o0_1)) + (x42.getD x44.toNat 0))) ∧ (IntKind.i64.wrap ((IntKind.i64.wrap (s * o0_1)) + (x42.getD x44.toNat 0))) < ((o0_5.length : Nat) : Int)))
        (bi (decide ((o1.length + [o0_5.getD ((IntKind.i64.wrap ((IntKind.i64.wrap (s * o0_1)) + (x42.getD x44.toNat 0))).toNat) 0].length) * 8 ≤ lim))
         (bi (decide (0 ≤ (IntKind.i64.wrap ((IntKind.i64.wrap (s * o0_1)) + (x42.getD x44.toNat 0))) ∧ (IntKind.i64.wrap ((IntKind.i64.wrap (s * o0_1)) + (x42.getD x44.toNat 0))) < ((o0_4.length : Nat) : Int)))
          (g53_10 (o0_4.getD ((IntKind.i64.wrap ((IntKind.i64.wrap (s * o0_1)) + (x42.getD x44.toNat 0))).toNat) 0) x42 x43 (IntKind.i64.wrap (x44 + 1)) o0 o0_1 o0_2 o0_3 o0_4 o0_5 (o1 ++ [o0_5.getD ((IntKind.i64.wrap ((IntKind.i64.wrap (s * o0_1)) + (x42.getD x44.toNat 0))).toNat) 0]))
          none)
         none)
        none)
       (bi (decide (0 ≤ (IntKind.i64.wrap ((IntKind.i64.wrap (s * o0_1)) + (x42.getD x44.toNat 0))) ∧ (IntKind.i64.wrap ((IntKind.i64.wrap (s * o0_1)) + (x42.getD x44.toNat 0))) < ((o0_4.length : Nat) : Int)))
        (g53_10 (o0_4.getD ((IntKind.i64.wrap ((IntKind.i64.wrap (s * o0_1)) + (x42.getD x44.toNat 0))).toNat) 0) x42 x43 (IntKind.i64.wrap (x44 + 1)) o0 o0_1 o0_2 o0_3 o0_4 o0_5 o1)
        none))
      none)
     (bi (o0 == 1)
      (bi (decide (0 ≤ s ∧ s < ((o0_5.length : Nat) : Int)))
       (K0 s 0 [o0_5.getD s.toNat 0])
       none)
      (K0 s 0 o1))) (gt_machine_From_10 g) (fun r0 r1 r2 => K (.tup [.v (.int .i64 r0), .own 0, .v (.int .i64 r1)]) [.row ⟨true, 3, (.int .i64), r2⟩]) s x42 x43 x44 o0 o0_1 o0_2 o0_3 o0_4 o0_5 o1 := by kernel_rfl

theorem gentry_machine_From (l_word_Check : LT_word_Check) (l_machine_Check : LT_machine_Check) {R : Type} (fuel : Nat) (K : AV → List O → Option R) (m m_1 m_2 m_3 : Int) (m_4 m_5 : List Int) (s : Int) (w : List Int) :
    fnRun Try.prog (T_machine_From @l_word_Check @l_machine_Check) cuts_machine_From Try.f53 fuel [.agg [.v (.int .i64 m), .v (.int .i64 m_1), .v (.int .i64 m_2), .v (.int .i64 m_3), .rd ⟨false, 3, (.int .i64), m_4⟩, .rd ⟨false, 3, (.int .i64), m_5⟩], .v (.int .i64 s), .rd ⟨false, 3, (.int .i64), w⟩] [] K =
    (fun (g53_10 : GT_machine_From_10 R) (K0 : Int → Int → (List Int) → Option R) (m m_1 m_2 m_3 : Int) (m_4 m_5 : List Int) (s : Int) (w : List Int) =>
    l_machine_Check m m_1 m_2 m_3 m_4 m_5
     (fun r1 r2 =>
      bi (r2 != 0)
       (K0 0 r2 ([] : List Int))
       (bi (decide (s < 0))
        (K0 0 32 ([] : List Int))
        (bi (decide (s ≥ m_3))
         (K0 0 32 ([] : List Int))
         (l_word_Check w m_1
          (fun r3 r4 =>
           bi (r4 != 0)
            (K0 0 r4 ([] : List Int))
            (g53_10 s w (w.length : Int) 0 m m_1 m_2 m_3 m_4 m_5 ([] : List Int)))))))) (gt_machine_From_10 (runO Try.prog (T_machine_From @l_word_Check @l_machine_Check) cuts_machine_From 0 (finish Try.prog Try.f53 0 K) fuel)) (fun r0 r1 r2 => K (.tup [.v (.int .i64 r0), .own 0, .v (.int .i64 r1)]) [.row ⟨true, 3, (.int .i64), r2⟩]) m m_1 m_2 m_3 m_4 m_5 s w := by kernel_rfl

theorem runs_machine_From {R : Type} (K : AV → List O → Option R) : ∀ fuel : Nat,
    (gt_machine_From_10 (runO Try.prog (T_machine_From @l_word_Check @l_machine_Check) cuts_machine_From 0 (finish Try.prog Try.f53 0 K) fuel)) = (run_machine_From (fun r0 r1 r2 => K (.tup [.v (.int .i64 r0), .own 0, .v (.int .i64 r1)]) [.row ⟨true, 3, (.int .i64), r2⟩]) fuel)
  | 0 => rfl
  | fuel + 1 => by
    have ih := runs_machine_From K fuel
    funext s x42 x43 x44 o0 o0_1 o0_2 o0_3 o0_4 o0_5 o1
    refine (gstep_machine_From_10 @l_word_Check @l_machine_Check _ K s x42 x43 x44 o0 o0_1 o0_2 o0_3 o0_4 o0_5 o1).trans ?_
    rw [ih]
    rfl

def S_machine_From (l_machine_From : LT_machine_From) : Sum := ⟨[], fun {R} args ob K => match args, ob with
  | [.agg [.v (.int .i64 m), .v (.int .i64 m_1), .v (.int .i64 m_2), .v (.int .i64 m_3), .rd ⟨false, 3, (.int .i64), m_4⟩, .rd ⟨false, 3, (.int .i64), m_5⟩], .v (.int .i64 s), .rd ⟨false, 3, (.int .i64), w⟩], [] => l_machine_From m m_1 m_2 m_3 m_4 m_5 s w (fun r0 r1 r2 => K (.tup [.v (.int .i64 r0), .own 0, .v (.int .i64 r1)]) [.row ⟨true, 3, (.int .i64), r2⟩])
  | _, _ => none⟩

theorem sound_machine_From : Sound Try.prog 53 (S_machine_From @l_machine_From) := by
  refine fn_sound (cuts := cuts_machine_From) (fn := Try.f53) (Γ := (T_machine_From @l_word_Check @l_machine_Check)) wide right_T_machine_From Try.func53 fun {R} K r args ob h => ?_
  unfold S_machine_From at h
  dsimp only at h
  split at h
  · obtain ⟨n, hn⟩ := ok_machine_From _ _ _ _ _ _ _ _ _ h
    refine ⟨Nat.le_of_ble_eq_true (by kernel_rfl), n, (gentry_machine_From @l_word_Check @l_machine_Check n K _ _ _ _ _ _ _ _).trans ?_⟩
    rw [(runs_machine_From K n)]
    exact hn
  · cases h

theorem call_machine_From : Callable Try.prog 53 := ⟨_, Try.func53, by kernel_rfl, by kernel_rfl⟩

def T_machine_Run (l_machine_From : LT_machine_From) : FuncId → Option Sum := (addS G0 53 (S_machine_From @l_machine_From))

theorem right_T_machine_Run : Right Try.prog (T_machine_Run @l_machine_From) := (right_add right_G0 call_machine_From sound_machine_From)

abbrev cuts_machine_Run : Cuts := []

theorem gentry_machine_Run (l_machine_From : LT_machine_From) {R : Type} (K : AV → List O → Option R) (m m_1 m_2 m_3 : Int) (m_4 m_5 w : List Int) :
    fnRun Try.prog (T_machine_Run @l_machine_From) cuts_machine_Run Try.f43 0 [.agg [.v (.int .i64 m), .v (.int .i64 m_1), .v (.int .i64 m_2), .v (.int .i64 m_3), .rd ⟨false, 3, (.int .i64), m_4⟩, .rd ⟨false, 3, (.int .i64), m_5⟩], .rd ⟨false, 3, (.int .i64), w⟩] [] K =
    (fun (m m_1 m_2 m_3 : Int) (m_4 m_5 w : List Int) (K0 : Int → (List Int) → Option R) =>
    l_machine_From m m_1 m_2 m_3 m_4 m_5 0 w
     (fun r1 r2 r3 =>
      K0 r2 r3)) m m_1 m_2 m_3 m_4 m_5 w (fun r0 r1 => K (.tup [.own 0, .v (.int .i64 r0)]) [.row ⟨true, 3, (.int .i64), r1⟩]) := by kernel_rfl

def S_machine_Run (l_machine_Run : LT_machine_Run) : Sum := ⟨[], fun {R} args ob K => match args, ob with
  | [.agg [.v (.int .i64 m), .v (.int .i64 m_1), .v (.int .i64 m_2), .v (.int .i64 m_3), .rd ⟨false, 3, (.int .i64), m_4⟩, .rd ⟨false, 3, (.int .i64), m_5⟩], .rd ⟨false, 3, (.int .i64), w⟩], [] => l_machine_Run m m_1 m_2 m_3 m_4 m_5 w (fun r0 r1 => K (.tup [.own 0, .v (.int .i64 r0)]) [.row ⟨true, 3, (.int .i64), r1⟩])
  | _, _ => none⟩

theorem sound_machine_Run : Sound Try.prog 43 (S_machine_Run @l_machine_Run) := by
  refine fn_sound (cuts := cuts_machine_Run) (fn := Try.f43) (Γ := (T_machine_Run @l_machine_From)) wide right_T_machine_Run Try.func43 fun {R} K r args ob h => ?_
  unfold S_machine_Run at h
  dsimp only at h
  split at h
  · exact ⟨Nat.le_of_ble_eq_true (by kernel_rfl), 0, (gentry_machine_Run @l_machine_From K _ _ _ _ _ _ _).trans h⟩
  · cases h

theorem call_machine_Run : Callable Try.prog 43 := ⟨_, Try.func43, by kernel_rfl, by kernel_rfl⟩

def T_slices_Equal_int_int : FuncId → Option Sum := G0

theorem right_T_slices_Equal_int_int : Right Try.prog T_slices_Equal_int_int := right_G0

abbrev cuts_slices_Equal_int_int : Cuts := [(4, [0, 1, 12, 13])]

abbrev sta_slices_Equal_int_int_4 (s1 s2 : List Int) (x12 x13 : Int) : St := ⟨fr0 26 [(0, .rd ⟨false, 3, (.int .i64), s1⟩), (1, .rd ⟨false, 3, (.int .i64), s2⟩), (12, .v (.int .i64 x12)), (13, .v (.int .i64 x13))], []⟩

abbrev gt_slices_Equal_int_int_4 {R : Type} (g : List Item → St → Option R) : GT_slices_Equal_int_int_4 R := fun (s1 s2 : List Int) (x12 x13 : Int) => g (at' Try.f44 4) (sta_slices_Equal_int_int_4 s1 s2 x12 x13)

theorem gstep_slices_Equal_int_int_4 {R : Type} (g : List Item → St → Option R) (K : AV → List O → Option R) (s1 s2 : List Int) (x12 x13 : Int) :
    runSeg Try.prog T_slices_Equal_int_int cuts_slices_Equal_int_int 0 g (finish Try.prog Try.f44 0 K) (at' Try.f44 4) (sta_slices_Equal_int_int_4 s1 s2 x12 x13) =
    (fun (g44_4 : GT_slices_Equal_int_int_4 R) (K0 : Bool → Option R) (s1 s2 : List Int) (x12 x13 : Int) =>
    bi (decide (x13 < x12))
     (bi (decide (0 ≤ x13 ∧ x13 < ((s1.length : Nat) : Int)))
      (bi (decide (0 ≤ x13 ∧ x13 < ((s2.length : Nat) : Int)))
       (bi ((s1.getD x13.toNat 0) != (s2.getD x13.toNat 0))
        (K0 false)
        (g44_4 s1 s2 x12 (IntKind.i64.wrap (x13 + 1))))
       none)
      none)
     (K0 true)) (gt_slices_Equal_int_int_4 g) (fun r0 => K (.v (.bool r0)) []) s1 s2 x12 x13 := by kernel_rfl

theorem gentry_slices_Equal_int_int {R : Type} (fuel : Nat) (K : AV → List O → Option R) (s1 s2 : List Int) :
    fnRun Try.prog T_slices_Equal_int_int cuts_slices_Equal_int_int Try.f44 fuel [.rd ⟨false, 3, (.int .i64), s1⟩, .rd ⟨false, 3, (.int .i64), s2⟩] [] K =
    (fun (g44_4 : GT_slices_Equal_int_int_4 R) (K0 : Bool → Option R) (s1 s2 : List Int) =>
    bi ((s1.length : Int) != (s2.length : Int))
     (K0 false)
     (g44_4 s1 s2 (s1.length : Int) 0)) (gt_slices_Equal_int_int_4 (runO Try.prog T_slices_Equal_int_int cuts_slices_Equal_int_int 0 (finish Try.prog Try.f44 0 K) fuel)) (fun r0 => K (.v (.bool r0)) []) s1 s2 := by kernel_rfl

theorem runs_slices_Equal_int_int {R : Type} (K : AV → List O → Option R) : ∀ fuel : Nat,
    (gt_slices_Equal_int_int_4 (runO Try.prog T_slices_Equal_int_int cuts_slices_Equal_int_int 0 (finish Try.prog Try.f44 0 K) fuel)) = (run_slices_Equal_int_int (fun r0 => K (.v (.bool r0)) []) fuel)
  | 0 => rfl
  | fuel + 1 => by
    have ih := runs_slices_Equal_int_int K fuel
    funext s1 s2 x12 x13
    refine (gstep_slices_Equal_int_int_4 _ K s1 s2 x12 x13).trans ?_
    rw [ih]
    rfl

def S_slices_Equal_int_int (l_slices_Equal_int_int : LT_slices_Equal_int_int) : Sum := ⟨[], fun {R} args ob K => match args, ob with
  | [.rd ⟨false, 3, (.int .i64), s1⟩, .rd ⟨false, 3, (.int .i64), s2⟩], [] => l_slices_Equal_int_int s1 s2 (fun r0 => K (.v (.bool r0)) [])
  | _, _ => none⟩

theorem sound_slices_Equal_int_int : Sound Try.prog 44 (S_slices_Equal_int_int @l_slices_Equal_int_int) := by
  refine fn_sound (cuts := cuts_slices_Equal_int_int) (fn := Try.f44) (Γ := T_slices_Equal_int_int) wide right_T_slices_Equal_int_int Try.func44 fun {R} K r args ob h => ?_
  unfold S_slices_Equal_int_int at h
  dsimp only at h
  split at h
  · obtain ⟨n, hn⟩ := ok_slices_Equal_int_int _ _ _ h
    refine ⟨Nat.le_of_ble_eq_true (by kernel_rfl), n, (gentry_slices_Equal_int_int n K _ _).trans ?_⟩
    rw [(runs_slices_Equal_int_int K n)]
    exact hn
  · cases h

theorem call_slices_Equal_int_int : Callable Try.prog 44 := ⟨_, Try.func44, by kernel_rfl, by kernel_rfl⟩

def T_round_of_walk_Hunt (l_slices_Equal_int_int : LT_slices_Equal_int_int) (l_machine_Run : LT_machine_Run) : FuncId → Option Sum := (addS (addS G0 44 (S_slices_Equal_int_int @l_slices_Equal_int_int)) 43 (S_machine_Run @l_machine_Run))

theorem right_T_round_of_walk_Hunt : Right Try.prog (T_round_of_walk_Hunt @l_slices_Equal_int_int @l_machine_Run) := (right_add (right_add right_G0 call_slices_Equal_int_int sound_slices_Equal_int_int) call_machine_Run sound_machine_Run)

theorem gentry_round_of_walk_Hunt (l_slices_Equal_int_int : LT_slices_Equal_int_int) (l_machine_Run : LT_machine_Run) {R : Type} (K : AV → List O → Option R) (o1 o1_1 o1_2 o1_3 : Int) (o1_4 o1_5 : List Int) (o2 o2_1 o2_2 o2_3 : Int) (o2_4 o2_5 o4 : List Int) (o5 o6 : Int) (o7 : List Int) :
    roundRun Try.prog (T_round_of_walk_Hunt @l_slices_Equal_int_int @l_machine_Run) 30 [.yld 0, .own 7] [.loop 30 (.un :: .un :: .un :: .un :: .un :: .un :: .ptr 1 0 :: .ptr 2 0 :: .un :: .un :: .un :: .un :: .ptr 3 0 :: .ptr 5 0 :: .ptr 6 0 :: .un :: .un :: .un :: .un :: .un :: .un :: .un :: .un :: .un :: .un :: .un :: .un :: .un :: .un :: .un :: .un :: .un :: .un :: .un :: .un :: .un :: .un :: .un :: .un :: .un :: .un :: .un :: .un :: .un :: .un :: .un :: .un :: .un :: .un :: .un :: .un :: .un :: .un :: .un :: .un :: .un :: .un :: .un :: .un :: .un :: .un :: .un :: .un :: .un :: .un :: .un :: .un :: .un :: .un :: .un :: .un :: []) 0, .box 51 [.v (.int .i64 o1), .v (.int .i64 o1_1), .v (.int .i64 o1_2), .v (.int .i64 o1_3), .rd ⟨false, 3, (.int .i64), o1_4⟩, .rd ⟨false, 3, (.int .i64), o1_5⟩], .box 51 [.v (.int .i64 o2), .v (.int .i64 o2_1), .v (.int .i64 o2_2), .v (.int .i64 o2_3), .rd ⟨false, 3, (.int .i64), o2_4⟩, .rd ⟨false, 3, (.int .i64), o2_5⟩], .box 33 [.own 4], .row ⟨false, 3, (.int .i64), o4⟩, .box 3 [.v (.int .i64 o5)], .box 34 [.v (.int .i64 o6)], .row ⟨false, 3, (.int .i64), o7⟩] K =
    (fun (o1 o1_1 o1_2 o1_3 : Int) (o1_4 o1_5 : List Int) (o2 o2_1 o2_2 o2_3 : Int) (o2_4 o2_5 o4 : List Int) (o5 o6 : Int) (o7 : List Int) (K0 : Int → Int → Int → Int → (List Int) → (List Int) → Int → Int → Int → Int → (List Int) → (List Int) → (List Int) → Int → Int → (List Int) → Option R) (K1 : Int → Int → Int → Int → (List Int) → (List Int) → Int → Int → Int → Int → (List Int) → (List Int) → (List Int) → Int → Int → (List Int) → Option R) =>
    l_machine_Run o1 o1_1 o1_2 o1_3 o1_4 o1_5 o7
     (fun r1 r2 =>
      l_machine_Run o2 o2_1 o2_2 o2_3 o2_4 o2_5 o7
       (fun r3 r4 =>
        l_slices_Equal_int_int r2 r4
         (fun r5 =>
          bi (!r5)
           (twice
            (K0 o1 o1_1 o1_2 o1_3 o1_4 o1_5 o2 o2_1 o2_2 o2_3 o2_4 o2_5 o4 (IntKind.i64.wrap (o5 + 1)) 0 o7))
           (K1 o1 o1_1 o1_2 o1_3 o1_4 o1_5 o2 o2_1 o2_2 o2_3 o2_4 o2_5 o4 (IntKind.i64.wrap (o5 + 1)) o6 o7))))) o1 o1_1 o1_2 o1_3 o1_4 o1_5 o2 o2_1 o2_2 o2_3 o2_4 o2_5 o4 o5 o6 o7 (fun r0 r1 r2 r3 r4 r5 r6 r7 r8 r9 r10 r11 r12 r13 r14 r15 => K (.v (.bool false)) [.loop 30 (.un :: .un :: .un :: .un :: .un :: .un :: .ptr 1 0 :: .ptr 2 0 :: .un :: .un :: .un :: .un :: .ptr 3 0 :: .ptr 5 0 :: .ptr 6 0 :: .un :: .un :: .un :: .un :: .un :: .un :: .un :: .un :: .un :: .un :: .un :: .un :: .un :: .un :: .un :: .un :: .un :: .un :: .un :: .un :: .un :: .un :: .un :: .un :: .un :: .un :: .un :: .un :: .un :: .un :: .un :: .un :: .un :: .un :: .un :: .un :: .un :: .un :: .un :: .un :: .un :: .un :: .un :: .un :: .un :: .un :: .un :: .un :: .un :: .un :: .un :: .un :: .un :: .un :: .un :: .un :: []) 2, .box 51 [.v (.int .i64 r0), .v (.int .i64 r1), .v (.int .i64 r2), .v (.int .i64 r3), .rd ⟨false, 3, (.int .i64), r4⟩, .rd ⟨false, 3, (.int .i64), r5⟩], .box 51 [.v (.int .i64 r6), .v (.int .i64 r7), .v (.int .i64 r8), .v (.int .i64 r9), .rd ⟨false, 3, (.int .i64), r10⟩, .rd ⟨false, 3, (.int .i64), r11⟩], .box 33 [.own 7], .row ⟨false, 3, (.int .i64), r12⟩, .box 3 [.v (.int .i64 r13)], .box 34 [.v (.int .i64 r14)], .row ⟨false, 3, (.int .i64), r15⟩]) (fun r0 r1 r2 r3 r4 r5 r6 r7 r8 r9 r10 r11 r12 r13 r14 r15 => K (.v (.bool true)) [.loop 30 (.un :: .un :: .un :: .un :: .un :: .un :: .ptr 1 0 :: .ptr 2 0 :: .un :: .un :: .un :: .un :: .ptr 3 0 :: .ptr 5 0 :: .ptr 6 0 :: .un :: .un :: .un :: .un :: .un :: .un :: .un :: .un :: .un :: .un :: .un :: .un :: .un :: .un :: .un :: .un :: .un :: .un :: .un :: .un :: .un :: .un :: .un :: .un :: .un :: .un :: .un :: .un :: .un :: .un :: .un :: .un :: .un :: .un :: .un :: .un :: .un :: .un :: .un :: .un :: .un :: .un :: .un :: .un :: .un :: .un :: .un :: .un :: .un :: .un :: .un :: .un :: .un :: .un :: .un :: .un :: []) 0, .box 51 [.v (.int .i64 r0), .v (.int .i64 r1), .v (.int .i64 r2), .v (.int .i64 r3), .rd ⟨false, 3, (.int .i64), r4⟩, .rd ⟨false, 3, (.int .i64), r5⟩], .box 51 [.v (.int .i64 r6), .v (.int .i64 r7), .v (.int .i64 r8), .v (.int .i64 r9), .rd ⟨false, 3, (.int .i64), r10⟩, .rd ⟨false, 3, (.int .i64), r11⟩], .box 33 [.own 4], .row ⟨false, 3, (.int .i64), r12⟩, .box 3 [.v (.int .i64 r13)], .box 34 [.v (.int .i64 r14)], .row ⟨false, 3, (.int .i64), r15⟩]) := by kernel_rfl

def S_round_of_walk_Hunt (l_round_of_walk_Hunt : LT_round_of_walk_Hunt) : Sum := ⟨[1, 99], fun {R} args ob K => match args, ob with
  | [.yld 0, .own 7], [.loop 30 (.un :: .un :: .un :: .un :: .un :: .un :: .ptr 1 0 :: .ptr 2 0 :: .un :: .un :: .un :: .un :: .ptr 3 0 :: .ptr 5 0 :: .ptr 6 0 :: .un :: .un :: .un :: .un :: .un :: .un :: .un :: .un :: .un :: .un :: .un :: .un :: .un :: .un :: .un :: .un :: .un :: .un :: .un :: .un :: .un :: .un :: .un :: .un :: .un :: .un :: .un :: .un :: .un :: .un :: .un :: .un :: .un :: .un :: .un :: .un :: .un :: .un :: .un :: .un :: .un :: .un :: .un :: .un :: .un :: .un :: .un :: .un :: .un :: .un :: .un :: .un :: .un :: .un :: .un :: .un :: []) 0, .box 51 [.v (.int .i64 o1), .v (.int .i64 o1_1), .v (.int .i64 o1_2), .v (.int .i64 o1_3), .rd ⟨false, 3, (.int .i64), o1_4⟩, .rd ⟨false, 3, (.int .i64), o1_5⟩], .box 51 [.v (.int .i64 o2), .v (.int .i64 o2_1), .v (.int .i64 o2_2), .v (.int .i64 o2_3), .rd ⟨false, 3, (.int .i64), o2_4⟩, .rd ⟨false, 3, (.int .i64), o2_5⟩], .box 33 [.own 4], .row ⟨false, 3, (.int .i64), o4⟩, .box 3 [.v (.int .i64 o5)], .box 34 [.v (.int .i64 o6)], .row ⟨false, 3, (.int .i64), o7⟩] => l_round_of_walk_Hunt o1 o1_1 o1_2 o1_3 o1_4 o1_5 o2 o2_1 o2_2 o2_3 o2_4 o2_5 o4 o5 o6 o7 (fun r0 r1 r2 r3 r4 r5 r6 r7 r8 r9 r10 r11 r12 r13 r14 r15 => K (.v (.bool false)) [.loop 30 (.un :: .un :: .un :: .un :: .un :: .un :: .ptr 1 0 :: .ptr 2 0 :: .un :: .un :: .un :: .un :: .ptr 3 0 :: .ptr 5 0 :: .ptr 6 0 :: .un :: .un :: .un :: .un :: .un :: .un :: .un :: .un :: .un :: .un :: .un :: .un :: .un :: .un :: .un :: .un :: .un :: .un :: .un :: .un :: .un :: .un :: .un :: .un :: .un :: .un :: .un :: .un :: .un :: .un :: .un :: .un :: .un :: .un :: .un :: .un :: .un :: .un :: .un :: .un :: .un :: .un :: .un :: .un :: .un :: .un :: .un :: .un :: .un :: .un :: .un :: .un :: .un :: .un :: .un :: .un :: []) 2, .box 51 [.v (.int .i64 r0), .v (.int .i64 r1), .v (.int .i64 r2), .v (.int .i64 r3), .rd ⟨false, 3, (.int .i64), r4⟩, .rd ⟨false, 3, (.int .i64), r5⟩], .box 51 [.v (.int .i64 r6), .v (.int .i64 r7), .v (.int .i64 r8), .v (.int .i64 r9), .rd ⟨false, 3, (.int .i64), r10⟩, .rd ⟨false, 3, (.int .i64), r11⟩], .box 33 [.own 7], .row ⟨false, 3, (.int .i64), r12⟩, .box 3 [.v (.int .i64 r13)], .box 34 [.v (.int .i64 r14)], .row ⟨false, 3, (.int .i64), r15⟩]) (fun r0 r1 r2 r3 r4 r5 r6 r7 r8 r9 r10 r11 r12 r13 r14 r15 => K (.v (.bool true)) [.loop 30 (.un :: .un :: .un :: .un :: .un :: .un :: .ptr 1 0 :: .ptr 2 0 :: .un :: .un :: .un :: .un :: .ptr 3 0 :: .ptr 5 0 :: .ptr 6 0 :: .un :: .un :: .un :: .un :: .un :: .un :: .un :: .un :: .un :: .un :: .un :: .un :: .un :: .un :: .un :: .un :: .un :: .un :: .un :: .un :: .un :: .un :: .un :: .un :: .un :: .un :: .un :: .un :: .un :: .un :: .un :: .un :: .un :: .un :: .un :: .un :: .un :: .un :: .un :: .un :: .un :: .un :: .un :: .un :: .un :: .un :: .un :: .un :: .un :: .un :: .un :: .un :: .un :: .un :: .un :: .un :: []) 0, .box 51 [.v (.int .i64 r0), .v (.int .i64 r1), .v (.int .i64 r2), .v (.int .i64 r3), .rd ⟨false, 3, (.int .i64), r4⟩, .rd ⟨false, 3, (.int .i64), r5⟩], .box 51 [.v (.int .i64 r6), .v (.int .i64 r7), .v (.int .i64 r8), .v (.int .i64 r9), .rd ⟨false, 3, (.int .i64), r10⟩, .rd ⟨false, 3, (.int .i64), r11⟩], .box 33 [.own 4], .row ⟨false, 3, (.int .i64), r12⟩, .box 3 [.v (.int .i64 r13)], .box 34 [.v (.int .i64 r14)], .row ⟨false, 3, (.int .i64), r15⟩])
  | _, _ => none⟩

theorem sound_round_of_walk_Hunt : SoundY Try.prog (S_round_of_walk_Hunt @l_round_of_walk_Hunt) := by
  refine round_sound (key := 30) (Γ := (T_round_of_walk_Hunt @l_slices_Equal_int_int @l_machine_Run)) wide right_T_round_of_walk_Hunt rfl fun {R} K r args ob h => ?_
  unfold S_round_of_walk_Hunt at h
  dsimp only at h
  split at h
  · exact (gentry_round_of_walk_Hunt @l_slices_Equal_int_int @l_machine_Run K _ _ _ _ _ _ _ _ _ _ _ _ _ _ _ _).trans h
  · cases h

def T_walk_drawn_1 (l_walk_New : LT_walk_New) (l_round_of_walk_Hunt : LT_round_of_walk_Hunt) (l_walk_Walk_Word : LT_walk_Walk_Word) : FuncId → Option Sum := (addS (addS (addS G0 10 (S_walk_New @l_walk_New)) 30 (S_round_of_walk_Hunt @l_round_of_walk_Hunt)) 14 (S_walk_Walk_Word @l_walk_Walk_Word))

theorem right_T_walk_drawn_1 : Right Try.prog (T_walk_drawn_1 @l_walk_New @l_round_of_walk_Hunt @l_walk_Walk_Word) := (right_add (right_yld (right_add right_G0 call_walk_New sound_walk_New) sound_round_of_walk_Hunt) call_walk_Walk_Word sound_walk_Walk_Word)

abbrev cuts_walk_drawn_1_ywalk_Hunt : Cuts := [(2, [0, 3, 4, 5, 7, 12, 13])]

abbrev sta_walk_drawn_1_ywalk_Hunt_2 (x12 x13 o1 o1_1 o1_2 o1_3 : Int) (o1_4 o1_5 : List Int) (o2 o2_1 o2_2 o2_3 : Int) (o2_4 o2_5 o4 : List Int) (o5 o6 o7 o8 o9 o10 o11 o12 : Int) : St := ⟨fr0 28 [(0, .yld 0), (3, .ptr 9 0), (4, .ptr 10 0), (5, .ptr 11 0), (7, .ptr 12 0), (12, .v (.int .i64 x12)), (13, .v (.int .i64 x13))], [.loop 30 (.un :: .un :: .un :: .un :: .un :: .un :: .ptr 1 0 :: .ptr 2 0 :: .un :: .un :: .un :: .un :: .ptr 3 0 :: .ptr 5 0 :: .ptr 6 0 :: .un :: .un :: .un :: .un :: .un :: .un :: .un :: .un :: .un :: .un :: .un :: .un :: .un :: .un :: .un :: .un :: .un :: .un :: .un :: .un :: .un :: .un :: .un :: .un :: .un :: .un :: .un :: .un :: .un :: .un :: .un :: .un :: .un :: .un :: .un :: .un :: .un :: .un :: .un :: .un :: .un :: .un :: .un :: .un :: .un :: .un :: .un :: .un :: .un :: .un :: .un :: .un :: .un :: .un :: .un :: .un :: []) 0, .box 51 [.v (.int .i64 o1), .v (.int .i64 o1_1), .v (.int .i64 o1_2), .v (.int .i64 o1_3), .rd ⟨false, 3, (.int .i64), o1_4⟩, .rd ⟨false, 3, (.int .i64), o1_5⟩], .box 51 [.v (.int .i64 o2), .v (.int .i64 o2_1), .v (.int .i64 o2_2), .v (.int .i64 o2_3), .rd ⟨false, 3, (.int .i64), o2_4⟩, .rd ⟨false, 3, (.int .i64), o2_5⟩], .box 33 [.own 4], .row ⟨false, 3, (.int .i64), o4⟩, .box 3 [.v (.int .i64 o5)], .box 34 [.v (.int .i64 o6)], .box 22 [.v (.int .u64 o7)], .box 3 [.v (.int .i64 o8)], .box 3 [.v (.int .i64 o9)], .box 3 [.v (.int .i64 o10)], .box 3 [.v (.int .i64 o11)], .box 80 [.v (.int .u64 o12)]]⟩

abbrev gt_walk_drawn_1_ywalk_Hunt_2 {R : Type} (g : List Item → St → Option R) : GT_walk_drawn_1_ywalk_Hunt_2 R := fun (x12 x13 o1 o1_1 o1_2 o1_3 : Int) (o1_4 o1_5 : List Int) (o2 o2_1 o2_2 o2_3 : Int) (o2_4 o2_5 o4 : List Int) (o5 o6 o7 o8 o9 o10 o11 o12 : Int) => g (at' Try.f48 2) (sta_walk_drawn_1_ywalk_Hunt_2 x12 x13 o1 o1_1 o1_2 o1_3 o1_4 o1_5 o2 o2_1 o2_2 o2_3 o2_4 o2_5 o4 o5 o6 o7 o8 o9 o10 o11 o12)

theorem gstep_walk_drawn_1_ywalk_Hunt_2 (l_walk_New : LT_walk_New) (l_round_of_walk_Hunt : LT_round_of_walk_Hunt) (l_walk_Walk_Word : LT_walk_Walk_Word) {R : Type} (g : List Item → St → Option R) (K : AV → List O → Option R) (x12 x13 o1 o1_1 o1_2 o1_3 : Int) (o1_4 o1_5 : List Int) (o2 o2_1 o2_2 o2_3 : Int) (o2_4 o2_5 o4 : List Int) (o5 o6 o7 o8 o9 o10 o11 o12 : Int) :
    runSeg Try.prog (T_walk_drawn_1 @l_walk_New @l_round_of_walk_Hunt @l_walk_Walk_Word) cuts_walk_drawn_1_ywalk_Hunt 12 g (finish Try.prog Try.f48 12 K) (at' Try.f48 2) (sta_walk_drawn_1_ywalk_Hunt_2 x12 x13 o1 o1_1 o1_2 o1_3 o1_4 o1_5 o2 o2_1 o2_2 o2_3 o2_4 o2_5 o4 o5 o6 o7 o8 o9 o10 o11 o12) =
    (fun (g48_2 : GT_walk_drawn_1_ywalk_Hunt_2 R) (K0 : Int → Int → Int → Int → (List Int) → (List Int) → Int → Int → Int → Int → (List Int) → (List Int) → (List Int) → Int → Int → Int → Int → Int → Int → Int → (List Int) → Option R) (K1 : Int → Int → Int → Int → (List Int) → (List Int) → Int → Int → Int → Int → (List Int) → (List Int) → (List Int) → Int → Int → Int → Int → Int → Int → Int → Option R) (x12 x13 o1 o1_1 o1_2 o1_3 : Int) (o1_4 o1_5 : List Int) (o2 o2_1 o2_2 o2_3 : Int) (o2_4 o2_5 o4 : List Int) (o5 o6 o7 o8 o9 o10 o11 o12 : Int) =>
    bi (decide (x13 < x12))
     (l_walk_Walk_Word o9 o10 o11 o12
      (fun r2 r3 r4 =>
       l_round_of_walk_Hunt o1 o1_1 o1_2 o1_3 o1_4 o1_5 o2 o2_1 o2_2 o2_3 o2_4 o2_5 o4 o5 o6 r4
        (fun r5 r6 r7 r8 r9 r10 r11 r12 r13 r14 r15 r16 r17 r18 r19 r20 =>
         K0 r5 r6 r7 r8 r9 r10 r11 r12 r13 r14 r15 r16 r17 r18 r19 o7 o8 o9 o10 o11 r20)
        (fun r21 r22 r23 r24 r25 r26 r27 r28 r29 r30 r31 r32 r33 r34 r35 r36 =>
         g48_2 x12 (IntKind.i64.wrap (x13 + 1)) r21 r22 r23 r24 r25 r26 r27 r28 r29 r30 r31 r32 r33 r34 r35 o7 o8 o9 o10 o11 r3)))
     (K1 o1 o1_1 o1_2 o1_3 o1_4 o1_5 o2 o2_1 o2_2 o2_3 o2_4 o2_5 o4 o5 o6 o7 o8 o9 o10 o11)) (gt_walk_drawn_1_ywalk_Hunt_2 g) (fun r0 r1 r2 r3 r4 r5 r6 r7 r8 r9 r10 r11 r12 r13 r14 r15 r16 r17 r18 r19 r20 => K (.tup []) [.loop 30 (.un :: .un :: .un :: .un :: .un :: .un :: .ptr 1 0 :: .ptr 2 0 :: .un :: .un :: .un :: .un :: .ptr 3 0 :: .ptr 5 0 :: .ptr 6 0 :: .un :: .un :: .un :: .un :: .un :: .un :: .un :: .un :: .un :: .un :: .un :: .un :: .un :: .un :: .un :: .un :: .un :: .un :: .un :: .un :: .un :: .un :: .un :: .un :: .un :: .un :: .un :: .un :: .un :: .un :: .un :: .un :: .un :: .un :: .un :: .un :: .un :: .un :: .un :: .un :: .un :: .un :: .un :: .un :: .un :: .un :: .un :: .un :: .un :: .un :: .un :: .un :: .un :: .un :: .un :: .un :: []) 2, .box 51 [.v (.int .i64 r0), .v (.int .i64 r1), .v (.int .i64 r2), .v (.int .i64 r3), .rd ⟨false, 3, (.int .i64), r4⟩, .rd ⟨false, 3, (.int .i64), r5⟩], .box 51 [.v (.int .i64 r6), .v (.int .i64 r7), .v (.int .i64 r8), .v (.int .i64 r9), .rd ⟨false, 3, (.int .i64), r10⟩, .rd ⟨false, 3, (.int .i64), r11⟩], .box 33 [.own 12], .row ⟨false, 3, (.int .i64), r12⟩, .box 3 [.v (.int .i64 r13)], .box 34 [.v (.int .i64 r14)], .box 22 [.v (.int .u64 r15)], .box 3 [.v (.int .i64 r16)], .box 3 [.v (.int .i64 r17)], .box 3 [.v (.int .i64 r18)], .box 3 [.v (.int .i64 r19)], .row ⟨true, 3, (.int .i64), r20⟩]) (fun r0 r1 r2 r3 r4 r5 r6 r7 r8 r9 r10 r11 r12 r13 r14 r15 r16 r17 r18 r19 => K (.tup []) [.loop 30 (.un :: .un :: .un :: .un :: .un :: .un :: .ptr 1 0 :: .ptr 2 0 :: .un :: .un :: .un :: .un :: .ptr 3 0 :: .ptr 5 0 :: .ptr 6 0 :: .un :: .un :: .un :: .un :: .un :: .un :: .un :: .un :: .un :: .un :: .un :: .un :: .un :: .un :: .un :: .un :: .un :: .un :: .un :: .un :: .un :: .un :: .un :: .un :: .un :: .un :: .un :: .un :: .un :: .un :: .un :: .un :: .un :: .un :: .un :: .un :: .un :: .un :: .un :: .un :: .un :: .un :: .un :: .un :: .un :: .un :: .un :: .un :: .un :: .un :: .un :: .un :: .un :: .un :: .un :: .un :: []) 0, .box 51 [.v (.int .i64 r0), .v (.int .i64 r1), .v (.int .i64 r2), .v (.int .i64 r3), .rd ⟨false, 3, (.int .i64), r4⟩, .rd ⟨false, 3, (.int .i64), r5⟩], .box 51 [.v (.int .i64 r6), .v (.int .i64 r7), .v (.int .i64 r8), .v (.int .i64 r9), .rd ⟨false, 3, (.int .i64), r10⟩, .rd ⟨false, 3, (.int .i64), r11⟩], .box 33 [.own 4], .row ⟨false, 3, (.int .i64), r12⟩, .box 3 [.v (.int .i64 r13)], .box 34 [.v (.int .i64 r14)], .box 22 [.v (.int .u64 r15)], .box 3 [.v (.int .i64 r16)], .box 3 [.v (.int .i64 r17)], .box 3 [.v (.int .i64 r18)], .box 3 [.v (.int .i64 r19)]]) x12 x13 o1 o1_1 o1_2 o1_3 o1_4 o1_5 o2 o2_1 o2_2 o2_3 o2_4 o2_5 o4 o5 o6 o7 o8 o9 o10 o11 o12 := by kernel_rfl

theorem gentry_walk_drawn_1_ywalk_Hunt (l_walk_New : LT_walk_New) (l_round_of_walk_Hunt : LT_round_of_walk_Hunt) (l_walk_Walk_Word : LT_walk_Walk_Word) {R : Type} (fuel : Nat) (K : AV → List O → Option R) (o1 o1_1 o1_2 o1_3 : Int) (o1_4 o1_5 : List Int) (o2 o2_1 o2_2 o2_3 : Int) (o2_4 o2_5 o4 : List Int) (o5 o6 o7 o8 o9 o10 o11 : Int) :
    fnRun Try.prog (T_walk_drawn_1 @l_walk_New @l_round_of_walk_Hunt @l_walk_Walk_Word) cuts_walk_drawn_1_ywalk_Hunt Try.f48 fuel [.yld 0, .ptr 7 0, .ptr 8 0, .ptr 9 0, .ptr 10 0, .ptr 11 0] [.loop 30 (.un :: .un :: .un :: .un :: .un :: .un :: .ptr 1 0 :: .ptr 2 0 :: .un :: .un :: .un :: .un :: .ptr 3 0 :: .ptr 5 0 :: .ptr 6 0 :: .un :: .un :: .un :: .un :: .un :: .un :: .un :: .un :: .un :: .un :: .un :: .un :: .un :: .un :: .un :: .un :: .un :: .un :: .un :: .un :: .un :: .un :: .un :: .un :: .un :: .un :: .un :: .un :: .un :: .un :: .un :: .un :: .un :: .un :: .un :: .un :: .un :: .un :: .un :: .un :: .un :: .un :: .un :: .un :: .un :: .un :: .un :: .un :: .un :: .un :: .un :: .un :: .un :: .un :: .un :: .un :: []) 0, .box 51 [.v (.int .i64 o1), .v (.int .i64 o1_1), .v (.int .i64 o1_2), .v (.int .i64 o1_3), .rd ⟨false, 3, (.int .i64), o1_4⟩, .rd ⟨false, 3, (.int .i64), o1_5⟩], .box 51 [.v (.int .i64 o2), .v (.int .i64 o2_1), .v (.int .i64 o2_2), .v (.int .i64 o2_3), .rd ⟨false, 3, (.int .i64), o2_4⟩, .rd ⟨false, 3, (.int .i64), o2_5⟩], .box 33 [.own 4], .row ⟨false, 3, (.int .i64), o4⟩, .box 3 [.v (.int .i64 o5)], .box 34 [.v (.int .i64 o6)], .box 22 [.v (.int .u64 o7)], .box 3 [.v (.int .i64 o8)], .box 3 [.v (.int .i64 o9)], .box 3 [.v (.int .i64 o10)], .box 3 [.v (.int .i64 o11)]] K =
    (fun (g48_2 : GT_walk_drawn_1_ywalk_Hunt_2 R) (K0 : Int → Int → Int → Int → (List Int) → (List Int) → Int → Int → Int → Int → (List Int) → (List Int) → (List Int) → Int → Int → Int → Int → Int → Int → Int → (List Int) → Option R) (K1 : Int → Int → Int → Int → (List Int) → (List Int) → Int → Int → Int → Int → (List Int) → (List Int) → (List Int) → Int → Int → Int → Int → Int → Int → Int → Option R) (o1 o1_1 o1_2 o1_3 : Int) (o1_4 o1_5 : List Int) (o2 o2_1 o2_2 o2_3 : Int) (o2_4 o2_5 o4 : List Int) (o5 o6 o7 o8 o9 o10 o11 : Int) =>
    l_walk_New o7
     (fun r1 =>
      g48_2 o8 0 o1 o1_1 o1_2 o1_3 o1_4 o1_5 o2 o2_1 o2_2 o2_3 o2_4 o2_5 o4 o5 o6 o7 o8 o9 o10 o11 r1)) (gt_walk_drawn_1_ywalk_Hunt_2 (runO Try.prog (T_walk_drawn_1 @l_walk_New @l_round_of_walk_Hunt @l_walk_Walk_Word) cuts_walk_drawn_1_ywalk_Hunt 12 (finish Try.prog Try.f48 12 K) fuel)) (fun r0 r1 r2 r3 r4 r5 r6 r7 r8 r9 r10 r11 r12 r13 r14 r15 r16 r17 r18 r19 r20 => K (.tup []) [.loop 30 (.un :: .un :: .un :: .un :: .un :: .un :: .ptr 1 0 :: .ptr 2 0 :: .un :: .un :: .un :: .un :: .ptr 3 0 :: .ptr 5 0 :: .ptr 6 0 :: .un :: .un :: .un :: .un :: .un :: .un :: .un :: .un :: .un :: .un :: .un :: .un :: .un :: .un :: .un :: .un :: .un :: .un :: .un :: .un :: .un :: .un :: .un :: .un :: .un :: .un :: .un :: .un :: .un :: .un :: .un :: .un :: .un :: .un :: .un :: .un :: .un :: .un :: .un :: .un :: .un :: .un :: .un :: .un :: .un :: .un :: .un :: .un :: .un :: .un :: .un :: .un :: .un :: .un :: .un :: .un :: []) 2, .box 51 [.v (.int .i64 r0), .v (.int .i64 r1), .v (.int .i64 r2), .v (.int .i64 r3), .rd ⟨false, 3, (.int .i64), r4⟩, .rd ⟨false, 3, (.int .i64), r5⟩], .box 51 [.v (.int .i64 r6), .v (.int .i64 r7), .v (.int .i64 r8), .v (.int .i64 r9), .rd ⟨false, 3, (.int .i64), r10⟩, .rd ⟨false, 3, (.int .i64), r11⟩], .box 33 [.own 12], .row ⟨false, 3, (.int .i64), r12⟩, .box 3 [.v (.int .i64 r13)], .box 34 [.v (.int .i64 r14)], .box 22 [.v (.int .u64 r15)], .box 3 [.v (.int .i64 r16)], .box 3 [.v (.int .i64 r17)], .box 3 [.v (.int .i64 r18)], .box 3 [.v (.int .i64 r19)], .row ⟨true, 3, (.int .i64), r20⟩]) (fun r0 r1 r2 r3 r4 r5 r6 r7 r8 r9 r10 r11 r12 r13 r14 r15 r16 r17 r18 r19 => K (.tup []) [.loop 30 (.un :: .un :: .un :: .un :: .un :: .un :: .ptr 1 0 :: .ptr 2 0 :: .un :: .un :: .un :: .un :: .ptr 3 0 :: .ptr 5 0 :: .ptr 6 0 :: .un :: .un :: .un :: .un :: .un :: .un :: .un :: .un :: .un :: .un :: .un :: .un :: .un :: .un :: .un :: .un :: .un :: .un :: .un :: .un :: .un :: .un :: .un :: .un :: .un :: .un :: .un :: .un :: .un :: .un :: .un :: .un :: .un :: .un :: .un :: .un :: .un :: .un :: .un :: .un :: .un :: .un :: .un :: .un :: .un :: .un :: .un :: .un :: .un :: .un :: .un :: .un :: .un :: .un :: .un :: .un :: []) 0, .box 51 [.v (.int .i64 r0), .v (.int .i64 r1), .v (.int .i64 r2), .v (.int .i64 r3), .rd ⟨false, 3, (.int .i64), r4⟩, .rd ⟨false, 3, (.int .i64), r5⟩], .box 51 [.v (.int .i64 r6), .v (.int .i64 r7), .v (.int .i64 r8), .v (.int .i64 r9), .rd ⟨false, 3, (.int .i64), r10⟩, .rd ⟨false, 3, (.int .i64), r11⟩], .box 33 [.own 4], .row ⟨false, 3, (.int .i64), r12⟩, .box 3 [.v (.int .i64 r13)], .box 34 [.v (.int .i64 r14)], .box 22 [.v (.int .u64 r15)], .box 3 [.v (.int .i64 r16)], .box 3 [.v (.int .i64 r17)], .box 3 [.v (.int .i64 r18)], .box 3 [.v (.int .i64 r19)]]) o1 o1_1 o1_2 o1_3 o1_4 o1_5 o2 o2_1 o2_2 o2_3 o2_4 o2_5 o4 o5 o6 o7 o8 o9 o10 o11 := by kernel_rfl

theorem runs_walk_drawn_1_ywalk_Hunt {R : Type} (K : AV → List O → Option R) : ∀ fuel : Nat,
    (gt_walk_drawn_1_ywalk_Hunt_2 (runO Try.prog (T_walk_drawn_1 @l_walk_New @l_round_of_walk_Hunt @l_walk_Walk_Word) cuts_walk_drawn_1_ywalk_Hunt 12 (finish Try.prog Try.f48 12 K) fuel)) = (run_walk_drawn_1_ywalk_Hunt (fun r0 r1 r2 r3 r4 r5 r6 r7 r8 r9 r10 r11 r12 r13 r14 r15 r16 r17 r18 r19 r20 => K (.tup []) [.loop 30 (.un :: .un :: .un :: .un :: .un :: .un :: .ptr 1 0 :: .ptr 2 0 :: .un :: .un :: .un :: .un :: .ptr 3 0 :: .ptr 5 0 :: .ptr 6 0 :: .un :: .un :: .un :: .un :: .un :: .un :: .un :: .un :: .un :: .un :: .un :: .un :: .un :: .un :: .un :: .un :: .un :: .un :: .un :: .un :: .un :: .un :: .un :: .un :: .un :: .un :: .un :: .un :: .un :: .un :: .un :: .un :: .un :: .un :: .un :: .un :: .un :: .un :: .un :: .un :: .un :: .un :: .un :: .un :: .un :: .un :: .un :: .un :: .un :: .un :: .un :: .un :: .un :: .un :: .un :: .un :: []) 2, .box 51 [.v (.int .i64 r0), .v (.int .i64 r1), .v (.int .i64 r2), .v (.int .i64 r3), .rd ⟨false, 3, (.int .i64), r4⟩, .rd ⟨false, 3, (.int .i64), r5⟩], .box 51 [.v (.int .i64 r6), .v (.int .i64 r7), .v (.int .i64 r8), .v (.int .i64 r9), .rd ⟨false, 3, (.int .i64), r10⟩, .rd ⟨false, 3, (.int .i64), r11⟩], .box 33 [.own 12], .row ⟨false, 3, (.int .i64), r12⟩, .box 3 [.v (.int .i64 r13)], .box 34 [.v (.int .i64 r14)], .box 22 [.v (.int .u64 r15)], .box 3 [.v (.int .i64 r16)], .box 3 [.v (.int .i64 r17)], .box 3 [.v (.int .i64 r18)], .box 3 [.v (.int .i64 r19)], .row ⟨true, 3, (.int .i64), r20⟩]) (fun r0 r1 r2 r3 r4 r5 r6 r7 r8 r9 r10 r11 r12 r13 r14 r15 r16 r17 r18 r19 => K (.tup []) [.loop 30 (.un :: .un :: .un :: .un :: .un :: .un :: .ptr 1 0 :: .ptr 2 0 :: .un :: .un :: .un :: .un :: .ptr 3 0 :: .ptr 5 0 :: .ptr 6 0 :: .un :: .un :: .un :: .un :: .un :: .un :: .un :: .un :: .un :: .un :: .un :: .un :: .un :: .un :: .un :: .un :: .un :: .un :: .un :: .un :: .un :: .un :: .un :: .un :: .un :: .un :: .un :: .un :: .un :: .un :: .un :: .un :: .un :: .un :: .un :: .un :: .un :: .un :: .un :: .un :: .un :: .un :: .un :: .un :: .un :: .un :: .un :: .un :: .un :: .un :: .un :: .un :: .un :: .un :: .un :: .un :: []) 0, .box 51 [.v (.int .i64 r0), .v (.int .i64 r1), .v (.int .i64 r2), .v (.int .i64 r3), .rd ⟨false, 3, (.int .i64), r4⟩, .rd ⟨false, 3, (.int .i64), r5⟩], .box 51 [.v (.int .i64 r6), .v (.int .i64 r7), .v (.int .i64 r8), .v (.int .i64 r9), .rd ⟨false, 3, (.int .i64), r10⟩, .rd ⟨false, 3, (.int .i64), r11⟩], .box 33 [.own 4], .row ⟨false, 3, (.int .i64), r12⟩, .box 3 [.v (.int .i64 r13)], .box 34 [.v (.int .i64 r14)], .box 22 [.v (.int .u64 r15)], .box 3 [.v (.int .i64 r16)], .box 3 [.v (.int .i64 r17)], .box 3 [.v (.int .i64 r18)], .box 3 [.v (.int .i64 r19)]]) fuel)
  | 0 => rfl
  | fuel + 1 => by
    have ih := runs_walk_drawn_1_ywalk_Hunt K fuel
    funext x12 x13 o1 o1_1 o1_2 o1_3 o1_4 o1_5 o2 o2_1 o2_2 o2_3 o2_4 o2_5 o4 o5 o6 o7 o8 o9 o10 o11 o12
    refine (gstep_walk_drawn_1_ywalk_Hunt_2 @l_walk_New @l_round_of_walk_Hunt @l_walk_Walk_Word _ K x12 x13 o1 o1_1 o1_2 o1_3 o1_4 o1_5 o2 o2_1 o2_2 o2_3 o2_4 o2_5 o4 o5 o6 o7 o8 o9 o10 o11 o12).trans ?_
    rw [ih]
    rfl

def S_walk_drawn_1 (l_walk_drawn_1_ywalk_Hunt : LT_walk_drawn_1_ywalk_Hunt) : Sum := ⟨[], fun {R} args ob K => match args, ob with
  | [.yld 0, .ptr 7 0, .ptr 8 0, .ptr 9 0, .ptr 10 0, .ptr 11 0], [.loop 30 (.un :: .un :: .un :: .un :: .un :: .un :: .ptr 1 0 :: .ptr 2 0 :: .un :: .un :: .un :: .un :: .ptr 3 0 :: .ptr 5 0 :: .ptr 6 0 :: .un :: .un :: .un :: .un :: .un :: .un :: .un :: .un :: .un :: .un :: .un :: .un :: .un :: .un :: .un :: .un :: .un :: .un :: .un :: .un :: .un :: .un :: .un :: .un :: .un :: .un :: .un :: .un :: .un :: .un :: .un :: .un :: .un :: .un :: .un :: .un :: .un :: .un :: .un :: .un :: .un :: .un :: .un :: .un :: .un :: .un :: .un :: .un :: .un :: .un :: .un :: .un :: .un :: .un :: .un :: .un :: []) 0, .box 51 [.v (.int .i64 o1), .v (.int .i64 o1_1), .v (.int .i64 o1_2), .v (.int .i64 o1_3), .rd ⟨false, 3, (.int .i64), o1_4⟩, .rd ⟨false, 3, (.int .i64), o1_5⟩], .box 51 [.v (.int .i64 o2), .v (.int .i64 o2_1), .v (.int .i64 o2_2), .v (.int .i64 o2_3), .rd ⟨false, 3, (.int .i64), o2_4⟩, .rd ⟨false, 3, (.int .i64), o2_5⟩], .box 33 [.own 4], .row ⟨false, 3, (.int .i64), o4⟩, .box 3 [.v (.int .i64 o5)], .box 34 [.v (.int .i64 o6)], .box 22 [.v (.int .u64 o7)], .box 3 [.v (.int .i64 o8)], .box 3 [.v (.int .i64 o9)], .box 3 [.v (.int .i64 o10)], .box 3 [.v (.int .i64 o11)]] => l_walk_drawn_1_ywalk_Hunt o1 o1_1 o1_2 o1_3 o1_4 o1_5 o2 o2_1 o2_2 o2_3 o2_4 o2_5 o4 o5 o6 o7 o8 o9 o10 o11 (fun r0 r1 r2 r3 r4 r5 r6 r7 r8 r9 r10 r11 r12 r13 r14 r15 r16 r17 r18 r19 r20 => K (.tup []) [.loop 30 (.un :: .un :: .un :: .un :: .un :: .un :: .ptr 1 0 :: .ptr 2 0 :: .un :: .un :: .un :: .un :: .ptr 3 0 :: .ptr 5 0 :: .ptr 6 0 :: .un :: .un :: .un :: .un :: .un :: .un :: .un :: .un :: .un :: .un :: .un :: .un :: .un :: .un :: .un :: .un :: .un :: .un :: .un :: .un :: .un :: .un :: .un :: .un :: .un :: .un :: .un :: .un :: .un :: .un :: .un :: .un :: .un :: .un :: .un :: .un :: .un :: .un :: .un :: .un :: .un :: .un :: .un :: .un :: .un :: .un :: .un :: .un :: .un :: .un :: .un :: .un :: .un :: .un :: .un :: .un :: []) 2, .box 51 [.v (.int .i64 r0), .v (.int .i64 r1), .v (.int .i64 r2), .v (.int .i64 r3), .rd ⟨false, 3, (.int .i64), r4⟩, .rd ⟨false, 3, (.int .i64), r5⟩], .box 51 [.v (.int .i64 r6), .v (.int .i64 r7), .v (.int .i64 r8), .v (.int .i64 r9), .rd ⟨false, 3, (.int .i64), r10⟩, .rd ⟨false, 3, (.int .i64), r11⟩], .box 33 [.own 12], .row ⟨false, 3, (.int .i64), r12⟩, .box 3 [.v (.int .i64 r13)], .box 34 [.v (.int .i64 r14)], .box 22 [.v (.int .u64 r15)], .box 3 [.v (.int .i64 r16)], .box 3 [.v (.int .i64 r17)], .box 3 [.v (.int .i64 r18)], .box 3 [.v (.int .i64 r19)], .row ⟨true, 3, (.int .i64), r20⟩]) (fun r0 r1 r2 r3 r4 r5 r6 r7 r8 r9 r10 r11 r12 r13 r14 r15 r16 r17 r18 r19 => K (.tup []) [.loop 30 (.un :: .un :: .un :: .un :: .un :: .un :: .ptr 1 0 :: .ptr 2 0 :: .un :: .un :: .un :: .un :: .ptr 3 0 :: .ptr 5 0 :: .ptr 6 0 :: .un :: .un :: .un :: .un :: .un :: .un :: .un :: .un :: .un :: .un :: .un :: .un :: .un :: .un :: .un :: .un :: .un :: .un :: .un :: .un :: .un :: .un :: .un :: .un :: .un :: .un :: .un :: .un :: .un :: .un :: .un :: .un :: .un :: .un :: .un :: .un :: .un :: .un :: .un :: .un :: .un :: .un :: .un :: .un :: .un :: .un :: .un :: .un :: .un :: .un :: .un :: .un :: .un :: .un :: .un :: .un :: []) 0, .box 51 [.v (.int .i64 r0), .v (.int .i64 r1), .v (.int .i64 r2), .v (.int .i64 r3), .rd ⟨false, 3, (.int .i64), r4⟩, .rd ⟨false, 3, (.int .i64), r5⟩], .box 51 [.v (.int .i64 r6), .v (.int .i64 r7), .v (.int .i64 r8), .v (.int .i64 r9), .rd ⟨false, 3, (.int .i64), r10⟩, .rd ⟨false, 3, (.int .i64), r11⟩], .box 33 [.own 4], .row ⟨false, 3, (.int .i64), r12⟩, .box 3 [.v (.int .i64 r13)], .box 34 [.v (.int .i64 r14)], .box 22 [.v (.int .u64 r15)], .box 3 [.v (.int .i64 r16)], .box 3 [.v (.int .i64 r17)], .box 3 [.v (.int .i64 r18)], .box 3 [.v (.int .i64 r19)]])
  | _, _ => none⟩

theorem sound_walk_drawn_1 : Sound Try.prog 48 (S_walk_drawn_1 @l_walk_drawn_1_ywalk_Hunt) := by
  refine fn_sound (cuts := cuts_walk_drawn_1_ywalk_Hunt) (fn := Try.f48) (Γ := (T_walk_drawn_1 @l_walk_New @l_round_of_walk_Hunt @l_walk_Walk_Word)) wide right_T_walk_drawn_1 Try.func48 fun {R} K r args ob h => ?_
  unfold S_walk_drawn_1 at h
  dsimp only at h
  split at h
  · obtain ⟨n, hn⟩ := ok_walk_drawn_1_ywalk_Hunt _ _ _ _ _ _ _ _ _ _ _ _ _ _ _ _ _ _ _ _ _ _ h
    refine ⟨Nat.le_of_ble_eq_true (by kernel_rfl), n, (gentry_walk_drawn_1_ywalk_Hunt @l_walk_New @l_round_of_walk_Hunt @l_walk_Walk_Word n K _ _ _ _ _ _ _ _ _ _ _ _ _ _ _ _ _ _ _ _).trans ?_⟩
    rw [(runs_walk_drawn_1_ywalk_Hunt K n)]
    exact hn
  · cases h

theorem call_walk_drawn_1 : Callable Try.prog 48 := ⟨_, Try.func48, by kernel_rfl, by kernel_rfl⟩

def T_walk_Hunt (l_walk_drawn_1_ywalk_Hunt : LT_walk_drawn_1_ywalk_Hunt) (l_walk_drawn : LT_walk_drawn) (l_walk_asked : LT_walk_asked) (l_differ_Separate : LT_differ_Separate) : FuncId → Option Sum := (addS (addS (addS (addS G0 48 (S_walk_drawn_1 @l_walk_drawn_1_ywalk_Hunt)) 39 (S_walk_drawn @l_walk_drawn)) 37 (S_walk_asked @l_walk_asked)) 42 (S_differ_Separate @l_differ_Separate))

theorem right_T_walk_Hunt : Right Try.prog (T_walk_Hunt @l_walk_drawn_1_ywalk_Hunt @l_walk_drawn @l_walk_asked @l_differ_Separate) := (right_add (right_add (right_add (right_add right_G0 call_walk_drawn_1 sound_walk_drawn_1) call_walk_drawn sound_walk_drawn) call_walk_asked sound_walk_asked) call_differ_Separate sound_differ_Separate)

abbrev cuts_walk_Hunt : Cuts := [(1000030, [6, 7, 12, 13, 14])]

theorem gentry_walk_Hunt (l_walk_drawn_1_ywalk_Hunt : LT_walk_drawn_1_ywalk_Hunt) (l_walk_drawn : LT_walk_drawn) (l_walk_asked : LT_walk_asked) (l_differ_Separate : LT_differ_Separate) {R : Type} (K : AV → List O → Option R) (a a_1 a_2 a_3 : Int) (a_4 a_5 : List Int) (b b_1 b_2 b_3 : Int) (b_4 b_5 : List Int) (seed count low high : Int) :
    fnRun Try.prog (T_walk_Hunt @l_walk_drawn_1_ywalk_Hunt @l_walk_drawn @l_walk_asked @l_differ_Separate) cuts_walk_Hunt Try.f30 0 [.agg [.v (.int .i64 a), .v (.int .i64 a_1), .v (.int .i64 a_2), .v (.int .i64 a_3), .rd ⟨false, 3, (.int .i64), a_4⟩, .rd ⟨false, 3, (.int .i64), a_5⟩], .agg [.v (.int .i64 b), .v (.int .i64 b_1), .v (.int .i64 b_2), .v (.int .i64 b_3), .rd ⟨false, 3, (.int .i64), b_4⟩, .rd ⟨false, 3, (.int .i64), b_5⟩], .v (.int .u64 seed), .v (.int .i64 count), .v (.int .i64 low), .v (.int .i64 high)] [] K =
    (fun (a a_1 a_2 a_3 : Int) (a_4 a_5 : List Int) (b b_1 b_2 b_3 : Int) (b_4 b_5 : List Int) (seed count low high : Int) (K0 : Int → Int → (List Int) → Option R) =>
    l_differ_Separate a a_1 a_2 a_3 a_4 a_5 b b_1 b_2 b_3 b_4 b_5
     (fun r1 r2 r3 =>
      bi (r2 != 0)
       (K0 0 r2 ([] : List Int))
       (l_walk_asked a_1 count low high
        (fun r4 =>
         bi (r4 != 0)
          (K0 0 r4 ([] : List Int))
          (l_walk_drawn seed a_1 count low high
           (fun r5 r6 r7 r8 r9 =>
            l_walk_drawn_1_ywalk_Hunt a a_1 a_2 a_3 a_4 a_5 b b_1 b_2 b_3 b_4 b_5 ([] : List Int) 0 0 r5 r6 r7 r8 r9
             (fun r10 r11 r12 r13 r14 r15 r16 r17 r18 r19 r20 r21 r22 r23 r24 r25 r26 r27 r28 r29 r30 =>
              K0 r23 r24 r30)
             (fun r31 r32 r33 r34 r35 r36 r37 r38 r39 r40 r41 r42 r43 r44 r45 r46 r47 r48 r49 r50 =>
              K0 0 4 ([] : List Int)))))))) a a_1 a_2 a_3 a_4 a_5 b b_1 b_2 b_3 b_4 b_5 seed count low high (fun r0 r1 r2 => K (.tup [.own 0, .v (.int .i64 r0), .v (.int .i64 r1)]) [.row ⟨true, 3, (.int .i64), r2⟩]) := by kernel_rfl

def S_walk_Hunt (l_walk_Hunt : LT_walk_Hunt) : Sum := ⟨[], fun {R} args ob K => match args, ob with
  | [.agg [.v (.int .i64 a), .v (.int .i64 a_1), .v (.int .i64 a_2), .v (.int .i64 a_3), .rd ⟨false, 3, (.int .i64), a_4⟩, .rd ⟨false, 3, (.int .i64), a_5⟩], .agg [.v (.int .i64 b), .v (.int .i64 b_1), .v (.int .i64 b_2), .v (.int .i64 b_3), .rd ⟨false, 3, (.int .i64), b_4⟩, .rd ⟨false, 3, (.int .i64), b_5⟩], .v (.int .u64 seed), .v (.int .i64 count), .v (.int .i64 low), .v (.int .i64 high)], [] => l_walk_Hunt a a_1 a_2 a_3 a_4 a_5 b b_1 b_2 b_3 b_4 b_5 seed count low high (fun r0 r1 r2 => K (.tup [.own 0, .v (.int .i64 r0), .v (.int .i64 r1)]) [.row ⟨true, 3, (.int .i64), r2⟩])
  | _, _ => none⟩

theorem sound_walk_Hunt : Sound Try.prog 30 (S_walk_Hunt @l_walk_Hunt) := by
  refine fn_sound (cuts := cuts_walk_Hunt) (fn := Try.f30) (Γ := (T_walk_Hunt @l_walk_drawn_1_ywalk_Hunt @l_walk_drawn @l_walk_asked @l_differ_Separate)) wide right_T_walk_Hunt Try.func30 fun {R} K r args ob h => ?_
  unfold S_walk_Hunt at h
  dsimp only at h
  split at h
  · exact ⟨Nat.le_of_ble_eq_true (by kernel_rfl), 0, (gentry_walk_Hunt @l_walk_drawn_1_ywalk_Hunt @l_walk_drawn @l_walk_asked @l_differ_Separate K _ _ _ _ _ _ _ _ _ _ _ _ _ _ _ _).trans h⟩
  · cases h

theorem call_walk_Hunt : Callable Try.prog 30 := ⟨_, Try.func30, by kernel_rfl, by kernel_rfl⟩

def T_tutorref03_Check : FuncId → Option Sum := G0

theorem right_T_tutorref03_Check : Right Try.prog T_tutorref03_Check := right_G0

abbrev cuts_tutorref03_Check : Cuts := [(15, [1, 5]), (20, [1, 6])]

abbrev sta_tutorref03_Check_15 (i o0 o0_1 o0_2 o0_3 : Int) (o0_4 o0_5 : List Int) : St := ⟨fr0 123 [(1, .ptr 0 0), (5, .v (.int .i64 i))], [.box 51 [.v (.int .i64 o0), .v (.int .i64 o0_1), .v (.int .i64 o0_2), .v (.int .i64 o0_3), .rd ⟨false, 3, (.int .i64), o0_4⟩, .rd ⟨false, 3, (.int .i64), o0_5⟩]]⟩

abbrev gt_tutorref03_Check_15 {R : Type} (g : List Item → St → Option R) : GT_tutorref03_Check_15 R := fun (i o0 o0_1 o0_2 o0_3 : Int) (o0_4 o0_5 : List Int) => g (at' Try.f41 15) (sta_tutorref03_Check_15 i o0 o0_1 o0_2 o0_3 o0_4 o0_5)

abbrev sta_tutorref03_Check_20 (i o0 o0_1 o0_2 o0_3 : Int) (o0_4 o0_5 : List Int) : St := ⟨fr0 123 [(1, .ptr 0 0), (6, .v (.int .i64 i))], [.box 51 [.v (.int .i64 o0), .v (.int .i64 o0_1), .v (.int .i64 o0_2), .v (.int .i64 o0_3), .rd ⟨false, 3, (.int .i64), o0_4⟩, .rd ⟨false, 3, (.int .i64), o0_5⟩]]⟩

abbrev gt_tutorref03_Check_20 {R : Type} (g : List Item → St → Option R) : GT_tutorref03_Check_20 R := fun (i o0 o0_1 o0_2 o0_3 : Int) (o0_4 o0_5 : List Int) => g (at' Try.f41 20) (sta_tutorref03_Check_20 i o0 o0_1 o0_2 o0_3 o0_4 o0_5)

theorem gstep_tutorref03_Check_15 {R : Type} (g : List Item → St → Option R) (K : AV → List O → Option R) (i o0 o0_1 o0_2 o0_3 : Int) (o0_4 o0_5 : List Int) :
    runSeg Try.prog T_tutorref03_Check cuts_tutorref03_Check 0 g (finish Try.prog Try.f41 0 K) (at' Try.f41 15) (sta_tutorref03_Check_15 i o0 o0_1 o0_2 o0_3 o0_4 o0_5) =
    (fun (g41_15 : GT_tutorref03_Check_15 R) (g41_20 : GT_tutorref03_Check_20 R) (K0 : Int → Int → Option R) (i o0 o0_1 o0_2 o0_3 : Int) (o0_4 o0_5 : List Int) =>
    bi (decide (i < (o0_4.length : Int)))
     (bi (decide (0 ≤ i ∧ i < ((o0_4.length : Nat) : Int)))
      (bi (decide ((o0_4.getD i.toNat 0) < 0))
       (K0 i 32)
       (bi (decide (0 ≤ i ∧ i < ((o0_4.length : Nat) : Int)))
        (bi (decide ((o0_4.getD i.toNat 0) ≥ o0_3))
         (K0 i 32)
         (g41_15 (IntKind.i64.wrap (i + 1)) o0 o0_1 o0_2 o0_3 o0_4 o0_5))
        none))
      none)
     (g41_20 0 o0 o0_1 o0_2 o0_3 o0_4 o0_5)) (gt_tutorref03_Check_15 g) (gt_tutorref03_Check_20 g) (fun r0 r1 => K (.tup [.v (.int .i64 r0), .v (.int .i64 r1)]) []) i o0 o0_1 o0_2 o0_3 o0_4 o0_5 := by kernel_rfl

theorem gstep_tutorref03_Check_20 {R : Type} (g : List Item → St → Option R) (K : AV → List O → Option R) (i o0 o0_1 o0_2 o0_3 : Int) (o0_4 o0_5 : List Int) :
    runSeg Try.prog T_tutorref03_Check cuts_tutorref03_Check 0 g (finish Try.prog Try.f41 0 K) (at' Try.f41 20) (sta_tutorref03_Check_20 i o0 o0_1 o0_2 o0_3 o0_4 o0_5) =
    (fun (g41_15 : GT_tutorref03_Check_15 R) (g41_20 : GT_tutorref03_Check_20 R) (K0 : Int → Int → Option R) (i o0 o0_1 o0_2 o0_3 : Int) (o0_4 o0_5 : List Int) =>
    bi (decide (i < (o0_5.length : Int)))
     (bi (decide (0 ≤ i ∧ i < ((o0_5.length : Nat) : Int)))
      (bi (decide ((o0_5.getD i.toNat 0) < 0))
       (K0 i 33)
       (bi (decide (0 ≤ i ∧ i < ((o0_5.length : Nat) : Int)))
        (bi (decide ((o0_5.getD i.toNat 0) ≥ o0_2))
         (K0 i 33)
         (g41_20 (IntKind.i64.wrap (i + 1)) o0 o0_1 o0_2 o0_3 o0_4 o0_5))
        none))
      none)
     (K0 0 0)) (gt_tutorref03_Check_15 g) (gt_tutorref03_Check_20 g) (fun r0 r1 => K (.tup [.v (.int .i64 r0), .v (.int .i64 r1)]) []) i o0 o0_1 o0_2 o0_3 o0_4 o0_5 := by kernel_rfl

theorem gentry_tutorref03_Check {R : Type} (fuel : Nat) (K : AV → List O → Option R) (m m_1 m_2 m_3 : Int) (m_4 m_5 : List Int) :
    fnRun Try.prog T_tutorref03_Check cuts_tutorref03_Check Try.f41 fuel [.agg [.v (.int .i64 m), .v (.int .i64 m_1), .v (.int .i64 m_2), .v (.int .i64 m_3), .rd ⟨false, 3, (.int .i64), m_4⟩, .rd ⟨false, 3, (.int .i64), m_5⟩]] [] K =
    (fun (g41_15 : GT_tutorref03_Check_15 R) (g41_20 : GT_tutorref03_Check_20 R) (K0 : Int → Int → Option R) (m m_1 m_2 m_3 : Int) (m_4 m_5 : List Int) =>
    bi (m != 1)
     (bi (m != 2)
      (K0 0 30)
      (bi (decide (m_1 < 1))
       (K0 0 1)
       (bi (decide (m_1 > 64))
        (K0 0 1)
        (bi (m == 1)
         (bi (m_2 != 2)
          (K0 0 33)
          (bi (decide (m_2 < 1))
           (K0 0 33)
           (bi (decide (m_2 > 64))
            (K0 0 33)
            (bi (decide (m_3 < 1))
             (K0 0 3)
             (bi (decide (m_3 > 1024))
              (K0 0 3)
              (bi (m == 2)
               (bi ((m_4.length : Int) != (IntKind.i64.wrap (m_3 * m_1)))
                (K0 0 31)
                (bi ((m_5.length : Int) != (IntKind.i64.wrap (m_3 * m_1)))
                 (K0 0 31)
                 (g41_15 0 m m_1 m_2 m_3 m_4 m_5)))
               (bi ((m_4.length : Int) != (IntKind.i64.wrap (m_3 * m_1)))
                (K0 0 31)
                (bi ((m_5.length : Int) != m_3)
                 (K0 0 31)
                 (g41_15 0 m m_1 m_2 m_3 m_4 m_5)))))))))
         (bi (decide (m_2 < 1))
          (K0 0 33)
          (bi (decide (m_2 > 64))
           (K0 0 33)
           (bi (decide (m_3 < 1))
            (K0 0 3)
            (bi (decide (m_3 > 1024))
             (K0 0 3)
             (bi (m == 2)
              (bi ((m_4.length : Int) != (IntKind.i64.wrap (m_3 * m_1)))
               (K0 0 31)
               (bi ((m_5.length : Int) != (IntKind.i64.wrap (m_3 * m_1)))
                (K0 0 31)
                (g41_15 0 m m_1 m_2 m_3 m_4 m_5)))
              (bi ((m_4.length : Int) != (IntKind.i64.wrap (m_3 * m_1)))
               (K0 0 31)
               (bi ((m_5.length : Int) != m_3)
                (K0 0 31)
                (g41_15 0 m m_1 m_2 m_3 m_4 m_5))))))))))))
     (bi (decide (m_1 < 1))
      (K0 0 1)
      (bi (decide (m_1 > 64))
       (K0 0 1)
       (bi (m == 1)
        (bi (m_2 != 2)
         (K0 0 33)
         (bi (decide (m_2 < 1))
          (K0 0 33)
          (bi (decide (m_2 > 64))
           (K0 0 33)
           (bi (decide (m_3 < 1))
            (K0 0 3)
            (bi (decide (m_3 > 1024))
             (K0 0 3)
             (bi (m == 2)
              (bi ((m_4.length : Int) != (IntKind.i64.wrap (m_3 * m_1)))
               (K0 0 31)
               (bi ((m_5.length : Int) != (IntKind.i64.wrap (m_3 * m_1)))
                (K0 0 31)
                (g41_15 0 m m_1 m_2 m_3 m_4 m_5)))
              (bi ((m_4.length : Int) != (IntKind.i64.wrap (m_3 * m_1)))
               (K0 0 31)
               (bi ((m_5.length : Int) != m_3)
                (K0 0 31)
                (g41_15 0 m m_1 m_2 m_3 m_4 m_5)))))))))
        (bi (decide (m_2 < 1))
         (K0 0 33)
         (bi (decide (m_2 > 64))
          (K0 0 33)
          (bi (decide (m_3 < 1))
           (K0 0 3)
           (bi (decide (m_3 > 1024))
            (K0 0 3)
            (bi (m == 2)
             (bi ((m_4.length : Int) != (IntKind.i64.wrap (m_3 * m_1)))
              (K0 0 31)
              (bi ((m_5.length : Int) != (IntKind.i64.wrap (m_3 * m_1)))
               (K0 0 31)
               (g41_15 0 m m_1 m_2 m_3 m_4 m_5)))
             (bi ((m_4.length : Int) != (IntKind.i64.wrap (m_3 * m_1)))
              (K0 0 31)
              (bi ((m_5.length : Int) != m_3)
               (K0 0 31)
               (g41_15 0 m m_1 m_2 m_3 m_4 m_5)))))))))))) (gt_tutorref03_Check_15 (runO Try.prog T_tutorref03_Check cuts_tutorref03_Check 0 (finish Try.prog Try.f41 0 K) fuel)) (gt_tutorref03_Check_20 (runO Try.prog T_tutorref03_Check cuts_tutorref03_Check 0 (finish Try.prog Try.f41 0 K) fuel)) (fun r0 r1 => K (.tup [.v (.int .i64 r0), .v (.int .i64 r1)]) []) m m_1 m_2 m_3 m_4 m_5 := by kernel_rfl

theorem runs_tutorref03_Check {R : Type} (K : AV → List O → Option R) : ∀ fuel : Nat,
    (gt_tutorref03_Check_15 (runO Try.prog T_tutorref03_Check cuts_tutorref03_Check 0 (finish Try.prog Try.f41 0 K) fuel)) = (run_tutorref03_Check (fun r0 r1 => K (.tup [.v (.int .i64 r0), .v (.int .i64 r1)]) []) fuel).1 ∧
    (gt_tutorref03_Check_20 (runO Try.prog T_tutorref03_Check cuts_tutorref03_Check 0 (finish Try.prog Try.f41 0 K) fuel)) = (run_tutorref03_Check (fun r0 r1 => K (.tup [.v (.int .i64 r0), .v (.int .i64 r1)]) []) fuel).2
  | 0 => ⟨rfl, rfl⟩
  | fuel + 1 => by
    have ih := runs_tutorref03_Check K fuel
    refine ⟨?_, ?_⟩
    · funext i o0 o0_1 o0_2 o0_3 o0_4 o0_5
      refine (gstep_tutorref03_Check_15 _ K i o0 o0_1 o0_2 o0_3 o0_4 o0_5).trans ?_
      rw [ih.1, ih.2]
      rfl
    · funext i o0 o0_1 o0_2 o0_3 o0_4 o0_5
      refine (gstep_tutorref03_Check_20 _ K i o0 o0_1 o0_2 o0_3 o0_4 o0_5).trans ?_
      rw [ih.1, ih.2]
      rfl

def S_tutorref03_Check (l_tutorref03_Check : LT_tutorref03_Check) : Sum := ⟨[], fun {R} args ob K => match args, ob with
  | [.agg [.v (.int .i64 m), .v (.int .i64 m_1), .v (.int .i64 m_2), .v (.int .i64 m_3), .rd ⟨false, 3, (.int .i64), m_4⟩, .rd ⟨false, 3, (.int .i64), m_5⟩]], [] => l_tutorref03_Check m m_1 m_2 m_3 m_4 m_5 (fun r0 r1 => K (.tup [.v (.int .i64 r0), .v (.int .i64 r1)]) [])
  | _, _ => none⟩

theorem sound_tutorref03_Check : Sound Try.prog 41 (S_tutorref03_Check @l_tutorref03_Check) := by
  refine fn_sound (cuts := cuts_tutorref03_Check) (fn := Try.f41) (Γ := T_tutorref03_Check) wide right_T_tutorref03_Check Try.func41 fun {R} K r args ob h => ?_
  unfold S_tutorref03_Check at h
  dsimp only at h
  split at h
  · obtain ⟨n, hn⟩ := ok_tutorref03_Check _ _ _ _ _ _ _ h
    refine ⟨Nat.le_of_ble_eq_true (by kernel_rfl), n, (gentry_tutorref03_Check n K _ _ _ _ _ _).trans ?_⟩
    rw [(runs_tutorref03_Check K n).1, (runs_tutorref03_Check K n).2]
    exact hn
  · cases h

theorem call_tutorref03_Check : Callable Try.prog 41 := ⟨_, Try.func41, by kernel_rfl, by kernel_rfl⟩

def T_tutorref07_now : FuncId → Option Sum := G0

theorem right_T_tutorref07_now : Right Try.prog T_tutorref07_now := right_G0

abbrev cuts_tutorref07_now : Cuts := []

theorem gentry_tutorref07_now {R : Type} (K : AV → List O → Option R) (a a_1 a_2 a_3 : Int) (a_4 a_5 : List Int) (b b_1 b_2 b_3 : Int) (b_4 b_5 : List Int) (s t x : Int) :
    fnRun Try.prog T_tutorref07_now cuts_tutorref07_now Try.f54 0 [.agg [.v (.int .i64 a), .v (.int .i64 a_1), .v (.int .i64 a_2), .v (.int .i64 a_3), .rd ⟨false, 3, (.int .i64), a_4⟩, .rd ⟨false, 3, (.int .i64), a_5⟩], .agg [.v (.int .i64 b), .v (.int .i64 b_1), .v (.int .i64 b_2), .v (.int .i64 b_3), .rd ⟨false, 3, (.int .i64), b_4⟩, .rd ⟨false, 3, (.int .i64), b_5⟩], .v (.int .i64 s), .v (.int .i64 t), .v (.int .i64 x)] [] K =
    (fun (a a_1 a_2 a_3 : Int) (a_4 a_5 : List Int) (b b_1 b_2 b_3 : Int) (b_4 b_5 : List Int) (s t x : Int) (K0 : Bool → Option R) =>
    bi (a == 1)
     (bi (decide (x < 0))
      (bi (decide (0 ≤ s ∧ s < ((a_5.length : Nat) : Int)))
       (bi (decide (0 ≤ t ∧ t < ((b_5.length : Nat) : Int)))
        (K0 ((a_5.getD s.toNat 0) != (b_5.getD t.toNat 0)))
        none)
       none)
      (K0 false))
     (bi (decide (x ≥ 0))
      (bi (decide (0 ≤ (IntKind.i64.wrap ((IntKind.i64.wrap (s * a_1)) + x)) ∧ (IntKind.i64.wrap ((IntKind.i64.wrap (s * a_1)) + x)) < ((a_5.length : Nat) : Int)))
       (bi (decide (0 ≤ (IntKind.i64.wrap ((IntKind.i64.wrap (t * b_1)) + x)) ∧ (IntKind.i64.wrap ((IntKind.i64.wrap (t * b_1)) + x)) < ((b_5.length : Nat) : Int)))
        (K0 ((a_5.getD ((IntKind.i64.wrap ((IntKind.i64.wrap (s * a_1)) + x)).toNat) 0) != (b_5.getD ((IntKind.i64.wrap ((IntKind.i64.wrap (t * b_1)) + x)).toNat) 0)))
        none)
       none)
      (K0 false))) a a_1 a_2 a_3 a_4 a_5 b b_1 b_2 b_3 b_4 b_5 s t x (fun r0 => K (.v (.bool r0)) []) := by kernel_rfl

def S_tutorref07_now (l_tutorref07_now : LT_tutorref07_now) : Sum := ⟨[], fun {R} args ob K => match args, ob with
  | [.agg [.v (.int .i64 a), .v (.int .i64 a_1), .v (.int .i64 a_2), .v (.int .i64 a_3), .rd ⟨false, 3, (.int .i64), a_4⟩, .rd ⟨false, 3, (.int .i64), a_5⟩], .agg [.v (.int .i64 b), .v (.int .i64 b_1), .v (.int .i64 b_2), .v (.int .i64 b_3), .rd ⟨false, 3, (.int .i64), b_4⟩, .rd ⟨false, 3, (.int .i64), b_5⟩], .v (.int .i64 s), .v (.int .i64 t), .v (.int .i64 x)], [] => l_tutorref07_now a a_1 a_2 a_3 a_4 a_5 b b_1 b_2 b_3 b_4 b_5 s t x (fun r0 => K (.v (.bool r0)) [])
  | _, _ => none⟩

theorem sound_tutorref07_now : Sound Try.prog 54 (S_tutorref07_now @l_tutorref07_now) := by
  refine fn_sound (cuts := cuts_tutorref07_now) (fn := Try.f54) (Γ := T_tutorref07_now) wide right_T_tutorref07_now Try.func54 fun {R} K r args ob h => ?_
  unfold S_tutorref07_now at h
  dsimp only at h
  split at h
  · exact ⟨Nat.le_of_ble_eq_true (by kernel_rfl), 0, (gentry_tutorref07_now K _ _ _ _ _ _ _ _ _ _ _ _ _ _ _).trans h⟩
  · cases h

theorem call_tutorref07_now : Callable Try.prog 54 := ⟨_, Try.func54, by kernel_rfl, by kernel_rfl⟩

def T_tutorref01_Join : FuncId → Option Sum := G0

theorem right_T_tutorref01_Join : Right Try.prog T_tutorref01_Join := right_G0

abbrev cuts_tutorref01_Join : Cuts := []

theorem gentry_tutorref01_Join {R : Type} (K : AV → List O → Option R) (a b : List Int) :
    fnRun Try.prog T_tutorref01_Join cuts_tutorref01_Join Try.f55 0 [.rd ⟨false, 3, (.int .i64), a⟩, .rd ⟨false, 3, (.int .i64), b⟩] [] K =
    (fun (a b : List Int) (K0 : (List Int) → Option R) =>
    bi (decide ((([] : List Int).length + a.length) * 8 ≤ lim))
     (bi (decide (((([] : List Int) ++ a).length + b.length) * 8 ≤ lim))
      (K0 ((([] : List Int) ++ a) ++ b))
      none)
     none) a b (fun r0 => K (.own 0) [.row ⟨true, 3, (.int .i64), r0⟩]) := by kernel_rfl

def S_tutorref01_Join (l_tutorref01_Join : LT_tutorref01_Join) : Sum := ⟨[], fun {R} args ob K => match args, ob with
  | [.rd ⟨false, 3, (.int .i64), a⟩, .rd ⟨false, 3, (.int .i64), b⟩], [] => l_tutorref01_Join a b (fun r0 => K (.own 0) [.row ⟨true, 3, (.int .i64), r0⟩])
  | _, _ => none⟩

theorem sound_tutorref01_Join : Sound Try.prog 55 (S_tutorref01_Join @l_tutorref01_Join) := by
  refine fn_sound (cuts := cuts_tutorref01_Join) (fn := Try.f55) (Γ := T_tutorref01_Join) wide right_T_tutorref01_Join Try.func55 fun {R} K r args ob h => ?_
  unfold S_tutorref01_Join at h
  dsimp only at h
  split at h
  · exact ⟨Nat.le_of_ble_eq_true (by kernel_rfl), 0, (gentry_tutorref01_Join K _ _).trans h⟩
  · cases h

theorem call_tutorref01_Join : Callable Try.prog 55 := ⟨_, Try.func55, by kernel_rfl, by kernel_rfl⟩

def T_tutorref07_search (l_tutorref07_now : LT_tutorref07_now) (l_tutorref01_Join : LT_tutorref01_Join) : FuncId → Option Sum := (addS (addS G0 54 (S_tutorref07_now @l_tutorref07_now)) 55 (S_tutorref01_Join @l_tutorref01_Join))

theorem right_T_tutorref07_search : Right Try.prog (T_tutorref07_search @l_tutorref07_now @l_tutorref01_Join) := (right_add (right_add right_G0 call_tutorref07_now sound_tutorref07_now) call_tutorref01_Join sound_tutorref01_Join)

abbrev cuts_tutorref07_search : Cuts := [(8, [4, 5, 10, 11, 12, 13]), (12, [4, 5, 10, 11, 12, 13, 14, 15, 16])]

abbrev sta_tutorref07_search_8 (i o0 o0_1 o0_2 o0_3 : Int) (o0_4 o0_5 : List Int) (o1 o1_1 o1_2 o1_3 : Int) (o1_4 o1_5 : List Int) (o2 : List Bool) (o3 : List (List Int)) (o4 : List Int) : St := ⟨fr0 146 [(4, .ptr 0 0), (5, .ptr 1 0), (10, .own 2), (11, .nst 3), (12, .own 4), (13, .v (.int .i64 i))], [.box 51 [.v (.int .i64 o0), .v (.int .i64 o0_1), .v (.int .i64 o0_2), .v (.int .i64 o0_3), .rd ⟨false, 3, (.int .i64), o0_4⟩, .rd ⟨false, 3, (.int .i64), o0_5⟩], .box 51 [.v (.int .i64 o1), .v (.int .i64 o1_1), .v (.int .i64 o1_2), .v (.int .i64 o1_3), .rd ⟨false, 3, (.int .i64), o1_4⟩, .rd ⟨false, 3, (.int .i64), o1_5⟩], .row ⟨true, 4, .bool, o2⟩, .nst ⟨true, 33, (.sl 3 (.int .i64)), o3⟩, .row ⟨true, 3, (.int .i64), o4⟩]⟩

abbrev gt_tutorref07_search_8 {R : Type} (g : List Item → St → Option R) : GT_tutorref07_search_8 R := fun (i o0 o0_1 o0_2 o0_3 : Int) (o0_4 o0_5 : List Int) (o1 o1_1 o1_2 o1_3 : Int) (o1_4 o1_5 : List Int) (o2 : List Bool) (o3 : List (List Int)) (o4 : List Int) => g (at' Try.f45 8) (sta_tutorref07_search_8 i o0 o0_1 o0_2 o0_3 o0_4 o0_5 o1 o1_1 o1_2 o1_3 o1_4 o1_5 o2 o3 o4)

abbrev sta_tutorref07_search_12 (i s t x o0 o0_1 o0_2 o0_3 : Int) (o0_4 o0_5 : List Int) (o1 o1_1 o1_2 o1_3 : Int) (o1_4 o1_5 : List Int) (o2 : List Bool) (o3 : List (List Int)) (o4 : List Int) : St := ⟨fr0 146 [(4, .ptr 0 0), (5, .ptr 1 0), (10, .own 2), (11, .nst 3), (12, .own 4), (13, .v (.int .i64 i)), (14, .v (.int .i64 s)), (15, .v (.int .i64 t)), (16, .v (.int .i64 x))], [.box 51 [.v (.int .i64 o0), .v (.int .i64 o0_1), .v (.int .i64 o0_2), .v (.int .i64 o0_3), .rd ⟨false, 3, (.int .i64), o0_4⟩, .rd ⟨false, 3, (.int .i64), o0_5⟩], .box 51 [.v (.int .i64 o1), .v (.int .i64 o1_1), .v (.int .i64 o1_2), .v (.int .i64 o1_3), .rd ⟨false, 3, (.int .i64), o1_4⟩, .rd ⟨false, 3, (.int .i64), o1_5⟩], .row ⟨true, 4, .bool, o2⟩, .nst ⟨true, 33, (.sl 3 (.int .i64)), o3⟩, .row ⟨true, 3, (.int .i64), o4⟩]⟩

abbrev gt_tutorref07_search_12 {R : Type} (g : List Item → St → Option R) : GT_tutorref07_search_12 R := fun (i s t x o0 o0_1 o0_2 o0_3 : Int) (o0_4 o0_5 : List Int) (o1 o1_1 o1_2 o1_3 : Int) (o1_4 o1_5 : List Int) (o2 : List Bool) (o3 : List (List Int)) (o4 : List Int) => g (at' Try.f45 12) (sta_tutorref07_search_12 i s t x o0 o0_1 o0_2 o0_3 o0_4 o0_5 o1 o1_1 o1_2 o1_3 o1_4 o1_5 o2 o3 o4)

theorem gstep_tutorref07_search_8 (l_tutorref07_now : LT_tutorref07_now) (l_tutorref01_Join : LT_tutorref01_Join) {R : Type} (g : List Item → St → Option R) (K : AV → List O → Option R) (i o0 o0_1 o0_2 o0_3 : Int) (o0_4 o0_5 : List Int) (o1 o1_1 o1_2 o1_3 : Int) (o1_4 o1_5 : List Int) (o2 : List Bool) (o3 : List (List Int)) (o4 : List Int) :
    runSeg Try.prog (T_tutorref07_search @l_tutorref07_now @l_tutorref01_Join) cuts_tutorref07_search 0 g (finish Try.prog Try.f45 0 K) (at' Try.f45 8) (sta_tutorref07_search_8 i o0 o0_1 o0_2 o0_3 o0_4 o0_5 o1 o1_1 o1_2 o1_3 o1_4 o1_5 o2 o3 o4) =
    (fun (g45_8 : GT_tutorref07_search_8 R) (g45_12 : GT_tutorref07_search_12 R) (K0 : Bool → (List Int) → Option R) (i o0 o0_1 o0_2 o0_3 : Int) (o0_4 o0_5 : List Int) (o1 o1_1 o1_2 o1_3 : Int) (o1_4 o1_5 : List Int) (o2 : List Bool) (o3 : List (List Int)) (o4 : List Int) =>
    bi (decide (i < (o3.length : Int)))
     (bi (decide (0 ≤ i ∧ i < ((o4.length : Nat) : Int)))
      (bi (decide (o1_3 = 0))
       none
       (bi (decide (0 ≤ i ∧ i < ((o4.length : Nat) : Int)))
        (bi (decide (o1_3 = 0))
         none
         (g45_12 i (IntKind.i64.wrap ((o4.getD i.toNat 0).tdiv o1_3)) ((o4.getD i.toNat 0).tmod o1_3) 0 o0 o0_1 o0_2 o0_3 o0_4 o0_5 o1 o1_1 o1_2 o1_3 o1_4 o1_5 o2 o3 o4))
        none))
      none)
     (K0 false ([] : List Int))) (gt_tutorref07_search_8 g) (gt_tutorref07_search_12 g) (fun r0 r1 => K (.tup [.own 0, .v (.bool r0)]) [.row ⟨true, 3, (.int .i64), r1⟩]) i o0 o0_1 o0_2 o0_3 o0_4 o0_5 o1 o1_1 o1_2 o1_3 o1_4 o1_5 o2 o3 o4 := by kernel_rfl

theorem gstep_tutorref07_search_12 (l_tutorref07_now : LT_tutorref07_now) (l_tutorref01_Join : LT_tutorref01_Join) {R : Type} (g : List Item → St → Option R) (K : AV → List O → Option R) (i s t x o0 o0_1 o0_2 o0_3 : Int) (o0_4 o0_5 : List Int) (o1 o1_1 o1_2 o1_3 : Int) (o1_4 o1_5 : List Int) (o2 : List Bool) (o3 : List (List Int)) (o4 : List Int) :
    runSeg Try.prog (T_tutorref07_search @l_tutorref07_now @l_tutorref01_Join) cuts_tutorref07_search 0 g (finish Try.prog Try.f45 0 K) (at' Try.f45 12) (sta_tutorref07_search_12 i s t x o0 o0_1 o0_2 o0_3 o0_4 o0_5 o1 o1_1 o1_2 o1_3 o1_4 o1_5 o2 o3 o4) =
    (fun (g45_8 : GT_tutorref07_search_8 R) (g45_12 : GT_tutorref07_search_12 R) (K0 : Bool → (List Int) → Option R) (i s t x o0 o0_1 o0_2 o0_3 : Int) (o0_4 o0_5 : List Int) (o1 o1_1 o1_2 o1_3 : Int) (o1_4 o1_5 : List Int) (o2 : List Bool) (o3 : List (List Int)) (o4 : List Int) =>
    bi (decide (x < o0_1))
     (bi (decide (0 ≤ i ∧ i < ((o3.length : Nat) : Int)))
      (l_tutorref01_Join (o3.getD i.toNat []) [x]
       (fun r2 =>
        bi (decide (0 ≤ (IntKind.i64.wrap ((IntKind.i64.wrap (s * o0_1)) + x)) ∧ (IntKind.i64.wrap ((IntKind.i64.wrap (s * o0_1)) + x)) < ((o0_4.length : Nat) : Int)))
         (bi (decide (0 ≤ (IntKind.i64.wrap ((IntKind.i64.wrap (t * o1_1)) + x)) ∧ (IntKind.i64.wrap ((IntKind.i64.wrap (t * o1_1)) + x)) < ((o1_4.length : Nat) : Int)))
          (l_tutorref07_now o0 o0_1 o0_2 o0_3 o0_4 o0_5 o1 o1_1 o1_2 o1_3 o1_4 o1_5 s t x
           (fun r3 =>
            bi r3
             (K0 true r2)
             (l_tutorref07_now o0 o0_1 o0_2 o0_3 o0_4 o0_5 o1 o1_1 o1_2 o1_3 o1_4 o1_5 (o0_4.getD ((IntKind.i64.wrap ((IntKind.i64.wrap (s * o0_1)) + x)).toNat) 0) (o1_4.getD ((IntKind.i64.wrap ((IntKind.i64.wrap (t * o1_1)) + x)).toNat) 0) (-1)
              (fun r4 =>
               bi r4
                (K0 true r2)
                (bi (decide (0 ≤ (IntKind.i64.wrap ((IntKind.i64.wrap ((o0_4.getD ((IntKind.i64.wrap ((IntKind.i64.wrap (s * o0_1)) + x)).toNat) 0) * o1_3)) + (o1_4.getD ((IntKind.i64.wrap ((IntKind.i64.wrap (t * o1_1)) + x)).toNat) 0))) ∧ (IntKind.i64.wrap ((IntKind.i64.wrap ((o0_4.getD ((IntKind.i64.wrap ((IntKind.i64.wrap (s * o0_1)) + x)).toNat) 0) * o1_3)) + (o1_4.getD ((IntKind.i64.wrap ((IntKind.i64.wrap (t * o1_1)) + x)).toNat) 0))) < ((o2.length : Nat) : Int)))
                 (bi (!(o2.getD ((IntKind.i64.wrap ((IntKind.i64.wrap ((o0_4.getD ((IntKind.i64.wrap ((IntKind.i64.wrap (s * o0_1)) + x)).toNat) 0) * o1_3)) + (o1_4.getD ((IntKind.i64.wrap ((IntKind.i64.wrap (t * o1_1)) + x)).toNat) 0))).toNat) false))
                  (bi (decide (0 ≤ (IntKind.i64.wrap ((IntKind.i64.wrap ((o0_4.getD ((IntKind.i64.wrap ((IntKind.i64.wrap (s * o0_1)) + x)).toNat) 0) * o1_3)) + (o1_4.getD ((IntKind.i64.wrap ((IntKind.i64.wrap (t * o1_1)) + x)).toNat) 0))) ∧ (IntKind.i64.wrap ((IntKind.i64.wrap ((o0_4.getD ((IntKind.i64.wrap ((IntKind.i64.wrap (s * o0_1)) + x)).toNat) 0) * o1_3)) + (o1_4.getD ((IntKind.i64.wrap ((IntKind.i64.wrap (t * o1_1)) + x)).toNat) 0))) < ((o2.length : Nat) : Int)))
                   (bi (decide ((o3.length + [r2].length) * 24 ≤ lim))
                    (bi (decide ((o4.length + [IntKind.i64.wrap ((IntKind.i64.wrap ((o0_4.getD ((IntKind.i64.wrap ((IntKind.i64.wrap (s * o0_1)) + x)).toNat) 0) * o1_3)) + (o1_4.getD ((IntKind.i64.wrap ((IntKind.i64.wrap (t * o1_1)) + x)).toNat) 0))].length) * 8 ≤ lim))
                     (g45_12 i s t (IntKind.i64.wrap (x + 1)) o0 o0_1 o0_2 o0_3 o0_4 o0_5 o1 o1_1 o1_2 o1_3 o1_4 o1_5 (o2.set ((IntKind.i64.wrap ((IntKind.i64.wrap ((o0_4.getD ((IntKind.i64.wrap ((IntKind.i64.wrap (s * o0_1)) + x)).toNat) 0) * o1_3)) + (o1_4.getD ((IntKind.i64.wrap ((IntKind.i64.wrap (t * o1_1)) + x)).toNat) 0))).toNat) true) (o3 ++ [r2]) (o4 ++ [IntKind.i64.wrap ((IntKind.i64.wrap ((o0_4.getD ((IntKind.i64.wrap ((IntKind.i64.wrap (s * o0_1)) + x)).toNat) 0) * o1_3)) + (o1_4.getD ((IntKind.i64.wrap ((IntKind.i64.wrap (t * o1_1)) + x)).toNat) 0))]))
                     none)
                    none)
                   none)
                  (g45_12 i s t (IntKind.i64.wrap (x + 1)) o0 o0_1 o0_2 o0_3 o0_4 o0_5 o1 o1_1 o1_2 o1_3 o1_4 o1_5 o2 o3 o4))
                 none)))))
          none)
         none))
      none)
     (g45_8 (IntKind.i64.wrap (i + 1)) o0 o0_1 o0_2 o0_3 o0_4 o0_5 o1 o1_1 o1_2 o1_3 o1_4 o1_5 o2 o3 o4)) (gt_tutorref07_search_8 g) (gt_tutorref07_search_12 g) (fun r0 r1 => K (.tup [.own 0, .v (.bool r0)]) [.row ⟨true, 3, (.int .i64), r1⟩]) i s t x o0 o0_1 o0_2 o0_3 o0_4 o0_5 o1 o1_1 o1_2 o1_3 o1_4 o1_5 o2 o3 o4 := by kernel_rfl

theorem gentry_tutorref07_search (l_tutorref07_now : LT_tutorref07_now) (l_tutorref01_Join : LT_tutorref01_Join) {R : Type} (fuel : Nat) (K : AV → List O → Option R) (a a_1 a_2 a_3 : Int) (a_4 a_5 : List Int) (b b_1 b_2 b_3 : Int) (b_4 b_5 : List Int) (s t : Int) :
    fnRun Try.prog (T_tutorref07_search @l_tutorref07_now @l_tutorref01_Join) cuts_tutorref07_search Try.f45 fuel [.agg [.v (.int .i64 a), .v (.int .i64 a_1), .v (.int .i64 a_2), .v (.int .i64 a_3), .rd ⟨false, 3, (.int .i64), a_4⟩, .rd ⟨false, 3, (.int .i64), a_5⟩], .agg [.v (.int .i64 b), .v (.int .i64 b_1), .v (.int .i64 b_2), .v (.int .i64 b_3), .rd ⟨false, 3, (.int .i64), b_4⟩, .rd ⟨false, 3, (.int .i64), b_5⟩], .v (.int .i64 s), .v (.int .i64 t)] [] K =
    (fun (g45_8 : GT_tutorref07_search_8 R) (g45_12 : GT_tutorref07_search_12 R) (K0 : Bool → (List Int) → Option R) (a a_1 a_2 a_3 : Int) (a_4 a_5 : List Int) (b b_1 b_2 b_3 : Int) (b_4 b_5 : List Int) (s t : Int) =>
    l_tutorref07_now a a_1 a_2 a_3 a_4 a_5 b b_1 b_2 b_3 b_4 b_5 s t (-1)
     (fun r1 =>
      bi r1
       (K0 true ([] : List Int))
       (bi (decide (0 ≤ (IntKind.i64.wrap (a_3 * b_3)) ∧ (IntKind.i64.wrap (a_3 * b_3)) ≤ (IntKind.i64.wrap (a_3 * b_3)) ∧ (IntKind.i64.wrap (a_3 * b_3)) ≤ 1073741824))
        (bi (decide (0 ≤ (IntKind.i64.wrap ((IntKind.i64.wrap (s * b_3)) + t)) ∧ (IntKind.i64.wrap ((IntKind.i64.wrap (s * b_3)) + t)) < (((List.replicate (IntKind.i64.wrap (a_3 * b_3)).toNat (false : Bool)).length : Nat) : Int)))
         (g45_8 0 a a_1 a_2 a_3 a_4 a_5 b b_1 b_2 b_3 b_4 b_5 ((List.replicate (IntKind.i64.wrap (a_3 * b_3)).toNat (false : Bool)).set ((IntKind.i64.wrap ((IntKind.i64.wrap (s * b_3)) + t)).toNat) true) [([] : List Int)] [IntKind.i64.wrap ((IntKind.i64.wrap (s * b_3)) + t)])
         none)
        none))) (gt_tutorref07_search_8 (runO Try.prog (T_tutorref07_search @l_tutorref07_now @l_tutorref01_Join) cuts_tutorref07_search 0 (finish Try.prog Try.f45 0 K) fuel)) (gt_tutorref07_search_12 (runO Try.prog (T_tutorref07_search @l_tutorref07_now @l_tutorref01_Join) cuts_tutorref07_search 0 (finish Try.prog Try.f45 0 K) fuel)) (fun r0 r1 => K (.tup [.own 0, .v (.bool r0)]) [.row ⟨true, 3, (.int .i64), r1⟩]) a a_1 a_2 a_3 a_4 a_5 b b_1 b_2 b_3 b_4 b_5 s t := by kernel_rfl

theorem runs_tutorref07_search {R : Type} (K : AV → List O → Option R) : ∀ fuel : Nat,
    (gt_tutorref07_search_8 (runO Try.prog (T_tutorref07_search @l_tutorref07_now @l_tutorref01_Join) cuts_tutorref07_search 0 (finish Try.prog Try.f45 0 K) fuel)) = (run_tutorref07_search (fun r0 r1 => K (.tup [.own 0, .v (.bool r0)]) [.row ⟨true, 3, (.int .i64), r1⟩]) fuel).1 ∧
    (gt_tutorref07_search_12 (runO Try.prog (T_tutorref07_search @l_tutorref07_now @l_tutorref01_Join) cuts_tutorref07_search 0 (finish Try.prog Try.f45 0 K) fuel)) = (run_tutorref07_search (fun r0 r1 => K (.tup [.own 0, .v (.bool r0)]) [.row ⟨true, 3, (.int .i64), r1⟩]) fuel).2
  | 0 => ⟨rfl, rfl⟩
  | fuel + 1 => by
    have ih := runs_tutorref07_search K fuel
    refine ⟨?_, ?_⟩
    · funext i o0 o0_1 o0_2 o0_3 o0_4 o0_5 o1 o1_1 o1_2 o1_3 o1_4 o1_5 o2 o3 o4
      refine (gstep_tutorref07_search_8 @l_tutorref07_now @l_tutorref01_Join _ K i o0 o0_1 o0_2 o0_3 o0_4 o0_5 o1 o1_1 o1_2 o1_3 o1_4 o1_5 o2 o3 o4).trans ?_
      rw [ih.1, ih.2]
      rfl
    · funext i s t x o0 o0_1 o0_2 o0_3 o0_4 o0_5 o1 o1_1 o1_2 o1_3 o1_4 o1_5 o2 o3 o4
      refine (gstep_tutorref07_search_12 @l_tutorref07_now @l_tutorref01_Join _ K i s t x o0 o0_1 o0_2 o0_3 o0_4 o0_5 o1 o1_1 o1_2 o1_3 o1_4 o1_5 o2 o3 o4).trans ?_
      rw [ih.1, ih.2]
      rfl

def S_tutorref07_search (l_tutorref07_search : LT_tutorref07_search) : Sum := ⟨[], fun {R} args ob K => match args, ob with
  | [.agg [.v (.int .i64 a), .v (.int .i64 a_1), .v (.int .i64 a_2), .v (.int .i64 a_3), .rd ⟨false, 3, (.int .i64), a_4⟩, .rd ⟨false, 3, (.int .i64), a_5⟩], .agg [.v (.int .i64 b), .v (.int .i64 b_1), .v (.int .i64 b_2), .v (.int .i64 b_3), .rd ⟨false, 3, (.int .i64), b_4⟩, .rd ⟨false, 3, (.int .i64), b_5⟩], .v (.int .i64 s), .v (.int .i64 t)], [] => l_tutorref07_search a a_1 a_2 a_3 a_4 a_5 b b_1 b_2 b_3 b_4 b_5 s t (fun r0 r1 => K (.tup [.own 0, .v (.bool r0)]) [.row ⟨true, 3, (.int .i64), r1⟩])
  | _, _ => none⟩

theorem sound_tutorref07_search : Sound Try.prog 45 (S_tutorref07_search @l_tutorref07_search) := by
  refine fn_sound (cuts := cuts_tutorref07_search) (fn := Try.f45) (Γ := (T_tutorref07_search @l_tutorref07_now @l_tutorref01_Join)) wide right_T_tutorref07_search Try.func45 fun {R} K r args ob h => ?_
  unfold S_tutorref07_search at h
  dsimp only at h
  split at h
  · obtain ⟨n, hn⟩ := ok_tutorref07_search _ _ _ _ _ _ _ _ _ _ _ _ _ _ _ h
    refine ⟨Nat.le_of_ble_eq_true (by kernel_rfl), n, (gentry_tutorref07_search @l_tutorref07_now @l_tutorref01_Join n K _ _ _ _ _ _ _ _ _ _ _ _ _ _).trans ?_⟩
    rw [(runs_tutorref07_search K n).1, (runs_tutorref07_search K n).2]
    exact hn
  · cases h

theorem call_tutorref07_search : Callable Try.prog 45 := ⟨_, Try.func45, by kernel_rfl, by kernel_rfl⟩

def T_tutorref07_Separate (l_tutorref07_search : LT_tutorref07_search) (l_tutorref03_Check : LT_tutorref03_Check) : FuncId → Option Sum := (addS (addS G0 45 (S_tutorref07_search @l_tutorref07_search)) 41 (S_tutorref03_Check @l_tutorref03_Check))

theorem right_T_tutorref07_Separate : Right Try.prog (T_tutorref07_Separate @l_tutorref07_search @l_tutorref03_Check) := (right_add (right_add right_G0 call_tutorref07_search sound_tutorref07_search) call_tutorref03_Check sound_tutorref03_Check)

abbrev cuts_tutorref07_Separate : Cuts := []

theorem gentry_tutorref07_Separate (l_tutorref07_search : LT_tutorref07_search) (l_tutorref03_Check : LT_tutorref03_Check) {R : Type} (K : AV → List O → Option R) (a a_1 a_2 a_3 : Int) (a_4 a_5 : List Int) (b b_1 b_2 b_3 : Int) (b_4 b_5 : List Int) :
    fnRun Try.prog (T_tutorref07_Separate @l_tutorref07_search @l_tutorref03_Check) cuts_tutorref07_Separate Try.f32 0 [.agg [.v (.int .i64 a), .v (.int .i64 a_1), .v (.int .i64 a_2), .v (.int .i64 a_3), .rd ⟨false, 3, (.int .i64), a_4⟩, .rd ⟨false, 3, (.int .i64), a_5⟩], .agg [.v (.int .i64 b), .v (.int .i64 b_1), .v (.int .i64 b_2), .v (.int .i64 b_3), .rd ⟨false, 3, (.int .i64), b_4⟩, .rd ⟨false, 3, (.int .i64), b_5⟩]] [] K =
    (fun (a a_1 a_2 a_3 : Int) (a_4 a_5 : List Int) (b b_1 b_2 b_3 : Int) (b_4 b_5 : List Int) (K0 : Bool → Int → (List Int) → Option R) =>
    l_tutorref03_Check a a_1 a_2 a_3 a_4 a_5
     (fun r1 r2 =>
      bi (r2 != 0)
       (K0 false r2 ([] : List Int))
       (l_tutorref03_Check b b_1 b_2 b_3 b_4 b_5
        (fun r3 r4 =>
         bi (r4 != 0)
          (K0 false r4 ([] : List Int))
          (bi (a != b)
           (K0 false 30 ([] : List Int))
           (bi (a_1 != b_1)
            (K0 false 1 ([] : List Int))
            (bi (a_2 != b_2)
             (K0 false 33 ([] : List Int))
             (l_tutorref07_search a a_1 a_2 a_3 a_4 a_5 b b_1 b_2 b_3 b_4 b_5 0 0
              (fun r5 r6 =>
               K0 r5 0 r6))))))))) a a_1 a_2 a_3 a_4 a_5 b b_1 b_2 b_3 b_4 b_5 (fun r0 r1 r2 => K (.tup [.own 0, .v (.bool r0), .v (.int .i64 r1)]) [.row ⟨true, 3, (.int .i64), r2⟩]) := by kernel_rfl

def S_tutorref07_Separate (l_tutorref07_Separate : LT_tutorref07_Separate) : Sum := ⟨[], fun {R} args ob K => match args, ob with
  | [.agg [.v (.int .i64 a), .v (.int .i64 a_1), .v (.int .i64 a_2), .v (.int .i64 a_3), .rd ⟨false, 3, (.int .i64), a_4⟩, .rd ⟨false, 3, (.int .i64), a_5⟩], .agg [.v (.int .i64 b), .v (.int .i64 b_1), .v (.int .i64 b_2), .v (.int .i64 b_3), .rd ⟨false, 3, (.int .i64), b_4⟩, .rd ⟨false, 3, (.int .i64), b_5⟩]], [] => l_tutorref07_Separate a a_1 a_2 a_3 a_4 a_5 b b_1 b_2 b_3 b_4 b_5 (fun r0 r1 r2 => K (.tup [.own 0, .v (.bool r0), .v (.int .i64 r1)]) [.row ⟨true, 3, (.int .i64), r2⟩])
  | _, _ => none⟩

theorem sound_tutorref07_Separate : Sound Try.prog 32 (S_tutorref07_Separate @l_tutorref07_Separate) := by
  refine fn_sound (cuts := cuts_tutorref07_Separate) (fn := Try.f32) (Γ := (T_tutorref07_Separate @l_tutorref07_search @l_tutorref03_Check)) wide right_T_tutorref07_Separate Try.func32 fun {R} K r args ob h => ?_
  unfold S_tutorref07_Separate at h
  dsimp only at h
  split at h
  · exact ⟨Nat.le_of_ble_eq_true (by kernel_rfl), 0, (gentry_tutorref07_Separate @l_tutorref07_search @l_tutorref03_Check K _ _ _ _ _ _ _ _ _ _ _ _).trans h⟩
  · cases h

theorem call_tutorref07_Separate : Callable Try.prog 32 := ⟨_, Try.func32, by kernel_rfl, by kernel_rfl⟩

def T_tutorlaw21_num : FuncId → Option Sum := G0

theorem right_T_tutorlaw21_num : Right Try.prog T_tutorlaw21_num := right_G0

abbrev cuts_tutorlaw21_num : Cuts := []

theorem gentry_tutorlaw21_num {R : Type} (K : AV → List O → Option R) (e : Int) :
    fnRun Try.prog T_tutorlaw21_num cuts_tutorlaw21_num Try.f17 0 [.v (.int .i64 e)] [] K =
    (fun (e : Int) (K0 : Int → Option R) =>
    K0 e) e (fun r0 => K (.v (.int .i64 r0)) []) := by kernel_rfl

def S_tutorlaw21_num (l_tutorlaw21_num : LT_tutorlaw21_num) : Sum := ⟨[], fun {R} args ob K => match args, ob with
  | [.v (.int .i64 e)], [] => l_tutorlaw21_num e (fun r0 => K (.v (.int .i64 r0)) [])
  | _, _ => none⟩

theorem sound_tutorlaw21_num : Sound Try.prog 17 (S_tutorlaw21_num @l_tutorlaw21_num) := by
  refine fn_sound (cuts := cuts_tutorlaw21_num) (fn := Try.f17) (Γ := T_tutorlaw21_num) wide right_T_tutorlaw21_num Try.func17 fun {R} K r args ob h => ?_
  unfold S_tutorlaw21_num at h
  dsimp only at h
  split at h
  · exact ⟨Nat.le_of_ble_eq_true (by kernel_rfl), 0, (gentry_tutorlaw21_num K _).trans h⟩
  · cases h

theorem call_tutorlaw21_num : Callable Try.prog 17 := ⟨_, Try.func17, by kernel_rfl, by kernel_rfl⟩

def T_tutorref01_Check : FuncId → Option Sum := G0

theorem right_T_tutorref01_Check : Right Try.prog T_tutorref01_Check := right_G0

abbrev cuts_tutorref01_Check : Cuts := [(6, [0, 1, 6])]

abbrev sta_tutorref01_Check_6 (w : List Int) (k i : Int) : St := ⟨fr0 36 [(0, .rd ⟨false, 3, (.int .i64), w⟩), (1, .v (.int .i64 k)), (6, .v (.int .i64 i))], []⟩

abbrev gt_tutorref01_Check_6 {R : Type} (g : List Item → St → Option R) : GT_tutorref01_Check_6 R := fun (w : List Int) (k i : Int) => g (at' Try.f28 6) (sta_tutorref01_Check_6 w k i)

theorem gstep_tutorref01_Check_6 {R : Type} (g : List Item → St → Option R) (K : AV → List O → Option R) (w : List Int) (k i : Int) :
    runSeg Try.prog T_tutorref01_Check cuts_tutorref01_Check 0 g (finish Try.prog Try.f28 0 K) (at' Try.f28 6) (sta_tutorref01_Check_6 w k i) =
    (fun (g28_6 : GT_tutorref01_Check_6 R) (K0 : Int → Int → Option R) (w : List Int) (k i : Int) =>
    bi (decide (i < (w.length : Int)))
     (bi (decide (0 ≤ i ∧ i < ((w.length : Nat) : Int)))
      (bi (decide ((w.getD i.toNat 0) < 0))
       (K0 i 10)
       (bi (decide (0 ≤ i ∧ i < ((w.length : Nat) : Int)))
        (bi (decide ((w.getD i.toNat 0) ≥ k))
         (K0 i 10)
         (g28_6 w k (IntKind.i64.wrap (i + 1))))
        none))
      none)
     (K0 0 0)) (gt_tutorref01_Check_6 g) (fun r0 r1 => K (.tup [.v (.int .i64 r0), .v (.int .i64 r1)]) []) w k i := by kernel_rfl

theorem gentry_tutorref01_Check {R : Type} (fuel : Nat) (K : AV → List O → Option R) (w : List Int) (k : Int) :
    fnRun Try.prog T_tutorref01_Check cuts_tutorref01_Check Try.f28 fuel [.rd ⟨false, 3, (.int .i64), w⟩, .v (.int .i64 k)] [] K =
    (fun (g28_6 : GT_tutorref01_Check_6 R) (K0 : Int → Int → Option R) (w : List Int) (k : Int) =>
    bi (decide (k < 1))
     (K0 0 1)
     (bi (decide (k > 64))
      (K0 0 1)
      (bi (decide ((w.length : Int) > 4096))
       (K0 0 2)
       (g28_6 w k 0)))) (gt_tutorref01_Check_6 (runO Try.prog T_tutorref01_Check cuts_tutorref01_Check 0 (finish Try.prog Try.f28 0 K) fuel)) (fun r0 r1 => K (.tup [.v (.int .i64 r0), .v (.int .i64 r1)]) []) w k := by kernel_rfl

theorem runs_tutorref01_Check {R : Type} (K : AV → List O → Option R) : ∀ fuel : Nat,
    (gt_tutorref01_Check_6 (runO Try.prog T_tutorref01_Check cuts_tutorref01_Check 0 (finish Try.prog Try.f28 0 K) fuel)) = (run_tutorref01_Check (fun r0 r1 => K (.tup [.v (.int .i64 r0), .v (.int .i64 r1)]) []) fuel)
  | 0 => rfl
  | fuel + 1 => by
    have ih := runs_tutorref01_Check K fuel
    funext w k i
    refine (gstep_tutorref01_Check_6 _ K w k i).trans ?_
    rw [ih]
    rfl

def S_tutorref01_Check (l_tutorref01_Check : LT_tutorref01_Check) : Sum := ⟨[], fun {R} args ob K => match args, ob with
  | [.rd ⟨false, 3, (.int .i64), w⟩, .v (.int .i64 k)], [] => l_tutorref01_Check w k (fun r0 r1 => K (.tup [.v (.int .i64 r0), .v (.int .i64 r1)]) [])
  | _, _ => none⟩

theorem sound_tutorref01_Check : Sound Try.prog 28 (S_tutorref01_Check @l_tutorref01_Check) := by
  refine fn_sound (cuts := cuts_tutorref01_Check) (fn := Try.f28) (Γ := T_tutorref01_Check) wide right_T_tutorref01_Check Try.func28 fun {R} K r args ob h => ?_
  unfold S_tutorref01_Check at h
  dsimp only at h
  split at h
  · obtain ⟨n, hn⟩ := ok_tutorref01_Check _ _ _ h
    refine ⟨Nat.le_of_ble_eq_true (by kernel_rfl), n, (gentry_tutorref01_Check n K _ _).trans ?_⟩
    rw [(runs_tutorref01_Check K n)]
    exact hn
  · cases h

theorem call_tutorref01_Check : Callable Try.prog 28 := ⟨_, Try.func28, by kernel_rfl, by kernel_rfl⟩

def T_tutorref03_Go : FuncId → Option Sum := G0

theorem right_T_tutorref03_Go : Right Try.prog T_tutorref03_Go := right_G0

abbrev cuts_tutorref03_Go : Cuts := [(3, [1, 2, 3, 8, 9])]

abbrev sta_tutorref03_Go_3 (s : Int) (w : List Int) (i o0 o0_1 o0_2 o0_3 : Int) (o0_4 o0_5 o1 : List Int) : St := ⟨fr0 59 [(1, .v (.int .i64 s)), (2, .rd ⟨false, 3, (.int .i64), w⟩), (3, .ptr 0 0), (8, .own 1), (9, .v (.int .i64 i))], [.box 51 [.v (.int .i64 o0), .v (.int .i64 o0_1), .v (.int .i64 o0_2), .v (.int .i64 o0_3), .rd ⟨false, 3, (.int .i64), o0_4⟩, .rd ⟨false, 3, (.int .i64), o0_5⟩], .row ⟨true, 3, (.int .i64), o1⟩]⟩

abbrev gt_tutorref03_Go_3 {R : Type} (g : List Item → St → Option R) : GT_tutorref03_Go_3 R := fun (s : Int) (w : List Int) (i o0 o0_1 o0_2 o0_3 : Int) (o0_4 o0_5 o1 : List Int) => g (at' Try.f56 3) (sta_tutorref03_Go_3 s w i o0 o0_1 o0_2 o0_3 o0_4 o0_5 o1)

theorem gstep_tutorref03_Go_3 {R : Type} (g : List Item → St → Option R) (K : AV → List O → Option R) (s : Int) (w : List Int) (i o0 o0_1 o0_2 o0_3 : Int) (o0_4 o0_5 o1 : List Int) :
    runSeg Try.prog T_tutorref03_Go cuts_tutorref03_Go 0 g (finish Try.prog Try.f56 0 K) (at' Try.f56 3) (sta_tutorref03_Go_3 s w i o0 o0_1 o0_2 o0_3 o0_4 o0_5 o1) =
    (fun (g56_3 : GT_tutorref03_Go_3 R) (K0 : Int → (List Int) → Option R) (s : Int) (w : List Int) (i o0 o0_1 o0_2 o0_3 : Int) (o0_4 o0_5 o1 : List Int) =>
    bi (decide (i < (w.length : Int)))
     (bi (o0 == 2)
      (bi (decide (0 ≤ i ∧ i < ((w.length : Nat) : Int)))
       (bi (decide (0 ≤ (IntKind.i64.wrap ((IntKind.i64.wrap (s * o0_1)) + (w.getD i.toNat 0))) ∧ (IntKind.i64.wrap ((IntKind.i64.wrap (s * o0_1)) + (w.getD i.toNat 0))) < ((o0_5.length : Nat) : Int)))
        (bi (decide ((o1.length + [o0_5.getD ((IntKind.i64.wrap ((IntKind.i64.wrap (s * o0_1)) + (w.getD i.toNat 0))).toNat) 0].length) * 8 ≤ lim))
         (bi (decide (0 ≤ i ∧ i < ((w.length : Nat) : Int)))
          (bi (decide (0 ≤ (IntKind.i64.wrap ((IntKind.i64.wrap (s * o0_1)) + (w.getD i.toNat 0))) ∧ (IntKind.i64.wrap ((IntKind.i64.wrap (s * o0_1)) + (w.getD i.toNat 0))) < ((o0_4.length : Nat) : Int)))
           (g56_3 (o0_4.getD ((IntKind.i64.wrap ((IntKind.i64.wrap (s * o0_1)) + (w.getD i.toNat 0))).toNat) 0) w (IntKind.i64.wrap (i + 1)) o0 o0_1 o0_2 o0_3 o0_4 o0_5 (o1 ++ [o0_5.getD ((IntKind.i64.wrap ((IntKind.i64.wrap (s * o0_1)) + (w.getD i.toNat 0))).toNat) 0]))
           none)
          none)
         none)
        none)
       none)
      (bi (decide (0 ≤ i ∧ i < ((w.length : Nat) : Int)))
       (bi (decide (0 ≤ (IntKind.i64.wrap ((IntKind.i64.wrap (s * o0_1)) + (w.getD i.toNat 0))) ∧ (IntKind.i64.wrap ((IntKind.i64.wrap (s * o0_1)) + (w.getD i.toNat 0))) < ((o0_4.length : Nat) : Int)))
        (g56_3 (o0_4.getD ((IntKind.i64.wrap ((IntKind.i64.wrap (s * o0_1)) + (w.getD i.toNat 0))).toNat) 0) w (IntKind.i64.wrap (i + 1)) o0 o0_1 o0_2 o0_3 o0_4 o0_5 o1)
        none)
       none))
     (bi (o0 == 1)
      (bi (decide (0 ≤ s ∧ s < ((o0_5.length : Nat) : Int)))
       (K0 s [o0_5.getD s.toNat 0])
       none)
      (K0 s o1))) (gt_tutorref03_Go_3 g) (fun r0 r1 => K (.tup [.v (.int .i64 r0), .own 0]) [.row ⟨true, 3, (.int .i64), r1⟩]) s w i o0 o0_1 o0_2 o0_3 o0_4 o0_5 o1 := by kernel_rfl

theorem gentry_tutorref03_Go {R : Type} (fuel : Nat) (K : AV → List O → Option R) (m m_1 m_2 m_3 : Int) (m_4 m_5 : List Int) (s : Int) (w : List Int) :
    fnRun Try.prog T_tutorref03_Go cuts_tutorref03_Go Try.f56 fuel [.agg [.v (.int .i64 m), .v (.int .i64 m_1), .v (.int .i64 m_2), .v (.int .i64 m_3), .rd ⟨false, 3, (.int .i64), m_4⟩, .rd ⟨false, 3, (.int .i64), m_5⟩], .v (.int .i64 s), .rd ⟨false, 3, (.int .i64), w⟩] [] K =
    (fun (g56_3 : GT_tutorref03_Go_3 R) (K0 : Int → (List Int) → Option R) (m m_1 m_2 m_3 : Int) (m_4 m_5 : List Int) (s : Int) (w : List Int) =>
    g56_3 s w 0 m m_1 m_2 m_3 m_4 m_5 ([] : List Int)) (gt_tutorref03_Go_3 (runO Try.prog T_tutorref03_Go cuts_tutorref03_Go 0 (finish Try.prog Try.f56 0 K) fuel)) (fun r0 r1 => K (.tup [.v (.int .i64 r0), .own 0]) [.row ⟨true, 3, (.int .i64), r1⟩]) m m_1 m_2 m_3 m_4 m_5 s w := by kernel_rfl

theorem runs_tutorref03_Go {R : Type} (K : AV → List O → Option R) : ∀ fuel : Nat,
    (gt_tutorref03_Go_3 (runO Try.prog T_tutorref03_Go cuts_tutorref03_Go 0 (finish Try.prog Try.f56 0 K) fuel)) = (run_tutorref03_Go (fun r0 r1 => K (.tup [.v (.int .i64 r0), .own 0]) [.row ⟨true, 3, (.int .i64), r1⟩]) fuel)
  | 0 => rfl
  | fuel + 1 => by
    have ih := runs_tutorref03_Go K fuel
    funext s w i o0 o0_1 o0_2 o0_3 o0_4 o0_5 o1
    refine (gstep_tutorref03_Go_3 _ K s w i o0 o0_1 o0_2 o0_3 o0_4 o0_5 o1).trans ?_
    rw [ih]
    rfl

def S_tutorref03_Go (l_tutorref03_Go : LT_tutorref03_Go) : Sum := ⟨[], fun {R} args ob K => match args, ob with
  | [.agg [.v (.int .i64 m), .v (.int .i64 m_1), .v (.int .i64 m_2), .v (.int .i64 m_3), .rd ⟨false, 3, (.int .i64), m_4⟩, .rd ⟨false, 3, (.int .i64), m_5⟩], .v (.int .i64 s), .rd ⟨false, 3, (.int .i64), w⟩], [] => l_tutorref03_Go m m_1 m_2 m_3 m_4 m_5 s w (fun r0 r1 => K (.tup [.v (.int .i64 r0), .own 0]) [.row ⟨true, 3, (.int .i64), r1⟩])
  | _, _ => none⟩

theorem sound_tutorref03_Go : Sound Try.prog 56 (S_tutorref03_Go @l_tutorref03_Go) := by
  refine fn_sound (cuts := cuts_tutorref03_Go) (fn := Try.f56) (Γ := T_tutorref03_Go) wide right_T_tutorref03_Go Try.func56 fun {R} K r args ob h => ?_
  unfold S_tutorref03_Go at h
  dsimp only at h
  split at h
  · obtain ⟨n, hn⟩ := ok_tutorref03_Go _ _ _ _ _ _ _ _ _ h
    refine ⟨Nat.le_of_ble_eq_true (by kernel_rfl), n, (gentry_tutorref03_Go n K _ _ _ _ _ _ _ _).trans ?_⟩
    rw [(runs_tutorref03_Go K n)]
    exact hn
  · cases h

theorem call_tutorref03_Go : Callable Try.prog 56 := ⟨_, Try.func56, by kernel_rfl, by kernel_rfl⟩

def T_tutorref03_From (l_tutorref03_Go : LT_tutorref03_Go) (l_tutorref01_Check : LT_tutorref01_Check) (l_tutorref03_Check : LT_tutorref03_Check) : FuncId → Option Sum := (addS (addS (addS G0 56 (S_tutorref03_Go @l_tutorref03_Go)) 28 (S_tutorref01_Check @l_tutorref01_Check)) 41 (S_tutorref03_Check @l_tutorref03_Check))

theorem right_T_tutorref03_From : Right Try.prog (T_tutorref03_From @l_tutorref03_Go @l_tutorref01_Check @l_tutorref03_Check) := (right_add (right_add (right_add right_G0 call_tutorref03_Go sound_tutorref03_Go) call_tutorref01_Check sound_tutorref01_Check) call_tutorref03_Check sound_tutorref03_Check)

abbrev cuts_tutorref03_From : Cuts := []

theorem gentry_tutorref03_From (l_tutorref03_Go : LT_tutorref03_Go) (l_tutorref01_Check : LT_tutorref01_Check) (l_tutorref03_Check : LT_tutorref03_Check) {R : Type} (K : AV → List O → Option R) (m m_1 m_2 m_3 : Int) (m_4 m_5 : List Int) (s : Int) (w : List Int) :
    fnRun Try.prog (T_tutorref03_From @l_tutorref03_Go @l_tutorref01_Check @l_tutorref03_Check) cuts_tutorref03_From Try.f46 0 [.agg [.v (.int .i64 m), .v (.int .i64 m_1), .v (.int .i64 m_2), .v (.int .i64 m_3), .rd ⟨false, 3, (.int .i64), m_4⟩, .rd ⟨false, 3, (.int .i64), m_5⟩], .v (.int .i64 s), .rd ⟨false, 3, (.int .i64), w⟩] [] K =
    (fun (m m_1 m_2 m_3 : Int) (m_4 m_5 : List Int) (s : Int) (w : List Int) (K0 : Int → Int → (List Int) → Option R) =>
    l_tutorref03_Check m m_1 m_2 m_3 m_4 m_5
     (fun r1 r2 =>
      bi (r2 != 0)
       (K0 0 r2 ([] : List Int))
       (bi (decide (s < 0))
        (K0 0 32 ([] : List Int))
        (bi (decide (s ≥ m_3))
         (K0 0 32 ([] : List Int))
         (l_tutorref01_Check w m_1
          (fun r3 r4 =>
           bi (r4 != 0)
            (K0 0 r4 ([] : List Int))
            (l_tutorref03_Go m m_1 m_2 m_3 m_4 m_5 s w
             (fun r5 r6 =>
              K0 r5 0 r6)))))))) m m_1 m_2 m_3 m_4 m_5 s w (fun r0 r1 r2 => K (.tup [.v (.int .i64 r0), .own 0, .v (.int .i64 r1)]) [.row ⟨true, 3, (.int .i64), r2⟩]) := by kernel_rfl

def S_tutorref03_From (l_tutorref03_From : LT_tutorref03_From) : Sum := ⟨[], fun {R} args ob K => match args, ob with
  | [.agg [.v (.int .i64 m), .v (.int .i64 m_1), .v (.int .i64 m_2), .v (.int .i64 m_3), .rd ⟨false, 3, (.int .i64), m_4⟩, .rd ⟨false, 3, (.int .i64), m_5⟩], .v (.int .i64 s), .rd ⟨false, 3, (.int .i64), w⟩], [] => l_tutorref03_From m m_1 m_2 m_3 m_4 m_5 s w (fun r0 r1 r2 => K (.tup [.v (.int .i64 r0), .own 0, .v (.int .i64 r1)]) [.row ⟨true, 3, (.int .i64), r2⟩])
  | _, _ => none⟩

theorem sound_tutorref03_From : Sound Try.prog 46 (S_tutorref03_From @l_tutorref03_From) := by
  refine fn_sound (cuts := cuts_tutorref03_From) (fn := Try.f46) (Γ := (T_tutorref03_From @l_tutorref03_Go @l_tutorref01_Check @l_tutorref03_Check)) wide right_T_tutorref03_From Try.func46 fun {R} K r args ob h => ?_
  unfold S_tutorref03_From at h
  dsimp only at h
  split at h
  · exact ⟨Nat.le_of_ble_eq_true (by kernel_rfl), 0, (gentry_tutorref03_From @l_tutorref03_Go @l_tutorref01_Check @l_tutorref03_Check K _ _ _ _ _ _ _ _).trans h⟩
  · cases h

theorem call_tutorref03_From : Callable Try.prog 46 := ⟨_, Try.func46, by kernel_rfl, by kernel_rfl⟩

def T_tutorref03_Run (l_tutorref03_From : LT_tutorref03_From) : FuncId → Option Sum := (addS G0 46 (S_tutorref03_From @l_tutorref03_From))

theorem right_T_tutorref03_Run : Right Try.prog (T_tutorref03_Run @l_tutorref03_From) := (right_add right_G0 call_tutorref03_From sound_tutorref03_From)

abbrev cuts_tutorref03_Run : Cuts := []

theorem gentry_tutorref03_Run (l_tutorref03_From : LT_tutorref03_From) {R : Type} (K : AV → List O → Option R) (m m_1 m_2 m_3 : Int) (m_4 m_5 w : List Int) :
    fnRun Try.prog (T_tutorref03_Run @l_tutorref03_From) cuts_tutorref03_Run Try.f33 0 [.agg [.v (.int .i64 m), .v (.int .i64 m_1), .v (.int .i64 m_2), .v (.int .i64 m_3), .rd ⟨false, 3, (.int .i64), m_4⟩, .rd ⟨false, 3, (.int .i64), m_5⟩], .rd ⟨false, 3, (.int .i64), w⟩] [] K =
    (fun (m m_1 m_2 m_3 : Int) (m_4 m_5 w : List Int) (K0 : Int → (List Int) → Option R) =>
    l_tutorref03_From m m_1 m_2 m_3 m_4 m_5 0 w
     (fun r1 r2 r3 =>
      K0 r2 r3)) m m_1 m_2 m_3 m_4 m_5 w (fun r0 r1 => K (.tup [.own 0, .v (.int .i64 r0)]) [.row ⟨true, 3, (.int .i64), r1⟩]) := by kernel_rfl

def S_tutorref03_Run (l_tutorref03_Run : LT_tutorref03_Run) : Sum := ⟨[], fun {R} args ob K => match args, ob with
  | [.agg [.v (.int .i64 m), .v (.int .i64 m_1), .v (.int .i64 m_2), .v (.int .i64 m_3), .rd ⟨false, 3, (.int .i64), m_4⟩, .rd ⟨false, 3, (.int .i64), m_5⟩], .rd ⟨false, 3, (.int .i64), w⟩], [] => l_tutorref03_Run m m_1 m_2 m_3 m_4 m_5 w (fun r0 r1 => K (.tup [.own 0, .v (.int .i64 r0)]) [.row ⟨true, 3, (.int .i64), r1⟩])
  | _, _ => none⟩

theorem sound_tutorref03_Run : Sound Try.prog 33 (S_tutorref03_Run @l_tutorref03_Run) := by
  refine fn_sound (cuts := cuts_tutorref03_Run) (fn := Try.f33) (Γ := (T_tutorref03_Run @l_tutorref03_From)) wide right_T_tutorref03_Run Try.func33 fun {R} K r args ob h => ?_
  unfold S_tutorref03_Run at h
  dsimp only at h
  split at h
  · exact ⟨Nat.le_of_ble_eq_true (by kernel_rfl), 0, (gentry_tutorref03_Run @l_tutorref03_From K _ _ _ _ _ _ _).trans h⟩
  · cases h

theorem call_tutorref03_Run : Callable Try.prog 33 := ⟨_, Try.func33, by kernel_rfl, by kernel_rfl⟩

def T_tutorref01_Same : FuncId → Option Sum := G0

theorem right_T_tutorref01_Same : Right Try.prog T_tutorref01_Same := right_G0

abbrev cuts_tutorref01_Same : Cuts := [(4, [0, 1, 5])]

abbrev sta_tutorref01_Same_4 (a b : List Int) (i : Int) : St := ⟨fr0 26 [(0, .rd ⟨false, 3, (.int .i64), a⟩), (1, .rd ⟨false, 3, (.int .i64), b⟩), (5, .v (.int .i64 i))], []⟩

abbrev gt_tutorref01_Same_4 {R : Type} (g : List Item → St → Option R) : GT_tutorref01_Same_4 R := fun (a b : List Int) (i : Int) => g (at' Try.f16 4) (sta_tutorref01_Same_4 a b i)

theorem gstep_tutorref01_Same_4 {R : Type} (g : List Item → St → Option R) (K : AV → List O → Option R) (a b : List Int) (i : Int) :
    runSeg Try.prog T_tutorref01_Same cuts_tutorref01_Same 0 g (finish Try.prog Try.f16 0 K) (at' Try.f16 4) (sta_tutorref01_Same_4 a b i) =
    (fun (g16_4 : GT_tutorref01_Same_4 R) (K0 : Bool → Option R) (a b : List Int) (i : Int) =>
    bi (decide (i < (a.length : Int)))
     (bi (decide (0 ≤ i ∧ i < ((a.length : Nat) : Int)))
      (bi (decide (0 ≤ i ∧ i < ((b.length : Nat) : Int)))
       (bi ((a.getD i.toNat 0) != (b.getD i.toNat 0))
        (K0 false)
        (g16_4 a b (IntKind.i64.wrap (i + 1))))
       none)
      none)
     (K0 true)) (gt_tutorref01_Same_4 g) (fun r0 => K (.v (.bool r0)) []) a b i := by kernel_rfl

theorem gentry_tutorref01_Same {R : Type} (fuel : Nat) (K : AV → List O → Option R) (a b : List Int) :
    fnRun Try.prog T_tutorref01_Same cuts_tutorref01_Same Try.f16 fuel [.rd ⟨false, 3, (.int .i64), a⟩, .rd ⟨false, 3, (.int .i64), b⟩] [] K =
    (fun (g16_4 : GT_tutorref01_Same_4 R) (K0 : Bool → Option R) (a b : List Int) =>
    bi ((a.length : Int) != (b.length : Int))
     (K0 false)
     (g16_4 a b 0)) (gt_tutorref01_Same_4 (runO Try.prog T_tutorref01_Same cuts_tutorref01_Same 0 (finish Try.prog Try.f16 0 K) fuel)) (fun r0 => K (.v (.bool r0)) []) a b := by kernel_rfl

theorem runs_tutorref01_Same {R : Type} (K : AV → List O → Option R) : ∀ fuel : Nat,
    (gt_tutorref01_Same_4 (runO Try.prog T_tutorref01_Same cuts_tutorref01_Same 0 (finish Try.prog Try.f16 0 K) fuel)) = (run_tutorref01_Same (fun r0 => K (.v (.bool r0)) []) fuel)
  | 0 => rfl
  | fuel + 1 => by
    have ih := runs_tutorref01_Same K fuel
    funext a b i
    refine (gstep_tutorref01_Same_4 _ K a b i).trans ?_
    rw [ih]
    rfl

def S_tutorref01_Same (l_tutorref01_Same : LT_tutorref01_Same) : Sum := ⟨[], fun {R} args ob K => match args, ob with
  | [.rd ⟨false, 3, (.int .i64), a⟩, .rd ⟨false, 3, (.int .i64), b⟩], [] => l_tutorref01_Same a b (fun r0 => K (.v (.bool r0)) [])
  | _, _ => none⟩

theorem sound_tutorref01_Same : Sound Try.prog 16 (S_tutorref01_Same @l_tutorref01_Same) := by
  refine fn_sound (cuts := cuts_tutorref01_Same) (fn := Try.f16) (Γ := T_tutorref01_Same) wide right_T_tutorref01_Same Try.func16 fun {R} K r args ob h => ?_
  unfold S_tutorref01_Same at h
  dsimp only at h
  split at h
  · obtain ⟨n, hn⟩ := ok_tutorref01_Same _ _ _ h
    refine ⟨Nat.le_of_ble_eq_true (by kernel_rfl), n, (gentry_tutorref01_Same n K _ _).trans ?_⟩
    rw [(runs_tutorref01_Same K n)]
    exact hn
  · cases h

theorem call_tutorref01_Same : Callable Try.prog 16 := ⟨_, Try.func16, by kernel_rfl, by kernel_rfl⟩

def T_tutorlaw21_WalkApart (l_tutorlaw21_live : LT_tutorlaw21_live) (l_tutorref01_Same : LT_tutorref01_Same) (l_tutorref03_Run : LT_tutorref03_Run) (l_tutorlaw21_num : LT_tutorlaw21_num) (l_tutorref07_Separate : LT_tutorref07_Separate) (l_walk_Hunt : LT_walk_Hunt) (l_tutorref03_Big : LT_tutorref03_Big) : FuncId → Option Sum := (addS (addS (addS (addS (addS (addS (addS G0 9 (S_tutorlaw21_live @l_tutorlaw21_live)) 16 (S_tutorref01_Same @l_tutorref01_Same)) 33 (S_tutorref03_Run @l_tutorref03_Run)) 17 (S_tutorlaw21_num @l_tutorlaw21_num)) 32 (S_tutorref07_Separate @l_tutorref07_Separate)) 30 (S_walk_Hunt @l_walk_Hunt)) 22 (S_tutorref03_Big @l_tutorref03_Big))

theorem right_T_tutorlaw21_WalkApart : Right Try.prog (T_tutorlaw21_WalkApart @l_tutorlaw21_live @l_tutorref01_Same @l_tutorref03_Run @l_tutorlaw21_num @l_tutorref07_Separate @l_walk_Hunt @l_tutorref03_Big) := (right_add (right_add (right_add (right_add (right_add (right_add (right_add right_G0 call_tutorlaw21_live sound_tutorlaw21_live) call_tutorref01_Same sound_tutorref01_Same) call_tutorref03_Run sound_tutorref03_Run) call_tutorlaw21_num sound_tutorlaw21_num) call_tutorref07_Separate sound_tutorref07_Separate) call_walk_Hunt sound_walk_Hunt) call_tutorref03_Big sound_tutorref03_Big)

abbrev cuts_tutorlaw21_WalkApart : Cuts := []

theorem gentry_tutorlaw21_WalkApart (l_tutorlaw21_live : LT_tutorlaw21_live) (l_tutorref01_Same : LT_tutorref01_Same) (l_tutorref03_Run : LT_tutorref03_Run) (l_tutorlaw21_num : LT_tutorlaw21_num) (l_tutorref07_Separate : LT_tutorref07_Separate) (l_walk_Hunt : LT_walk_Hunt) (l_tutorref03_Big : LT_tutorref03_Big) {R : Type} (K : AV → List O → Option R) (a a_1 a_2 a_3 : Int) (a_4 a_5 : List Int) (b b_1 b_2 b_3 : Int) (b_4 b_5 : List Int) (seed count high : Int) :
    fnRun Try.prog (T_tutorlaw21_WalkApart @l_tutorlaw21_live @l_tutorref01_Same @l_tutorref03_Run @l_tutorlaw21_num @l_tutorref07_Separate @l_walk_Hunt @l_tutorref03_Big) cuts_tutorlaw21_WalkApart Try.f8 0 [.agg [.v (.int .i64 a), .v (.int .i64 a_1), .v (.int .i64 a_2), .v (.int .i64 a_3), .rd ⟨false, 3, (.int .i64), a_4⟩, .rd ⟨false, 3, (.int .i64), a_5⟩], .agg [.v (.int .i64 b), .v (.int .i64 b_1), .v (.int .i64 b_2), .v (.int .i64 b_3), .rd ⟨false, 3, (.int .i64), b_4⟩, .rd ⟨false, 3, (.int .i64), b_5⟩], .v (.int .u64 seed), .v (.int .i64 count), .v (.int .i64 high)] [] K =
    (fun (a a_1 a_2 a_3 : Int) (a_4 a_5 : List Int) (b b_1 b_2 b_3 : Int) (b_4 b_5 : List Int) (seed count high : Int) (K0 : Bool → Option R) =>
    l_tutorref03_Big a a_1 a_2 a_3 a_4 a_5 30
     (fun r1 =>
      bi r1
       (l_tutorlaw21_live
        (fun r2 =>
         K0 r2))
       (l_tutorref03_Big b b_1 b_2 b_3 b_4 b_5 30
        (fun r3 =>
         bi r3
          (l_tutorlaw21_live
           (fun r4 =>
            K0 r4))
          (bi (decide (count > 100))
           (l_tutorlaw21_live
            (fun r5 =>
             K0 r5))
           (bi (decide (high > 60))
            (l_tutorlaw21_live
             (fun r6 =>
              K0 r6))
            (l_walk_Hunt a a_1 a_2 a_3 a_4 a_5 b b_1 b_2 b_3 b_4 b_5 seed count 0 high
             (fun r7 r8 r9 =>
              l_tutorref07_Separate a a_1 a_2 a_3 a_4 a_5 b b_1 b_2 b_3 b_4 b_5
               (fun r10 r11 r12 =>
                l_tutorlaw21_num r8
                 (fun r13 =>
                  bi (r13 != 0)
                   (bi ((r9.length : Int) == 0)
                    (bi (r7 == 0)
                     (l_tutorlaw21_live
                      (fun r14 =>
                       K0 r14))
                     (K0 false))
                    (K0 false))
                   (l_tutorref03_Run a a_1 a_2 a_3 a_4 a_5 r9
                    (fun r15 r16 =>
                     l_tutorref03_Run b b_1 b_2 b_3 b_4 b_5 r9
                      (fun r17 r18 =>
                       bi (r11 == 0)
                        (bi r10
                         (l_tutorref01_Same r16 r18
                          (fun r19 =>
                           bi (!r19)
                            (bi (decide ((r9.length : Int) ≤ high))
                             (bi (decide (r7 ≥ 1))
                              (bi (decide (r7 ≤ count))
                               (l_tutorlaw21_live
                                (fun r20 =>
                                 K0 r20))
                               (K0 false))
                              (K0 false))
                             (K0 false))
                            (K0 false)))
                         (K0 false))
                        (K0 false)))))))))))))) a a_1 a_2 a_3 a_4 a_5 b b_1 b_2 b_3 b_4 b_5 seed count high (fun r0 => K (.v (.bool r0)) []) := by kernel_rfl

def S_tutorlaw21_WalkApart (l_tutorlaw21_WalkApart : LT_tutorlaw21_WalkApart) : Sum := ⟨[], fun {R} args ob K => match args, ob with
  | [.agg [.v (.int .i64 a), .v (.int .i64 a_1), .v (.int .i64 a_2), .v (.int .i64 a_3), .rd ⟨false, 3, (.int .i64), a_4⟩, .rd ⟨false, 3, (.int .i64), a_5⟩], .agg [.v (.int .i64 b), .v (.int .i64 b_1), .v (.int .i64 b_2), .v (.int .i64 b_3), .rd ⟨false, 3, (.int .i64), b_4⟩, .rd ⟨false, 3, (.int .i64), b_5⟩], .v (.int .u64 seed), .v (.int .i64 count), .v (.int .i64 high)], [] => l_tutorlaw21_WalkApart a a_1 a_2 a_3 a_4 a_5 b b_1 b_2 b_3 b_4 b_5 seed count high (fun r0 => K (.v (.bool r0)) [])
  | _, _ => none⟩

theorem sound_tutorlaw21_WalkApart : Sound Try.prog 8 (S_tutorlaw21_WalkApart @l_tutorlaw21_WalkApart) := by
  refine fn_sound (cuts := cuts_tutorlaw21_WalkApart) (fn := Try.f8) (Γ := (T_tutorlaw21_WalkApart @l_tutorlaw21_live @l_tutorref01_Same @l_tutorref03_Run @l_tutorlaw21_num @l_tutorref07_Separate @l_walk_Hunt @l_tutorref03_Big)) wide right_T_tutorlaw21_WalkApart Try.func8 fun {R} K r args ob h => ?_
  unfold S_tutorlaw21_WalkApart at h
  dsimp only at h
  split at h
  · exact ⟨Nat.le_of_ble_eq_true (by kernel_rfl), 0, (gentry_tutorlaw21_WalkApart @l_tutorlaw21_live @l_tutorref01_Same @l_tutorref03_Run @l_tutorlaw21_num @l_tutorref07_Separate @l_walk_Hunt @l_tutorref03_Big K _ _ _ _ _ _ _ _ _ _ _ _ _ _ _).trans h⟩
  · cases h

theorem call_tutorlaw21_WalkApart : Callable Try.prog 8 := ⟨_, Try.func8, by kernel_rfl, by kernel_rfl⟩

end
end Go.Ev
