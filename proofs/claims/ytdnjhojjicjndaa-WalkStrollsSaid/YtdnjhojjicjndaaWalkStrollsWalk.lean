/- Each function of the program is its tree. -/
import Derived.Test.YtdnjhojjicjndaaProg
import Derived.Test.YtdnjhojjicjndaaEvFn
import Derived.Test.YtdnjhojjicjndaaWalkStrollsPure
namespace Go.Ev
open Go.Proofs
noncomputable section
set_option linter.unusedVariables false
set_option linter.unusedSimpArgs false
set_option maxRecDepth 100000
set_option maxHeartbeats 4000000

instance : TabG := ⟨fun _ => none⟩

instance : LoopG := ⟨fun k => rfOf Try.prog k⟩

theorem wide : Tables.follows Try.prog.toTables .mixedOrders = true := by kernel_rfl

def G0 : FuncId → Option Sum := fun _ => none
theorem right_G0 : Right Try.prog G0 := fun f S h => by cases h

def T_tutorref03_Big : FuncId → Option Sum := G0

theorem right_T_tutorref03_Big : Right Try.prog T_tutorref03_Big := right_G0

abbrev cuts_tutorref03_Big : Cuts := []

theorem gentry_tutorref03_Big {R : Type} (K : AV → List O → Option R) (m m_1 m_2 m_3 : Int) (m_4 m_5 : List Int) (states : Int) :
    fnRun Try.prog T_tutorref03_Big cuts_tutorref03_Big Try.f22 0 [.agg [.v (.int .i64 m), .v (.int .i64 m_1), .v (.int .i64 m_2), .v (.int .i64 m_3), .rd ⟨false, 3, (.int .i64), m_4⟩, .rd ⟨false, 3, (.int .i64), m_5⟩], .v (.int .i64 states)] [] K =
    (fun (m m_1 m_2 m_3 : Int) (m_4 m_5 : List Int) (states : Int) (K0 : Bool → Option R) =>
    bi (decide (m_3 > states))
     (K0 true)
     (bi (decide ((m_4.length : Int) > 70000))
      (K0 true)
      (K0 (decide ((m_5.length : Int) > 70000))))) m m_1 m_2 m_3 m_4 m_5 states (fun r0 => K (.v (.bool r0)) []) := by kernel_rfl

def S_tutorref03_Big (l_tutorref03_Big : LT_tutorref03_Big) : Sum := ⟨[], fun {R} args ob K => match args, ob with
  | [.agg [.v (.int .i64 m), .v (.int .i64 m_1), .v (.int .i64 m_2), .v (.int .i64 m_3), .rd ⟨false, 3, (.int .i64), m_4⟩, .rd ⟨false, 3, (.int .i64), m_5⟩], .v (.int .i64 states)], [] => l_tutorref03_Big m m_1 m_2 m_3 m_4 m_5 states (fun r0 => K (.v (.bool r0)) [])
  | _, _ => none⟩

theorem sound_tutorref03_Big : Sound Try.prog 22 (S_tutorref03_Big @l_tutorref03_Big) := by
  refine fn_sound (cuts := cuts_tutorref03_Big) (fn := Try.f22) (Γ := T_tutorref03_Big) wide right_T_tutorref03_Big Try.func22 fun {R} K r args ob h => ?_
  unfold S_tutorref03_Big at h
  dsimp only at h
  split at h
  · exact ⟨Nat.le_of_ble_eq_true (by kernel_rfl), 0, (gentry_tutorref03_Big K _ _ _ _ _ _ _).trans h⟩
  · cases h

theorem call_tutorref03_Big : Callable Try.prog 22 := ⟨_, Try.func22, by kernel_rfl, by kernel_rfl⟩

def T_walk_New : FuncId → Option Sum := G0

theorem right_T_walk_New : Right Try.prog T_walk_New := right_G0

abbrev cuts_walk_New : Cuts := []

theorem gentry_walk_New {R : Type} (K : AV → List O → Option R) (seed : Int) :
    fnRun Try.prog T_walk_New cuts_walk_New Try.f10 0 [.v (.int .u64 seed)] [] K =
    (fun (seed : Int) (K0 : Int → Option R) =>
    bi (seed == 0)
     (K0 88172645463325252)
     (K0 seed)) seed (fun r0 => K (.ptr 0 0) [.box 80 [.v (.int .u64 r0)]]) := by kernel_rfl

def S_walk_New (l_walk_New : LT_walk_New) : Sum := ⟨[], fun {R} args ob K => match args, ob with
  | [.v (.int .u64 seed)], [] => l_walk_New seed (fun r0 => K (.ptr 0 0) [.box 80 [.v (.int .u64 r0)]])
  | _, _ => none⟩

theorem sound_walk_New : Sound Try.prog 10 (S_walk_New @l_walk_New) := by
  refine fn_sound (cuts := cuts_walk_New) (fn := Try.f10) (Γ := T_walk_New) wide right_T_walk_New Try.func10 fun {R} K r args ob h => ?_
  unfold S_walk_New at h
  dsimp only at h
  split at h
  · exact ⟨Nat.le_of_ble_eq_true (by kernel_rfl), 0, (gentry_walk_New K _).trans h⟩
  · cases h

theorem call_walk_New : Callable Try.prog 10 := ⟨_, Try.func10, by kernel_rfl, by kernel_rfl⟩

def T_tutorref21_Int : FuncId → Option Sum := G0

theorem right_T_tutorref21_Int : Right Try.prog T_tutorref21_Int := right_G0

abbrev cuts_tutorref21_Int : Cuts := []

theorem gentry_tutorref21_Int {R : Type} (K : AV → List O → Option R) (x n : Int) :
    fnRun Try.prog T_tutorref21_Int cuts_tutorref21_Int Try.f12 0 [.v (.int .u64 x), .v (.int .i64 n)] [] K =
    (fun (x n : Int) (K0 : Int → Int → Option R) =>
    bi (decide (n < 1))
     (K0 0 x)
     (bi (decide ((IntKind.u64.wrap n) = 0))
      none
      (K0 (IntKind.i64.wrap (((IntKind.u64.wrap ((IntKind.u64.wrap (BitVec.ofInt 64 (IntKind.u64.wrap (BitVec.ofInt 64 (IntKind.u64.wrap (BitVec.ofInt 64 x ^^^ BitVec.ofInt 64 (x.fdiv (2 ^ (min (12 : Int).toNat 64)))).toNat) ^^^ BitVec.ofInt 64 (IntKind.u64.wrap ((IntKind.u64.wrap (BitVec.ofInt 64 x ^^^ BitVec.ofInt 64 (x.fdiv (2 ^ (min (12 : Int).toNat 64)))).toNat) * 2 ^ (min (25 : Int).toNat 64)))).toNat) ^^^ BitVec.ofInt 64 ((IntKind.u64.wrap (BitVec.ofInt 64 (IntKind.u64.wrap (BitVec.ofInt 64 x ^^^ BitVec.ofInt 64 (x.fdiv (2 ^ (min (12 : Int).toNat 64)))).toNat) ^^^ BitVec.ofInt 64 (IntKind.u64.wrap ((IntKind.u64.wrap (BitVec.ofInt 64 x ^^^ BitVec.ofInt 64 (x.fdiv (2 ^ (min (12 : Int).toNat 64)))).toNat) * 2 ^ (min (25 : Int).toNat 64)))).toNat).fdiv (2 ^ (min (27 : Int).toNat 64)))).toNat) * 2685821657736338717)).fdiv (2 ^ (min (33 : Int).toNat 64))).tmod (IntKind.u64.wrap n))) (IntKind.u64.wrap (BitVec.ofInt 64 (IntKind.u64.wrap (BitVec.ofInt 64 (IntKind.u64.wrap (BitVec.ofInt 64 x ^^^ BitVec.ofInt 64 (x.fdiv (2 ^ (min (12 : Int).toNat 64)))).toNat) ^^^ BitVec.ofInt 64 (IntKind.u64.wrap ((IntKind.u64.wrap (BitVec.ofInt 64 x ^^^ BitVec.ofInt 64 (x.fdiv (2 ^ (min (12 : Int).toNat 64)))).toNat) * 2 ^ (min (25 : Int).toNat 64)))).toNat) ^^^ BitVec.ofInt 64 ((IntKind.u64.wrap (BitVec.ofInt 64 (IntKind.u64.wrap (BitVec.ofInt 64 x ^^^ BitVec.ofInt 64 (x.fdiv (2 ^ (min (12 : Int).toNat 64)))).toNat) ^^^ BitVec.ofInt 64 (IntKind.u64.wrap ((IntKind.u64.wrap (BitVec.ofInt 64 x ^^^ BitVec.ofInt 64 (x.fdiv (2 ^ (min (12 : Int).toNat 64)))).toNat) * 2 ^ (min (25 : Int).toNat 64)))).toNat).fdiv (2 ^ (min (27 : Int).toNat 64)))).toNat)))) x n (fun r0 r1 => K (.tup [.v (.int .i64 r0), .v (.int .u64 r1)]) []) := by kernel_rfl

def S_tutorref21_Int (l_tutorref21_Int : LT_tutorref21_Int) : Sum := ⟨[], fun {R} args ob K => match args, ob with
  | [.v (.int .u64 x), .v (.int .i64 n)], [] => l_tutorref21_Int x n (fun r0 r1 => K (.tup [.v (.int .i64 r0), .v (.int .u64 r1)]) [])
  | _, _ => none⟩

theorem sound_tutorref21_Int : Sound Try.prog 12 (S_tutorref21_Int @l_tutorref21_Int) := by
  refine fn_sound (cuts := cuts_tutorref21_Int) (fn := Try.f12) (Γ := T_tutorref21_Int) wide right_T_tutorref21_Int Try.func12 fun {R} K r args ob h => ?_
  unfold S_tutorref21_Int at h
  dsimp only at h
  split at h
  · exact ⟨Nat.le_of_ble_eq_true (by kernel_rfl), 0, (gentry_tutorref21_Int K _ _).trans h⟩
  · cases h

theorem call_tutorref21_Int : Callable Try.prog 12 := ⟨_, Try.func12, by kernel_rfl, by kernel_rfl⟩

def T_walk_source_draw : FuncId → Option Sum := G0

theorem right_T_walk_source_draw : Right Try.prog T_walk_source_draw := right_G0

abbrev cuts_walk_source_draw : Cuts := []

theorem gentry_walk_source_draw {R : Type} (K : AV → List O → Option R) (o0 : Int) :
    fnRun Try.prog T_walk_source_draw cuts_walk_source_draw Try.f34 0 [.ptr 0 0] [.box 80 [.v (.int .u64 o0)]] K =
    (fun (o0 : Int) (K0 : Int → Int → Option R) =>
    K0 ((IntKind.u64.wrap ((IntKind.u64.wrap (BitVec.ofInt 64 (IntKind.u64.wrap (BitVec.ofInt 64 (IntKind.u64.wrap (BitVec.ofInt 64 o0 ^^^ BitVec.ofInt 64 (o0.fdiv (2 ^ (min (12 : Int).toNat 64)))).toNat) ^^^ BitVec.ofInt 64 (IntKind.u64.wrap ((IntKind.u64.wrap (BitVec.ofInt 64 o0 ^^^ BitVec.ofInt 64 (o0.fdiv (2 ^ (min (12 : Int).toNat 64)))).toNat) * 2 ^ (min (25 : Int).toNat 64)))).toNat) ^^^ BitVec.ofInt 64 ((IntKind.u64.wrap (BitVec.ofInt 64 (IntKind.u64.wrap (BitVec.ofInt 64 o0 ^^^ BitVec.ofInt 64 (o0.fdiv (2 ^ (min (12 : Int).toNat 64)))).toNat) ^^^ BitVec.ofInt 64 (IntKind.u64.wrap ((IntKind.u64.wrap (BitVec.ofInt 64 o0 ^^^ BitVec.ofInt 64 (o0.fdiv (2 ^ (min (12 : Int).toNat 64)))).toNat) * 2 ^ (min (25 : Int).toNat 64)))).toNat).fdiv (2 ^ (min (27 : Int).toNat 64)))).toNat) * 2685821657736338717)).fdiv (2 ^ (min (33 : Int).toNat 64))) (IntKind.u64.wrap (BitVec.ofInt 64 (IntKind.u64.wrap (BitVec.ofInt 64 (IntKind.u64.wrap (BitVec.ofInt 64 o0 ^^^ BitVec.ofInt 64 (o0.fdiv (2 ^ (min (12 : Int).toNat 64)))).toNat) ^^^ BitVec.ofInt 64 (IntKind.u64.wrap ((IntKind.u64.wrap (BitVec.ofInt 64 o0 ^^^ BitVec.ofInt 64 (o0.fdiv (2 ^ (min (12 : Int).toNat 64)))).toNat) * 2 ^ (min (25 : Int).toNat 64)))).toNat) ^^^ BitVec.ofInt 64 ((IntKind.u64.wrap (BitVec.ofInt 64 (IntKind.u64.wrap (BitVec.ofInt 64 o0 ^^^ BitVec.ofInt 64 (o0.fdiv (2 ^ (min (12 : Int).toNat 64)))).toNat) ^^^ BitVec.ofInt 64 (IntKind.u64.wrap ((IntKind.u64.wrap (BitVec.ofInt 64 o0 ^^^ BitVec.ofInt 64 (o0.fdiv (2 ^ (min (12 : Int).toNat 64)))).toNat) * 2 ^ (min (25 : Int).toNat 64)))).toNat).fdiv (2 ^ (min (27 : Int).toNat 64)))).toNat)) o0 (fun r0 r1 => K (.v (.int .u64 r0)) [.box 80 [.v (.int .u64 r1)]]) := by kernel_rfl

def S_walk_source_draw (l_walk_source_draw : LT_walk_source_draw) : Sum := ⟨[], fun {R} args ob K => match args, ob with
  | [.ptr 0 0], [.box 80 [.v (.int .u64 o0)]] => l_walk_source_draw o0 (fun r0 r1 => K (.v (.int .u64 r0)) [.box 80 [.v (.int .u64 r1)]])
  | _, _ => none⟩

theorem sound_walk_source_draw : Sound Try.prog 34 (S_walk_source_draw @l_walk_source_draw) := by
  refine fn_sound (cuts := cuts_walk_source_draw) (fn := Try.f34) (Γ := T_walk_source_draw) wide right_T_walk_source_draw Try.func34 fun {R} K r args ob h => ?_
  unfold S_walk_source_draw at h
  dsimp only at h
  split at h
  · exact ⟨Nat.le_of_ble_eq_true (by kernel_rfl), 0, (gentry_walk_source_draw K _).trans h⟩
  · cases h

theorem call_walk_source_draw : Callable Try.prog 34 := ⟨_, Try.func34, by kernel_rfl, by kernel_rfl⟩

def T_walk_Walk_Int (l_walk_source_draw : LT_walk_source_draw) : FuncId → Option Sum := (addS G0 34 (S_walk_source_draw @l_walk_source_draw))

theorem right_T_walk_Walk_Int : Right Try.prog (T_walk_Walk_Int @l_walk_source_draw) := (right_add right_G0 call_walk_source_draw sound_walk_source_draw)

abbrev cuts_walk_Walk_Int : Cuts := []

theorem gentry_walk_Walk_Int (l_walk_source_draw : LT_walk_source_draw) {R : Type} (K : AV → List O → Option R) (n o0 : Int) :
    fnRun Try.prog (T_walk_Walk_Int @l_walk_source_draw) cuts_walk_Walk_Int Try.f13 0 [.ptr 0 0, .v (.int .i64 n)] [.box 80 [.v (.int .u64 o0)]] K =
    (fun (n o0 : Int) (K0 : Int → Int → Option R) =>
    bi (decide (n < 1))
     (K0 0 o0)
     (l_walk_source_draw o0
      (fun r1 r2 =>
       bi (decide ((IntKind.u64.wrap n) = 0))
        none
        (K0 (IntKind.i64.wrap (r1.tmod (IntKind.u64.wrap n))) r2)))) n o0 (fun r0 r1 => K (.v (.int .i64 r0)) [.box 80 [.v (.int .u64 r1)]]) := by kernel_rfl

def S_walk_Walk_Int (l_walk_Walk_Int : LT_walk_Walk_Int) : Sum := ⟨[], fun {R} args ob K => match args, ob with
  | [.ptr 0 0, .v (.int .i64 n)], [.box 80 [.v (.int .u64 o0)]] => l_walk_Walk_Int n o0 (fun r0 r1 => K (.v (.int .i64 r0)) [.box 80 [.v (.int .u64 r1)]])
  | _, _ => none⟩

theorem sound_walk_Walk_Int : Sound Try.prog 13 (S_walk_Walk_Int @l_walk_Walk_Int) := by
  refine fn_sound (cuts := cuts_walk_Walk_Int) (fn := Try.f13) (Γ := (T_walk_Walk_Int @l_walk_source_draw)) wide right_T_walk_Walk_Int Try.func13 fun {R} K r args ob h => ?_
  unfold S_walk_Walk_Int at h
  dsimp only at h
  split at h
  · exact ⟨Nat.le_of_ble_eq_true (by kernel_rfl), 0, (gentry_walk_Walk_Int @l_walk_source_draw K _ _).trans h⟩
  · cases h

theorem call_walk_Walk_Int : Callable Try.prog 13 := ⟨_, Try.func13, by kernel_rfl, by kernel_rfl⟩

def T_tutorlaw21_live (l_walk_Walk_Int : LT_walk_Walk_Int) (l_tutorref21_Int : LT_tutorref21_Int) (l_walk_New : LT_walk_New) : FuncId → Option Sum := (addS (addS (addS G0 13 (S_walk_Walk_Int @l_walk_Walk_Int)) 12 (S_tutorref21_Int @l_tutorref21_Int)) 10 (S_walk_New @l_walk_New))

theorem right_T_tutorlaw21_live : Right Try.prog (T_tutorlaw21_live @l_walk_Walk_Int @l_tutorref21_Int @l_walk_New) := (right_add (right_add (right_add right_G0 call_walk_Walk_Int sound_walk_Walk_Int) call_tutorref21_Int sound_tutorref21_Int) call_walk_New sound_walk_New)

abbrev cuts_tutorlaw21_live : Cuts := []

theorem gentry_tutorlaw21_live (l_walk_Walk_Int : LT_walk_Walk_Int) (l_tutorref21_Int : LT_tutorref21_Int) (l_walk_New : LT_walk_New) {R : Type} (K : AV → List O → Option R)  :
    fnRun Try.prog (T_tutorlaw21_live @l_walk_Walk_Int @l_tutorref21_Int @l_walk_New) cuts_tutorlaw21_live Try.f9 0 [] [] K =
    (fun  (K0 : Bool → Option R) =>
    l_walk_New 1
     (fun r1 =>
      l_tutorref21_Int 1 1000
       (fun r2 r3 =>
        l_tutorref21_Int r3 1000
         (fun r4 r5 =>
          l_walk_Walk_Int 1000 r1
           (fun r6 r7 =>
            bi (r6 == r2)
             (l_walk_Walk_Int 1000 r7
              (fun r8 r9 =>
               bi (r8 == r4)
                (K0 (r2 != r4))
                (K0 false)))
             (K0 false))))))  (fun r0 => K (.v (.bool r0)) []) := by kernel_rfl

def S_tutorlaw21_live (l_tutorlaw21_live : LT_tutorlaw21_live) : Sum := ⟨[], fun {R} args ob K => match args, ob with
  | [], [] => l_tutorlaw21_live  (fun r0 => K (.v (.bool r0)) [])
  | _, _ => none⟩

theorem sound_tutorlaw21_live : Sound Try.prog 9 (S_tutorlaw21_live @l_tutorlaw21_live) := by
  refine fn_sound (cuts := cuts_tutorlaw21_live) (fn := Try.f9) (Γ := (T_tutorlaw21_live @l_walk_Walk_Int @l_tutorref21_Int @l_walk_New)) wide right_T_tutorlaw21_live Try.func9 fun {R} K r args ob h => ?_
  unfold S_tutorlaw21_live at h
  dsimp only at h
  split at h
  · exact ⟨Nat.le_of_ble_eq_true (by kernel_rfl), 0, (gentry_tutorlaw21_live @l_walk_Walk_Int @l_tutorref21_Int @l_walk_New K).trans h⟩
  · cases h

theorem call_tutorlaw21_live : Callable Try.prog 9 := ⟨_, Try.func9, by kernel_rfl, by kernel_rfl⟩

def T_tutorref03_Copy : FuncId → Option Sum := G0

theorem right_T_tutorref03_Copy : Right Try.prog T_tutorref03_Copy := right_G0

abbrev cuts_tutorref03_Copy : Cuts := []

theorem gentry_tutorref03_Copy {R : Type} (K : AV → List O → Option R) (m m_1 m_2 m_3 : Int) (m_4 m_5 : List Int) :
    fnRun Try.prog T_tutorref03_Copy cuts_tutorref03_Copy Try.f23 0 [.agg [.v (.int .i64 m), .v (.int .i64 m_1), .v (.int .i64 m_2), .v (.int .i64 m_3), .rd ⟨false, 3, (.int .i64), m_4⟩, .rd ⟨false, 3, (.int .i64), m_5⟩]] [] K =
    (fun (m m_1 m_2 m_3 : Int) (m_4 m_5 : List Int) (K0 : Int → Int → Int → Int → (List Int) → (List Int) → Option R) =>
    bi (decide ((([] : List Int).length + m_4.length) * 8 ≤ lim))
     (bi (decide ((([] : List Int).length + m_5.length) * 8 ≤ lim))
      (K0 m m_1 m_2 m_3 (([] : List Int) ++ m_4) (([] : List Int) ++ m_5))
      none)
     none) m m_1 m_2 m_3 m_4 m_5 (fun r0 r1 r2 r3 r4 r5 => K (.agg [.v (.int .i64 r0), .v (.int .i64 r1), .v (.int .i64 r2), .v (.int .i64 r3), .own 0, .own 1]) [.row ⟨true, 3, (.int .i64), r4⟩, .row ⟨true, 3, (.int .i64), r5⟩]) := by kernel_rfl

def S_tutorref03_Copy (l_tutorref03_Copy : LT_tutorref03_Copy) : Sum := ⟨[], fun {R} args ob K => match args, ob with
  | [.agg [.v (.int .i64 m), .v (.int .i64 m_1), .v (.int .i64 m_2), .v (.int .i64 m_3), .rd ⟨false, 3, (.int .i64), m_4⟩, .rd ⟨false, 3, (.int .i64), m_5⟩]], [] => l_tutorref03_Copy m m_1 m_2 m_3 m_4 m_5 (fun r0 r1 r2 r3 r4 r5 => K (.agg [.v (.int .i64 r0), .v (.int .i64 r1), .v (.int .i64 r2), .v (.int .i64 r3), .own 0, .own 1]) [.row ⟨true, 3, (.int .i64), r4⟩, .row ⟨true, 3, (.int .i64), r5⟩])
  | _, _ => none⟩

theorem sound_tutorref03_Copy : Sound Try.prog 23 (S_tutorref03_Copy @l_tutorref03_Copy) := by
  refine fn_sound (cuts := cuts_tutorref03_Copy) (fn := Try.f23) (Γ := T_tutorref03_Copy) wide right_T_tutorref03_Copy Try.func23 fun {R} K r args ob h => ?_
  unfold S_tutorref03_Copy at h
  dsimp only at h
  split at h
  · exact ⟨Nat.le_of_ble_eq_true (by kernel_rfl), 0, (gentry_tutorref03_Copy K _ _ _ _ _ _).trans h⟩
  · cases h

theorem call_tutorref03_Copy : Callable Try.prog 23 := ⟨_, Try.func23, by kernel_rfl, by kernel_rfl⟩

def T_machine_says : FuncId → Option Sum := G0

theorem right_T_machine_says : Right Try.prog T_machine_says := right_G0

abbrev cuts_machine_says : Cuts := []

theorem gentry_machine_says {R : Type} (K : AV → List O → Option R) (m m_1 m_2 m_3 : Int) (m_4 m_5 : List Int) :
    fnRun Try.prog T_machine_says cuts_machine_says Try.f57 0 [.agg [.v (.int .i64 m), .v (.int .i64 m_1), .v (.int .i64 m_2), .v (.int .i64 m_3), .rd ⟨false, 3, (.int .i64), m_4⟩, .rd ⟨false, 3, (.int .i64), m_5⟩]] [] K =
    (fun (m m_1 m_2 m_3 : Int) (m_4 m_5 : List Int) (K0 : Int → Option R) =>
    bi (m == 1)
     (K0 m_3)
     (K0 (IntKind.i64.wrap (m_3 * m_1)))) m m_1 m_2 m_3 m_4 m_5 (fun r0 => K (.v (.int .i64 r0)) []) := by kernel_rfl

def S_machine_says (l_machine_says : LT_machine_says) : Sum := ⟨[], fun {R} args ob K => match args, ob with
  | [.agg [.v (.int .i64 m), .v (.int .i64 m_1), .v (.int .i64 m_2), .v (.int .i64 m_3), .rd ⟨false, 3, (.int .i64), m_4⟩, .rd ⟨false, 3, (.int .i64), m_5⟩]], [] => l_machine_says m m_1 m_2 m_3 m_4 m_5 (fun r0 => K (.v (.int .i64 r0)) [])
  | _, _ => none⟩

theorem sound_machine_says : Sound Try.prog 57 (S_machine_says @l_machine_says) := by
  refine fn_sound (cuts := cuts_machine_says) (fn := Try.f57) (Γ := T_machine_says) wide right_T_machine_says Try.func57 fun {R} K r args ob h => ?_
  unfold S_machine_says at h
  dsimp only at h
  split at h
  · exact ⟨Nat.le_of_ble_eq_true (by kernel_rfl), 0, (gentry_machine_says K _ _ _ _ _ _).trans h⟩
  · cases h

theorem call_machine_says : Callable Try.prog 57 := ⟨_, Try.func57, by kernel_rfl, by kernel_rfl⟩

def T_machine_head (l_machine_says : LT_machine_says) : FuncId → Option Sum := (addS G0 57 (S_machine_says @l_machine_says))

theorem right_T_machine_head : Right Try.prog (T_machine_head @l_machine_says) := (right_add right_G0 call_machine_says sound_machine_says)

abbrev cuts_machine_head : Cuts := []

theorem gentry_machine_head (l_machine_says : LT_machine_says) {R : Type} (K : AV → List O → Option R) (m m_1 m_2 m_3 : Int) (m_4 m_5 : List Int) :
    fnRun Try.prog (T_machine_head @l_machine_says) cuts_machine_head Try.f49 0 [.agg [.v (.int .i64 m), .v (.int .i64 m_1), .v (.int .i64 m_2), .v (.int .i64 m_3), .rd ⟨false, 3, (.int .i64), m_4⟩, .rd ⟨false, 3, (.int .i64), m_5⟩]] [] K =
    (fun (m m_1 m_2 m_3 : Int) (m_4 m_5 : List Int) (K0 : Int → Option R) =>
    bi (m != 1)
     (bi (m != 2)
      (K0 30)
      (bi (decide (m_1 < 1))
       (K0 1)
       (bi (decide (m_1 > 64))
        (K0 1)
        (bi (m == 1)
         (bi (m_2 != 2)
          (K0 33)
          (bi (decide (m_2 < 1))
           (K0 33)
           (bi (decide (m_2 > 64))
            (K0 33)
            (bi (decide (m_3 < 1))
             (K0 3)
             (bi (decide (m_3 > 1024))
              (K0 3)
              (bi ((m_4.length : Int) != (IntKind.i64.wrap (m_3 * m_1)))
               (K0 31)
               (l_machine_says m m_1 m_2 m_3 m_4 m_5
                (fun r1 =>
                 bi ((m_5.length : Int) != r1)
                  (K0 31)
                  (K0 0)))))))))
         (bi (decide (m_2 < 1))
          (K0 33)
          (bi (decide (m_2 > 64))
           (K0 33)
           (bi (decide (m_3 < 1))
            (K0 3)
            (bi (decide (m_3 > 1024))
             (K0 3)
             (bi ((m_4.length : Int) != (IntKind.i64.wrap (m_3 * m_1)))
              (K0 31)
              (l_machine_says m m_1 m_2 m_3 m_4 m_5
               (fun r2 =>
                bi ((m_5.length : Int) != r2)
                 (K0 31)
                 (K0 0))))))))))))
     (bi (decide (m_1 < 1))
      (K0 1)
      (bi (decide (m_1 > 64))
       (K0 1)
       (bi (m == 1)
        (bi (m_2 != 2)
         (K0 33)
         (bi (decide (m_2 < 1))
          (K0 33)
          (bi (decide (m_2 > 64))
           (K0 33)
           (bi (decide (m_3 < 1))
            (K0 3)
            (bi (decide (m_3 > 1024))
             (K0 3)
             (bi ((m_4.length : Int) != (IntKind.i64.wrap (m_3 * m_1)))
              (K0 31)
              (l_machine_says m m_1 m_2 m_3 m_4 m_5
               (fun r3 =>
                bi ((m_5.length : Int) != r3)
                 (K0 31)
                 (K0 0)))))))))
        (bi (decide (m_2 < 1))
         (K0 33)
         (bi (decide (m_2 > 64))
          (K0 33)
          (bi (decide (m_3 < 1))
           (K0 3)
           (bi (decide (m_3 > 1024))
            (K0 3)
            (bi ((m_4.length : Int) != (IntKind.i64.wrap (m_3 * m_1)))
             (K0 31)
             (l_machine_says m m_1 m_2 m_3 m_4 m_5
              (fun r4 =>
               bi ((m_5.length : Int) != r4)
                (K0 31)
                (K0 0)))))))))))) m m_1 m_2 m_3 m_4 m_5 (fun r0 => K (.v (.int .i64 r0)) []) := by kernel_rfl

def S_machine_head (l_machine_head : LT_machine_head) : Sum := ⟨[], fun {R} args ob K => match args, ob with
  | [.agg [.v (.int .i64 m), .v (.int .i64 m_1), .v (.int .i64 m_2), .v (.int .i64 m_3), .rd ⟨false, 3, (.int .i64), m_4⟩, .rd ⟨false, 3, (.int .i64), m_5⟩]], [] => l_machine_head m m_1 m_2 m_3 m_4 m_5 (fun r0 => K (.v (.int .i64 r0)) [])
  | _, _ => none⟩

theorem sound_machine_head : Sound Try.prog 49 (S_machine_head @l_machine_head) := by
  refine fn_sound (cuts := cuts_machine_head) (fn := Try.f49) (Γ := (T_machine_head @l_machine_says)) wide right_T_machine_head Try.func49 fun {R} K r args ob h => ?_
  unfold S_machine_head at h
  dsimp only at h
  split at h
  · exact ⟨Nat.le_of_ble_eq_true (by kernel_rfl), 0, (gentry_machine_head @l_machine_says K _ _ _ _ _ _).trans h⟩
  · cases h

theorem call_machine_head : Callable Try.prog 49 := ⟨_, Try.func49, by kernel_rfl, by kernel_rfl⟩

def T_machine_beyond : FuncId → Option Sum := G0

theorem right_T_machine_beyond : Right Try.prog T_machine_beyond := right_G0

abbrev cuts_machine_beyond : Cuts := [(2, [0, 1, 7, 8])]

abbrev sta_machine_beyond_2 (l : List Int) (n x7 x8 : Int) : St := ⟨fr0 21 [(0, .rd ⟨false, 3, (.int .i64), l⟩), (1, .v (.int .i64 n)), (7, .v (.int .i64 x7)), (8, .v (.int .i64 x8))], []⟩

abbrev gt_machine_beyond_2 {R : Type} (g : List Item → St → Option R) : GT_machine_beyond_2 R := fun (l : List Int) (n x7 x8 : Int) => g (at' Try.f50 2) (sta_machine_beyond_2 l n x7 x8)

theorem gstep_machine_beyond_2 {R : Type} (g : List Item → St → Option R) (K : AV → List O → Option R) (l : List Int) (n x7 x8 : Int) :
    runSeg Try.prog T_machine_beyond cuts_machine_beyond 0 g (finish Try.prog Try.f50 0 K) (at' Try.f50 2) (sta_machine_beyond_2 l n x7 x8) =
    (fun (g50_2 : GT_machine_beyond_2 R) (K0 : Int → Option R) (l : List Int) (n x7 x8 : Int) =>
    bi (decide (x8 < x7))
     (bi (decide (0 ≤ x8 ∧ x8 < ((l.length : Nat) : Int)))
      (bi (decide ((IntKind.u64.wrap (l.getD x8.toNat 0)) ≥ (IntKind.u64.wrap n)))
       (K0 x8)
       (g50_2 l n x7 (IntKind.i64.wrap (x8 + 1))))
      none)
     (K0 (-1))) (gt_machine_beyond_2 g) (fun r0 => K (.v (.int .i64 r0)) []) l n x7 x8 := by kernel_rfl

theorem gentry_machine_beyond {R : Type} (fuel : Nat) (K : AV → List O → Option R) (l : List Int) (n : Int) :
    fnRun Try.prog T_machine_beyond cuts_machine_beyond Try.f50 fuel [.rd ⟨false, 3, (.int .i64), l⟩, .v (.int .i64 n)] [] K =
    (fun (g50_2 : GT_machine_beyond_2 R) (K0 : Int → Option R) (l : List Int) (n : Int) =>
    g50_2 l n (l.length : Int) 0) (gt_machine_beyond_2 (runO Try.prog T_machine_beyond cuts_machine_beyond 0 (finish Try.prog Try.f50 0 K) fuel)) (fun r0 => K (.v (.int .i64 r0)) []) l n := by kernel_rfl

theorem runs_machine_beyond {R : Type} (K : AV → List O → Option R) : ∀ fuel : Nat,
    (gt_machine_beyond_2 (runO Try.prog T_machine_beyond cuts_machine_beyond 0 (finish Try.prog Try.f50 0 K) fuel)) = (run_machine_beyond (fun r0 => K (.v (.int .i64 r0)) []) fuel)
  | 0 => rfl
  | fuel + 1 => by
    have ih := runs_machine_beyond K fuel
    funext l n x7 x8
    refine (gstep_machine_beyond_2 _ K l n x7 x8).trans ?_
    rw [ih]
    rfl

def S_machine_beyond (l_machine_beyond : LT_machine_beyond) : Sum := ⟨[], fun {R} args ob K => match args, ob with
  | [.rd ⟨false, 3, (.int .i64), l⟩, .v (.int .i64 n)], [] => l_machine_beyond l n (fun r0 => K (.v (.int .i64 r0)) [])
  | _, _ => none⟩

theorem sound_machine_beyond : Sound Try.prog 50 (S_machine_beyond @l_machine_beyond) := by
  refine fn_sound (cuts := cuts_machine_beyond) (fn := Try.f50) (Γ := T_machine_beyond) wide right_T_machine_beyond Try.func50 fun {R} K r args ob h => ?_
  unfold S_machine_beyond at h
  dsimp only at h
  split at h
  · obtain ⟨n, hn⟩ := ok_machine_beyond _ _ _ h
    refine ⟨Nat.le_of_ble_eq_true (by kernel_rfl), n, (gentry_machine_beyond n K _ _).trans ?_⟩
    rw [(runs_machine_beyond K n)]
    exact hn
  · cases h

theorem call_machine_beyond : Callable Try.prog 50 := ⟨_, Try.func50, by kernel_rfl, by kernel_rfl⟩

def T_machine_Check (l_machine_beyond : LT_machine_beyond) (l_machine_head : LT_machine_head) : FuncId → Option Sum := (addS (addS G0 50 (S_machine_beyond @l_machine_beyond)) 49 (S_machine_head @l_machine_head))

theorem right_T_machine_Check : Right Try.prog (T_machine_Check @l_machine_beyond @l_machine_head) := (right_add (right_add right_G0 call_machine_beyond sound_machine_beyond) call_machine_head sound_machine_head)

abbrev cuts_machine_Check : Cuts := []

theorem gentry_machine_Check (l_machine_beyond : LT_machine_beyond) (l_machine_head : LT_machine_head) {R : Type} (K : AV → List O → Option R) (m m_1 m_2 m_3 : Int) (m_4 m_5 : List Int) :
    fnRun Try.prog (T_machine_Check @l_machine_beyond @l_machine_head) cuts_machine_Check Try.f40 0 [.agg [.v (.int .i64 m), .v (.int .i64 m_1), .v (.int .i64 m_2), .v (.int .i64 m_3), .rd ⟨false, 3, (.int .i64), m_4⟩, .rd ⟨false, 3, (.int .i64), m_5⟩]] [] K =
    (fun (m m_1 m_2 m_3 : Int) (m_4 m_5 : List Int) (K0 : Int → Int → Option R) =>
    l_machine_head m m_1 m_2 m_3 m_4 m_5
     (fun r1 =>
      bi (r1 != 0)
       (K0 0 r1)
       (l_machine_beyond m_4 m_3
        (fun r2 =>
         bi (decide (r2 ≥ 0))
          (K0 r2 32)
          (l_machine_beyond m_5 m_2
           (fun r3 =>
            bi (decide (r3 ≥ 0))
             (K0 r3 33)
             (K0 0 0))))))) m m_1 m_2 m_3 m_4 m_5 (fun r0 r1 => K (.tup [.v (.int .i64 r0), .v (.int .i64 r1)]) []) := by kernel_rfl

def S_machine_Check (l_machine_Check : LT_machine_Check) : Sum := ⟨[], fun {R} args ob K => match args, ob with
  | [.agg [.v (.int .i64 m), .v (.int .i64 m_1), .v (.int .i64 m_2), .v (.int .i64 m_3), .rd ⟨false, 3, (.int .i64), m_4⟩, .rd ⟨false, 3, (.int .i64), m_5⟩]], [] => l_machine_Check m m_1 m_2 m_3 m_4 m_5 (fun r0 r1 => K (.tup [.v (.int .i64 r0), .v (.int .i64 r1)]) [])
  | _, _ => none⟩

theorem sound_machine_Check : Sound Try.prog 40 (S_machine_Check @l_machine_Check) := by
  refine fn_sound (cuts := cuts_machine_Check) (fn := Try.f40) (Γ := (T_machine_Check @l_machine_beyond @l_machine_head)) wide right_T_machine_Check Try.func40 fun {R} K r args ob h => ?_
  unfold S_machine_Check at h
  dsimp only at h
  split at h
  · exact ⟨Nat.le_of_ble_eq_true (by kernel_rfl), 0, (gentry_machine_Check @l_machine_beyond @l_machine_head K _ _ _ _ _ _).trans h⟩
  · cases h

theorem call_machine_Check : Callable Try.prog 40 := ⟨_, Try.func40, by kernel_rfl, by kernel_rfl⟩

def T_walk_Stroll (l_walk_New : LT_walk_New) (l_machine_Check : LT_machine_Check) (l_walk_Walk_Int : LT_walk_Walk_Int) : FuncId → Option Sum := (addS (addS (addS G0 10 (S_walk_New @l_walk_New)) 40 (S_machine_Check @l_machine_Check)) 13 (S_walk_Walk_Int @l_walk_Walk_Int))

theorem right_T_walk_Stroll : Right Try.prog (T_walk_Stroll @l_walk_New @l_machine_Check @l_walk_Walk_Int) := (right_add (right_add (right_add right_G0 call_walk_New sound_walk_New) call_machine_Check sound_machine_Check) call_walk_Walk_Int sound_walk_Walk_Int)

abbrev cuts_walk_Stroll : Cuts := [(14, [3, 4, 8, 12, 13, 14, 15, 54, 55])]

abbrev sta_walk_Stroll_14 (stop s x54 x55 o0 o0_1 o0_2 o0_3 : Int) (o0_4 o0_5 : List Int) (o2 : List (List Int)) (o3 o4 : List Int) (o5 : Int) (o7 : List (List Int)) (o8 o9 o10 : List Int) : St := ⟨fr0 123 [(3, .v (.int .i64 stop)), (4, .ptr 0 0), (8, .ptr 1 0), (12, .ptr 5 0), (13, .ptr 6 0), (14, .own 10), (15, .v (.int .i64 s)), (54, .v (.int .i64 x54)), (55, .v (.int .i64 x55))], [.box 51 [.v (.int .i64 o0), .v (.int .i64 o0_1), .v (.int .i64 o0_2), .v (.int .i64 o0_3), .rd ⟨false, 3, (.int .i64), o0_4⟩, .rd ⟨false, 3, (.int .i64), o0_5⟩], .box 55 [.nst 2, .own 3, .own 4], .nst ⟨true, 33, (.sl 3 (.int .i64)), o2⟩, .row ⟨true, 3, (.int .i64), o3⟩, .row ⟨true, 3, (.int .i64), o4⟩, .box 80 [.v (.int .u64 o5)], .box 55 [.nst 7, .own 8, .own 9], .nst ⟨true, 33, (.sl 3 (.int .i64)), o7⟩, .row ⟨true, 3, (.int .i64), o8⟩, .row ⟨true, 3, (.int .i64), o9⟩, .row ⟨true, 3, (.int .i64), o10⟩]⟩

abbrev gt_walk_Stroll_14 {R : Type} (g : List Item → St → Option R) : GT_walk_Stroll_14 R := fun (stop s x54 x55 o0 o0_1 o0_2 o0_3 : Int) (o0_4 o0_5 : List Int) (o2 : List (List Int)) (o3 o4 : List Int) (o5 : Int) (o7 : List (List Int)) (o8 o9 o10 : List Int) => g (at' Try.f24 14) (sta_walk_Stroll_14 stop s x54 x55 o0 o0_1 o0_2 o0_3 o0_4 o0_5 o2 o3 o4 o5 o7 o8 o9 o10)

theorem gstep_walk_Stroll_14 (l_walk_New : LT_walk_New) (l_machine_Check : LT_machine_Check) (l_walk_Walk_Int : LT_walk_Walk_Int) {R : Type} (g : List Item → St → Option R) (K : AV → List O → Option R) (stop s x54 x55 o0 o0_1 o0_2 o0_3 : Int) (o0_4 o0_5 : List Int) (o2 : List (List Int)) (o3 o4 : List Int) (o5 : Int) (o7 : List (List Int)) (o8 o9 o10 : List Int) :
    runSeg Try.prog (T_walk_Stroll @l_walk_New @l_machine_Check @l_walk_Walk_Int) cuts_walk_Stroll 0 g (finish Try.prog Try.f24 0 K) (at' Try.f24 14) (sta_walk_Stroll_14 stop s x54 x55 o0 o0_1 o0_2 o0_3 o0_4 o0_5 o2 o3 o4 o5 o7 o8 o9 o10) =
    (fun (g24_14 : GT_walk_Stroll_14 R) (K0 : Int → (List (List Int)) → (List Int) → (List Int) → Option R) (stop s x54 x55 o0 o0_1 o0_2 o0_3 : Int) (o0_4 o0_5 : List Int) (o2 : List (List Int)) (o3 o4 : List Int) (o5 : Int) (o7 : List (List Int)) (o8 o9 o10 : List Int) =>
    bi (decide (x55 < x54))
     (l_walk_Walk_Int stop o5
      (fun r4 r5 =>
       bi (r4 == 0)
        (bi (decide ((o7.length + [o10].length) * 24 ≤ lim))
         (bi (decide (0 ≤ (0 : Int) ∧ (0 : Int) < ((o8.length : Nat) : Int)))
          (bi (decide (0 ≤ (0 : Int) ∧ (0 : Int) < ((o8.length : Nat) : Int)))
           (l_walk_Walk_Int o0_1 r5
            (fun r6 r7 =>
             bi (decide ((([] : List Int).length + [r6].length) * 8 ≤ lim))
              (bi (decide (0 ≤ (IntKind.i64.wrap ((IntKind.i64.wrap (0 * o0_1)) + r6)) ∧ (IntKind.i64.wrap ((IntKind.i64.wrap (0 * o0_1)) + r6)) < ((o9.length : Nat) : Int)))
               (bi (decide (0 ≤ (IntKind.i64.wrap ((IntKind.i64.wrap (0 * o0_1)) + r6)) ∧ (IntKind.i64.wrap ((IntKind.i64.wrap (0 * o0_1)) + r6)) < ((o9.length : Nat) : Int)))
                (bi (decide (0 ≤ (IntKind.i64.wrap ((IntKind.i64.wrap (0 * o0_1)) + r6)) ∧ (IntKind.i64.wrap ((IntKind.i64.wrap (0 * o0_1)) + r6)) < ((o0_4.length : Nat) : Int)))
                 (bi (decide (0 ≤ (o0_4.getD ((IntKind.i64.wrap ((IntKind.i64.wrap (0 * o0_1)) + r6)).toNat) 0) ∧ (o0_4.getD ((IntKind.i64.wrap ((IntKind.i64.wrap (0 * o0_1)) + r6)).toNat) 0) < (((o8.set 0 (IntKind.i64.wrap ((o8.getD 0 0) + 1))).length : Nat) : Int)))
                  (bi (decide (0 ≤ (o0_4.getD ((IntKind.i64.wrap ((IntKind.i64.wrap (0 * o0_1)) + r6)).toNat) 0) ∧ (o0_4.getD ((IntKind.i64.wrap ((IntKind.i64.wrap (0 * o0_1)) + r6)).toNat) 0) < (((o8.set 0 (IntKind.i64.wrap ((o8.getD 0 0) + 1))).length : Nat) : Int)))
                   (g24_14 stop (o0_4.getD ((IntKind.i64.wrap ((IntKind.i64.wrap (0 * o0_1)) + r6)).toNat) 0) x54 (IntKind.i64.wrap (x55 + 1)) o0 o0_1 o0_2 o0_3 o0_4 o0_5 o2 o3 o4 r7 (o7 ++ [o10]) ((o8.set 0 (IntKind.i64.wrap ((o8.getD 0 0) + 1))).set ((o0_4.getD ((IntKind.i64.wrap ((IntKind.i64.wrap (0 * o0_1)) + r6)).toNat) 0).toNat) (IntKind.i64.wrap (((o8.set 0 (IntKind.i64.wrap ((o8.getD 0 0) + 1))).getD ((o0_4.getD ((IntKind.i64.wrap ((IntKind.i64.wrap (0 * o0_1)) + r6)).toNat) 0).toNat) 0) + 1))) (o9.set ((IntKind.i64.wrap ((IntKind.i64.wrap (0 * o0_1)) + r6)).toNat) (IntKind.i64.wrap ((o9.getD ((IntKind.i64.wrap ((IntKind.i64.wrap (0 * o0_1)) + r6)).toNat) 0) + 1))) (([] : List Int) ++ [r6]))
                   none)
                  none)
                 none)
                none)
               none)
              none))
           none)
          none)
         none)
        (bi ((o10.length : Int) == 4096)
         (bi (decide ((o7.length + [o10].length) * 24 ≤ lim))
          (bi (decide (0 ≤ (0 : Int) ∧ (0 : Int) < ((o8.length : Nat) : Int)))
           (bi (decide (0 ≤ (0 : Int) ∧ (0 : Int) < ((o8.length : Nat) : Int)))
            (l_walk_Walk_Int o0_1 r5
             (fun r8 r9 =>
              bi (decide ((([] : List Int).length + [r8].length) * 8 ≤ lim))
               (bi (decide (0 ≤ (IntKind.i64.wrap ((IntKind.i64.wrap (0 * o0_1)) + r8)) ∧ (IntKind.i64.wrap ((IntKind.i64.wrap (0 * o0_1)) + r8)) < ((o9.length : Nat) : Int)))
                (bi (decide (0 ≤ (IntKind.i64.wrap ((IntKind.i64.wrap (0 * o0_1)) + r8)) ∧ (IntKind.i64.wrap ((IntKind.i64.wrap (0 * o0_1)) + r8)) < ((o9.length : Nat) : Int)))
                 (bi (decide (0 ≤ (IntKind.i64.wrap ((IntKind.i64.wrap (0 * o0_1)) + r8)) ∧ (IntKind.i64.wrap ((IntKind.i64.wrap (0 * o0_1)) + r8)) < ((o0_4.length : Nat) : Int)))
                  (bi (decide (0 ≤ (o0_4.getD ((IntKind.i64.wrap ((IntKind.i64.wrap (0 * o0_1)) + r8)).toNat) 0) ∧ (o0_4.getD ((IntKind.i64.wrap ((IntKind.i64.wrap (0 * o0_1)) + r8)).toNat) 0) < (((o8.set 0 (IntKind.i64.wrap ((o8.getD 0 0) + 1))).length : Nat) : Int)))
                   (bi (decide (0 ≤ (o0_4.getD ((IntKind.i64.wrap ((IntKind.i64.wrap (0 * o0_1)) + r8)).toNat) 0) ∧ (o0_4.getD ((IntKind.i64.wrap ((IntKind.i64.wrap (0 * o0_1)) + r8)).toNat) 0) < (((o8.set 0 (IntKind.i64.wrap ((o8.getD 0 0) + 1))).length : Nat) : Int)))
                    (g24_14 stop (o0_4.getD ((IntKind.i64.wrap ((IntKind.i64.wrap (0 * o0_1)) + r8)).toNat) 0) x54 (IntKind.i64.wrap (x55 + 1)) o0 o0_1 o0_2 o0_3 o0_4 o0_5 o2 o3 o4 r9 (o7 ++ [o10]) ((o8.set 0 (IntKind.i64.wrap ((o8.getD 0 0) + 1))).set ((o0_4.getD ((IntKind.i64.wrap ((IntKind.i64.wrap (0 * o0_1)) + r8)).toNat) 0).toNat) (IntKind.i64.wrap (((o8.set 0 (IntKind.i64.wrap ((o8.getD 0 0) + 1))).getD ((o0_4.getD ((IntKind.i64.wrap ((IntKind.i64.wrap (0 * o0_1)) + r8)).toNat) 0).toNat) 0) + 1))) (o9.set ((IntKind.i64.wrap ((IntKind.i64.wrap (0 * o0_1)) + r8)).toNat) (IntKind.i64.wrap ((o9.getD ((IntKind.i64.wrap ((IntKind.i64.wrap (0 * o0_1)) + r8)).toNat) 0) + 1))) (([] : List Int) ++ [r8]))
                    none)
                   none)
                  none)
                 none)
                none)
               none))
            none)
           none)
          none)
         (l_walk_Walk_Int o0_1 r5
          (fun r10 r11 =>
           bi (decide ((o10.length + [r10].length) * 8 ≤ lim))
            (bi (decide (0 ≤ (IntKind.i64.wrap ((IntKind.i64.wrap (s * o0_1)) + r10)) ∧ (IntKind.i64.wrap ((IntKind.i64.wrap (s * o0_1)) + r10)) < ((o9.length : Nat) : Int)))
             (bi (decide (0 ≤ (IntKind.i64.wrap ((IntKind.i64.wrap (s * o0_1)) + r10)) ∧ (IntKind.i64.wrap ((IntKind.i64.wrap (s * o0_1)) + r10)) < ((o9.length : Nat) : Int)))
              (bi (decide (0 ≤ (IntKind.i64.wrap ((IntKind.i64.wrap (s * o0_1)) + r10)) ∧ (IntKind.i64.wrap ((IntKind.i64.wrap (s * o0_1)) + r10)) < ((o0_4.length : Nat) : Int)))
               (bi (decide (0 ≤ (o0_4.getD ((IntKind.i64.wrap ((IntKind.i64.wrap (s * o0_1)) + r10)).toNat) 0) ∧ (o0_4.getD ((IntKind.i64.wrap ((IntKind.i64.wrap (s * o0_1)) + r10)).toNat) 0) < ((o8.length : Nat) : Int)))
                (bi (decide (0 ≤ (o0_4.getD ((IntKind.i64.wrap ((IntKind.i64.wrap (s * o0_1)) + r10)).toNat) 0) ∧ (o0_4.getD ((IntKind.i64.wrap ((IntKind.i64.wrap (s * o0_1)) + r10)).toNat) 0) < ((o8.length : Nat) : Int)))
                 (g24_14 stop (o0_4.getD ((IntKind.i64.wrap ((IntKind.i64.wrap (s * o0_1)) + r10)).toNat) 0) x54 (IntKind.i64.wrap (x55 + 1)) o0 o0_1 o0_2 o0_3 o0_4 o0_5 o2 o3 o4 r11 o7 (o8.set ((o0_4.getD ((IntKind.i64.wrap ((IntKind.i64.wrap (s * o0_1)) + r10)).toNat) 0).toNat) (IntKind.i64.wrap ((o8.getD ((o0_4.getD ((IntKind.i64.wrap ((IntKind.i64.wrap (s * o0_1)) + r10)).toNat) 0).toNat) 0) + 1))) (o9.set ((IntKind.i64.wrap ((IntKind.i64.wrap (s * o0_1)) + r10)).toNat) (IntKind.i64.wrap ((o9.getD ((IntKind.i64.wrap ((IntKind.i64.wrap (s * o0_1)) + r10)).toNat) 0) + 1))) (o10 ++ [r10]))
                 none)
                none)
               none)
              none)
             none)
            none)))))
     (bi (decide ((o7.length + [o10].length) * 24 ≤ lim))
      (K0 0 (o7 ++ [o10]) o8 o9)
      none)) (gt_walk_Stroll_14 g) (fun r0 r1 r2 r3 => K (.tup [.agg [.nst 0, .own 1, .own 2], .v (.int .i64 r0)]) [.nst ⟨true, 33, (.sl 3 (.int .i64)), r1⟩, .row ⟨true, 3, (.int .i64), r2⟩, .row ⟨true, 3, (.int .i64), r3⟩]) stop s x54 x55 o0 o0_1 o0_2 o0_3 o0_4 o0_5 o2 o3 o4 o5 o7 o8 o9 o10 := by kernel_rfl

theorem gentry_walk_Stroll (l_walk_New : LT_walk_New) (l_machine_Check : LT_machine_Check) (l_walk_Walk_Int : LT_walk_Walk_Int) {R : Type} (fuel : Nat) (K : AV → List O → Option R) (m m_1 m_2 m_3 : Int) (m_4 m_5 : List Int) (seed steps stop : Int) :
    fnRun Try.prog (T_walk_Stroll @l_walk_New @l_machine_Check @l_walk_Walk_Int) cuts_walk_Stroll Try.f24 fuel [.agg [.v (.int .i64 m), .v (.int .i64 m_1), .v (.int .i64 m_2), .v (.int .i64 m_3), .rd ⟨false, 3, (.int .i64), m_4⟩, .rd ⟨false, 3, (.int .i64), m_5⟩], .v (.int .u64 seed), .v (.int .i64 steps), .v (.int .i64 stop)] [] K =
    (fun (g24_14 : GT_walk_Stroll_14 R) (K0 : Int → (List (List Int)) → (List Int) → (List Int) → Option R) (m m_1 m_2 m_3 : Int) (m_4 m_5 : List Int) (seed steps stop : Int) =>
    l_machine_Check m m_1 m_2 m_3 m_4 m_5
     (fun r1 r2 =>
      bi (r2 != 0)
       (K0 r2 ([] : List (List Int)) ([] : List Int) ([] : List Int))
       (bi (decide (steps < 0))
        (K0 1 ([] : List (List Int)) ([] : List Int) ([] : List Int))
        (bi (decide (stop < 1))
         (K0 1 ([] : List (List Int)) ([] : List Int) ([] : List Int))
         (bi (decide (steps > 65536))
          (K0 3 ([] : List (List Int)) ([] : List Int) ([] : List Int))
          (l_walk_New seed
           (fun r3 =>
            both
             (bi (decide (0 ≤ m_3 ∧ m_3 ≤ m_3 ∧ m_3 ≤ 1073741824))
              (twice
               (bi (decide (0 ≤ (m_4.length : Int) ∧ (m_4.length : Int) ≤ (m_4.length : Int) ∧ (m_4.length : Int) ≤ 1073741824))
                (bi (decide (0 ≤ (0 : Int) ∧ (0 : Int) < (((List.replicate m_3.toNat (0 : Int)).length : Nat) : Int)))
                 (bi (decide (0 ≤ (0 : Int) ∧ (0 : Int) < (((List.replicate m_3.toNat (0 : Int)).length : Nat) : Int)))
                  (g24_14 stop 0 steps 0 m m_1 m_2 m_3 m_4 m_5 ([] : List (List Int)) ([] : List Int) ([] : List Int) r3 ([] : List (List Int)) ((List.replicate m_3.toNat (0 : Int)).set 0 (IntKind.i64.wrap (((List.replicate m_3.toNat (0 : Int)).getD 0 0) + 1))) (List.replicate (m_4.length : Int).toNat (0 : Int)) ([] : List Int))
                  none)
                 none)
                none))
              none)
             (both
              (bi (decide (0 ≤ (m_4.length : Int) ∧ (m_4.length : Int) ≤ (m_4.length : Int) ∧ (m_4.length : Int) ≤ 1073741824))
               (twice
                (bi (decide (0 ≤ m_3 ∧ m_3 ≤ m_3 ∧ m_3 ≤ 1073741824))
                 (bi (decide (0 ≤ (0 : Int) ∧ (0 : Int) < (((List.replicate m_3.toNat (0 : Int)).length : Nat) : Int)))
                  (bi (decide (0 ≤ (0 : Int) ∧ (0 : Int) < (((List.replicate m_3.toNat (0 : Int)).length : Nat) : Int)))
                   (g24_14 stop 0 steps 0 m m_1 m_2 m_3 m_4 m_5 ([] : List (List Int)) ([] : List Int) ([] : List Int) r3 ([] : List (List Int)) ((List.replicate m_3.toNat (0 : Int)).set 0 (IntKind.i64.wrap (((List.replicate m_3.toNat (0 : Int)).getD 0 0) + 1))) (List.replicate (m_4.length : Int).toNat (0 : Int)) ([] : List Int))
                   none)
                  none)
                 none))
               none)
              (both
               (bi (decide (0 ≤ m_3 ∧ m_3 ≤ m_3 ∧ m_3 ≤ 1073741824))
                (bi (decide (0 ≤ (m_4.length : Int) ∧ (m_4.length : Int) ≤ (m_4.length : Int) ∧ (m_4.length : Int) ≤ 1073741824))
                 (bi (decide (0 ≤ (0 : Int) ∧ (0 : Int) < (((List.replicate m_3.toNat (0 : Int)).length : Nat) : Int)))
                  (bi (decide (0 ≤ (0 : Int) ∧ (0 : Int) < (((List.replicate m_3.toNat (0 : Int)).length : Nat) : Int)))
                   (g24_14 stop 0 steps 0 m m_1 m_2 m_3 m_4 m_5 ([] : List (List Int)) ([] : List Int) ([] : List Int) r3 ([] : List (List Int)) ((List.replicate m_3.toNat (0 : Int)).set 0 (IntKind.i64.wrap (((List.replicate m_3.toNat (0 : Int)).getD 0 0) + 1))) (List.replicate (m_4.length : Int).toNat (0 : Int)) ([] : List Int))
                   none)
                  none)
                 none)
                none)
               (bi (decide (0 ≤ (m_4.length : Int) ∧ (m_4.length : Int) ≤ (m_4.length : Int) ∧ (m_4.length : Int) ≤ 1073741824))
                (bi (decide (0 ≤ m_3 ∧ m_3 ≤ m_3 ∧ m_3 ≤ 1073741824))
                 (bi (decide (0 ≤ (0 : Int) ∧ (0 : Int) < (((List.replicate m_3.toNat (0 : Int)).length : Nat) : Int)))
                  (bi (decide (0 ≤ (0 : Int) ∧ (0 : Int) < (((List.replicate m_3.toNat (0 : Int)).length : Nat) : Int)))
                   (g24_14 stop 0 steps 0 m m_1 m_2 m_3 m_4 m_5 ([] : List (List Int)) ([] : List Int) ([] : List Int) r3 ([] : List (List Int)) ((List.replicate m_3.toNat (0 : Int)).set 0 (IntKind.i64.wrap (((List.replicate m_3.toNat (0 : Int)).getD 0 0) + 1))) (List.replicate (m_4.length : Int).toNat (0 : Int)) ([] : List Int))
                   none)
                  none)
                 none)
                none)))))))))) (gt_walk_Stroll_14 (runO Try.prog (T_walk_Stroll @l_walk_New @l_machine_Check @l_walk_Walk_Int) cuts_walk_Stroll 0 (finish Try.prog Try.f24 0 K) fuel)) (fun r0 r1 r2 r3 => K (.tup [.agg [.nst 0, .own 1, .own 2], .v (.int .i64 r0)]) [.nst ⟨true, 33, (.sl 3 (.int .i64)), r1⟩, .row ⟨true, 3, (.int .i64), r2⟩, .row ⟨true, 3, (.int .i64), r3⟩]) m m_1 m_2 m_3 m_4 m_5 seed steps stop := by kernel_rfl

theorem runs_walk_Stroll {R : Type} (K : AV → List O → Option R) : ∀ fuel : Nat,
    (gt_walk_Stroll_14 (runO Try.prog (T_walk_Stroll @l_walk_New @l_machine_Check @l_walk_Walk_Int) cuts_walk_Stroll 0 (finish Try.prog Try.f24 0 K) fuel)) = (run_walk_Stroll (fun r0 r1 r2 r3 => K (.tup [.agg [.nst 0, .own 1, .own 2], .v (.int .i64 r0)]) [.nst ⟨true, 33, (.sl 3 (.int .i64)), r1⟩, .row ⟨true, 3, (.int .i64), r2⟩, .row ⟨true, 3, (.int .i64), r3⟩]) fuel)
  | 0 => rfl
  | fuel + 1 => by
    have ih := runs_walk_Stroll K fuel
    funext stop s x54 x55 o0 o0_1 o0_2 o0_3 o0_4 o0_5 o2 o3 o4 o5 o7 o8 o9 o10
    refine (gstep_walk_Stroll_14 @l_walk_New @l_machine_Check @l_walk_Walk_Int _ K stop s x54 x55 o0 o0_1 o0_2 o0_3 o0_4 o0_5 o2 o3 o4 o5 o7 o8 o9 o10).trans ?_
    rw [ih]
    rfl

def S_walk_Stroll (l_walk_Stroll : LT_walk_Stroll) : Sum := ⟨[], fun {R} args ob K => match args, ob with
  | [.agg [.v (.int .i64 m), .v (.int .i64 m_1), .v (.int .i64 m_2), .v (.int .i64 m_3), .rd ⟨false, 3, (.int .i64), m_4⟩, .rd ⟨false, 3, (.int .i64), m_5⟩], .v (.int .u64 seed), .v (.int .i64 steps), .v (.int .i64 stop)], [] => l_walk_Stroll m m_1 m_2 m_3 m_4 m_5 seed steps stop (fun r0 r1 r2 r3 => K (.tup [.agg [.nst 0, .own 1, .own 2], .v (.int .i64 r0)]) [.nst ⟨true, 33, (.sl 3 (.int .i64)), r1⟩, .row ⟨true, 3, (.int .i64), r2⟩, .row ⟨true, 3, (.int .i64), r3⟩])
  | _, _ => none⟩

theorem sound_walk_Stroll : Sound Try.prog 24 (S_walk_Stroll @l_walk_Stroll) := by
  refine fn_sound (cuts := cuts_walk_Stroll) (fn := Try.f24) (Γ := (T_walk_Stroll @l_walk_New @l_machine_Check @l_walk_Walk_Int)) wide right_T_walk_Stroll Try.func24 fun {R} K r args ob h => ?_
  unfold S_walk_Stroll at h
  dsimp only at h
  split at h
  · obtain ⟨n, hn⟩ := ok_walk_Stroll _ _ _ _ _ _ _ _ _ _ h
    refine ⟨Nat.le_of_ble_eq_true (by kernel_rfl), n, (gentry_walk_Stroll @l_walk_New @l_machine_Check @l_walk_Walk_Int n K _ _ _ _ _ _ _ _ _).trans ?_⟩
    rw [(runs_walk_Stroll K n)]
    exact hn
  · cases h

theorem call_walk_Stroll : Callable Try.prog 24 := ⟨_, Try.func24, by kernel_rfl, by kernel_rfl⟩

def T_tutorref03_Check : FuncId → Option Sum := G0

theorem right_T_tutorref03_Check : Right Try.prog T_tutorref03_Check := right_G0

abbrev cuts_tutorref03_Check : Cuts := [(15, [1, 5]), (20, [1, 6])]

abbrev sta_tutorref03_Check_15 (i o0 o0_1 o0_2 o0_3 : Int) (o0_4 o0_5 : List Int) : St := ⟨fr0 123 [(1, .ptr 0 0), (5, .v (.int .i64 i))], [.box 51 [.v (.int .i64 o0), .v (.int .i64 o0_1), .v (.int .i64 o0_2), .v (.int .i64 o0_3), .rd ⟨false, 3, (.int .i64), o0_4⟩, .rd ⟨false, 3, (.int .i64), o0_5⟩]]⟩

abbrev gt_tutorref03_Check_15 {R : Type} (g : List Item → St → Option R) : GT_tutorref03_Check_15 R := fun (i o0 o0_1 o0_2 o0_3 : Int) (o0_4 o0_5 : List Int) => g (at' Try.f41 15) (sta_tutorref03_Check_15 i o0 o0_1 o0_2 o0_3 o0_4 o0_5)

abbrev sta_tutorref03_Check_20 (i o0 o0_1 o0_2 o0_3 : Int) (o0_4 o0_5 : List Int) : St := ⟨fr0 123 [(1, .ptr 0 0), (6, .v (.int .i64 i))], [.box 51 [.v (.int .i64 o0), .v (.int .i64 o0_1), .v (.int .i64 o0_2), .v (.int .i64 o0_3), .rd ⟨false, 3, (.int .i64), o0_4⟩, .rd ⟨false, 3, (.int .i64), o0_5⟩]]⟩

abbrev gt_tutorref03_Check_20 {R : Type} (g : List Item → St → Option R) : GT_tutorref03_Check_20 R := fun (i o0 o0_1 o0_2 o0_3 : Int) (o0_4 o0_5 : List Int) => g (at' Try.f41 20) (sta_tutorref03_Check_20 i o0 o0_1 o0_2 o0_3 o0_4 o0_5)

theorem gstep_tutorref03_Check_15 {R : Type} (g : List Item → St → Option R) (K : AV → List O → Option R) (i o0 o0_1 o0_2 o0_3 : Int) (o0_4 o0_5 : List Int) :
    runSeg Try.prog T_tutorref03_Check cuts_tutorref03_Check 0 g (finish Try.prog Try.f41 0 K) (at' Try.f41 15) (sta_tutorref03_Check_15 i o0 o0_1 o0_2 o0_3 o0_4 o0_5) =
    (fun (g41_15 : GT_tutorref03_Check_15 R) (g41_20 : GT_tutorref03_Check_20 R) (K0 : Int → Int → Option R) (i o0 o0_1 o0_2 o0_3 : Int) (o0_4 o0_5 : List Int) =>
    bi (decide (i < (o0_4.length : Int)))
     (bi (decide (0 ≤ i ∧ i < ((o0_4.length : Nat) : Int)))
      (bi (decide ((o0_4.getD i.toNat 0) < 0))
       (K0 i 32)
       (bi (decide (0 ≤ i ∧ i < ((o0_4.length : Nat) : Int)))
        (bi (decide ((o0_4.getD i.toNat 0) ≥ o0_3))
         (K0 i 32)
         (g41_15 (IntKind.i64.wrap (i + 1)) o0 o0_1 o0_2 o0_3 o0_4 o0_5))
        none))
      none)
     (g41_20 0 o0 o0_1 o0_2 o0_3 o0_4 o0_5)) (gt_tutorref03_Check_15 g) (gt_tutorref03_Check_20 g) (fun r0 r1 => K (.tup [.v (.int .i64 r0), .v (.int .i64 r1)]) []) i o0 o0_1 o0_2 o0_3 o0_4 o0_5 := by kernel_rfl

theorem gstep_tutorref03_Check_20 {R : Type} (g : List Item → St → Option R) (K : AV → List O → Option R) (i o0 o0_1 o0_2 o0_3 : Int) (o0_4 o0_5 : List Int) :
    runSeg Try.prog T_tutorref03_Check cuts_tutorref03_Check 0 g (finish Try.prog Try.f41 0 K) (at' Try.f41 20) (sta_tutorref03_Check_20 i o0 o0_1 o0_2 o0_3 o0_4 o0_5) =
    (fun (g41_15 : GT_tutorref03_Check_15 R) (g41_20 : GT_tutorref03_Check_20 R) (K0 : Int → Int → Option R) (i o0 o0_1 o0_2 o0_3 : Int) (o0_4 o0_5 : List Int) =>
    bi (decide (i < (o0_5.length : Int)))
     (bi (decide (0 ≤ i ∧ i < ((o0_5.length : Nat) : Int)))
      (bi (decide ((o0_5.getD i.toNat 0) < 0))
       (K0 i 33)
       (bi (decide (0 ≤ i ∧ i < ((o0_5.length : Nat) : Int)))
        (bi (decide ((o0_5.getD i.toNat 0) ≥ o0_2))
         (K0 i 33)
         (g41_20 (IntKind.i64.wrap (i + 1)) o0 o0_1 o0_2 o0_3 o0_4 o0_5))
        none))
      none)
     (K0 0 0)) (gt_tutorref03_Check_15 g) (gt_tutorref03_Check_20 g) (fun r0 r1 => K (.tup [.v (.int .i64 r0), .v (.int .i64 r1)]) []) i o0 o0_1 o0_2 o0_3 o0_4 o0_5 := by kernel_rfl

theorem gentry_tutorref03_Check {R : Type} (fuel : Nat) (K : AV → List O → Option R) (m m_1 m_2 m_3 : Int) (m_4 m_5 : List Int) :
    fnRun Try.prog T_tutorref03_Check cuts_tutorref03_Check Try.f41 fuel [.agg [.v (.int .i64 m), .v (.int .i64 m_1), .v (.int .i64 m_2), .v (.int .i64 m_3), .rd ⟨false, 3, (.int .i64), m_4⟩, .rd ⟨false, 3, (.int .i64), m_5⟩]] [] K =
    (fun (g41_15 : GT_tutorref03_Check_15 R) (g41_20 : GT_tutorref03_Check_20 R) (K0 : Int → Int → Option R) (m m_1 m_2 m_3 : Int) (m_4 m_5 : List Int) =>
    bi (m != 1)
     (bi (m != 2)
      (K0 0 30)
      (bi (decide (m_1 < 1))
       (K0 0 1)
       (bi (decide (m_1 > 64))
        (K0 0 1)
        (bi (m == 1)
         (bi (m_2 != 2)
          (K0 0 33)
          (bi (decide (m_2 < 1))
           (K0 0 33)
           (bi (decide (m_2 > 64))
            (K0 0 33)
            (bi (decide (m_3 < 1))
             (K0 0 3)
             (bi (decide (m_3 > 1024))
              (K0 0 3)
              (bi (m == 2)
               (bi ((m_4.length : Int) != (IntKind.i64.wrap (m_3 * m_1)))
                (K0 0 31)
                (bi ((m_5.length : Int) != (IntKind.i64.wrap (m_3 * m_1)))
                 (K0 0 31)
                 (g41_15 0 m m_1 m_2 m_3 m_4 m_5)))
               (bi ((m_4.length : Int) != (IntKind.i64.wrap (m_3 * m_1)))
                (K0 0 31)
                (bi ((m_5.length : Int) != m_3)
                 (K0 0 31)
                 (g41_15 0 m m_1 m_2 m_3 m_4 m_5)))))))))
         (bi (decide (m_2 < 1))
          (K0 0 33)
          (bi (decide (m_2 > 64))
           (K0 0 33)
           (bi (decide (m_3 < 1))
            (K0 0 3)
            (bi (decide (m_3 > 1024))
             (K0 0 3)
             (bi (m == 2)
              (bi ((m_4.length : Int) != (IntKind.i64.wrap (m_3 * m_1)))
               (K0 0 31)
               (bi ((m_5.length : Int) != (IntKind.i64.wrap (m_3 * m_1)))
                (K0 0 31)
                (g41_15 0 m m_1 m_2 m_3 m_4 m_5)))
              (bi ((m_4.length : Int) != (IntKind.i64.wrap (m_3 * m_1)))
               (K0 0 31)
               (bi ((m_5.length : Int) != m_3)
                (K0 0 31)
                (g41_15 0 m m_1 m_2 m_3 m_4 m_5))))))))))))
     (bi (decide (m_1 < 1))
      (K0 0 1)
      (bi (decide (m_1 > 64))
       (K0 0 1)
       (bi (m == 1)
        (bi (m_2 != 2)
         (K0 0 33)
         (bi (decide (m_2 < 1))
          (K0 0 33)
          (bi (decide (m_2 > 64))
           (K0 0 33)
           (bi (decide (m_3 < 1))
            (K0 0 3)
            (bi (decide (m_3 > 1024))
             (K0 0 3)
             (bi (m == 2)
              (bi ((m_4.length : Int) != (IntKind.i64.wrap (m_3 * m_1)))
               (K0 0 31)
               (bi ((m_5.length : Int) != (IntKind.i64.wrap (m_3 * m_1)))
                (K0 0 31)
                (g41_15 0 m m_1 m_2 m_3 m_4 m_5)))
              (bi ((m_4.length : Int) != (IntKind.i64.wrap (m_3 * m_1)))
               (K0 0 31)
               (bi ((m_5.length : Int) != m_3)
                (K0 0 31)
                (g41_15 0 m m_1 m_2 m_3 m_4 m_5)))))))))
        (bi (decide (m_2 < 1))
         (K0 0 33)
         (bi (decide (m_2 > 64))
          (K0 0 33)
          (bi (decide (m_3 < 1))
           (K0 0 3)
           (bi (decide (m_3 > 1024))
            (K0 0 3)
            (bi (m == 2)
             (bi ((m_4.length : Int) != (IntKind.i64.wrap (m_3 * m_1)))
              (K0 0 31)
              (bi ((m_5.length : Int) != (IntKind.i64.wrap (m_3 * m_1)))
               (K0 0 31)
               (g41_15 0 m m_1 m_2 m_3 m_4 m_5)))
             (bi ((m_4.length : Int) != (IntKind.i64.wrap (m_3 * m_1)))
              (K0 0 31)
              (bi ((m_5.length : Int) != m_3)
               (K0 0 31)
               (g41_15 0 m m_1 m_2 m_3 m_4 m_5)))))))))))) (gt_tutorref03_Check_15 (runO Try.prog T_tutorref03_Check cuts_tutorref03_Check 0 (finish Try.prog Try.f41 0 K) fuel)) (gt_tutorref03_Check_20 (runO Try.prog T_tutorref03_Check cuts_tutorref03_Check 0 (finish Try.prog Try.f41 0 K) fuel)) (fun r0 r1 => K (.tup [.v (.int .i64 r0), .v (.int .i64 r1)]) []) m m_1 m_2 m_3 m_4 m_5 := by kernel_rfl

theorem runs_tutorref03_Check {R : Type} (K : AV → List O → Option R) : ∀ fuel : Nat,
    (gt_tutorref03_Check_15 (runO Try.prog T_tutorref03_Check cuts_tutorref03_Check 0 (finish Try.prog Try.f41 0 K) fuel)) = (run_tutorref03_Check (fun r0 r1 => K (.tup [.v (.int .i64 r0), .v (.int .i64 r1)]) []) fuel).1 ∧
    (gt_tutorref03_Check_20 (runO Try.prog T_tutorref03_Check cuts_tutorref03_Check 0 (finish Try.prog Try.f41 0 K) fuel)) = (run_tutorref03_Check (fun r0 r1 => K (.tup [.v (.int .i64 r0), .v (.int .i64 r1)]) []) fuel).2
  | 0 => ⟨rfl, rfl⟩
  | fuel + 1 => by
    have ih := runs_tutorref03_Check K fuel
    refine ⟨?_, ?_⟩
    · funext i o0 o0_1 o0_2 o0_3 o0_4 o0_5
      refine (gstep_tutorref03_Check_15 _ K i o0 o0_1 o0_2 o0_3 o0_4 o0_5).trans ?_
      rw [ih.1, ih.2]
      rfl
    · funext i o0 o0_1 o0_2 o0_3 o0_4 o0_5
      refine (gstep_tutorref03_Check_20 _ K i o0 o0_1 o0_2 o0_3 o0_4 o0_5).trans ?_
      rw [ih.1, ih.2]
      rfl

def S_tutorref03_Check (l_tutorref03_Check : LT_tutorref03_Check) : Sum := ⟨[], fun {R} args ob K => match args, ob with
  | [.agg [.v (.int .i64 m), .v (.int .i64 m_1), .v (.int .i64 m_2), .v (.int .i64 m_3), .rd ⟨false, 3, (.int .i64), m_4⟩, .rd ⟨false, 3, (.int .i64), m_5⟩]], [] => l_tutorref03_Check m m_1 m_2 m_3 m_4 m_5 (fun r0 r1 => K (.tup [.v (.int .i64 r0), .v (.int .i64 r1)]) [])
  | _, _ => none⟩

theorem sound_tutorref03_Check : Sound Try.prog 41 (S_tutorref03_Check @l_tutorref03_Check) := by
  refine fn_sound (cuts := cuts_tutorref03_Check) (fn := Try.f41) (Γ := T_tutorref03_Check) wide right_T_tutorref03_Check Try.func41 fun {R} K r args ob h => ?_
  unfold S_tutorref03_Check at h
  dsimp only at h
  split at h
  · obtain ⟨n, hn⟩ := ok_tutorref03_Check _ _ _ _ _ _ _ h
    refine ⟨Nat.le_of_ble_eq_true (by kernel_rfl), n, (gentry_tutorref03_Check n K _ _ _ _ _ _).trans ?_⟩
    rw [(runs_tutorref03_Check K n).1, (runs_tutorref03_Check K n).2]
    exact hn
  · cases h

theorem call_tutorref03_Check : Callable Try.prog 41 := ⟨_, Try.func41, by kernel_rfl, by kernel_rfl⟩

def T_tutorref21_Start : FuncId → Option Sum := G0

theorem right_T_tutorref21_Start : Right Try.prog T_tutorref21_Start := right_G0

abbrev cuts_tutorref21_Start : Cuts := []

theorem gentry_tutorref21_Start {R : Type} (K : AV → List O → Option R) (seed : Int) :
    fnRun Try.prog T_tutorref21_Start cuts_tutorref21_Start Try.f11 0 [.v (.int .u64 seed)] [] K =
    (fun (seed : Int) (K0 : Int → Option R) =>
    bi (seed == 0)
     (K0 88172645463325252)
     (K0 seed)) seed (fun r0 => K (.v (.int .u64 r0)) []) := by kernel_rfl

def S_tutorref21_Start (l_tutorref21_Start : LT_tutorref21_Start) : Sum := ⟨[], fun {R} args ob K => match args, ob with
  | [.v (.int .u64 seed)], [] => l_tutorref21_Start seed (fun r0 => K (.v (.int .u64 r0)) [])
  | _, _ => none⟩

theorem sound_tutorref21_Start : Sound Try.prog 11 (S_tutorref21_Start @l_tutorref21_Start) := by
  refine fn_sound (cuts := cuts_tutorref21_Start) (fn := Try.f11) (Γ := T_tutorref21_Start) wide right_T_tutorref21_Start Try.func11 fun {R} K r args ob h => ?_
  unfold S_tutorref21_Start at h
  dsimp only at h
  split at h
  · exact ⟨Nat.le_of_ble_eq_true (by kernel_rfl), 0, (gentry_tutorref21_Start K _).trans h⟩
  · cases h

theorem call_tutorref21_Start : Callable Try.prog 11 := ⟨_, Try.func11, by kernel_rfl, by kernel_rfl⟩

def T_tutorref21_Told : FuncId → Option Sum := G0

theorem right_T_tutorref21_Told : Right Try.prog T_tutorref21_Told := right_G0

abbrev cuts_tutorref21_Told : Cuts := [(3, [1, 2, 4, 5, 6]), (8, [1, 2, 4, 5, 6, 7, 8])]

abbrev sta_tutorref21_Told_3 (words : List (List Int)) (i o0 o0_1 o0_2 o0_3 : Int) (o0_4 o0_5 : List Int) (o2 : List (List Int)) (o3 o4 : List Int) (o5 : List (List Int)) (o6 o7 : List Int) : St := ⟨fr0 72 [(1, .rd ⟨false, 33, (.sl 3 (.int .i64)), words⟩), (2, .ptr 0 0), (4, .ptr 1 0), (5, .ptr 5 0), (6, .v (.int .i64 i))], [.box 51 [.v (.int .i64 o0), .v (.int .i64 o0_1), .v (.int .i64 o0_2), .v (.int .i64 o0_3), .rd ⟨false, 3, (.int .i64), o0_4⟩, .rd ⟨false, 3, (.int .i64), o0_5⟩], .box 55 [.nst 2, .own 3, .own 4], .nst ⟨true, 33, (.sl 3 (.int .i64)), o2⟩, .row ⟨true, 3, (.int .i64), o3⟩, .row ⟨true, 3, (.int .i64), o4⟩, .box 55 [.rd ⟨false, 33, (.sl 3 (.int .i64)), o5⟩, .own 6, .own 7], .row ⟨true, 3, (.int .i64), o6⟩, .row ⟨true, 3, (.int .i64), o7⟩]⟩

abbrev gt_tutorref21_Told_3 {R : Type} (g : List Item → St → Option R) : GT_tutorref21_Told_3 R := fun (words : List (List Int)) (i o0 o0_1 o0_2 o0_3 : Int) (o0_4 o0_5 : List Int) (o2 : List (List Int)) (o3 o4 : List Int) (o5 : List (List Int)) (o6 o7 : List Int) => g (at' Try.f29 3) (sta_tutorref21_Told_3 words i o0 o0_1 o0_2 o0_3 o0_4 o0_5 o2 o3 o4 o5 o6 o7)

abbrev sta_tutorref21_Told_8 (words : List (List Int)) (i s k o0 o0_1 o0_2 o0_3 : Int) (o0_4 o0_5 : List Int) (o2 : List (List Int)) (o3 o4 : List Int) (o5 : List (List Int)) (o6 o7 : List Int) : St := ⟨fr0 72 [(1, .rd ⟨false, 33, (.sl 3 (.int .i64)), words⟩), (2, .ptr 0 0), (4, .ptr 1 0), (5, .ptr 5 0), (6, .v (.int .i64 i)), (7, .v (.int .i64 s)), (8, .v (.int .i64 k))], [.box 51 [.v (.int .i64 o0), .v (.int .i64 o0_1), .v (.int .i64 o0_2), .v (.int .i64 o0_3), .rd ⟨false, 3, (.int .i64), o0_4⟩, .rd ⟨false, 3, (.int .i64), o0_5⟩], .box 55 [.nst 2, .own 3, .own 4], .nst ⟨true, 33, (.sl 3 (.int .i64)), o2⟩, .row ⟨true, 3, (.int .i64), o3⟩, .row ⟨true, 3, (.int .i64), o4⟩, .box 55 [.rd ⟨false, 33, (.sl 3 (.int .i64)), o5⟩, .own 6, .own 7], .row ⟨true, 3, (.int .i64), o6⟩, .row ⟨true, 3, (.int .i64), o7⟩]⟩

abbrev gt_tutorref21_Told_8 {R : Type} (g : List Item → St → Option R) : GT_tutorref21_Told_8 R := fun (words : List (List Int)) (i s k o0 o0_1 o0_2 o0_3 : Int) (o0_4 o0_5 : List Int) (o2 : List (List Int)) (o3 o4 : List Int) (o5 : List (List Int)) (o6 o7 : List Int) => g (at' Try.f29 8) (sta_tutorref21_Told_8 words i s k o0 o0_1 o0_2 o0_3 o0_4 o0_5 o2 o3 o4 o5 o6 o7)

theorem gstep_tutorref21_Told_3 {R : Type} (g : List Item → St → Option R) (K : AV → List O → Option R) (words : List (List Int)) (i o0 o0_1 o0_2 o0_3 : Int) (o0_4 o0_5 : List Int) (o2 : List (List Int)) (o3 o4 : List Int) (o5 : List (List Int)) (o6 o7 : List Int) :
    runSeg Try.prog T_tutorref21_Told cuts_tutorref21_Told 0 g (finish Try.prog Try.f29 0 K) (at' Try.f29 3) (sta_tutorref21_Told_3 words i o0 o0_1 o0_2 o0_3 o0_4 o0_5 o2 o3 o4 o5 o6 o7) =
    (fun (g29_3 : GT_tutorref21_Told_3 R) (g29_8 : GT_tutorref21_Told_8 R) (K0 : (List (List Int)) → (List Int) → (List Int) → Option R) (words : List (List Int)) (i o0 o0_1 o0_2 o0_3 : Int) (o0_4 o0_5 : List Int) (o2 : List (List Int)) (o3 o4 : List Int) (o5 : List (List Int)) (o6 o7 : List Int) =>
    bi (decide (i < (words.length : Int)))
     (bi (decide (0 ≤ (0 : Int) ∧ (0 : Int) < ((o6.length : Nat) : Int)))
      (bi (decide (0 ≤ (0 : Int) ∧ (0 : Int) < ((o6.length : Nat) : Int)))
       (g29_8 words i 0 0 o0 o0_1 o0_2 o0_3 o0_4 o0_5 o2 o3 o4 o5 (o6.set 0 (IntKind.i64.wrap ((o6.getD 0 0) + 1))) o7)
       none)
      none)
     (K0 o5 o6 o7)) (gt_tutorref21_Told_3 g) (gt_tutorref21_Told_8 g) (fun r0 r1 r2 => K (.agg [.rd ⟨false, 33, (.sl 3 (.int .i64)), r0⟩, .own 0, .own 1]) [.row ⟨true, 3, (.int .i64), r1⟩, .row ⟨true, 3, (.int .i64), r2⟩]) words i o0 o0_1 o0_2 o0_3 o0_4 o0_5 o2 o3 o4 o5 o6 o7 := by kernel_rfl

theorem gstep_tutorref21_Told_8 {R : Type} (g : List Item → St → Option R) (K : AV → List O → Option R) (words : List (List Int)) (i s k o0 o0_1 o0_2 o0_3 : Int) (o0_4 o0_5 : List Int) (o2 : List (List Int)) (o3 o4 : List Int) (o5 : List (List Int)) (o6 o7 : List Int) :
    runSeg Try.prog T_tutorref21_Told cuts_tutorref21_Told 0 g (finish Try.prog Try.f29 0 K) (at' Try.f29 8) (sta_tutorref21_Told_8 words i s k o0 o0_1 o0_2 o0_3 o0_4 o0_5 o2 o3 o4 o5 o6 o7) =
    (fun (g29_3 : GT_tutorref21_Told_3 R) (g29_8 : GT_tutorref21_Told_8 R) (K0 : (List (List Int)) → (List Int) → (List Int) → Option R) (words : List (List Int)) (i s k o0 o0_1 o0_2 o0_3 : Int) (o0_4 o0_5 : List Int) (o2 : List (List Int)) (o3 o4 : List Int) (o5 : List (List Int)) (o6 o7 : List Int) =>
    bi (decide (0 ≤ i ∧ i < ((words.length : Nat) : Int)))
     (bi (decide (k < ((words.getD i.toNat []).length : Int)))
      (bi (decide (0 ≤ i ∧ i < ((words.length : Nat) : Int)))
       (bi (decide (0 ≤ k ∧ k < (((words.getD i.toNat []).length : Nat) : Int)))
        (bi (decide (0 ≤ (IntKind.i64.wrap ((IntKind.i64.wrap (s * o0_1)) + ((words.getD i.toNat []).getD k.toNat 0))) ∧ (IntKind.i64.wrap ((IntKind.i64.wrap (s * o0_1)) + ((words.getD i.toNat []).getD k.toNat 0))) < ((o7.length : Nat) : Int)))
         (bi (decide (0 ≤ (IntKind.i64.wrap ((IntKind.i64.wrap (s * o0_1)) + ((words.getD i.toNat []).getD k.toNat 0))) ∧ (IntKind.i64.wrap ((IntKind.i64.wrap (s * o0_1)) + ((words.getD i.toNat []).getD k.toNat 0))) < ((o7.length : Nat) : Int)))
          (bi (decide (0 ≤ (IntKind.i64.wrap ((IntKind.i64.wrap (s * o0_1)) + ((words.getD i.toNat []).getD k.toNat 0))) ∧ (IntKind.i64.wrap ((IntKind.i64.wrap (s * o0_1)) + ((words.getD i.toNat []).getD k.toNat 0))) < ((o0_4.length : Nat) : Int)))
           (bi (decide (0 ≤ (o0_4.getD ((IntKind.i64.wrap ((IntKind.i64.wrap (s * o0_1)) + ((words.getD i.toNat []).getD k.toNat 0))).toNat) 0) ∧ (o0_4.getD ((IntKind.i64.wrap ((IntKind.i64.wrap (s * o0_1)) + ((words.getD i.toNat []).getD k.toNat 0))).toNat) 0) < ((o6.length : Nat) : Int)))
            (bi (decide (0 ≤ (o0_4.getD ((IntKind.i64.wrap ((IntKind.i64.wrap (s * o0_1)) + ((words.getD i.toNat []).getD k.toNat 0))).toNat) 0) ∧ (o0_4.getD ((IntKind.i64.wrap ((IntKind.i64.wrap (s * o0_1)) + ((words.getD i.toNat []).getD k.toNat 0))).toNat) 0) < ((o6.length : Nat) : Int)))
             (g29_8 words i (o0_4.getD ((IntKind.i64.wrap ((IntKind.i64.wrap (s * o0_1)) + ((words.getD i.toNat []).getD k.toNat 0))).toNat) 0) (IntKind.i64.wrap (k + 1)) o0 o0_1 o0_2 o0_3 o0_4 o0_5 o2 o3 o4 o5 (o6.set ((o0_4.getD ((IntKind.i64.wrap ((IntKind.i64.wrap (s * o0_1)) + ((words.getD i.toNat []).getD k.toNat 0))).toNat) 0).toNat) (IntKind.i64.wrap ((o6.getD ((o0_4.getD ((IntKind.i64.wrap ((IntKind.i64.wrap (s * o0_1)) + ((words.getD i.toNat []).getD k.toNat 0))).toNat) 0).toNat) 0) + 1))) (o7.set ((IntKind.i64.wrap ((IntKind.i64.wrap (s * o0_1)) + ((words.getD i.toNat []).getD k.toNat 0))).toNat) (IntKind.i64.wrap ((o7.getD ((IntKind.i64.wrap ((IntKind.i64.wrap (s * o0_1)) + ((words.getD i.toNat []).getD k.toNat 0))).toNat) 0) + 1))))
             none)
            none)
           none)
          none)
         none)
        none)
       none)
      (g29_3 words (IntKind.i64.wrap (i + 1)) o0 o0_1 o0_2 o0_3 o0_4 o0_5 o2 o3 o4 o5 o6 o7))
     none) (gt_tutorref21_Told_3 g) (gt_tutorref21_Told_8 g) (fun r0 r1 r2 => K (.agg [.rd ⟨false, 33, (.sl 3 (.int .i64)), r0⟩, .own 0, .own 1]) [.row ⟨true, 3, (.int .i64), r1⟩, .row ⟨true, 3, (.int .i64), r2⟩]) words i s k o0 o0_1 o0_2 o0_3 o0_4 o0_5 o2 o3 o4 o5 o6 o7 := by kernel_rfl

theorem gentry_tutorref21_Told {R : Type} (fuel : Nat) (K : AV → List O → Option R) (m m_1 m_2 m_3 : Int) (m_4 m_5 : List Int) (words : List (List Int)) :
    fnRun Try.prog T_tutorref21_Told cuts_tutorref21_Told Try.f29 fuel [.agg [.v (.int .i64 m), .v (.int .i64 m_1), .v (.int .i64 m_2), .v (.int .i64 m_3), .rd ⟨false, 3, (.int .i64), m_4⟩, .rd ⟨false, 3, (.int .i64), m_5⟩], .rd ⟨false, 33, (.sl 3 (.int .i64)), words⟩] [] K =
    (fun (g29_3 : GT_tutorref21_Told_3 R) (g29_8 : GT_tutorref21_Told_8 R) (K0 : (List (List Int)) → (List Int) → (List Int) → Option R) (m m_1 m_2 m_3 : Int) (m_4 m_5 : List Int) (words : List (List Int)) =>
    both
     (bi (decide (0 ≤ m_3 ∧ m_3 ≤ m_3 ∧ m_3 ≤ 1073741824))
      (twice
       (bi (decide (0 ≤ (m_4.length : Int) ∧ (m_4.length : Int) ≤ (m_4.length : Int) ∧ (m_4.length : Int) ≤ 1073741824))
        (g29_3 words 0 m m_1 m_2 m_3 m_4 m_5 ([] : List (List Int)) ([] : List Int) ([] : List Int) words (List.replicate m_3.toNat (0 : Int)) (List.replicate (m_4.length : Int).toNat (0 : Int)))
        none))
      none)
     (both
      (bi (decide (0 ≤ (m_4.length : Int) ∧ (m_4.length : Int) ≤ (m_4.length : Int) ∧ (m_4.length : Int) ≤ 1073741824))
       (twice
        (bi (decide (0 ≤ m_3 ∧ m_3 ≤ m_3 ∧ m_3 ≤ 1073741824))
         (g29_3 words 0 m m_1 m_2 m_3 m_4 m_5 ([] : List (List Int)) ([] : List Int) ([] : List Int) words (List.replicate m_3.toNat (0 : Int)) (List.replicate (m_4.length : Int).toNat (0 : Int)))
         none))
       none)
      (both
       (bi (decide (0 ≤ m_3 ∧ m_3 ≤ m_3 ∧ m_3 ≤ 1073741824))
        (bi (decide (0 ≤ (m_4.length : Int) ∧ (m_4.length : Int) ≤ (m_4.length : Int) ∧ (m_4.length : Int) ≤ 1073741824))
         (g29_3 words 0 m m_1 m_2 m_3 m_4 m_5 ([] : List (List Int)) ([] : List Int) ([] : List Int) words (List.replicate m_3.toNat (0 : Int)) (List.replicate (m_4.length : Int).toNat (0 : Int)))
         none)
        none)
       (bi (decide (0 ≤ (m_4.length : Int) ∧ (m_4.length : Int) ≤ (m_4.length : Int) ∧ (m_4.length : Int) ≤ 1073741824))
        (bi (decide (0 ≤ m_3 ∧ m_3 ≤ m_3 ∧ m_3 ≤ 1073741824))
         (g29_3 words 0 m m_1 m_2 m_3 m_4 m_5 ([] : List (List Int)) ([] : List Int) ([] : List Int) words (List.replicate m_3.toNat (0 : Int)) (List.replicate (m_4.length : Int).toNat (0 : Int)))
         none)
        none)))) (gt_tutorref21_Told_3 (runO Try.prog T_tutorref21_Told cuts_tutorref21_Told 0 (finish Try.prog Try.f29 0 K) fuel)) (gt_tutorref21_Told_8 (runO Try.prog T_tutorref21_Told cuts_tutorref21_Told 0 (finish Try.prog Try.f29 0 K) fuel)) (fun r0 r1 r2 => K (.agg [.rd ⟨false, 33, (.sl 3 (.int .i64)), r0⟩, .own 0, .own 1]) [.row ⟨true, 3, (.int .i64), r1⟩, .row ⟨true, 3, (.int .i64), r2⟩]) m m_1 m_2 m_3 m_4 m_5 words := by kernel_rfl

theorem runs_tutorref21_Told {R : Type} (K : AV → List O → Option R) : ∀ fuel : Nat,
    (gt_tutorref21_Told_3 (runO Try.prog T_tutorref21_Told cuts_tutorref21_Told 0 (finish Try.prog Try.f29 0 K) fuel)) = (run_tutorref21_Told (fun r0 r1 r2 => K (.agg [.rd ⟨false, 33, (.sl 3 (.int .i64)), r0⟩, .own 0, .own 1]) [.row ⟨true, 3, (.int .i64), r1⟩, .row ⟨true, 3, (.int .i64), r2⟩]) fuel).1 ∧
    (gt_tutorref21_Told_8 (runO Try.prog T_tutorref21_Told cuts_tutorref21_Told 0 (finish Try.prog Try.f29 0 K) fuel)) = (run_tutorref21_Told (fun r0 r1 r2 => K (.agg [.rd ⟨false, 33, (.sl 3 (.int .i64)), r0⟩, .own 0, .own 1]) [.row ⟨true, 3, (.int .i64), r1⟩, .row ⟨true, 3, (.int .i64), r2⟩]) fuel).2
  | 0 => ⟨rfl, rfl⟩
  | fuel + 1 => by
    have ih := runs_tutorref21_Told K fuel
    refine ⟨?_, ?_⟩
    · funext words i o0 o0_1 o0_2 o0_3 o0_4 o0_5 o2 o3 o4 o5 o6 o7
      refine (gstep_tutorref21_Told_3 _ K words i o0 o0_1 o0_2 o0_3 o0_4 o0_5 o2 o3 o4 o5 o6 o7).trans ?_
      rw [ih.1, ih.2]
      rfl
    · funext words i s k o0 o0_1 o0_2 o0_3 o0_4 o0_5 o2 o3 o4 o5 o6 o7
      refine (gstep_tutorref21_Told_8 _ K words i s k o0 o0_1 o0_2 o0_3 o0_4 o0_5 o2 o3 o4 o5 o6 o7).trans ?_
      rw [ih.1, ih.2]
      rfl

def S_tutorref21_Told (l_tutorref21_Told : LT_tutorref21_Told) : Sum := ⟨[], fun {R} args ob K => match args, ob with
  | [.agg [.v (.int .i64 m), .v (.int .i64 m_1), .v (.int .i64 m_2), .v (.int .i64 m_3), .rd ⟨false, 3, (.int .i64), m_4⟩, .rd ⟨false, 3, (.int .i64), m_5⟩], .rd ⟨false, 33, (.sl 3 (.int .i64)), words⟩], [] => l_tutorref21_Told m m_1 m_2 m_3 m_4 m_5 words (fun r0 r1 r2 => K (.agg [.rd ⟨false, 33, (.sl 3 (.int .i64)), r0⟩, .own 0, .own 1]) [.row ⟨true, 3, (.int .i64), r1⟩, .row ⟨true, 3, (.int .i64), r2⟩])
  | _, _ => none⟩

theorem sound_tutorref21_Told : Sound Try.prog 29 (S_tutorref21_Told @l_tutorref21_Told) := by
  refine fn_sound (cuts := cuts_tutorref21_Told) (fn := Try.f29) (Γ := T_tutorref21_Told) wide right_T_tutorref21_Told Try.func29 fun {R} K r args ob h => ?_
  unfold S_tutorref21_Told at h
  dsimp only at h
  split at h
  · obtain ⟨n, hn⟩ := ok_tutorref21_Told _ _ _ _ _ _ _ _ h
    refine ⟨Nat.le_of_ble_eq_true (by kernel_rfl), n, (gentry_tutorref21_Told n K _ _ _ _ _ _ _).trans ?_⟩
    rw [(runs_tutorref21_Told K n).1, (runs_tutorref21_Told K n).2]
    exact hn
  · cases h

theorem call_tutorref21_Told : Callable Try.prog 29 := ⟨_, Try.func29, by kernel_rfl, by kernel_rfl⟩

def T_tutorref21_Stroll (l_tutorref21_Start : LT_tutorref21_Start) (l_tutorref03_Check : LT_tutorref03_Check) (l_tutorref21_Int : LT_tutorref21_Int) (l_tutorref21_Told : LT_tutorref21_Told) : FuncId → Option Sum := (addS (addS (addS (addS G0 11 (S_tutorref21_Start @l_tutorref21_Start)) 41 (S_tutorref03_Check @l_tutorref03_Check)) 12 (S_tutorref21_Int @l_tutorref21_Int)) 29 (S_tutorref21_Told @l_tutorref21_Told))

theorem right_T_tutorref21_Stroll : Right Try.prog (T_tutorref21_Stroll @l_tutorref21_Start @l_tutorref03_Check @l_tutorref21_Int @l_tutorref21_Told) := (right_add (right_add (right_add (right_add right_G0 call_tutorref21_Start sound_tutorref21_Start) call_tutorref03_Check sound_tutorref03_Check) call_tutorref21_Int sound_tutorref21_Int) call_tutorref21_Told sound_tutorref21_Told)

abbrev cuts_tutorref21_Stroll : Cuts := [(11, [2, 3, 4, 8, 12, 13, 14])]

abbrev sta_tutorref21_Stroll_11 (steps stop x i o0 o0_1 o0_2 o0_3 : Int) (o0_4 o0_5 : List Int) (o2 : List (List Int)) (o3 o4 : List Int) (o5 : List (List Int)) : St := ⟨fr0 94 [(2, .v (.int .i64 steps)), (3, .v (.int .i64 stop)), (4, .ptr 0 0), (8, .ptr 1 0), (12, .v (.int .u64 x)), (13, .nst 5), (14, .v (.int .i64 i))], [.box 51 [.v (.int .i64 o0), .v (.int .i64 o0_1), .v (.int .i64 o0_2), .v (.int .i64 o0_3), .rd ⟨false, 3, (.int .i64), o0_4⟩, .rd ⟨false, 3, (.int .i64), o0_5⟩], .box 55 [.nst 2, .own 3, .own 4], .nst ⟨true, 33, (.sl 3 (.int .i64)), o2⟩, .row ⟨true, 3, (.int .i64), o3⟩, .row ⟨true, 3, (.int .i64), o4⟩, .nst ⟨true, 33, (.sl 3 (.int .i64)), o5⟩]⟩

abbrev gt_tutorref21_Stroll_11 {R : Type} (g : List Item → St → Option R) : GT_tutorref21_Stroll_11 R := fun (steps stop x i o0 o0_1 o0_2 o0_3 : Int) (o0_4 o0_5 : List Int) (o2 : List (List Int)) (o3 o4 : List Int) (o5 : List (List Int)) => g (at' Try.f25 11) (sta_tutorref21_Stroll_11 steps stop x i o0 o0_1 o0_2 o0_3 o0_4 o0_5 o2 o3 o4 o5)

theorem gstep_tutorref21_Stroll_11 (l_tutorref21_Start : LT_tutorref21_Start) (l_tutorref03_Check : LT_tutorref03_Check) (l_tutorref21_Int : LT_tutorref21_Int) (l_tutorref21_Told : LT_tutorref21_Told) {R : Type} (g : List Item → St → Option R) (K : AV → List O → Option R) (steps stop x i o0 o0_1 o0_2 o0_3 : Int) (o0_4 o0_5 : List Int) (o2 : List (List Int)) (o3 o4 : List Int) (o5 : List (List Int)) :
    runSeg Try.prog (T_tutorref21_Stroll @l_tutorref21_Start @l_tutorref03_Check @l_tutorref21_Int @l_tutorref21_Told) cuts_tutorref21_Stroll 0 g (finish Try.prog Try.f25 0 K) (at' Try.f25 11) (sta_tutorref21_Stroll_11 steps stop x i o0 o0_1 o0_2 o0_3 o0_4 o0_5 o2 o3 o4 o5) =
    (fun (g25_11 : GT_tutorref21_Stroll_11 R) (K0 : Int → (List (List Int)) → (List Int) → (List Int) → Option R) (K1 : (List (List Int)) → Int → (List Int) → (List Int) → Option R) (steps stop x i o0 o0_1 o0_2 o0_3 : Int) (o0_4 o0_5 : List Int) (o2 : List (List Int)) (o3 o4 : List Int) (o5 : List (List Int)) =>
    bi (decide (i < steps))
     (l_tutorref21_Int x stop
      (fun r4 r5 =>
       l_tutorref21_Int r5 o0_1
        (fun r6 r7 =>
         bi (r4 == 0)
          (bi (decide ((o5.length + [([] : List Int)].length) * 24 ≤ lim))
           (bi (decide (0 ≤ (IntKind.i64.wrap ((IntKind.i64.wrap ((o5.length : Int) - 1)) + 1)) ∧ (IntKind.i64.wrap ((IntKind.i64.wrap ((o5.length : Int) - 1)) + 1)) < (((o5 ++ [([] : List Int)]).length : Nat) : Int)))
            (bi (decide ((((o5 ++ [([] : List Int)]).getD ((IntKind.i64.wrap ((IntKind.i64.wrap ((o5.length : Int) - 1)) + 1)).toNat) []).length + [r6].length) * 8 ≤ lim))
             (bi (decide (0 ≤ (IntKind.i64.wrap ((IntKind.i64.wrap ((o5.length : Int) - 1)) + 1)) ∧ (IntKind.i64.wrap ((IntKind.i64.wrap ((o5.length : Int) - 1)) + 1)) < ((((o5 ++ [([] : List Int)]).set ((IntKind.i64.wrap ((IntKind.i64.wrap ((o5.length : Int) - 1)) + 1)).toNat) (((o5 ++ [([] : List Int)]).getD ((IntKind.i64.wrap ((IntKind.i64.wrap ((o5.length : Int) - 1)) + 1)).toNat) []) ++ [r6])).length : Nat) : Int)))
              (bi (decide (((IntKind.i64.wrap ((IntKind.i64.wrap ((o5.length : Int) - 1)) + 1)).toNat) = ((IntKind.i64.wrap ((IntKind.i64.wrap ((o5.length : Int) - 1)) + 1)).toNat) ∧ ((IntKind.i64.wrap ((IntKind.i64.wrap ((o5.length : Int) - 1)) + 1)).toNat) = ((IntKind.i64.wrap ((IntKind.i64.wrap ((o5.length : Int) - 1)) + 1)).toNat)))
               (g25_11 steps stop r7 (IntKind.i64.wrap (i + 1)) o0 o0_1 o0_2 o0_3 o0_4 o0_5 o2 o3 o4 ((o5 ++ [([] : List Int)]).set ((IntKind.i64.wrap ((IntKind.i64.wrap ((o5.length : Int) - 1)) + 1)).toNat) (((o5 ++ [([] : List Int)]).getD ((IntKind.i64.wrap ((IntKind.i64.wrap ((o5.length : Int) - 1)) + 1)).toNat) []) ++ [r6])))
               none)
              none)
             none)
            none)
           none)
          (bi (decide (0 ≤ (IntKind.i64.wrap ((o5.length : Int) - 1)) ∧ (IntKind.i64.wrap ((o5.length : Int) - 1)) < ((o5.length : Nat) : Int)))
           (bi (((o5.getD ((IntKind.i64.wrap ((o5.length : Int) - 1)).toNat) []).length : Int) == 4096)
            (bi (decide ((o5.length + [([] : List Int)].length) * 24 ≤ lim))
             (bi (decide (0 ≤ (IntKind.i64.wrap ((IntKind.i64.wrap ((o5.length : Int) - 1)) + 1)) ∧ (IntKind.i64.wrap ((IntKind.i64.wrap ((o5.length : Int) - 1)) + 1)) < (((o5 ++ [([] : List Int)]).length : Nat) : Int)))
              (bi (decide ((((o5 ++ [([] : List Int)]).getD ((IntKind.i64.wrap ((IntKind.i64.wrap ((o5.length : Int) - 1)) + 1)).toNat) []).length + [r6].length) * 8 ≤ lim))
               (bi (decide (0 ≤ (IntKind.i64.wrap ((IntKind.i64.wrap ((o5.length : Int) - 1)) + 1)) ∧ (IntKind.i64.wrap ((IntKind.i64.wrap ((o5.length : Int) - 1)) + 1)) < ((((o5 ++ [([] : List Int)]).set ((IntKind.i64.wrap ((IntKind.i64.wrap ((o5.length : Int) - 1)) + 1)).toNat) (((o5 ++ [([] : List Int)]).getD ((IntKind.i64.wrap ((IntKind.i64.wrap ((o5.length : Int) - 1)) + 1)).toNat) []) ++ [r6])).length : Nat) : Int)))
                (bi (decide (((IntKind.i64.wrap ((IntKind.i64.wrap ((o5.length : Int) - 1)) + 1)).toNat) = ((IntKind.i64.wrap ((IntKind.i64.wrap ((o5.length : Int) - 1)) + 1)).toNat) ∧ ((IntKind.i64.wrap ((IntKind.i64.wrap ((o5.length : Int) - 1)) + 1)).toNat) = ((IntKind.i64.wrap ((IntKind.i64.wrap ((o5.length : Int) - 1)) + 1)).toNat)))
                 (g25_11 steps stop r7 (IntKind.i64.wrap (i + 1)) o0 o0_1 o0_2 o0_3 o0_4 o0_5 o2 o3 o4 ((o5 ++ [([] : List Int)]).set ((IntKind.i64.wrap ((IntKind.i64.wrap ((o5.length : Int) - 1)) + 1)).toNat) (((o5 ++ [([] : List Int)]).getD ((IntKind.i64.wrap ((IntKind.i64.wrap ((o5.length : Int) - 1)) + 1)).toNat) []) ++ [r6])))
                 none)
                none)
               none)
              none)
             none)
            (bi (decide (0 ≤ (IntKind.i64.wrap ((o5.length : Int) - 1)) ∧ (IntKind.i64.wrap ((o5.length : Int) - 1)) < ((o5.length : Nat) : Int)))
             (bi (decide (((o5.getD ((IntKind.i64.wrap ((o5.length : Int) - 1)).toNat) []).length + [r6].length) * 8 ≤ lim))
              (bi (decide (0 ≤ (IntKind.i64.wrap ((o5.length : Int) - 1)) ∧ (IntKind.i64.wrap ((o5.length : Int) - 1)) < (((o5.set ((IntKind.i64.wrap ((o5.length : Int) - 1)).toNat) ((o5.getD ((IntKind.i64.wrap ((o5.length : Int) - 1)).toNat) []) ++ [r6])).length : Nat) : Int)))
               (bi (decide (((IntKind.i64.wrap ((o5.length : Int) - 1)).toNat) = ((IntKind.i64.wrap ((o5.length : Int) - 1)).toNat) ∧ ((IntKind.i64.wrap ((o5.length : Int) - 1)).toNat) = ((IntKind.i64.wrap ((o5.length : Int) - 1)).toNat)))
                (g25_11 steps stop r7 (IntKind.i64.wrap (i + 1)) o0 o0_1 o0_2 o0_3 o0_4 o0_5 o2 o3 o4 (o5.set ((IntKind.i64.wrap ((o5.length : Int) - 1)).toNat) ((o5.getD ((IntKind.i64.wrap ((o5.length : Int) - 1)).toNat) []) ++ [r6])))
                none)
               none)
              none)
             none))
           none))))
     (l_tutorref21_Told o0 o0_1 o0_2 o0_3 o0_4 o0_5 o5
      (fun r8 r9 r10 =>
       K1 r8 0 r9 r10))) (gt_tutorref21_Stroll_11 g) (fun r0 r1 r2 r3 => K (.tup [.agg [.nst 0, .own 1, .own 2], .v (.int .i64 r0)]) [.nst ⟨true, 33, (.sl 3 (.int .i64)), r1⟩, .row ⟨true, 3, (.int .i64), r2⟩, .row ⟨true, 3, (.int .i64), r3⟩]) (fun r0 r1 r2 r3 => K (.tup [.agg [.rd ⟨false, 33, (.sl 3 (.int .i64)), r0⟩, .own 0, .own 1], .v (.int .i64 r1)]) [.row ⟨true, 3, (.int .i64), r2⟩, .row ⟨true, 3, (.int .i64), r3⟩]) steps stop x i o0 o0_1 o0_2 o0_3 o0_4 o0_5 o2 o3 o4 o5 := by kernel_rfl

theorem gentry_tutorref21_Stroll (l_tutorref21_Start : LT_tutorref21_Start) (l_tutorref03_Check : LT_tutorref03_Check) (l_tutorref21_Int : LT_tutorref21_Int) (l_tutorref21_Told : LT_tutorref21_Told) {R : Type} (fuel : Nat) (K : AV → List O → Option R) (m m_1 m_2 m_3 : Int) (m_4 m_5 : List Int) (seed steps stop : Int) :
    fnRun Try.prog (T_tutorref21_Stroll @l_tutorref21_Start @l_tutorref03_Check @l_tutorref21_Int @l_tutorref21_Told) cuts_tutorref21_Stroll Try.f25 fuel [.agg [.v (.int .i64 m), .v (.int .i64 m_1), .v (.int .i64 m_2), .v (.int .i64 m_3), .rd ⟨false, 3, (.int .i64), m_4⟩, .rd ⟨false, 3, (.int .i64), m_5⟩], .v (.int .u64 seed), .v (.int .i64 steps), .v (.int .i64 stop)] [] K =
    (fun (g25_11 : GT_tutorref21_Stroll_11 R) (K0 : Int → (List (List Int)) → (List Int) → (List Int) → Option R) (K1 : (List (List Int)) → Int → (List Int) → (List Int) → Option R) (m m_1 m_2 m_3 : Int) (m_4 m_5 : List Int) (seed steps stop : Int) =>
    l_tutorref03_Check m m_1 m_2 m_3 m_4 m_5
     (fun r1 r2 =>
      bi (r2 != 0)
       (K0 r2 ([] : List (List Int)) ([] : List Int) ([] : List Int))
       (bi (decide (steps < 0))
        (K0 1 ([] : List (List Int)) ([] : List Int) ([] : List Int))
        (bi (decide (stop < 1))
         (K0 1 ([] : List (List Int)) ([] : List Int) ([] : List Int))
         (bi (decide (steps > 65536))
          (K0 3 ([] : List (List Int)) ([] : List Int) ([] : List Int))
          (l_tutorref21_Start seed
           (fun r3 =>
            g25_11 steps stop r3 0 m m_1 m_2 m_3 m_4 m_5 ([] : List (List Int)) ([] : List Int) ([] : List Int) [([] : List Int)]))))))) (gt_tutorref21_Stroll_11 (runO Try.prog (T_tutorref21_Stroll @l_tutorref21_Start @l_tutorref03_Check @l_tutorref21_Int @l_tutorref21_Told) cuts_tutorref21_Stroll 0 (finish Try.prog Try.f25 0 K) fuel)) (fun r0 r1 r2 r3 => K (.tup [.agg [.nst 0, .own 1, .own 2], .v (.int .i64 r0)]) [.nst ⟨true, 33, (.sl 3 (.int .i64)), r1⟩, .row ⟨true, 3, (.int .i64), r2⟩, .row ⟨true, 3, (.int .i64), r3⟩]) (fun r0 r1 r2 r3 => K (.tup [.agg [.rd ⟨false, 33, (.sl 3 (.int .i64)), r0⟩, .own 0, .own 1], .v (.int .i64 r1)]) [.row ⟨true, 3, (.int .i64), r2⟩, .row ⟨true, 3, (.int .i64), r3⟩]) m m_1 m_2 m_3 m_4 m_5 seed steps stop := by kernel_rfl

theorem runs_tutorref21_Stroll {R : Type} (K : AV → List O → Option R) : ∀ fuel : Nat,
    (gt_tutorref21_Stroll_11 (runO Try.prog (T_tutorref21_Stroll @l_tutorref21_Start @l_tutorref03_Check @l_tutorref21_Int @l_tutorref21_Told) cuts_tutorref21_Stroll 0 (finish Try.prog Try.f25 0 K) fuel)) = (run_tutorref21_Stroll (fun r0 r1 r2 r3 => K (.tup [.agg [.nst 0, .own 1, .own 2], .v (.int .i64 r0)]) [.nst ⟨true, 33, (.sl 3 (.int .i64)), r1⟩, .row ⟨true, 3, (.int .i64), r2⟩, .row ⟨true, 3, (.int .i64), r3⟩]) (fun r0 r1 r2 r3 => K (.tup [.agg [.rd ⟨false, 33, (.sl 3 (.int .i64)), r0⟩, .own 0, .own 1], .v (.int .i64 r1)]) [.row ⟨true, 3, (.int .i64), r2⟩, .row ⟨true, 3, (.int .i64), r3⟩]) fuel)
  | 0 => rfl
  | fuel + 1 => by
    have ih := runs_tutorref21_Stroll K fuel
    funext steps stop x i o0 o0_1 o0_2 o0_3 o0_4 o0_5 o2 o3 o4 o5
    refine (gstep_tutorref21_Stroll_11 @l_tutorref21_Start @l_tutorref03_Check @l_tutorref21_Int @l_tutorref21_Told _ K steps stop x i o0 o0_1 o0_2 o0_3 o0_4 o0_5 o2 o3 o4 o5).trans ?_
    rw [ih]
    rfl

def S_tutorref21_Stroll (l_tutorref21_Stroll : LT_tutorref21_Stroll) : Sum := ⟨[], fun {R} args ob K => match args, ob with
  | [.agg [.v (.int .i64 m), .v (.int .i64 m_1), .v (.int .i64 m_2), .v (.int .i64 m_3), .rd ⟨false, 3, (.int .i64), m_4⟩, .rd ⟨false, 3, (.int .i64), m_5⟩], .v (.int .u64 seed), .v (.int .i64 steps), .v (.int .i64 stop)], [] => l_tutorref21_Stroll m m_1 m_2 m_3 m_4 m_5 seed steps stop (fun r0 r1 r2 r3 => K (.tup [.agg [.nst 0, .own 1, .own 2], .v (.int .i64 r0)]) [.nst ⟨true, 33, (.sl 3 (.int .i64)), r1⟩, .row ⟨true, 3, (.int .i64), r2⟩, .row ⟨true, 3, (.int .i64), r3⟩]) (fun r0 r1 r2 r3 => K (.tup [.agg [.rd ⟨false, 33, (.sl 3 (.int .i64)), r0⟩, .own 0, .own 1], .v (.int .i64 r1)]) [.row ⟨true, 3, (.int .i64), r2⟩, .row ⟨true, 3, (.int .i64), r3⟩])
  | _, _ => none⟩

theorem sound_tutorref21_Stroll : Sound Try.prog 25 (S_tutorref21_Stroll @l_tutorref21_Stroll) := by
  refine fn_sound (cuts := cuts_tutorref21_Stroll) (fn := Try.f25) (Γ := (T_tutorref21_Stroll @l_tutorref21_Start @l_tutorref03_Check @l_tutorref21_Int @l_tutorref21_Told)) wide right_T_tutorref21_Stroll Try.func25 fun {R} K r args ob h => ?_
  unfold S_tutorref21_Stroll at h
  dsimp only at h
  split at h
  · obtain ⟨n, hn⟩ := ok_tutorref21_Stroll _ _ _ _ _ _ _ _ _ _ _ h
    refine ⟨Nat.le_of_ble_eq_true (by kernel_rfl), n, (gentry_tutorref21_Stroll @l_tutorref21_Start @l_tutorref03_Check @l_tutorref21_Int @l_tutorref21_Told n K _ _ _ _ _ _ _ _ _).trans ?_⟩
    rw [(runs_tutorref21_Stroll K n)]
    exact hn
  · cases h

theorem call_tutorref21_Stroll : Callable Try.prog 25 := ⟨_, Try.func25, by kernel_rfl, by kernel_rfl⟩

def T_tutorref01_Same : FuncId → Option Sum := G0

theorem right_T_tutorref01_Same : Right Try.prog T_tutorref01_Same := right_G0

abbrev cuts_tutorref01_Same : Cuts := [(4, [0, 1, 5])]

abbrev sta_tutorref01_Same_4 (a b : List Int) (i : Int) : St := ⟨fr0 26 [(0, .rd ⟨false, 3, (.int .i64), a⟩), (1, .rd ⟨false, 3, (.int .i64), b⟩), (5, .v (.int .i64 i))], []⟩

abbrev gt_tutorref01_Same_4 {R : Type} (g : List Item → St → Option R) : GT_tutorref01_Same_4 R := fun (a b : List Int) (i : Int) => g (at' Try.f16 4) (sta_tutorref01_Same_4 a b i)

theorem gstep_tutorref01_Same_4 {R : Type} (g : List Item → St → Option R) (K : AV → List O → Option R) (a b : List Int) (i : Int) :
    runSeg Try.prog T_tutorref01_Same cuts_tutorref01_Same 0 g (finish Try.prog Try.f16 0 K) (at' Try.f16 4) (sta_tutorref01_Same_4 a b i) =
    (fun (g16_4 : GT_tutorref01_Same_4 R) (K0 : Bool → Option R) (a b : List Int) (i : Int) =>
    bi (decide (i < (a.length : Int)))
     (bi (decide (0 ≤ i ∧ i < ((a.length : Nat) : Int)))
      (bi (decide (0 ≤ i ∧ i < ((b.length : Nat) : Int)))
       (bi ((a.getD i.toNat 0) != (b.getD i.toNat 0))
        (K0 false)
        (g16_4 a b (IntKind.i64.wrap (i + 1))))
       none)
      none)
     (K0 true)) (gt_tutorref01_Same_4 g) (fun r0 => K (.v (.bool r0)) []) a b i := by kernel_rfl

theorem gentry_tutorref01_Same {R : Type} (fuel : Nat) (K : AV → List O → Option R) (a b : List Int) :
    fnRun Try.prog T_tutorref01_Same cuts_tutorref01_Same Try.f16 fuel [.rd ⟨false, 3, (.int .i64), a⟩, .rd ⟨false, 3, (.int .i64), b⟩] [] K =
    (fun (g16_4 : GT_tutorref01_Same_4 R) (K0 : Bool → Option R) (a b : List Int) =>
    bi ((a.length : Int) != (b.length : Int))
     (K0 false)
     (g16_4 a b 0)) (gt_tutorref01_Same_4 (runO Try.prog T_tutorref01_Same cuts_tutorref01_Same 0 (finish Try.prog Try.f16 0 K) fuel)) (fun r0 => K (.v (.bool r0)) []) a b := by kernel_rfl

theorem runs_tutorref01_Same {R : Type} (K : AV → List O → Option R) : ∀ fuel : Nat,
    (gt_tutorref01_Same_4 (runO Try.prog T_tutorref01_Same cuts_tutorref01_Same 0 (finish Try.prog Try.f16 0 K) fuel)) = (run_tutorref01_Same (fun r0 => K (.v (.bool r0)) []) fuel)
  | 0 => rfl
  | fuel + 1 => by
    have ih := runs_tutorref01_Same K fuel
    funext a b i
    refine (gstep_tutorref01_Same_4 _ K a b i).trans ?_
    rw [ih]
    rfl

def S_tutorref01_Same (l_tutorref01_Same : LT_tutorref01_Same) : Sum := ⟨[], fun {R} args ob K => match args, ob with
  | [.rd ⟨false, 3, (.int .i64), a⟩, .rd ⟨false, 3, (.int .i64), b⟩], [] => l_tutorref01_Same a b (fun r0 => K (.v (.bool r0)) [])
  | _, _ => none⟩

theorem sound_tutorref01_Same : Sound Try.prog 16 (S_tutorref01_Same @l_tutorref01_Same) := by
  refine fn_sound (cuts := cuts_tutorref01_Same) (fn := Try.f16) (Γ := T_tutorref01_Same) wide right_T_tutorref01_Same Try.func16 fun {R} K r args ob h => ?_
  unfold S_tutorref01_Same at h
  dsimp only at h
  split at h
  · obtain ⟨n, hn⟩ := ok_tutorref01_Same _ _ _ h
    refine ⟨Nat.le_of_ble_eq_true (by kernel_rfl), n, (gentry_tutorref01_Same n K _ _).trans ?_⟩
    rw [(runs_tutorref01_Same K n)]
    exact hn
  · cases h

theorem call_tutorref01_Same : Callable Try.prog 16 := ⟨_, Try.func16, by kernel_rfl, by kernel_rfl⟩

def T_tutorref01_Lists (l_tutorref01_Same : LT_tutorref01_Same) : FuncId → Option Sum := (addS G0 16 (S_tutorref01_Same @l_tutorref01_Same))

theorem right_T_tutorref01_Lists : Right Try.prog (T_tutorref01_Lists @l_tutorref01_Same) := (right_add right_G0 call_tutorref01_Same sound_tutorref01_Same)

abbrev cuts_tutorref01_Lists : Cuts := [(4, [0, 1, 5])]

abbrev sta_tutorref01_Lists_4 (a b : List (List Int)) (i : Int) : St := ⟨fr0 27 [(0, .rd ⟨false, 33, (.sl 3 (.int .i64)), a⟩), (1, .rd ⟨false, 33, (.sl 3 (.int .i64)), b⟩), (5, .v (.int .i64 i))], []⟩

abbrev gt_tutorref01_Lists_4 {R : Type} (g : List Item → St → Option R) : GT_tutorref01_Lists_4 R := fun (a b : List (List Int)) (i : Int) => g (at' Try.f20 4) (sta_tutorref01_Lists_4 a b i)

theorem gstep_tutorref01_Lists_4 (l_tutorref01_Same : LT_tutorref01_Same) {R : Type} (g : List Item → St → Option R) (K : AV → List O → Option R) (a b : List (List Int)) (i : Int) :
    runSeg Try.prog (T_tutorref01_Lists @l_tutorref01_Same) cuts_tutorref01_Lists 0 g (finish Try.prog Try.f20 0 K) (at' Try.f20 4) (sta_tutorref01_Lists_4 a b i) =
    (fun (g20_4 : GT_tutorref01_Lists_4 R) (K0 : Bool → Option R) (a b : List (List Int)) (i : Int) =>
    bi (decide (i < (a.length : Int)))
     (bi (decide (0 ≤ i ∧ i < ((a.length : Nat) : Int)))
      (bi (decide (0 ≤ i ∧ i < ((b.length : Nat) : Int)))
       (l_tutorref01_Same (a.getD i.toNat []) (b.getD i.toNat [])
        (fun r1 =>
         bi (!r1)
          (K0 false)
          (g20_4 a b (IntKind.i64.wrap (i + 1)))))
       none)
      none)
     (K0 true)) (gt_tutorref01_Lists_4 g) (fun r0 => K (.v (.bool r0)) []) a b i := by kernel_rfl

theorem gentry_tutorref01_Lists (l_tutorref01_Same : LT_tutorref01_Same) {R : Type} (fuel : Nat) (K : AV → List O → Option R) (a b : List (List Int)) :
    fnRun Try.prog (T_tutorref01_Lists @l_tutorref01_Same) cuts_tutorref01_Lists Try.f20 fuel [.rd ⟨false, 33, (.sl 3 (.int .i64)), a⟩, .rd ⟨false, 33, (.sl 3 (.int .i64)), b⟩] [] K =
    (fun (g20_4 : GT_tutorref01_Lists_4 R) (K0 : Bool → Option R) (a b : List (List Int)) =>
    bi ((a.length : Int) != (b.length : Int))
     (K0 false)
     (g20_4 a b 0)) (gt_tutorref01_Lists_4 (runO Try.prog (T_tutorref01_Lists @l_tutorref01_Same) cuts_tutorref01_Lists 0 (finish Try.prog Try.f20 0 K) fuel)) (fun r0 => K (.v (.bool r0)) []) a b := by kernel_rfl

theorem runs_tutorref01_Lists {R : Type} (K : AV → List O → Option R) : ∀ fuel : Nat,
    (gt_tutorref01_Lists_4 (runO Try.prog (T_tutorref01_Lists @l_tutorref01_Same) cuts_tutorref01_Lists 0 (finish Try.prog Try.f20 0 K) fuel)) = (run_tutorref01_Lists (fun r0 => K (.v (.bool r0)) []) fuel)
  | 0 => rfl
  | fuel + 1 => by
    have ih := runs_tutorref01_Lists K fuel
    funext a b i
    refine (gstep_tutorref01_Lists_4 @l_tutorref01_Same _ K a b i).trans ?_
    rw [ih]
    rfl

def S_tutorref01_Lists (l_tutorref01_Lists : LT_tutorref01_Lists) : Sum := ⟨[], fun {R} args ob K => match args, ob with
  | [.rd ⟨false, 33, (.sl 3 (.int .i64)), a⟩, .rd ⟨false, 33, (.sl 3 (.int .i64)), b⟩], [] => l_tutorref01_Lists a b (fun r0 => K (.v (.bool r0)) [])
  | _, _ => none⟩

theorem sound_tutorref01_Lists : Sound Try.prog 20 (S_tutorref01_Lists @l_tutorref01_Lists) := by
  refine fn_sound (cuts := cuts_tutorref01_Lists) (fn := Try.f20) (Γ := (T_tutorref01_Lists @l_tutorref01_Same)) wide right_T_tutorref01_Lists Try.func20 fun {R} K r args ob h => ?_
  unfold S_tutorref01_Lists at h
  dsimp only at h
  split at h
  · obtain ⟨n, hn⟩ := ok_tutorref01_Lists _ _ _ h
    refine ⟨Nat.le_of_ble_eq_true (by kernel_rfl), n, (gentry_tutorref01_Lists @l_tutorref01_Same n K _ _).trans ?_⟩
    rw [(runs_tutorref01_Lists K n)]
    exact hn
  · cases h

theorem call_tutorref01_Lists : Callable Try.prog 20 := ⟨_, Try.func20, by kernel_rfl, by kernel_rfl⟩

def T_tutorref21_Same (l_tutorref01_Same : LT_tutorref01_Same) (l_tutorref01_Lists : LT_tutorref01_Lists) : FuncId → Option Sum := (addS (addS G0 16 (S_tutorref01_Same @l_tutorref01_Same)) 20 (S_tutorref01_Lists @l_tutorref01_Lists))

theorem right_T_tutorref21_Same : Right Try.prog (T_tutorref21_Same @l_tutorref01_Same @l_tutorref01_Lists) := (right_add (right_add right_G0 call_tutorref01_Same sound_tutorref01_Same) call_tutorref01_Lists sound_tutorref01_Lists)

abbrev cuts_tutorref21_Same : Cuts := []

theorem gentry_tutorref21_Same (l_tutorref01_Same : LT_tutorref01_Same) (l_tutorref01_Lists : LT_tutorref01_Lists) {R : Type} (K : AV → List O → Option R) (a : List (List Int)) (a_1 a_2 : List Int) (b : List (List Int)) (b_1 b_2 : List Int) :
    fnRun Try.prog (T_tutorref21_Same @l_tutorref01_Same @l_tutorref01_Lists) cuts_tutorref21_Same Try.f26 0 [.agg [.rd ⟨false, 33, (.sl 3 (.int .i64)), a⟩, .rd ⟨false, 3, (.int .i64), a_1⟩, .rd ⟨false, 3, (.int .i64), a_2⟩], .agg [.rd ⟨false, 33, (.sl 3 (.int .i64)), b⟩, .rd ⟨false, 3, (.int .i64), b_1⟩, .rd ⟨false, 3, (.int .i64), b_2⟩]] [] K =
    (fun (a : List (List Int)) (a_1 a_2 : List Int) (b : List (List Int)) (b_1 b_2 : List Int) (K0 : Bool → Option R) =>
    l_tutorref01_Lists a b
     (fun r1 =>
      bi r1
       (l_tutorref01_Same a_1 b_1
        (fun r2 =>
         bi r2
          (l_tutorref01_Same a_2 b_2
           (fun r3 =>
            K0 r3))
          (K0 false)))
       (K0 false))) a a_1 a_2 b b_1 b_2 (fun r0 => K (.v (.bool r0)) []) := by kernel_rfl

def S_tutorref21_Same (l_tutorref21_Same : LT_tutorref21_Same) : Sum := ⟨[], fun {R} args ob K => match args, ob with
  | [.agg [.rd ⟨false, 33, (.sl 3 (.int .i64)), a⟩, .rd ⟨false, 3, (.int .i64), a_1⟩, .rd ⟨false, 3, (.int .i64), a_2⟩], .agg [.rd ⟨false, 33, (.sl 3 (.int .i64)), b⟩, .rd ⟨false, 3, (.int .i64), b_1⟩, .rd ⟨false, 3, (.int .i64), b_2⟩]], [] => l_tutorref21_Same a a_1 a_2 b b_1 b_2 (fun r0 => K (.v (.bool r0)) [])
  | _, _ => none⟩

theorem sound_tutorref21_Same : Sound Try.prog 26 (S_tutorref21_Same @l_tutorref21_Same) := by
  refine fn_sound (cuts := cuts_tutorref21_Same) (fn := Try.f26) (Γ := (T_tutorref21_Same @l_tutorref01_Same @l_tutorref01_Lists)) wide right_T_tutorref21_Same Try.func26 fun {R} K r args ob h => ?_
  unfold S_tutorref21_Same at h
  dsimp only at h
  split at h
  · exact ⟨Nat.le_of_ble_eq_true (by kernel_rfl), 0, (gentry_tutorref21_Same @l_tutorref01_Same @l_tutorref01_Lists K _ _ _ _ _ _).trans h⟩
  · cases h

theorem call_tutorref21_Same : Callable Try.prog 26 := ⟨_, Try.func26, by kernel_rfl, by kernel_rfl⟩

def T_tutorlaw21_num : FuncId → Option Sum := G0

theorem right_T_tutorlaw21_num : Right Try.prog T_tutorlaw21_num := right_G0

abbrev cuts_tutorlaw21_num : Cuts := []

theorem gentry_tutorlaw21_num {R : Type} (K : AV → List O → Option R) (e : Int) :
    fnRun Try.prog T_tutorlaw21_num cuts_tutorlaw21_num Try.f17 0 [.v (.int .i64 e)] [] K =
    (fun (e : Int) (K0 : Int → Option R) =>
    K0 e) e (fun r0 => K (.v (.int .i64 r0)) []) := by kernel_rfl

def S_tutorlaw21_num (l_tutorlaw21_num : LT_tutorlaw21_num) : Sum := ⟨[], fun {R} args ob K => match args, ob with
  | [.v (.int .i64 e)], [] => l_tutorlaw21_num e (fun r0 => K (.v (.int .i64 r0)) [])
  | _, _ => none⟩

theorem sound_tutorlaw21_num : Sound Try.prog 17 (S_tutorlaw21_num @l_tutorlaw21_num) := by
  refine fn_sound (cuts := cuts_tutorlaw21_num) (fn := Try.f17) (Γ := T_tutorlaw21_num) wide right_T_tutorlaw21_num Try.func17 fun {R} K r args ob h => ?_
  unfold S_tutorlaw21_num at h
  dsimp only at h
  split at h
  · exact ⟨Nat.le_of_ble_eq_true (by kernel_rfl), 0, (gentry_tutorlaw21_num K _).trans h⟩
  · cases h

theorem call_tutorlaw21_num : Callable Try.prog 17 := ⟨_, Try.func17, by kernel_rfl, by kernel_rfl⟩

def T_tutorref03_Same (l_tutorref01_Same : LT_tutorref01_Same) : FuncId → Option Sum := (addS G0 16 (S_tutorref01_Same @l_tutorref01_Same))

theorem right_T_tutorref03_Same : Right Try.prog (T_tutorref03_Same @l_tutorref01_Same) := (right_add right_G0 call_tutorref01_Same sound_tutorref01_Same)

abbrev cuts_tutorref03_Same : Cuts := []

theorem gentry_tutorref03_Same (l_tutorref01_Same : LT_tutorref01_Same) {R : Type} (K : AV → List O → Option R) (a a_1 a_2 a_3 : Int) (a_4 a_5 : List Int) (b b_1 b_2 b_3 : Int) (b_4 b_5 : List Int) :
    fnRun Try.prog (T_tutorref03_Same @l_tutorref01_Same) cuts_tutorref03_Same Try.f27 0 [.agg [.v (.int .i64 a), .v (.int .i64 a_1), .v (.int .i64 a_2), .v (.int .i64 a_3), .rd ⟨false, 3, (.int .i64), a_4⟩, .rd ⟨false, 3, (.int .i64), a_5⟩], .agg [.v (.int .i64 b), .v (.int .i64 b_1), .v (.int .i64 b_2), .v (.int .i64 b_3), .rd ⟨false, 3, (.int .i64), b_4⟩, .rd ⟨false, 3, (.int .i64), b_5⟩]] [] K =
    (fun (a a_1 a_2 a_3 : Int) (a_4 a_5 : List Int) (b b_1 b_2 b_3 : Int) (b_4 b_5 : List Int) (K0 : Bool → Option R) =>
    bi (a == b)
     (bi (a_1 == b_1)
      (bi (a_2 == b_2)
       (bi (a_3 == b_3)
        (l_tutorref01_Same a_4 b_4
         (fun r1 =>
          bi r1
           (l_tutorref01_Same a_5 b_5
            (fun r2 =>
             K0 r2))
           (K0 false)))
        (K0 false))
       (K0 false))
      (K0 false))
     (K0 false)) a a_1 a_2 a_3 a_4 a_5 b b_1 b_2 b_3 b_4 b_5 (fun r0 => K (.v (.bool r0)) []) := by kernel_rfl

def S_tutorref03_Same (l_tutorref03_Same : LT_tutorref03_Same) : Sum := ⟨[], fun {R} args ob K => match args, ob with
  | [.agg [.v (.int .i64 a), .v (.int .i64 a_1), .v (.int .i64 a_2), .v (.int .i64 a_3), .rd ⟨false, 3, (.int .i64), a_4⟩, .rd ⟨false, 3, (.int .i64), a_5⟩], .agg [.v (.int .i64 b), .v (.int .i64 b_1), .v (.int .i64 b_2), .v (.int .i64 b_3), .rd ⟨false, 3, (.int .i64), b_4⟩, .rd ⟨false, 3, (.int .i64), b_5⟩]], [] => l_tutorref03_Same a a_1 a_2 a_3 a_4 a_5 b b_1 b_2 b_3 b_4 b_5 (fun r0 => K (.v (.bool r0)) [])
  | _, _ => none⟩

theorem sound_tutorref03_Same : Sound Try.prog 27 (S_tutorref03_Same @l_tutorref03_Same) := by
  refine fn_sound (cuts := cuts_tutorref03_Same) (fn := Try.f27) (Γ := (T_tutorref03_Same @l_tutorref01_Same)) wide right_T_tutorref03_Same Try.func27 fun {R} K r args ob h => ?_
  unfold S_tutorref03_Same at h
  dsimp only at h
  split at h
  · exact ⟨Nat.le_of_ble_eq_true (by kernel_rfl), 0, (gentry_tutorref03_Same @l_tutorref01_Same K _ _ _ _ _ _ _ _ _ _ _ _).trans h⟩
  · cases h

theorem call_tutorref03_Same : Callable Try.prog 27 := ⟨_, Try.func27, by kernel_rfl, by kernel_rfl⟩

def T_tutorlaw21_WalkStrolls (l_tutorlaw21_live : LT_tutorlaw21_live) (l_tutorref03_Same : LT_tutorref03_Same) (l_tutorlaw21_num : LT_tutorlaw21_num) (l_tutorref21_Same : LT_tutorref21_Same) (l_tutorref21_Stroll : LT_tutorref21_Stroll) (l_walk_Stroll : LT_walk_Stroll) (l_tutorref03_Copy : LT_tutorref03_Copy) (l_tutorref03_Big : LT_tutorref03_Big) : FuncId → Option Sum := (addS (addS (addS (addS (addS (addS (addS (addS G0 9 (S_tutorlaw21_live @l_tutorlaw21_live)) 27 (S_tutorref03_Same @l_tutorref03_Same)) 17 (S_tutorlaw21_num @l_tutorlaw21_num)) 26 (S_tutorref21_Same @l_tutorref21_Same)) 25 (S_tutorref21_Stroll @l_tutorref21_Stroll)) 24 (S_walk_Stroll @l_walk_Stroll)) 23 (S_tutorref03_Copy @l_tutorref03_Copy)) 22 (S_tutorref03_Big @l_tutorref03_Big))

theorem right_T_tutorlaw21_WalkStrolls : Right Try.prog (T_tutorlaw21_WalkStrolls @l_tutorlaw21_live @l_tutorref03_Same @l_tutorlaw21_num @l_tutorref21_Same @l_tutorref21_Stroll @l_walk_Stroll @l_tutorref03_Copy @l_tutorref03_Big) := (right_add (right_add (right_add (right_add (right_add (right_add (right_add (right_add right_G0 call_tutorlaw21_live sound_tutorlaw21_live) call_tutorref03_Same sound_tutorref03_Same) call_tutorlaw21_num sound_tutorlaw21_num) call_tutorref21_Same sound_tutorref21_Same) call_tutorref21_Stroll sound_tutorref21_Stroll) call_walk_Stroll sound_walk_Stroll) call_tutorref03_Copy sound_tutorref03_Copy) call_tutorref03_Big sound_tutorref03_Big)

abbrev cuts_tutorlaw21_WalkStrolls : Cuts := []

theorem gentry_tutorlaw21_WalkStrolls (l_tutorlaw21_live : LT_tutorlaw21_live) (l_tutorref03_Same : LT_tutorref03_Same) (l_tutorlaw21_num : LT_tutorlaw21_num) (l_tutorref21_Same : LT_tutorref21_Same) (l_tutorref21_Stroll : LT_tutorref21_Stroll) (l_walk_Stroll : LT_walk_Stroll) (l_tutorref03_Copy : LT_tutorref03_Copy) (l_tutorref03_Big : LT_tutorref03_Big) {R : Type} (K : AV → List O → Option R) (m m_1 m_2 m_3 : Int) (m_4 m_5 : List Int) (seed steps stop : Int) :
    fnRun Try.prog (T_tutorlaw21_WalkStrolls @l_tutorlaw21_live @l_tutorref03_Same @l_tutorlaw21_num @l_tutorref21_Same @l_tutorref21_Stroll @l_walk_Stroll @l_tutorref03_Copy @l_tutorref03_Big) cuts_tutorlaw21_WalkStrolls Try.f5 0 [.agg [.v (.int .i64 m), .v (.int .i64 m_1), .v (.int .i64 m_2), .v (.int .i64 m_3), .rd ⟨false, 3, (.int .i64), m_4⟩, .rd ⟨false, 3, (.int .i64), m_5⟩], .v (.int .u64 seed), .v (.int .i64 steps), .v (.int .i64 stop)] [] K =
    (fun (m m_1 m_2 m_3 : Int) (m_4 m_5 : List Int) (seed steps stop : Int) (K0 : Bool → Option R) =>
    l_tutorref03_Big m m_1 m_2 m_3 m_4 m_5 60
     (fun r1 =>
      bi r1
       (l_tutorlaw21_live
        (fun r2 =>
         K0 r2))
       (bi (decide (steps > 2000))
        (bi (decide (steps ≤ 65536))
         (l_tutorlaw21_live
          (fun r3 =>
           K0 r3))
         (l_tutorref03_Copy m m_1 m_2 m_3 m_4 m_5
          (fun r4 r5 r6 r7 r8 r9 =>
           l_walk_Stroll r4 r5 r6 r7 r8 r9 seed steps stop
            (fun r10 r11 r12 r13 =>
             l_tutorref21_Stroll m m_1 m_2 m_3 m_4 m_5 seed steps stop
              (fun r14 r15 r16 r17 =>
               l_tutorref21_Same r11 r12 r13 r15 r16 r17
                (fun r18 =>
                 bi r18
                  (l_tutorlaw21_num r10
                   (fun r19 =>
                    bi (r19 == r14)
                     (l_tutorref03_Same r4 r5 r6 r7 r8 r9 m m_1 m_2 m_3 m_4 m_5
                      (fun r20 =>
                       bi r20
                        (l_tutorlaw21_live
                         (fun r21 =>
                          K0 r21))
                        (K0 false)))
                     (K0 false)))
                  (K0 false)))
              (fun r22 r23 r24 r25 =>
               l_tutorref21_Same r11 r12 r13 r22 r24 r25
                (fun r26 =>
                 bi r26
                  (l_tutorlaw21_num r10
                   (fun r27 =>
                    bi (r27 == r23)
                     (l_tutorref03_Same r4 r5 r6 r7 r8 r9 m m_1 m_2 m_3 m_4 m_5
                      (fun r28 =>
                       bi r28
                        (l_tutorlaw21_live
                         (fun r29 =>
                          K0 r29))
                        (K0 false)))
                     (K0 false)))
                  (K0 false)))))))
        (l_tutorref03_Copy m m_1 m_2 m_3 m_4 m_5
         (fun r30 r31 r32 r33 r34 r35 =>
          l_walk_Stroll r30 r31 r32 r33 r34 r35 seed steps stop
           (fun r36 r37 r38 r39 =>
            l_tutorref21_Stroll m m_1 m_2 m_3 m_4 m_5 seed steps stop
             (fun r40 r41 r42 r43 =>
              l_tutorref21_Same r37 r38 r39 r41 r42 r43
               (fun r44 =>
                bi r44
                 (l_tutorlaw21_num r36
                  (fun r45 =>
                   bi (r45 == r40)
                    (l_tutorref03_Same r30 r31 r32 r33 r34 r35 m m_1 m_2 m_3 m_4 m_5
                     (fun r46 =>
                      bi r46
                       (l_tutorlaw21_live
                        (fun r47 =>
                         K0 r47))
                       (K0 false)))
                    (K0 false)))
                 (K0 false)))
             (fun r48 r49 r50 r51 =>
              l_tutorref21_Same r37 r38 r39 r48 r50 r51
               (fun r52 =>
                bi r52
                 (l_tutorlaw21_num r36
                  (fun r53 =>
                   bi (r53 == r49)
                    (l_tutorref03_Same r30 r31 r32 r33 r34 r35 m m_1 m_2 m_3 m_4 m_5
                     (fun r54 =>
                      bi r54
                       (l_tutorlaw21_live
                        (fun r55 =>
                         K0 r55))
                       (K0 false)))
                    (K0 false)))
                 (K0 false))))))))) m m_1 m_2 m_3 m_4 m_5 seed steps stop (fun r0 => K (.v (.bool r0)) []) := by kernel_rfl

def S_tutorlaw21_WalkStrolls (l_tutorlaw21_WalkStrolls : LT_tutorlaw21_WalkStrolls) : Sum := ⟨[], fun {R} args ob K => match args, ob with
  | [.agg [.v (.int .i64 m), .v (.int .i64 m_1), .v (.int .i64 m_2), .v (.int .i64 m_3), .rd ⟨false, 3, (.int .i64), m_4⟩, .rd ⟨false, 3, (.int .i64), m_5⟩], .v (.int .u64 seed), .v (.int .i64 steps), .v (.int .i64 stop)], [] => l_tutorlaw21_WalkStrolls m m_1 m_2 m_3 m_4 m_5 seed steps stop (fun r0 => K (.v (.bool r0)) [])
  | _, _ => none⟩

theorem sound_tutorlaw21_WalkStrolls : Sound Try.prog 5 (S_tutorlaw21_WalkStrolls @l_tutorlaw21_WalkStrolls) := by
  refine fn_sound (cuts := cuts_tutorlaw21_WalkStrolls) (fn := Try.f5) (Γ := (T_tutorlaw21_WalkStrolls @l_tutorlaw21_live @l_tutorref03_Same @l_tutorlaw21_num @l_tutorref21_Same @l_tutorref21_Stroll @l_walk_Stroll @l_tutorref03_Copy @l_tutorref03_Big)) wide right_T_tutorlaw21_WalkStrolls Try.func5 fun {R} K r args ob h => ?_
  unfold S_tutorlaw21_WalkStrolls at h
  dsimp only at h
  split at h
  · exact ⟨Nat.le_of_ble_eq_true (by kernel_rfl), 0, (gentry_tutorlaw21_WalkStrolls @l_tutorlaw21_live @l_tutorref03_Same @l_tutorlaw21_num @l_tutorref21_Same @l_tutorref21_Stroll @l_walk_Stroll @l_tutorref03_Copy @l_tutorref03_Big K _ _ _ _ _ _ _ _ _).trans h⟩
  · cases h

theorem call_tutorlaw21_WalkStrolls : Callable Try.prog 5 := ⟨_, Try.func5, by kernel_rfl, by kernel_rfl⟩

end
end Go.Ev
