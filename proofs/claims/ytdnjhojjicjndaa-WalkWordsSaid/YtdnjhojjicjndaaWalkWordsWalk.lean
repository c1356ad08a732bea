/- Each function of the program is its tree. -/
import Derived.Test.YtdnjhojjicjndaaProg
import Derived.Test.YtdnjhojjicjndaaEvFn
import Derived.Test.YtdnjhojjicjndaaWalkWordsPure
namespace Go.Ev
open Go.Proofs
noncomputable section
set_option linter.unusedVariables false
set_option linter.unusedSimpArgs false
set_option maxRecDepth 100000
set_option maxHeartbeats 4000000

instance : TabG := ⟨fun _ => none⟩

instance : LoopG := ⟨fun k => rfOf Try.prog k⟩

theorem wide : Tables.follows Try.prog.toTables .mixedOrders = true := by kernel_rfl

def G0 : FuncId → Option Sum := fun _ => none
theorem right_G0 : Right Try.prog G0 := fun f S h => by cases h

def T_walk_New : FuncId → Option Sum := G0

theorem right_T_walk_New : Right Try.prog T_walk_New := right_G0

abbrev cuts_walk_New : Cuts := []

theorem gentry_walk_New {R : Type} (K : AV → List O → Option R) (seed : Int) :
    fnRun Try.prog T_walk_New cuts_walk_New Try.f10 0 [.v (.int .u64 seed)] [] K =
    (fun (seed : Int) (K0 : Int → Option R) =>
    bi (seed == 0)
     (K0 88172645463325252)
     (K0 seed)) seed (fun r0 => K (.ptr 0 0) [.box 80 [.v (.int .u64 r0)]]) := by kernel_rfl

def S_walk_New (l_walk_New : LT_walk_New) : Sum := ⟨[], fun {R} args ob K => match args, ob with
  | [.v (.int .u64 seed)], [] => l_walk_New seed (fun r0 => K (.ptr 0 0) [.box 80 [.v (.int .u64 r0)]])
  | _, _ => none⟩

theorem sound_walk_New : Sound Try.prog 10 (S_walk_New @l_walk_New) := by
  refine fn_sound (cuts := cuts_walk_New) (fn := Try.f10) (Γ := T_walk_New) wide right_T_walk_New Try.func10 fun {R} K r args ob h => ?_
  unfold S_walk_New at h
  dsimp only at h
  split at h
  · exact ⟨Nat.le_of_ble_eq_true (by kernel_rfl), 0, (gentry_walk_New K _).trans h⟩
  · cases h

theorem call_walk_New : Callable Try.prog 10 := ⟨_, Try.func10, by kernel_rfl, by kernel_rfl⟩

def T_tutorref21_Int : FuncId → Option Sum := G0

theorem right_T_tutorref21_Int : Right Try.prog T_tutorref21_Int := right_G0

abbrev cuts_tutorref21_Int : Cuts := []

theorem gentry_tutorref21_Int {R : Type} (K : AV → List O → Option R) (x n : Int) :
    fnRun Try.prog T_tutorref21_Int cuts_tutorref21_Int Try.f12 0 [.v (.int .u64 x), .v (.int .i64 n)] [] K =
    (fun (x n : Int) (K0 : Int → Int → Option R) =>
    bi (decide (n < 1))
     (K0 0 x)
     (bi (decide ((IntKind.u64.wrap n) = 0))
      none
      (K0 (IntKind.i64.wrap (((IntKind.u64.wrap ((IntKind.u64.wrap (BitVec.ofInt 64 (IntKind.u64.wrap (BitVec.ofInt 64 (IntKind.u64.wrap (BitVec.ofInt 64 x ^^^ BitVec.ofInt 64 (x.fdiv (2 ^ (min (12 : Int).toNat 64)))).toNat) ^^^ BitVec.ofInt 64 (IntKind.u64.wrap ((IntKind.u64.wrap (BitVec.ofInt 64 x ^^^ BitVec.ofInt 64 (x.fdiv (2 ^ (min (12 : Int).toNat 64)))).toNat) * 2 ^ (min (25 : Int).toNat 64)))).toNat) ^^^ BitVec.ofInt 64 ((IntKind.u64.wrap (BitVec.ofInt 64 (IntKind.u64.wrap (BitVec.ofInt 64 x ^^^ BitVec.ofInt 64 (x.fdiv (2 ^ (min (12 : Int).toNat 64)))).toNat) ^^^ BitVec.ofInt 64 (IntKind.u64.wrap ((IntKind.u64.wrap (BitVec.ofInt 64 x ^^^ BitVec.ofInt 64 (x.fdiv (2 ^ (min (12 : Int).toNat 64)))).toNat) * 2 ^ (min (25 : Int).toNat 64)))).toNat).fdiv (2 ^ (min (27 : Int).toNat 64)))).toNat) * 2685821657736338717)).fdiv (2 ^ (min (33 : Int).toNat 64))).tmod (IntKind.u64.wrap n))) (IntKind.u64.wrap (BitVec.ofInt 64 (IntKind.u64.wrap (BitVec.ofInt 64 (IntKind.u64.wrap (BitVec.ofInt 64 x ^^^ BitVec.ofInt 64 (x.fdiv (2 ^ (min (12 : Int).toNat 64)))).toNat) ^^^ BitVec.ofInt 64 (IntKind.u64.wrap ((IntKind.u64.wrap (BitVec.ofInt 64 x ^^^ BitVec.ofInt 64 (x.fdiv (2 ^ (min (12 : Int).toNat 64)))).toNat) * 2 ^ (min (25 : Int).toNat 64)))).toNat) ^^^ BitVec.ofInt 64 ((IntKind.u64.wrap (BitVec.ofInt 64 (IntKind.u64.wrap (BitVec.ofInt 64 x ^^^ BitVec.ofInt 64 (x.fdiv (2 ^ (min (12 : Int).toNat 64)))).toNat) ^^^ BitVec.ofInt 64 (IntKind.u64.wrap ((IntKind.u64.wrap (BitVec.ofInt 64 x ^^^ BitVec.ofInt 64 (x.fdiv (2 ^ (min (12 : Int).toNat 64)))).toNat) * 2 ^ (min (25 : Int).toNat 64)))).toNat).fdiv (2 ^ (min (27 : Int).toNat 64)))).toNat)))) x n (fun r0 r1 => K (.tup [.v (.int .i64 r0), .v (.int .u64 r1)]) []) := by kernel_rfl

def S_tutorref21_Int (l_tutorref21_Int : LT_tutorref21_Int) : Sum := ⟨[], fun {R} args ob K => match args, ob with
  | [.v (.int .u64 x), .v (.int .i64 n)], [] => l_tutorref21_Int x n (fun r0 r1 => K (.tup [.v (.int .i64 r0), .v (.int .u64 r1)]) [])
  | _, _ => none⟩

theorem sound_tutorref21_Int : Sound Try.prog 12 (S_tutorref21_Int @l_tutorref21_Int) := by
  refine fn_sound (cuts := cuts_tutorref21_Int) (fn := Try.f12) (Γ := T_tutorref21_Int) wide right_T_tutorref21_Int Try.func12 fun {R} K r args ob h => ?_
  unfold S_tutorref21_Int at h
  dsimp only at h
  split at h
  · exact ⟨Nat.le_of_ble_eq_true (by kernel_rfl), 0, (gentry_tutorref21_Int K _ _).trans h⟩
  · cases h

theorem call_tutorref21_Int : Callable Try.prog 12 := ⟨_, Try.func12, by kernel_rfl, by kernel_rfl⟩

def T_walk_source_draw : FuncId → Option Sum := G0

theorem right_T_walk_source_draw : Right Try.prog T_walk_source_draw := right_G0

abbrev cuts_walk_source_draw : Cuts := []

theorem gentry_walk_source_draw {R : Type} (K : AV → List O → Option R) (o0 : Int) :
    fnRun Try.prog T_walk_source_draw cuts_walk_source_draw Try.f34 0 [.ptr 0 0] [.box 80 [.v (.int .u64 o0)]] K =
    (fun (o0 : Int) (K0 : Int → Int → Option R) =>
    K0 ((IntKind.u64.wrap ((IntKind.u64.wrap (BitVec.ofInt 64 (IntKind.u64.wrap (BitVec.ofInt 64 (IntKind.u64.wrap (BitVec.ofInt 64 o0 ^^^ BitVec.ofInt 64 (o0.fdiv (2 ^ (min (12 : Int).toNat 64)))).toNat) ^^^ BitVec.ofInt 64 (IntKind.u64.wrap ((IntKind.u64.wrap (BitVec.ofInt 64 o0 ^^^ BitVec.ofInt 64 (o0.fdiv (2 ^ (min (12 : Int).toNat 64)))).toNat) * 2 ^ (min (25 : Int).toNat 64)))).toNat) ^^^ BitVec.ofInt 64 ((IntKind.u64.wrap (BitVec.ofInt 64 (IntKind.u64.wrap (BitVec.ofInt 64 o0 ^^^ BitVec.ofInt 64 (o0.fdiv (2 ^ (min (12 : Int).toNat 64)))).toNat) ^^^ BitVec.ofInt 64 (IntKind.u64.wrap ((IntKind.u64.wrap (BitVec.ofInt 64 o0 ^^^ BitVec.ofInt 64 (o0.fdiv (2 ^ (min (12 : Int).toNat 64)))).toNat) * 2 ^ (min (25 : Int).toNat 64)))).toNat).fdiv (2 ^ (min (27 : Int).toNat 64)))).toNat) * 2685821657736338717)).fdiv (2 ^ (min (33 : Int).toNat 64))) (IntKind.u64.wrap (BitVec.ofInt 64 (IntKind.u64.wrap (BitVec.ofInt 64 (IntKind.u64.wrap (BitVec.ofInt 64 o0 ^^^ BitVec.ofInt 64 (o0.fdiv (2 ^ (min (12 : Int).toNat 64)))).toNat) ^^^ BitVec.ofInt 64 (IntKind.u64.wrap ((IntKind.u64.wrap (BitVec.ofInt 64 o0 ^^^ BitVec.ofInt 64 (o0.fdiv (2 ^ (min (12 : Int).toNat 64)))).toNat) * 2 ^ (min (25 : Int).toNat 64)))).toNat) ^^^ BitVec.ofInt 64 ((IntKind.u64.wrap (BitVec.ofInt 64 (IntKind.u64.wrap (BitVec.ofInt 64 o0 ^^^ BitVec.ofInt 64 (o0.fdiv (2 ^ (min (12 : Int).toNat 64)))).toNat) ^^^ BitVec.ofInt 64 (IntKind.u64.wrap ((IntKind.u64.wrap (BitVec.ofInt 64 o0 ^^^ BitVec.ofInt 64 (o0.fdiv (2 ^ (min (12 : Int).toNat 64)))).toNat) * 2 ^ (min (25 : Int).toNat 64)))).toNat).fdiv (2 ^ (min (27 : Int).toNat 64)))).toNat)) o0 (fun r0 r1 => K (.v (.int .u64 r0)) [.box 80 [.v (.int .u64 r1)]]) := by kernel_rfl

def S_walk_source_draw (l_walk_source_draw : LT_walk_source_draw) : Sum := ⟨[], fun {R} args ob K => match args, ob with
  | [.ptr 0 0], [.box 80 [.v (.int .u64 o0)]] => l_walk_source_draw o0 (fun r0 r1 => K (.v (.int .u64 r0)) [.box 80 [.v (.int .u64 r1)]])
  | _, _ => none⟩

theorem sound_walk_source_draw : Sound Try.prog 34 (S_walk_source_draw @l_walk_source_draw) := by
  refine fn_sound (cuts := cuts_walk_source_draw) (fn := Try.f34) (Γ := T_walk_source_draw) wide right_T_walk_source_draw Try.func34 fun {R} K r args ob h => ?_
  unfold S_walk_source_draw at h
  dsimp only at h
  split at h
  · exact ⟨Nat.le_of_ble_eq_true (by kernel_rfl), 0, (gentry_walk_source_draw K _).trans h⟩
  · cases h

theorem call_walk_source_draw : Callable Try.prog 34 := ⟨_, Try.func34, by kernel_rfl, by kernel_rfl⟩

def T_walk_Walk_Int (l_walk_source_draw : LT_walk_source_draw) : FuncId → Option Sum := (addS G0 34 (S_walk_source_draw @l_walk_source_draw))

theorem right_T_walk_Walk_Int : Right Try.prog (T_walk_Walk_Int @l_walk_source_draw) := (right_add right_G0 call_walk_source_draw sound_walk_source_draw)

abbrev cuts_walk_Walk_Int : Cuts := []

theorem gentry_walk_Walk_Int (l_walk_source_draw : LT_walk_source_draw) {R : Type} (K : AV → List O → Option R) (n o0 : Int) :
    fnRun Try.prog (T_walk_Walk_Int @l_walk_source_draw) cuts_walk_Walk_Int Try.f13 0 [.ptr 0 0, .v (.int .i64 n)] [.box 80 [.v (.int .u64 o0)]] K =
    (fun (n o0 : Int) (K0 : Int → Int → Option R) =>
    bi (decide (n < 1))
     (K0 0 o0)
     (l_walk_source_draw o0
      (fun r1 r2 =>
       bi (decide ((IntKind.u64.wrap n) = 0))
        none
        (K0 (IntKind.i64.wrap (r1.tmod (IntKind.u64.wrap n))) r2)))) n o0 (fun r0 r1 => K (.v (.int .i64 r0)) [.box 80 [.v (.int .u64 r1)]]) := by kernel_rfl

def S_walk_Walk_Int (l_walk_Walk_Int : LT_walk_Walk_Int) : Sum := ⟨[], fun {R} args ob K => match args, ob with
  | [.ptr 0 0, .v (.int .i64 n)], [.box 80 [.v (.int .u64 o0)]] => l_walk_Walk_Int n o0 (fun r0 r1 => K (.v (.int .i64 r0)) [.box 80 [.v (.int .u64 r1)]])
  | _, _ => none⟩

theorem sound_walk_Walk_Int : Sound Try.prog 13 (S_walk_Walk_Int @l_walk_Walk_Int) := by
  refine fn_sound (cuts := cuts_walk_Walk_Int) (fn := Try.f13) (Γ := (T_walk_Walk_Int @l_walk_source_draw)) wide right_T_walk_Walk_Int Try.func13 fun {R} K r args ob h => ?_
  unfold S_walk_Walk_Int at h
  dsimp only at h
  split at h
  · exact ⟨Nat.le_of_ble_eq_true (by kernel_rfl), 0, (gentry_walk_Walk_Int @l_walk_source_draw K _ _).trans h⟩
  · cases h

theorem call_walk_Walk_Int : Callable Try.prog 13 := ⟨_, Try.func13, by kernel_rfl, by kernel_rfl⟩

def T_tutorlaw21_live (l_walk_Walk_Int : LT_walk_Walk_Int) (l_tutorref21_Int : LT_tutorref21_Int) (l_walk_New : LT_walk_New) : FuncId → Option Sum := (addS (addS (addS G0 13 (S_walk_Walk_Int @l_walk_Walk_Int)) 12 (S_tutorref21_Int @l_tutorref21_Int)) 10 (S_walk_New @l_walk_New))

theorem right_T_tutorlaw21_live : Right Try.prog (T_tutorlaw21_live @l_walk_Walk_Int @l_tutorref21_Int @l_walk_New) := (right_add (right_add (right_add right_G0 call_walk_Walk_Int sound_walk_Walk_Int) call_tutorref21_Int sound_tutorref21_Int) call_walk_New sound_walk_New)

abbrev cuts_tutorlaw21_live : Cuts := []

theorem gentry_tutorlaw21_live (l_walk_Walk_Int : LT_walk_Walk_Int) (l_tutorref21_Int : LT_tutorref21_Int) (l_walk_New : LT_walk_New) {R : Type} (K : AV → List O → Option R)  :
    fnRun Try.prog (T_tutorlaw21_live @l_walk_Walk_Int @l_tutorref21_Int @l_walk_New) cuts_tutorlaw21_live Try.f9 0 [] [] K =
    (fun  (K0 : Bool → Option R) =>
    l_walk_New 1
     (fun r1 =>
      l_tutorref21_Int 1 1000
       (fun r2 r3 =>
        l_tutorref21_Int r3 1000
         (fun r4 r5 =>
          l_walk_Walk_Int 1000 r1
           (fun r6 r7 =>
            bi (r6 == r2)
             (l_walk_Walk_Int 1000 r7
              (fun r8 r9 =>
               bi (r8 == r4)
                (K0 (r2 != r4))
                (K0 false)))
             (K0 false))))))  (fun r0 => K (.v (.bool r0)) []) := by kernel_rfl

def S_tutorlaw21_live (l_tutorlaw21_live : LT_tutorlaw21_live) : Sum := ⟨[], fun {R} args ob K => match args, ob with
  | [], [] => l_tutorlaw21_live  (fun r0 => K (.v (.bool r0)) [])
  | _, _ => none⟩

theorem sound_tutorlaw21_live : Sound Try.prog 9 (S_tutorlaw21_live @l_tutorlaw21_live) := by
  refine fn_sound (cuts := cuts_tutorlaw21_live) (fn := Try.f9) (Γ := (T_tutorlaw21_live @l_walk_Walk_Int @l_tutorref21_Int @l_walk_New)) wide right_T_tutorlaw21_live Try.func9 fun {R} K r args ob h => ?_
  unfold S_tutorlaw21_live at h
  dsimp only at h
  split at h
  · exact ⟨Nat.le_of_ble_eq_true (by kernel_rfl), 0, (gentry_tutorlaw21_live @l_walk_Walk_Int @l_tutorref21_Int @l_walk_New K).trans h⟩
  · cases h

theorem call_tutorlaw21_live : Callable Try.prog 9 := ⟨_, Try.func9, by kernel_rfl, by kernel_rfl⟩

def T_walk_fit : FuncId → Option Sum := G0

theorem right_T_walk_fit : Right Try.prog T_walk_fit := right_G0

abbrev cuts_walk_fit : Cuts := []

theorem gentry_walk_fit {R : Type} (K : AV → List O → Option R) (k low high : Int) :
    fnRun Try.prog T_walk_fit cuts_walk_fit Try.f35 0 [.v (.int .i64 k), .v (.int .i64 low), .v (.int .i64 high)] [] K =
    (fun (k low high : Int) (K0 : Int → Option R) =>
    bi (decide (k < 1))
     (K0 1)
     (bi (decide (k > 64))
      (K0 1)
      (bi (decide (low < 0))
       (K0 1)
       (bi (decide (high < low))
        (K0 1)
        (bi (decide (high > 4096))
         (K0 2)
         (K0 0)))))) k low high (fun r0 => K (.v (.int .i64 r0)) []) := by kernel_rfl

def S_walk_fit (l_walk_fit : LT_walk_fit) : Sum := ⟨[], fun {R} args ob K => match args, ob with
  | [.v (.int .i64 k), .v (.int .i64 low), .v (.int .i64 high)], [] => l_walk_fit k low high (fun r0 => K (.v (.int .i64 r0)) [])
  | _, _ => none⟩

theorem sound_walk_fit : Sound Try.prog 35 (S_walk_fit @l_walk_fit) := by
  refine fn_sound (cuts := cuts_walk_fit) (fn := Try.f35) (Γ := T_walk_fit) wide right_T_walk_fit Try.func35 fun {R} K r args ob h => ?_
  unfold S_walk_fit at h
  dsimp only at h
  split at h
  · exact ⟨Nat.le_of_ble_eq_true (by kernel_rfl), 0, (gentry_walk_fit K _ _ _).trans h⟩
  · cases h

theorem call_walk_fit : Callable Try.prog 35 := ⟨_, Try.func35, by kernel_rfl, by kernel_rfl⟩

def T_walk_asked (l_walk_fit : LT_walk_fit) : FuncId → Option Sum := (addS G0 35 (S_walk_fit @l_walk_fit))

theorem right_T_walk_asked : Right Try.prog (T_walk_asked @l_walk_fit) := (right_add right_G0 call_walk_fit sound_walk_fit)

abbrev cuts_walk_asked : Cuts := []

theorem gentry_walk_asked (l_walk_fit : LT_walk_fit) {R : Type} (K : AV → List O → Option R) (k count low high : Int) :
    fnRun Try.prog (T_walk_asked @l_walk_fit) cuts_walk_asked Try.f37 0 [.v (.int .i64 k), .v (.int .i64 count), .v (.int .i64 low), .v (.int .i64 high)] [] K =
    (fun (k count low high : Int) (K0 : Int → Option R) =>
    l_walk_fit k low high
     (fun r1 =>
      bi (r1 != 0)
       (K0 r1)
       (bi (decide (count < 0))
        (K0 1)
        (bi (decide (count > 65536))
         (K0 3)
         (K0 0))))) k count low high (fun r0 => K (.v (.int .i64 r0)) []) := by kernel_rfl

def S_walk_asked (l_walk_asked : LT_walk_asked) : Sum := ⟨[], fun {R} args ob K => match args, ob with
  | [.v (.int .i64 k), .v (.int .i64 count), .v (.int .i64 low), .v (.int .i64 high)], [] => l_walk_asked k count low high (fun r0 => K (.v (.int .i64 r0)) [])
  | _, _ => none⟩

theorem sound_walk_asked : Sound Try.prog 37 (S_walk_asked @l_walk_asked) := by
  refine fn_sound (cuts := cuts_walk_asked) (fn := Try.f37) (Γ := (T_walk_asked @l_walk_fit)) wide right_T_walk_asked Try.func37 fun {R} K r args ob h => ?_
  unfold S_walk_asked at h
  dsimp only at h
  split at h
  · exact ⟨Nat.le_of_ble_eq_true (by kernel_rfl), 0, (gentry_walk_asked @l_walk_fit K _ _ _ _).trans h⟩
  · cases h

theorem call_walk_asked : Callable Try.prog 37 := ⟨_, Try.func37, by kernel_rfl, by kernel_rfl⟩

def T_walk_drawn : FuncId → Option Sum := G0

theorem right_T_walk_drawn : Right Try.prog T_walk_drawn := right_G0

abbrev cuts_walk_drawn : Cuts := []

theorem gentry_walk_drawn {R : Type} (K : AV → List O → Option R) (seed k count low high : Int) :
    fnRun Try.prog T_walk_drawn cuts_walk_drawn Try.f39 0 [.v (.int .u64 seed), .v (.int .i64 k), .v (.int .i64 count), .v (.int .i64 low), .v (.int .i64 high)] [] K =
    (fun (seed k count low high : Int) (K0 : Int → Int → Int → Int → Int → Option R) =>
    K0 seed count k low high) seed k count low high (fun r0 r1 r2 r3 r4 => K (.clo 48 [.ptr 0 0, .ptr 1 0, .ptr 2 0, .ptr 3 0, .ptr 4 0]) [.box 22 [.v (.int .u64 r0)], .box 3 [.v (.int .i64 r1)], .box 3 [.v (.int .i64 r2)], .box 3 [.v (.int .i64 r3)], .box 3 [.v (.int .i64 r4)]]) := by kernel_rfl

def S_walk_drawn (l_walk_drawn : LT_walk_drawn) : Sum := ⟨[], fun {R} args ob K => match args, ob with
  | [.v (.int .u64 seed), .v (.int .i64 k), .v (.int .i64 count), .v (.int .i64 low), .v (.int .i64 high)], [] => l_walk_drawn seed k count low high (fun r0 r1 r2 r3 r4 => K (.clo 48 [.ptr 0 0, .ptr 1 0, .ptr 2 0, .ptr 3 0, .ptr 4 0]) [.box 22 [.v (.int .u64 r0)], .box 3 [.v (.int .i64 r1)], .box 3 [.v (.int .i64 r2)], .box 3 [.v (.int .i64 r3)], .box 3 [.v (.int .i64 r4)]])
  | _, _ => none⟩

theorem sound_walk_drawn : Sound Try.prog 39 (S_walk_drawn @l_walk_drawn) := by
  refine fn_sound (cuts := cuts_walk_drawn) (fn := Try.f39) (Γ := T_walk_drawn) wide right_T_walk_drawn Try.func39 fun {R} K r args ob h => ?_
  unfold S_walk_drawn at h
  dsimp only at h
  split at h
  · exact ⟨Nat.le_of_ble_eq_true (by kernel_rfl), 0, (gentry_walk_drawn K _ _ _ _ _).trans h⟩
  · cases h

theorem call_walk_drawn : Callable Try.prog 39 := ⟨_, Try.func39, by kernel_rfl, by kernel_rfl⟩

def T_walk_Walk_Word (l_walk_Walk_Int : LT_walk_Walk_Int) (l_walk_fit : LT_walk_fit) : FuncId → Option Sum := (addS (addS G0 13 (S_walk_Walk_Int @l_walk_Walk_Int)) 35 (S_walk_fit @l_walk_fit))

theorem right_T_walk_Walk_Word : Right Try.prog (T_walk_Walk_Word @l_walk_Walk_Int @l_walk_fit) := (right_add (right_add right_G0 call_walk_Walk_Int sound_walk_Walk_Int) call_walk_fit sound_walk_fit)

abbrev cuts_walk_Walk_Word : Cuts := [(8, [0, 1, 11, 32, 33])]

abbrev sta_walk_Walk_Word_8 (k x32 x33 o0 : Int) (o1 : List Int) : St := ⟨fr0 44 [(0, .ptr 0 0), (1, .v (.int .i64 k)), (11, .own 1), (32, .v (.int .i64 x32)), (33, .v (.int .i64 x33))], [.box 80 [.v (.int .u64 o0)], .row ⟨true, 3, (.int .i64), o1⟩]⟩

abbrev gt_walk_Walk_Word_8 {R : Type} (g : List Item → St → Option R) : GT_walk_Walk_Word_8 R := fun (k x32 x33 o0 : Int) (o1 : List Int) => g (at' Try.f14 8) (sta_walk_Walk_Word_8 k x32 x33 o0 o1)

theorem gstep_walk_Walk_Word_8 (l_walk_Walk_Int : LT_walk_Walk_Int) (l_walk_fit : LT_walk_fit) {R : Type} (g : List Item → St → Option R) (K : AV → List O → Option R) (k x32 x33 o0 : Int) (o1 : List Int) :
    runSeg Try.prog (T_walk_Walk_Word @l_walk_Walk_Int @l_walk_fit) cuts_walk_Walk_Word 1 g (finish Try.prog Try.f14 1 K) (at' Try.f14 8) (sta_walk_Walk_Word_8 k x32 x33 o0 o1) =
    (fun (g14_8 : GT_walk_Walk_Word_8 R) (K0 : Int → Int → (List Int) → Option R) (k x32 x33 o0 : Int) (o1 : List Int) =>
    bi (decide (x33 < x32))
     (l_walk_Walk_Int k o0
      (fun r4 r5 =>
       bi (decide (0 ≤ x33 ∧ x33 < ((o1.length : Nat) : Int)))
        (g14_8 k x32 (IntKind.i64.wrap (x33 + 1)) r5 (o1.set x33.toNat r4))
        none))
     (K0 0 o0 o1)) (gt_walk_Walk_Word_8 g) (fun r0 r1 r2 => K (.tup [.own 1, .v (.int .i64 r0)]) [.box 80 [.v (.int .u64 r1)], .row ⟨true, 3, (.int .i64), r2⟩]) k x32 x33 o0 o1 := by kernel_rfl

theorem gentry_walk_Walk_Word (l_walk_Walk_Int : LT_walk_Walk_Int) (l_walk_fit : LT_walk_fit) {R : Type} (fuel : Nat) (K : AV → List O → Option R) (k low high o0 : Int) :
    fnRun Try.prog (T_walk_Walk_Word @l_walk_Walk_Int @l_walk_fit) cuts_walk_Walk_Word Try.f14 fuel [.ptr 0 0, .v (.int .i64 k), .v (.int .i64 low), .v (.int .i64 high)] [.box 80 [.v (.int .u64 o0)]] K =
    (fun (g14_8 : GT_walk_Walk_Word_8 R) (K0 : Int → Int → (List Int) → Option R) (k low high o0 : Int) =>
    l_walk_fit k low high
     (fun r1 =>
      bi (r1 != 0)
       (K0 r1 o0 ([] : List Int))
       (l_walk_Walk_Int (IntKind.i64.wrap ((IntKind.i64.wrap (high - low)) + 1)) o0
        (fun r2 r3 =>
         bi (decide (0 ≤ (IntKind.i64.wrap (low + r2)) ∧ (IntKind.i64.wrap (low + r2)) ≤ (IntKind.i64.wrap (low + r2)) ∧ (IntKind.i64.wrap (low + r2)) ≤ 1073741824))
          (g14_8 k ((List.replicate (IntKind.i64.wrap (low + r2)).toNat (0 : Int)).length : Int) 0 r3 (List.replicate (IntKind.i64.wrap (low + r2)).toNat (0 : Int)))
          none)))) (gt_walk_Walk_Word_8 (runO Try.prog (T_walk_Walk_Word @l_walk_Walk_Int @l_walk_fit) cuts_walk_Walk_Word 1 (finish Try.prog Try.f14 1 K) fuel)) (fun r0 r1 r2 => K (.tup [.own 1, .v (.int .i64 r0)]) [.box 80 [.v (.int .u64 r1)], .row ⟨true, 3, (.int .i64), r2⟩]) k low high o0 := by kernel_rfl

theorem runs_walk_Walk_Word {R : Type} (K : AV → List O → Option R) : ∀ fuel : Nat,
    (gt_walk_Walk_Word_8 (runO Try.prog (T_walk_Walk_Word @l_walk_Walk_Int @l_walk_fit) cuts_walk_Walk_Word 1 (finish Try.prog Try.f14 1 K) fuel)) = (run_walk_Walk_Word (fun r0 r1 r2 => K (.tup [.own 1, .v (.int .i64 r0)]) [.box 80 [.v (.int .u64 r1)], .row ⟨true, 3, (.int .i64), r2⟩]) fuel)
  | 0 => rfl
  | fuel + 1 => by
    have ih := runs_walk_Walk_Word K fuel
    funext k x32 x33 o0 o1
    refine (gstep_walk_Walk_Word_8 @l_walk_Walk_Int @l_walk_fit _ K k x32 x33 o0 o1).trans ?_
    rw [ih]
    rfl

def S_walk_Walk_Word (l_walk_Walk_Word : LT_walk_Walk_Word) : Sum := ⟨[], fun {R} args ob K => match args, ob with
  | [.ptr 0 0, .v (.int .i64 k), .v (.int .i64 low), .v (.int .i64 high)], [.box 80 [.v (.int .u64 o0)]] => l_walk_Walk_Word k low high o0 (fun r0 r1 r2 => K (.tup [.own 1, .v (.int .i64 r0)]) [.box 80 [.v (.int .u64 r1)], .row ⟨true, 3, (.int .i64), r2⟩])
  | _, _ => none⟩

theorem sound_walk_Walk_Word : Sound Try.prog 14 (S_walk_Walk_Word @l_walk_Walk_Word) := by
  refine fn_sound (cuts := cuts_walk_Walk_Word) (fn := Try.f14) (Γ := (T_walk_Walk_Word @l_walk_Walk_Int @l_walk_fit)) wide right_T_walk_Walk_Word Try.func14 fun {R} K r args ob h => ?_
  unfold S_walk_Walk_Word at h
  dsimp only at h
  split at h
  · obtain ⟨n, hn⟩ := ok_walk_Walk_Word _ _ _ _ _ h
    refine ⟨Nat.le_of_ble_eq_true (by kernel_rfl), n, (gentry_walk_Walk_Word @l_walk_Walk_Int @l_walk_fit n K _ _ _ _).trans ?_⟩
    rw [(runs_walk_Walk_Word K n)]
    exact hn
  · cases h

theorem call_walk_Walk_Word : Callable Try.prog 14 := ⟨_, Try.func14, by kernel_rfl, by kernel_rfl⟩

def T_round_of_slices_AppendSeq_int_int : FuncId → Option Sum := G0

theorem right_T_round_of_slices_AppendSeq_int_int : Right Try.prog T_round_of_slices_AppendSeq_int_int := right_G0

theorem gentry_round_of_slices_AppendSeq_int_int {R : Type} (K : AV → List O → Option R) (o2 : List (List Int)) (o3 : List Int) :
    roundRun Try.prog T_round_of_slices_AppendSeq_int_int 47 [.yld 0, .own 3] [.loop 47 [.un, .un, .ptr 1 0, .un, .un, .un, .un, .un, .un, .un, .un, .un, .un] 0, .box 42 [.nst 2], .nst ⟨false, 33, (.sl 3 (.int .i64)), o2⟩, .row ⟨false, 3, (.int .i64), o3⟩] K =
    (fun (o2 : List (List Int)) (o3 : List Int) (K0 : (List (List Int)) → Option R) =>
    bi (decide ((o2.length + [o3].length) * 24 ≤ lim))
     (K0 (o2 ++ [o3]))
     none) o2 o3 (fun r0 => K (.v (.bool true)) [.loop 47 [.un, .un, .ptr 1 0, .un, .un, .un, .un, .un, .un, .un, .un, .un, .un] 0, .box 42 [.nst 4], .gone, .gone, .nst ⟨false, 33, (.sl 3 (.int .i64)), r0⟩]) := by kernel_rfl

def S_round_of_slices_AppendSeq_int_int (l_round_of_slices_AppendSeq_int_int : LT_round_of_slices_AppendSeq_int_int) : Sum := ⟨[1, 99], fun {R} args ob K => match args, ob with
  | [.yld 0, .own 3], [.loop 47 [.un, .un, .ptr 1 0, .un, .un, .un, .un, .un, .un, .un, .un, .un, .un] 0, .box 42 [.nst 2], .nst ⟨false, 33, (.sl 3 (.int .i64)), o2⟩, .row ⟨false, 3, (.int .i64), o3⟩] => l_round_of_slices_AppendSeq_int_int o2 o3 (fun r0 => K (.v (.bool true)) [.loop 47 [.un, .un, .ptr 1 0, .un, .un, .un, .un, .un, .un, .un, .un, .un, .un] 0, .box 42 [.nst 4], .gone, .gone, .nst ⟨false, 33, (.sl 3 (.int .i64)), r0⟩])
  | _, _ => none⟩

theorem sound_round_of_slices_AppendSeq_int_int : SoundY Try.prog (S_round_of_slices_AppendSeq_int_int @l_round_of_slices_AppendSeq_int_int) := by
  refine round_sound (key := 47) (Γ := T_round_of_slices_AppendSeq_int_int) wide right_T_round_of_slices_AppendSeq_int_int rfl fun {R} K r args ob h => ?_
  unfold S_round_of_slices_AppendSeq_int_int at h
  dsimp only at h
  split at h
  · exact (gentry_round_of_slices_AppendSeq_int_int K _ _).trans h
  · cases h

def T_walk_drawn_1 (l_walk_New : LT_walk_New) (l_round_of_slices_AppendSeq_int_int : LT_round_of_slices_AppendSeq_int_int) (l_walk_Walk_Word : LT_walk_Walk_Word) : FuncId → Option Sum := (addS (addS (addS G0 10 (S_walk_New @l_walk_New)) 47 (S_round_of_slices_AppendSeq_int_int @l_round_of_slices_AppendSeq_int_int)) 14 (S_walk_Walk_Word @l_walk_Walk_Word))

theorem right_T_walk_drawn_1 : Right Try.prog (T_walk_drawn_1 @l_walk_New @l_round_of_slices_AppendSeq_int_int @l_walk_Walk_Word) := (right_add (right_yld (right_add right_G0 call_walk_New sound_walk_New) sound_round_of_slices_AppendSeq_int_int) call_walk_Walk_Word sound_walk_Walk_Word)

abbrev cuts_walk_drawn_1_yslices_AppendSeq_int_int : Cuts := [(2, [0, 3, 4, 5, 7, 12, 13])]

abbrev sta_walk_drawn_1_yslices_AppendSeq_int_int_2a (x12 x13 : Int) (o2 : List (List Int)) (o3 o4 o5 o6 o7 o8 : Int) : St := ⟨fr0 28 [(0, .yld 0), (3, .ptr 5 0), (4, .ptr 6 0), (5, .ptr 7 0), (7, .ptr 8 0), (12, .v (.int .i64 x12)), (13, .v (.int .i64 x13))], [.loop 47 [.un, .un, .ptr 1 0, .un, .un, .un, .un, .un, .un, .un, .un, .un, .un] 0, .box 42 [.nst 2], .nst ⟨false, 33, (.sl 3 (.int .i64)), o2⟩, .box 22 [.v (.int .u64 o3)], .box 3 [.v (.int .i64 o4)], .box 3 [.v (.int .i64 o5)], .box 3 [.v (.int .i64 o6)], .box 3 [.v (.int .i64 o7)], .box 80 [.v (.int .u64 o8)]]⟩

abbrev gt_walk_drawn_1_yslices_AppendSeq_int_int_2a {R : Type} (g : List Item → St → Option R) : GT_walk_drawn_1_yslices_AppendSeq_int_int_2a R := fun (x12 x13 : Int) (o2 : List (List Int)) (o3 o4 o5 o6 o7 o8 : Int) => g (at' Try.f48 2) (sta_walk_drawn_1_yslices_AppendSeq_int_int_2a x12 x13 o2 o3 o4 o5 o6 o7 o8)

abbrev sta_walk_drawn_1_yslices_AppendSeq_int_int_2b (x12 x13 o3 o4 o5 o6 o7 : Int) (o8 : List (List Int)) (o9 : Int) : St := ⟨fr0 28 [(0, .yld 0), (3, .ptr 5 0), (4, .ptr 6 0), (5, .ptr 7 0), (7, .ptr 9 0), (12, .v (.int .i64 x12)), (13, .v (.int .i64 x13))], [.loop 47 [.un, .un, .ptr 1 0, .un, .un, .un, .un, .un, .un, .un, .un, .un, .un] 0, .box 42 [.nst 8], .gone, .box 22 [.v (.int .u64 o3)], .box 3 [.v (.int .i64 o4)], .box 3 [.v (.int .i64 o5)], .box 3 [.v (.int .i64 o6)], .box 3 [.v (.int .i64 o7)], .nst ⟨false, 33, (.sl 3 (.int .i64)), o8⟩, .box 80 [.v (.int .u64 o9)]]⟩

abbrev gt_walk_drawn_1_yslices_AppendSeq_int_int_2b {R : Type} (g : List Item → St → Option R) : GT_walk_drawn_1_yslices_AppendSeq_int_int_2b R := fun (x12 x13 o3 o4 o5 o6 o7 : Int) (o8 : List (List Int)) (o9 : Int) => g (at' Try.f48 2) (sta_walk_drawn_1_yslices_AppendSeq_int_int_2b x12 x13 o3 o4 o5 o6 o7 o8 o9)

theorem gstep_walk_drawn_1_yslices_AppendSeq_int_int_2a (l_walk_New : LT_walk_New) (l_round_of_slices_AppendSeq_int_int : LT_round_of_slices_AppendSeq_int_int) (l_walk_Walk_Word : LT_walk_Walk_Word) {R : Type} (g : List Item → St → Option R) (K : AV → List O → Option R) (x12 x13 : Int) (o2 : List (List Int)) (o3 o4 o5 o6 o7 o8 : Int) :
    runSeg Try.prog (T_walk_drawn_1 @l_walk_New @l_round_of_slices_AppendSeq_int_int @l_walk_Walk_Word) cuts_walk_drawn_1_yslices_AppendSeq_int_int 8 g (finish Try.prog Try.f48 8 K) (at' Try.f48 2) (sta_walk_drawn_1_yslices_AppendSeq_int_int_2a x12 x13 o2 o3 o4 o5 o6 o7 o8) =
    (fun (g48_2 : GT_walk_drawn_1_yslices_AppendSeq_int_int_2a R) (g48_2b : GT_walk_drawn_1_yslices_AppendSeq_int_int_2b R) (K0 : (List (List Int)) → Int → Int → Int → Int → Int → Option R) (K1 : Int → Int → Int → Int → Int → (List (List Int)) → Option R) (x12 x13 : Int) (o2 : List (List Int)) (o3 o4 o5 o6 o7 o8 : Int) =>
    bi (decide (x13 < x12))
     (l_walk_Walk_Word o5 o6 o7 o8
      (fun r2 r3 r4 =>
       l_round_of_slices_AppendSeq_int_int o2 r4
        (fun r5 =>
         g48_2b x12 (IntKind.i64.wrap (x13 + 1)) o3 o4 o5 o6 o7 r5 r3)))
     (K0 o2 o3 o4 o5 o6 o7)) (gt_walk_drawn_1_yslices_AppendSeq_int_int_2a g) (gt_walk_drawn_1_yslices_AppendSeq_int_int_2b g) (fun r0 r1 r2 r3 r4 r5 => K (.tup []) [.loop 47 [.un, .un, .ptr 1 0, .un, .un, .un, .un, .un, .un, .un, .un, .un, .un] 0, .box 42 [.nst 2], .nst ⟨false, 33, (.sl 3 (.int .i64)), r0⟩, .box 22 [.v (.int .u64 r1)], .box 3 [.v (.int .i64 r2)], .box 3 [.v (.int .i64 r3)], .box 3 [.v (.int .i64 r4)], .box 3 [.v (.int .i64 r5)]]) (fun r0 r1 r2 r3 r4 r5 => K (.tup []) [.loop 47 [.un, .un, .ptr 1 0, .un, .un, .un, .un, .un, .un, .un, .un, .un, .un] 0, .box 42 [.nst 8], .gone, .box 22 [.v (.int .u64 r0)], .box 3 [.v (.int .i64 r1)], .box 3 [.v (.int .i64 r2)], .box 3 [.v (.int .i64 r3)], .box 3 [.v (.int .i64 r4)], .nst ⟨false, 33, (.sl 3 (.int .i64)), r5⟩]) x12 x13 o2 o3 o4 o5 o6 o7 o8 := by kernel_rfl

theorem gstep_walk_drawn_1_yslices_AppendSeq_int_int_2b (l_walk_New : LT_walk_New) (l_round_of_slices_AppendSeq_int_int : LT_round_of_slices_AppendSeq_int_int) (l_walk_Walk_Word : LT_walk_Walk_Word) {R : Type} (g : List Item → St → Option R) (K : AV → List O → Option R) (x12 x13 o3 o4 o5 o6 o7 : Int) (o8 : List (List Int)) (o9 : Int) :
    runSeg Try.prog (T_walk_drawn_1 @l_walk_New @l_round_of_slices_AppendSeq_int_int @l_walk_Walk_Word) cuts_walk_drawn_1_yslices_AppendSeq_int_int 8 g (finish Try.prog Try.f48 8 K) (at' Try.f48 2) (sta_walk_drawn_1_yslices_AppendSeq_int_int_2b x12 x13 o3 o4 o5 o6 o7 o8 o9) =
    (fun (g48_2 : GT_walk_drawn_1_yslices_AppendSeq_int_int_2a R) (g48_2b : GT_walk_drawn_1_yslices_AppendSeq_int_int_2b R) (K0 : (List (List Int)) → Int → Int → Int → Int → Int → Option R) (K1 : Int → Int → Int → Int → Int → (List (List Int)) → Option R) (x12 x13 o3 o4 o5 o6 o7 : Int) (o8 : List (List Int)) (o9 : Int) =>
    bi (decide (x13 < x12))
     (l_walk_Walk_Word o5 o6 o7 o9
      (fun r6 r7 r8 =>
       l_round_of_slices_AppendSeq_int_int o8 r8
        (fun r9 =>
         g48_2b x12 (IntKind.i64.wrap (x13 + 1)) o3 o4 o5 o6 o7 r9 r7)))
     (K1 o3 o4 o5 o6 o7 o8)) (gt_walk_drawn_1_yslices_AppendSeq_int_int_2a g) (gt_walk_drawn_1_yslices_AppendSeq_int_int_2b g) (fun r0 r1 r2 r3 r4 r5 => K (.tup []) [.loop 47 [.un, .un, .ptr 1 0, .un, .un, .un, .un, .un, .un, .un, .un, .un, .un] 0, .box 42 [.nst 2], .nst ⟨false, 33, (.sl 3 (.int .i64)), r0⟩, .box 22 [.v (.int .u64 r1)], .box 3 [.v (.int .i64 r2)], .box 3 [.v (.int .i64 r3)], .box 3 [.v (.int .i64 r4)], .box 3 [.v (.int .i64 r5)]]) (fun r0 r1 r2 r3 r4 r5 => K (.tup []) [.loop 47 [.un, .un, .ptr 1 0, .un, .un, .un, .un, .un, .un, .un, .un, .un, .un] 0, .box 42 [.nst 8], .gone, .box 22 [.v (.int .u64 r0)], .box 3 [.v (.int .i64 r1)], .box 3 [.v (.int .i64 r2)], .box 3 [.v (.int .i64 r3)], .box 3 [.v (.int .i64 r4)], .nst ⟨false, 33, (.sl 3 (.int .i64)), r5⟩]) x12 x13 o3 o4 o5 o6 o7 o8 o9 := by kernel_rfl

theorem gentry_walk_drawn_1_yslices_AppendSeq_int_int (l_walk_New : LT_walk_New) (l_round_of_slices_AppendSeq_int_int : LT_round_of_slices_AppendSeq_int_int) (l_walk_Walk_Word : LT_walk_Walk_Word) {R : Type} (fuel : Nat) (K : AV → List O → Option R) (o2 : List (List Int)) (o3 o4 o5 o6 o7 : Int) :
    fnRun Try.prog (T_walk_drawn_1 @l_walk_New @l_round_of_slices_AppendSeq_int_int @l_walk_Walk_Word) cuts_walk_drawn_1_yslices_AppendSeq_int_int Try.f48 fuel [.yld 0, .ptr 3 0, .ptr 4 0, .ptr 5 0, .ptr 6 0, .ptr 7 0] [.loop 47 [.un, .un, .ptr 1 0, .un, .un, .un, .un, .un, .un, .un, .un, .un, .un] 0, .box 42 [.nst 2], .nst ⟨false, 33, (.sl 3 (.int .i64)), o2⟩, .box 22 [.v (.int .u64 o3)], .box 3 [.v (.int .i64 o4)], .box 3 [.v (.int .i64 o5)], .box 3 [.v (.int .i64 o6)], .box 3 [.v (.int .i64 o7)]] K =
    (fun (g48_2 : GT_walk_drawn_1_yslices_AppendSeq_int_int_2a R) (g48_2b : GT_walk_drawn_1_yslices_AppendSeq_int_int_2b R) (K0 : (List (List Int)) → Int → Int → Int → Int → Int → Option R) (K1 : Int → Int → Int → Int → Int → (List (List Int)) → Option R) (o2 : List (List Int)) (o3 o4 o5 o6 o7 : Int) =>
    l_walk_New o3
     (fun r1 =>
      g48_2 o4 0 o2 o3 o4 o5 o6 o7 r1)) (gt_walk_drawn_1_yslices_AppendSeq_int_int_2a (runO Try.prog (T_walk_drawn_1 @l_walk_New @l_round_of_slices_AppendSeq_int_int @l_walk_Walk_Word) cuts_walk_drawn_1_yslices_AppendSeq_int_int 8 (finish Try.prog Try.f48 8 K) fuel)) (gt_walk_drawn_1_yslices_AppendSeq_int_int_2b (runO Try.prog (T_walk_drawn_1 @l_walk_New @l_round_of_slices_AppendSeq_int_int @l_walk_Walk_Word) cuts_walk_drawn_1_yslices_AppendSeq_int_int 8 (finish Try.prog Try.f48 8 K) fuel)) (fun r0 r1 r2 r3 r4 r5 => K (.tup []) [.loop 47 [.un, .un, .ptr 1 0, .un, .un, .un, .un, .un, .un, .un, .un, .un, .un] 0, .box 42 [.nst 2], .nst ⟨false, 33, (.sl 3 (.int .i64)), r0⟩, .box 22 [.v (.int .u64 r1)], .box 3 [.v (.int .i64 r2)], .box 3 [.v (.int .i64 r3)], .box 3 [.v (.int .i64 r4)], .box 3 [.v (.int .i64 r5)]]) (fun r0 r1 r2 r3 r4 r5 => K (.tup []) [.loop 47 [.un, .un, .ptr 1 0, .un, .un, .un, .un, .un, .un, .un, .un, .un, .un] 0, .box 42 [.nst 8], .gone, .box 22 [.v (.int .u64 r0)], .box 3 [.v (.int .i64 r1)], .box 3 [.v (.int .i64 r2)], .box 3 [.v (.int .i64 r3)], .box 3 [.v (.int .i64 r4)], .nst ⟨false, 33, (.sl 3 (.int .i64)), r5⟩]) o2 o3 o4 o5 o6 o7 := by kernel_rfl

theorem runs_walk_drawn_1_yslices_AppendSeq_int_int {R : Type} (K : AV → List O → Option R) : ∀ fuel : Nat,
    (gt_walk_drawn_1_yslices_AppendSeq_int_int_2a (runO Try.prog (T_walk_drawn_1 @l_walk_New @l_round_of_slices_AppendSeq_int_int @l_walk_Walk_Word) cuts_walk_drawn_1_yslices_AppendSeq_int_int 8 (finish Try.prog Try.f48 8 K) fuel)) = (run_walk_drawn_1_yslices_AppendSeq_int_int (fun r0 r1 r2 r3 r4 r5 => K (.tup []) [.loop 47 [.un, .un, .ptr 1 0, .un, .un, .un, .un, .un, .un, .un, .un, .un, .un] 0, .box 42 [.nst 2], .nst ⟨false, 33, (.sl 3 (.int .i64)), r0⟩, .box 22 [.v (.int .u64 r1)], .box 3 [.v (.int .i64 r2)], .box 3 [.v (.int .i64 r3)], .box 3 [.v (.int .i64 r4)], .box 3 [.v (.int .i64 r5)]]) (fun r0 r1 r2 r3 r4 r5 => K (.tup []) [.loop 47 [.un, .un, .ptr 1 0, .un, .un, .un, .un, .un, .un, .un, .un, .un, .un] 0, .box 42 [.nst 8], .gone, .box 22 [.v (.int .u64 r0)], .box 3 [.v (.int .i64 r1)], .box 3 [.v (.int .i64 r2)], .box 3 [.v (.int .i64 r3)], .box 3 [.v (.int .i64 r4)], .nst ⟨false, 33, (.sl 3 (.int .i64)), r5⟩]) fuel).1 ∧
    (gt_walk_drawn_1_yslices_AppendSeq_int_int_2b (runO Try.prog (T_walk_drawn_1 @l_walk_New @l_round_of_slices_AppendSeq_int_int @l_walk_Walk_Word) cuts_walk_drawn_1_yslices_AppendSeq_int_int 8 (finish Try.prog Try.f48 8 K) fuel)) = (run_walk_drawn_1_yslices_AppendSeq_int_int (fun r0 r1 r2 r3 r4 r5 => K (.tup []) [.loop 47 [.un, .un, .ptr 1 0, .un, .un, .un, .un, .un, .un, .un, .un, .un, .un] 0, .box 42 [.nst 2], .nst ⟨false, 33, (.sl 3 (.int .i64)), r0⟩, .box 22 [.v (.int .u64 r1)], .box 3 [.v (.int .i64 r2)], .box 3 [.v (.int .i64 r3)], .box 3 [.v (.int .i64 r4)], .box 3 [.v (.int .i64 r5)]]) (fun r0 r1 r2 r3 r4 r5 => K (.tup []) [.loop 47 [.un, .un, .ptr 1 0, .un, .un, .un, .un, .un, .un, .un, .un, .un, .un] 0, .box 42 [.nst 8], .gone, .box 22 [.v (.int .u64 r0)], .box 3 [.v (.int .i64 r1)], .box 3 [.v (.int .i64 r2)], .box 3 [.v (.int .i64 r3)], .box 3 [.v (.int .i64 r4)], .nst ⟨false, 33, (.sl 3 (.int .i64)), r5⟩]) fuel).2
  | 0 => ⟨rfl, rfl⟩
  | fuel + 1 => by
    have ih := runs_walk_drawn_1_yslices_AppendSeq_int_int K fuel
    refine ⟨?_, ?_⟩
    · funext x12 x13 o2 o3 o4 o5 o6 o7 o8
      refine (gstep_walk_drawn_1_yslices_AppendSeq_int_int_2a @l_walk_New @l_round_of_slices_AppendSeq_int_int @l_walk_Walk_Word _ K x12 x13 o2 o3 o4 o5 o6 o7 o8).trans ?_
      rw [ih.1, ih.2]
      rfl
    · funext x12 x13 o3 o4 o5 o6 o7 o8 o9
      refine (gstep_walk_drawn_1_yslices_AppendSeq_int_int_2b @l_walk_New @l_round_of_slices_AppendSeq_int_int @l_walk_Walk_Word _ K x12 x13 o3 o4 o5 o6 o7 o8 o9).trans ?_
      rw [ih.1, ih.2]
      rfl

def S_walk_drawn_1 (l_walk_drawn_1_yslices_AppendSeq_int_int : LT_walk_drawn_1_yslices_AppendSeq_int_int) : Sum := ⟨[], fun {R} args ob K => match args, ob with
  | [.yld 0, .ptr 3 0, .ptr 4 0, .ptr 5 0, .ptr 6 0, .ptr 7 0], [.loop 47 [.un, .un, .ptr 1 0, .un, .un, .un, .un, .un, .un, .un, .un, .un, .un] 0, .box 42 [.nst 2], .nst ⟨false, 33, (.sl 3 (.int .i64)), o2⟩, .box 22 [.v (.int .u64 o3)], .box 3 [.v (.int .i64 o4)], .box 3 [.v (.int .i64 o5)], .box 3 [.v (.int .i64 o6)], .box 3 [.v (.int .i64 o7)]] => l_walk_drawn_1_yslices_AppendSeq_int_int o2 o3 o4 o5 o6 o7 (fun r0 r1 r2 r3 r4 r5 => K (.tup []) [.loop 47 [.un, .un, .ptr 1 0, .un, .un, .un, .un, .un, .un, .un, .un, .un, .un] 0, .box 42 [.nst 2], .nst ⟨false, 33, (.sl 3 (.int .i64)), r0⟩, .box 22 [.v (.int .u64 r1)], .box 3 [.v (.int .i64 r2)], .box 3 [.v (.int .i64 r3)], .box 3 [.v (.int .i64 r4)], .box 3 [.v (.int .i64 r5)]]) (fun r0 r1 r2 r3 r4 r5 => K (.tup []) [.loop 47 [.un, .un, .ptr 1 0, .un, .un, .un, .un, .un, .un, .un, .un, .un, .un] 0, .box 42 [.nst 8], .gone, .box 22 [.v (.int .u64 r0)], .box 3 [.v (.int .i64 r1)], .box 3 [.v (.int .i64 r2)], .box 3 [.v (.int .i64 r3)], .box 3 [.v (.int .i64 r4)], .nst ⟨false, 33, (.sl 3 (.int .i64)), r5⟩])
  | _, _ => none⟩

theorem sound_walk_drawn_1 : Sound Try.prog 48 (S_walk_drawn_1 @l_walk_drawn_1_yslices_AppendSeq_int_int) := by
  refine fn_sound (cuts := cuts_walk_drawn_1_yslices_AppendSeq_int_int) (fn := Try.f48) (Γ := (T_walk_drawn_1 @l_walk_New @l_round_of_slices_AppendSeq_int_int @l_walk_Walk_Word)) wide right_T_walk_drawn_1 Try.func48 fun {R} K r args ob h => ?_
  unfold S_walk_drawn_1 at h
  dsimp only at h
  split at h
  · obtain ⟨n, hn⟩ := ok_walk_drawn_1_yslices_AppendSeq_int_int _ _ _ _ _ _ _ _ h
    refine ⟨Nat.le_of_ble_eq_true (by kernel_rfl), n, (gentry_walk_drawn_1_yslices_AppendSeq_int_int @l_walk_New @l_round_of_slices_AppendSeq_int_int @l_walk_Walk_Word n K _ _ _ _ _ _).trans ?_⟩
    rw [(runs_walk_drawn_1_yslices_AppendSeq_int_int K n).1, (runs_walk_drawn_1_yslices_AppendSeq_int_int K n).2]
    exact hn
  · cases h

theorem call_walk_drawn_1 : Callable Try.prog 48 := ⟨_, Try.func48, by kernel_rfl, by kernel_rfl⟩

def T_slices_AppendSeq_int_int (l_walk_drawn_1_yslices_AppendSeq_int_int : LT_walk_drawn_1_yslices_AppendSeq_int_int) : FuncId → Option Sum := (addS G0 48 (S_walk_drawn_1 @l_walk_drawn_1_yslices_AppendSeq_int_int))

theorem right_T_slices_AppendSeq_int_int : Right Try.prog (T_slices_AppendSeq_int_int @l_walk_drawn_1_yslices_AppendSeq_int_int) := (right_add right_G0 call_walk_drawn_1 sound_walk_drawn_1)

abbrev cuts_slices_AppendSeq_int_int_fwalk_drawn_1 : Cuts := [(1000047, [2])]

theorem gentry_slices_AppendSeq_int_int_fwalk_drawn_1 (l_walk_drawn_1_yslices_AppendSeq_int_int : LT_walk_drawn_1_yslices_AppendSeq_int_int) {R : Type} (K : AV → List O → Option R) (o0 o1 o2 o3 o4 : Int) :
    fnRun Try.prog (T_slices_AppendSeq_int_int @l_walk_drawn_1_yslices_AppendSeq_int_int) cuts_slices_AppendSeq_int_int_fwalk_drawn_1 Try.f47 0 [.v (.slice none 0 0), .clo 48 [.ptr 0 0, .ptr 1 0, .ptr 2 0, .ptr 3 0, .ptr 4 0]] [.box 22 [.v (.int .u64 o0)], .box 3 [.v (.int .i64 o1)], .box 3 [.v (.int .i64 o2)], .box 3 [.v (.int .i64 o3)], .box 3 [.v (.int .i64 o4)]] K =
    (fun (o0 o1 o2 o3 o4 : Int) (K0 : Int → Int → Int → Int → Int → (List (List Int)) → Option R) (K1 : Int → Int → Int → Int → Int → (List (List Int)) → Option R) =>
    l_walk_drawn_1_yslices_AppendSeq_int_int ([] : List (List Int)) o0 o1 o2 o3 o4
     (fun r1 r2 r3 r4 r5 r6 =>
      K0 r2 r3 r4 r5 r6 r1)
     (fun r7 r8 r9 r10 r11 r12 =>
      K1 r7 r8 r9 r10 r11 r12)) o0 o1 o2 o3 o4 (fun r0 r1 r2 r3 r4 r5 => K (.nst 5) [.box 22 [.v (.int .u64 r0)], .box 3 [.v (.int .i64 r1)], .box 3 [.v (.int .i64 r2)], .box 3 [.v (.int .i64 r3)], .box 3 [.v (.int .i64 r4)], .nst ⟨true, 33, (.sl 3 (.int .i64)), r5⟩]) (fun r0 r1 r2 r3 r4 r5 => K (.nst 5) [.box 22 [.v (.int .u64 r0)], .box 3 [.v (.int .i64 r1)], .box 3 [.v (.int .i64 r2)], .box 3 [.v (.int .i64 r3)], .box 3 [.v (.int .i64 r4)], .nst ⟨false, 33, (.sl 3 (.int .i64)), r5⟩]) := by kernel_rfl

def S_slices_AppendSeq_int_int (l_slices_AppendSeq_int_int_fwalk_drawn_1 : LT_slices_AppendSeq_int_int_fwalk_drawn_1) : Sum := ⟨[0], fun {R} args ob K => match args, ob with
  | [.v (.slice none 0 0), .clo 48 [.ptr 0 0, .ptr 1 0, .ptr 2 0, .ptr 3 0, .ptr 4 0]], [.box 22 [.v (.int .u64 o0)], .box 3 [.v (.int .i64 o1)], .box 3 [.v (.int .i64 o2)], .box 3 [.v (.int .i64 o3)], .box 3 [.v (.int .i64 o4)]] => l_slices_AppendSeq_int_int_fwalk_drawn_1 o0 o1 o2 o3 o4 (fun r0 r1 r2 r3 r4 r5 => K (.nst 5) [.box 22 [.v (.int .u64 r0)], .box 3 [.v (.int .i64 r1)], .box 3 [.v (.int .i64 r2)], .box 3 [.v (.int .i64 r3)], .box 3 [.v (.int .i64 r4)], .nst ⟨true, 33, (.sl 3 (.int .i64)), r5⟩]) (fun r0 r1 r2 r3 r4 r5 => K (.nst 5) [.box 22 [.v (.int .u64 r0)], .box 3 [.v (.int .i64 r1)], .box 3 [.v (.int .i64 r2)], .box 3 [.v (.int .i64 r3)], .box 3 [.v (.int .i64 r4)], .nst ⟨false, 33, (.sl 3 (.int .i64)), r5⟩])
  | _, _ => none⟩

theorem sound_slices_AppendSeq_int_int : Sound Try.prog 47 (S_slices_AppendSeq_int_int @l_slices_AppendSeq_int_int_fwalk_drawn_1) := by
  refine fn_sound (cuts := cuts_slices_AppendSeq_int_int_fwalk_drawn_1) (fn := Try.f47) (Γ := (T_slices_AppendSeq_int_int @l_walk_drawn_1_yslices_AppendSeq_int_int)) wide right_T_slices_AppendSeq_int_int Try.func47 fun {R} K r args ob h => ?_
  unfold S_slices_AppendSeq_int_int at h
  dsimp only at h
  split at h
  · exact ⟨Nat.le_of_ble_eq_true (by kernel_rfl), 0, (gentry_slices_AppendSeq_int_int_fwalk_drawn_1 @l_walk_drawn_1_yslices_AppendSeq_int_int K _ _ _ _ _).trans h⟩
  · cases h

theorem call_slices_AppendSeq_int_int : Callable Try.prog 47 := ⟨_, Try.func47, by kernel_rfl, by kernel_rfl⟩

def T_slices_Collect_int (l_slices_AppendSeq_int_int_fwalk_drawn_1 : LT_slices_AppendSeq_int_int_fwalk_drawn_1) : FuncId → Option Sum := (addS G0 47 (S_slices_AppendSeq_int_int @l_slices_AppendSeq_int_int_fwalk_drawn_1))

theorem right_T_slices_Collect_int : Right Try.prog (T_slices_Collect_int @l_slices_AppendSeq_int_int_fwalk_drawn_1) := (right_add right_G0 call_slices_AppendSeq_int_int sound_slices_AppendSeq_int_int)

abbrev cuts_slices_Collect_int_fwalk_drawn_1 : Cuts := []

theorem gentry_slices_Collect_int_fwalk_drawn_1 (l_slices_AppendSeq_int_int_fwalk_drawn_1 : LT_slices_AppendSeq_int_int_fwalk_drawn_1) {R : Type} (K : AV → List O → Option R) (o0 o1 o2 o3 o4 : Int) :
    fnRun Try.prog (T_slices_Collect_int @l_slices_AppendSeq_int_int_fwalk_drawn_1) cuts_slices_Collect_int_fwalk_drawn_1 Try.f38 0 [.clo 48 [.ptr 0 0, .ptr 1 0, .ptr 2 0, .ptr 3 0, .ptr 4 0]] [.box 22 [.v (.int .u64 o0)], .box 3 [.v (.int .i64 o1)], .box 3 [.v (.int .i64 o2)], .box 3 [.v (.int .i64 o3)], .box 3 [.v (.int .i64 o4)]] K =
    (fun (o0 o1 o2 o3 o4 : Int) (K0 : Int → Int → Int → Int → Int → (List (List Int)) → Option R) (K1 : Int → Int → Int → Int → Int → (List (List Int)) → Option R) =>
    l_slices_AppendSeq_int_int_fwalk_drawn_1 o0 o1 o2 o3 o4
     (fun r1 r2 r3 r4 r5 r6 =>
      K0 r1 r2 r3 r4 r5 r6)
     (fun r7 r8 r9 r10 r11 r12 =>
      K1 r7 r8 r9 r10 r11 r12)) o0 o1 o2 o3 o4 (fun r0 r1 r2 r3 r4 r5 => K (.nst 5) [.box 22 [.v (.int .u64 r0)], .box 3 [.v (.int .i64 r1)], .box 3 [.v (.int .i64 r2)], .box 3 [.v (.int .i64 r3)], .box 3 [.v (.int .i64 r4)], .nst ⟨true, 33, (.sl 3 (.int .i64)), r5⟩]) (fun r0 r1 r2 r3 r4 r5 => K (.nst 5) [.box 22 [.v (.int .u64 r0)], .box 3 [.v (.int .i64 r1)], .box 3 [.v (.int .i64 r2)], .box 3 [.v (.int .i64 r3)], .box 3 [.v (.int .i64 r4)], .nst ⟨false, 33, (.sl 3 (.int .i64)), r5⟩]) := by kernel_rfl

def S_slices_Collect_int (l_slices_Collect_int_fwalk_drawn_1 : LT_slices_Collect_int_fwalk_drawn_1) : Sum := ⟨[], fun {R} args ob K => match args, ob with
  | [.clo 48 [.ptr 0 0, .ptr 1 0, .ptr 2 0, .ptr 3 0, .ptr 4 0]], [.box 22 [.v (.int .u64 o0)], .box 3 [.v (.int .i64 o1)], .box 3 [.v (.int .i64 o2)], .box 3 [.v (.int .i64 o3)], .box 3 [.v (.int .i64 o4)]] => l_slices_Collect_int_fwalk_drawn_1 o0 o1 o2 o3 o4 (fun r0 r1 r2 r3 r4 r5 => K (.nst 5) [.box 22 [.v (.int .u64 r0)], .box 3 [.v (.int .i64 r1)], .box 3 [.v (.int .i64 r2)], .box 3 [.v (.int .i64 r3)], .box 3 [.v (.int .i64 r4)], .nst ⟨true, 33, (.sl 3 (.int .i64)), r5⟩]) (fun r0 r1 r2 r3 r4 r5 => K (.nst 5) [.box 22 [.v (.int .u64 r0)], .box 3 [.v (.int .i64 r1)], .box 3 [.v (.int .i64 r2)], .box 3 [.v (.int .i64 r3)], .box 3 [.v (.int .i64 r4)], .nst ⟨false, 33, (.sl 3 (.int .i64)), r5⟩])
  | _, _ => none⟩

theorem sound_slices_Collect_int : Sound Try.prog 38 (S_slices_Collect_int @l_slices_Collect_int_fwalk_drawn_1) := by
  refine fn_sound (cuts := cuts_slices_Collect_int_fwalk_drawn_1) (fn := Try.f38) (Γ := (T_slices_Collect_int @l_slices_AppendSeq_int_int_fwalk_drawn_1)) wide right_T_slices_Collect_int Try.func38 fun {R} K r args ob h => ?_
  unfold S_slices_Collect_int at h
  dsimp only at h
  split at h
  · exact ⟨Nat.le_of_ble_eq_true (by kernel_rfl), 0, (gentry_slices_Collect_int_fwalk_drawn_1 @l_slices_AppendSeq_int_int_fwalk_drawn_1 K _ _ _ _ _).trans h⟩
  · cases h

theorem call_slices_Collect_int : Callable Try.prog 38 := ⟨_, Try.func38, by kernel_rfl, by kernel_rfl⟩

def T_walk_Words (l_slices_Collect_int_fwalk_drawn_1 : LT_slices_Collect_int_fwalk_drawn_1) (l_walk_drawn : LT_walk_drawn) (l_walk_asked : LT_walk_asked) : FuncId → Option Sum := (addS (addS (addS G0 38 (S_slices_Collect_int @l_slices_Collect_int_fwalk_drawn_1)) 39 (S_walk_drawn @l_walk_drawn)) 37 (S_walk_asked @l_walk_asked))

theorem right_T_walk_Words : Right Try.prog (T_walk_Words @l_slices_Collect_int_fwalk_drawn_1 @l_walk_drawn @l_walk_asked) := (right_add (right_add (right_add right_G0 call_slices_Collect_int sound_slices_Collect_int) call_walk_drawn sound_walk_drawn) call_walk_asked sound_walk_asked)

abbrev cuts_walk_Words : Cuts := []

theorem gentry_walk_Words (l_slices_Collect_int_fwalk_drawn_1 : LT_slices_Collect_int_fwalk_drawn_1) (l_walk_drawn : LT_walk_drawn) (l_walk_asked : LT_walk_asked) {R : Type} (K : AV → List O → Option R) (seed k count low high : Int) :
    fnRun Try.prog (T_walk_Words @l_slices_Collect_int_fwalk_drawn_1 @l_walk_drawn @l_walk_asked) cuts_walk_Words Try.f18 0 [.v (.int .u64 seed), .v (.int .i64 k), .v (.int .i64 count), .v (.int .i64 low), .v (.int .i64 high)] [] K =
    (fun (seed k count low high : Int) (K0 : Int → (List (List Int)) → Option R) (K1 : Int → (List (List Int)) → Option R) =>
    l_walk_asked k count low high
     (fun r1 =>
      bi (r1 != 0)
       (K0 r1 ([] : List (List Int)))
       (l_walk_drawn seed k count low high
        (fun r2 r3 r4 r5 r6 =>
         l_slices_Collect_int_fwalk_drawn_1 r2 r3 r4 r5 r6
          (fun r7 r8 r9 r10 r11 r12 =>
           K0 0 r12)
          (fun r13 r14 r15 r16 r17 r18 =>
           K1 0 r18))))) seed k count low high (fun r0 r1 => K (.tup [.nst 0, .v (.int .i64 r0)]) [.nst ⟨true, 33, (.sl 3 (.int .i64)), r1⟩]) (fun r0 r1 => K (.tup [.nst 0, .v (.int .i64 r0)]) [.nst ⟨false, 33, (.sl 3 (.int .i64)), r1⟩]) := by kernel_rfl

def S_walk_Words (l_walk_Words : LT_walk_Words) : Sum := ⟨[], fun {R} args ob K => match args, ob with
  | [.v (.int .u64 seed), .v (.int .i64 k), .v (.int .i64 count), .v (.int .i64 low), .v (.int .i64 high)], [] => l_walk_Words seed k count low high (fun r0 r1 => K (.tup [.nst 0, .v (.int .i64 r0)]) [.nst ⟨true, 33, (.sl 3 (.int .i64)), r1⟩]) (fun r0 r1 => K (.tup [.nst 0, .v (.int .i64 r0)]) [.nst ⟨false, 33, (.sl 3 (.int .i64)), r1⟩])
  | _, _ => none⟩

theorem sound_walk_Words : Sound Try.prog 18 (S_walk_Words @l_walk_Words) := by
  refine fn_sound (cuts := cuts_walk_Words) (fn := Try.f18) (Γ := (T_walk_Words @l_slices_Collect_int_fwalk_drawn_1 @l_walk_drawn @l_walk_asked)) wide right_T_walk_Words Try.func18 fun {R} K r args ob h => ?_
  unfold S_walk_Words at h
  dsimp only at h
  split at h
  · exact ⟨Nat.le_of_ble_eq_true (by kernel_rfl), 0, (gentry_walk_Words @l_slices_Collect_int_fwalk_drawn_1 @l_walk_drawn @l_walk_asked K _ _ _ _ _).trans h⟩
  · cases h

theorem call_walk_Words : Callable Try.prog 18 := ⟨_, Try.func18, by kernel_rfl, by kernel_rfl⟩

def T_tutorref21_fit : FuncId → Option Sum := G0

theorem right_T_tutorref21_fit : Right Try.prog T_tutorref21_fit := right_G0

abbrev cuts_tutorref21_fit : Cuts := []

theorem gentry_tutorref21_fit {R : Type} (K : AV → List O → Option R) (k low high : Int) :
    fnRun Try.prog T_tutorref21_fit cuts_tutorref21_fit Try.f36 0 [.v (.int .i64 k), .v (.int .i64 low), .v (.int .i64 high)] [] K =
    (fun (k low high : Int) (K0 : Int → Option R) =>
    bi (decide (k < 1))
     (K0 1)
     (bi (decide (k > 64))
      (K0 1)
      (bi (decide (low < 0))
       (K0 1)
       (bi (decide (high < low))
        (K0 1)
        (bi (decide (high > 4096))
         (K0 2)
         (K0 0)))))) k low high (fun r0 => K (.v (.int .i64 r0)) []) := by kernel_rfl

def S_tutorref21_fit (l_tutorref21_fit : LT_tutorref21_fit) : Sum := ⟨[], fun {R} args ob K => match args, ob with
  | [.v (.int .i64 k), .v (.int .i64 low), .v (.int .i64 high)], [] => l_tutorref21_fit k low high (fun r0 => K (.v (.int .i64 r0)) [])
  | _, _ => none⟩

theorem sound_tutorref21_fit : Sound Try.prog 36 (S_tutorref21_fit @l_tutorref21_fit) := by
  refine fn_sound (cuts := cuts_tutorref21_fit) (fn := Try.f36) (Γ := T_tutorref21_fit) wide right_T_tutorref21_fit Try.func36 fun {R} K r args ob h => ?_
  unfold S_tutorref21_fit at h
  dsimp only at h
  split at h
  · exact ⟨Nat.le_of_ble_eq_true (by kernel_rfl), 0, (gentry_tutorref21_fit K _ _ _).trans h⟩
  · cases h

theorem call_tutorref21_fit : Callable Try.prog 36 := ⟨_, Try.func36, by kernel_rfl, by kernel_rfl⟩

def T_tutorref21_Start : FuncId → Option Sum := G0

theorem right_T_tutorref21_Start : Right Try.prog T_tutorref21_Start := right_G0

abbrev cuts_tutorref21_Start : Cuts := []

theorem gentry_tutorref21_Start {R : Type} (K : AV → List O → Option R) (seed : Int) :
    fnRun Try.prog T_tutorref21_Start cuts_tutorref21_Start Try.f11 0 [.v (.int .u64 seed)] [] K =
    (fun (seed : Int) (K0 : Int → Option R) =>
    bi (seed == 0)
     (K0 88172645463325252)
     (K0 seed)) seed (fun r0 => K (.v (.int .u64 r0)) []) := by kernel_rfl

def S_tutorref21_Start (l_tutorref21_Start : LT_tutorref21_Start) : Sum := ⟨[], fun {R} args ob K => match args, ob with
  | [.v (.int .u64 seed)], [] => l_tutorref21_Start seed (fun r0 => K (.v (.int .u64 r0)) [])
  | _, _ => none⟩

theorem sound_tutorref21_Start : Sound Try.prog 11 (S_tutorref21_Start @l_tutorref21_Start) := by
  refine fn_sound (cuts := cuts_tutorref21_Start) (fn := Try.f11) (Γ := T_tutorref21_Start) wide right_T_tutorref21_Start Try.func11 fun {R} K r args ob h => ?_
  unfold S_tutorref21_Start at h
  dsimp only at h
  split at h
  · exact ⟨Nat.le_of_ble_eq_true (by kernel_rfl), 0, (gentry_tutorref21_Start K _).trans h⟩
  · cases h

theorem call_tutorref21_Start : Callable Try.prog 11 := ⟨_, Try.func11, by kernel_rfl, by kernel_rfl⟩

def T_tutorref21_Word (l_tutorref21_Int : LT_tutorref21_Int) (l_tutorref21_fit : LT_tutorref21_fit) : FuncId → Option Sum := (addS (addS G0 12 (S_tutorref21_Int @l_tutorref21_Int)) 36 (S_tutorref21_fit @l_tutorref21_fit))

theorem right_T_tutorref21_Word : Right Try.prog (T_tutorref21_Word @l_tutorref21_Int @l_tutorref21_fit) := (right_add (right_add right_G0 call_tutorref21_Int sound_tutorref21_Int) call_tutorref21_fit sound_tutorref21_fit)

abbrev cuts_tutorref21_Word : Cuts := [(7, [0, 1, 2, 12, 13, 14])]

abbrev sta_tutorref21_Word_7 (x k low n i : Int) (o0 : List Int) : St := ⟨fr0 54 [(0, .v (.int .u64 x)), (1, .v (.int .i64 k)), (2, .v (.int .i64 low)), (12, .v (.int .i64 n)), (13, .own 0), (14, .v (.int .i64 i))], [.row ⟨true, 3, (.int .i64), o0⟩]⟩

abbrev gt_tutorref21_Word_7 {R : Type} (g : List Item → St → Option R) : GT_tutorref21_Word_7 R := fun (x k low n i : Int) (o0 : List Int) => g (at' Try.f15 7) (sta_tutorref21_Word_7 x k low n i o0)

theorem gstep_tutorref21_Word_7 (l_tutorref21_Int : LT_tutorref21_Int) (l_tutorref21_fit : LT_tutorref21_fit) {R : Type} (g : List Item → St → Option R) (K : AV → List O → Option R) (x k low n i : Int) (o0 : List Int) :
    runSeg Try.prog (T_tutorref21_Word @l_tutorref21_Int @l_tutorref21_fit) cuts_tutorref21_Word 0 g (finish Try.prog Try.f15 0 K) (at' Try.f15 7) (sta_tutorref21_Word_7 x k low n i o0) =
    (fun (g15_7 : GT_tutorref21_Word_7 R) (K0 : Int → Int → (List Int) → Option R) (x k low n i : Int) (o0 : List Int) =>
    bi (decide (i < (IntKind.i64.wrap (low + n))))
     (l_tutorref21_Int x k
      (fun r4 r5 =>
       bi (decide ((o0.length + [r4].length) * 8 ≤ lim))
        (g15_7 r5 k low n (IntKind.i64.wrap (i + 1)) (o0 ++ [r4]))
        none))
     (K0 x 0 o0)) (gt_tutorref21_Word_7 g) (fun r0 r1 r2 => K (.tup [.own 0, .v (.int .u64 r0), .v (.int .i64 r1)]) [.row ⟨true, 3, (.int .i64), r2⟩]) x k low n i o0 := by kernel_rfl

theorem gentry_tutorref21_Word (l_tutorref21_Int : LT_tutorref21_Int) (l_tutorref21_fit : LT_tutorref21_fit) {R : Type} (fuel : Nat) (K : AV → List O → Option R) (x k low high : Int) :
    fnRun Try.prog (T_tutorref21_Word @l_tutorref21_Int @l_tutorref21_fit) cuts_tutorref21_Word Try.f15 fuel [.v (.int .u64 x), .v (.int .i64 k), .v (.int .i64 low), .v (.int .i64 high)] [] K =
    (fun (g15_7 : GT_tutorref21_Word_7 R) (K0 : Int → Int → (List Int) → Option R) (x k low high : Int) =>
    l_tutorref21_fit k low high
     (fun r1 =>
      bi (r1 != 0)
       (K0 x r1 ([] : List Int))
       (l_tutorref21_Int x (IntKind.i64.wrap ((IntKind.i64.wrap (high - low)) + 1))
        (fun r2 r3 =>
         g15_7 r3 k low r2 0 ([] : List Int))))) (gt_tutorref21_Word_7 (runO Try.prog (T_tutorref21_Word @l_tutorref21_Int @l_tutorref21_fit) cuts_tutorref21_Word 0 (finish Try.prog Try.f15 0 K) fuel)) (fun r0 r1 r2 => K (.tup [.own 0, .v (.int .u64 r0), .v (.int .i64 r1)]) [.row ⟨true, 3, (.int .i64), r2⟩]) x k low high := by kernel_rfl

theorem runs_tutorref21_Word {R : Type} (K : AV → List O → Option R) : ∀ fuel : Nat,
    (gt_tutorref21_Word_7 (runO Try.prog (T_tutorref21_Word @l_tutorref21_Int @l_tutorref21_fit) cuts_tutorref21_Word 0 (finish Try.prog Try.f15 0 K) fuel)) = (run_tutorref21_Word (fun r0 r1 r2 => K (.tup [.own 0, .v (.int .u64 r0), .v (.int .i64 r1)]) [.row ⟨true, 3, (.int .i64), r2⟩]) fuel)
  | 0 => rfl
  | fuel + 1 => by
    have ih := runs_tutorref21_Word K fuel
    funext x k low n i o0
    refine (gstep_tutorref21_Word_7 @l_tutorref21_Int @l_tutorref21_fit _ K x k low n i o0).trans ?_
    rw [ih]
    rfl

def S_tutorref21_Word (l_tutorref21_Word : LT_tutorref21_Word) : Sum := ⟨[], fun {R} args ob K => match args, ob with
  | [.v (.int .u64 x), .v (.int .i64 k), .v (.int .i64 low), .v (.int .i64 high)], [] => l_tutorref21_Word x k low high (fun r0 r1 r2 => K (.tup [.own 0, .v (.int .u64 r0), .v (.int .i64 r1)]) [.row ⟨true, 3, (.int .i64), r2⟩])
  | _, _ => none⟩

theorem sound_tutorref21_Word : Sound Try.prog 15 (S_tutorref21_Word @l_tutorref21_Word) := by
  refine fn_sound (cuts := cuts_tutorref21_Word) (fn := Try.f15) (Γ := (T_tutorref21_Word @l_tutorref21_Int @l_tutorref21_fit)) wide right_T_tutorref21_Word Try.func15 fun {R} K r args ob h => ?_
  unfold S_tutorref21_Word at h
  dsimp only at h
  split at h
  · obtain ⟨n, hn⟩ := ok_tutorref21_Word _ _ _ _ _ h
    refine ⟨Nat.le_of_ble_eq_true (by kernel_rfl), n, (gentry_tutorref21_Word @l_tutorref21_Int @l_tutorref21_fit n K _ _ _ _).trans ?_⟩
    rw [(runs_tutorref21_Word K n)]
    exact hn
  · cases h

theorem call_tutorref21_Word : Callable Try.prog 15 := ⟨_, Try.func15, by kernel_rfl, by kernel_rfl⟩

def T_tutorref21_Words (l_tutorref21_Start : LT_tutorref21_Start) (l_tutorref21_fit : LT_tutorref21_fit) (l_tutorref21_Word : LT_tutorref21_Word) : FuncId → Option Sum := (addS (addS (addS G0 11 (S_tutorref21_Start @l_tutorref21_Start)) 36 (S_tutorref21_fit @l_tutorref21_fit)) 15 (S_tutorref21_Word @l_tutorref21_Word))

theorem right_T_tutorref21_Words : Right Try.prog (T_tutorref21_Words @l_tutorref21_Start @l_tutorref21_fit @l_tutorref21_Word) := (right_add (right_add (right_add right_G0 call_tutorref21_Start sound_tutorref21_Start) call_tutorref21_fit sound_tutorref21_fit) call_tutorref21_Word sound_tutorref21_Word)

abbrev cuts_tutorref21_Words : Cuts := [(11, [1, 2, 3, 4, 13, 14, 15])]

abbrev sta_tutorref21_Words_11 (k count low high x i : Int) (o0 : List (List Int)) : St := ⟨fr0 52 [(1, .v (.int .i64 k)), (2, .v (.int .i64 count)), (3, .v (.int .i64 low)), (4, .v (.int .i64 high)), (13, .v (.int .u64 x)), (14, .nst 0), (15, .v (.int .i64 i))], [.nst ⟨true, 33, (.sl 3 (.int .i64)), o0⟩]⟩

abbrev gt_tutorref21_Words_11 {R : Type} (g : List Item → St → Option R) : GT_tutorref21_Words_11 R := fun (k count low high x i : Int) (o0 : List (List Int)) => g (at' Try.f19 11) (sta_tutorref21_Words_11 k count low high x i o0)

theorem gstep_tutorref21_Words_11 (l_tutorref21_Start : LT_tutorref21_Start) (l_tutorref21_fit : LT_tutorref21_fit) (l_tutorref21_Word : LT_tutorref21_Word) {R : Type} (g : List Item → St → Option R) (K : AV → List O → Option R) (k count low high x i : Int) (o0 : List (List Int)) :
    runSeg Try.prog (T_tutorref21_Words @l_tutorref21_Start @l_tutorref21_fit @l_tutorref21_Word) cuts_tutorref21_Words 0 g (finish Try.prog Try.f19 0 K) (at' Try.f19 11) (sta_tutorref21_Words_11 k count low high x i o0) =
    (fun (g19_11 : GT_tutorref21_Words_11 R) (K0 : Int → (List (List Int)) → Option R) (k count low high x i : Int) (o0 : List (List Int)) =>
    bi (decide (i < count))
     (l_tutorref21_Word x k low high
      (fun r3 r4 r5 =>
       bi (decide ((o0.length + [r5].length) * 24 ≤ lim))
        (g19_11 k count low high r3 (IntKind.i64.wrap (i + 1)) (o0 ++ [r5]))
        none))
     (K0 0 o0)) (gt_tutorref21_Words_11 g) (fun r0 r1 => K (.tup [.nst 0, .v (.int .i64 r0)]) [.nst ⟨true, 33, (.sl 3 (.int .i64)), r1⟩]) k count low high x i o0 := by kernel_rfl

theorem gentry_tutorref21_Words (l_tutorref21_Start : LT_tutorref21_Start) (l_tutorref21_fit : LT_tutorref21_fit) (l_tutorref21_Word : LT_tutorref21_Word) {R : Type} (fuel : Nat) (K : AV → List O → Option R) (seed k count low high : Int) :
    fnRun Try.prog (T_tutorref21_Words @l_tutorref21_Start @l_tutorref21_fit @l_tutorref21_Word) cuts_tutorref21_Words Try.f19 fuel [.v (.int .u64 seed), .v (.int .i64 k), .v (.int .i64 count), .v (.int .i64 low), .v (.int .i64 high)] [] K =
    (fun (g19_11 : GT_tutorref21_Words_11 R) (K0 : Int → (List (List Int)) → Option R) (seed k count low high : Int) =>
    l_tutorref21_fit k low high
     (fun r1 =>
      bi (r1 != 0)
       (K0 r1 ([] : List (List Int)))
       (bi (decide (count < 0))
        (K0 1 ([] : List (List Int)))
        (bi (decide (count > 65536))
         (K0 3 ([] : List (List Int)))
         (l_tutorref21_Start seed
          (fun r2 =>
           g19_11 k count low high r2 0 ([] : List (List Int)))))))) (gt_tutorref21_Words_11 (runO Try.prog (T_tutorref21_Words @l_tutorref21_Start @l_tutorref21_fit @l_tutorref21_Word) cuts_tutorref21_Words 0 (finish Try.prog Try.f19 0 K) fuel)) (fun r0 r1 => K (.tup [.nst 0, .v (.int .i64 r0)]) [.nst ⟨true, 33, (.sl 3 (.int .i64)), r1⟩]) seed k count low high := by kernel_rfl

theorem runs_tutorref21_Words {R : Type} (K : AV → List O → Option R) : ∀ fuel : Nat,
    (gt_tutorref21_Words_11 (runO Try.prog (T_tutorref21_Words @l_tutorref21_Start @l_tutorref21_fit @l_tutorref21_Word) cuts_tutorref21_Words 0 (finish Try.prog Try.f19 0 K) fuel)) = (run_tutorref21_Words (fun r0 r1 => K (.tup [.nst 0, .v (.int .i64 r0)]) [.nst ⟨true, 33, (.sl 3 (.int .i64)), r1⟩]) fuel)
  | 0 => rfl
  | fuel + 1 => by
    have ih := runs_tutorref21_Words K fuel
    funext k count low high x i o0
    refine (gstep_tutorref21_Words_11 @l_tutorref21_Start @l_tutorref21_fit @l_tutorref21_Word _ K k count low high x i o0).trans ?_
    rw [ih]
    rfl

def S_tutorref21_Words (l_tutorref21_Words : LT_tutorref21_Words) : Sum := ⟨[], fun {R} args ob K => match args, ob with
  | [.v (.int .u64 seed), .v (.int .i64 k), .v (.int .i64 count), .v (.int .i64 low), .v (.int .i64 high)], [] => l_tutorref21_Words seed k count low high (fun r0 r1 => K (.tup [.nst 0, .v (.int .i64 r0)]) [.nst ⟨true, 33, (.sl 3 (.int .i64)), r1⟩])
  | _, _ => none⟩

theorem sound_tutorref21_Words : Sound Try.prog 19 (S_tutorref21_Words @l_tutorref21_Words) := by
  refine fn_sound (cuts := cuts_tutorref21_Words) (fn := Try.f19) (Γ := (T_tutorref21_Words @l_tutorref21_Start @l_tutorref21_fit @l_tutorref21_Word)) wide right_T_tutorref21_Words Try.func19 fun {R} K r args ob h => ?_
  unfold S_tutorref21_Words at h
  dsimp only at h
  split at h
  · obtain ⟨n, hn⟩ := ok_tutorref21_Words _ _ _ _ _ _ h
    refine ⟨Nat.le_of_ble_eq_true (by kernel_rfl), n, (gentry_tutorref21_Words @l_tutorref21_Start @l_tutorref21_fit @l_tutorref21_Word n K _ _ _ _ _).trans ?_⟩
    rw [(runs_tutorref21_Words K n)]
    exact hn
  · cases h

theorem call_tutorref21_Words : Callable Try.prog 19 := ⟨_, Try.func19, by kernel_rfl, by kernel_rfl⟩

def T_tutorref01_Same : FuncId → Option Sum := G0

theorem right_T_tutorref01_Same : Right Try.prog T_tutorref01_Same := right_G0

abbrev cuts_tutorref01_Same : Cuts := [(4, [0, 1, 5])]

abbrev sta_tutorref01_Same_4 (a b : List Int) (i : Int) : St := ⟨fr0 26 [(0, .rd ⟨false, 3, (.int .i64), a⟩), (1, .rd ⟨false, 3, (.int .i64), b⟩), (5, .v (.int .i64 i))], []⟩

abbrev gt_tutorref01_Same_4 {R : Type} (g : List Item → St → Option R) : GT_tutorref01_Same_4 R := fun (a b : List Int) (i : Int) => g (at' Try.f16 4) (sta_tutorref01_Same_4 a b i)

theorem gstep_tutorref01_Same_4 {R : Type} (g : List Item → St → Option R) (K : AV → List O → Option R) (a b : List Int) (i : Int) :
    runSeg Try.prog T_tutorref01_Same cuts_tutorref01_Same 0 g (finish Try.prog Try.f16 0 K) (at' Try.f16 4) (sta_tutorref01_Same_4 a b i) =
    (fun (g16_4 : GT_tutorref01_Same_4 R) (K0 : Bool → Option R) (a b : List Int) (i : Int) =>
    bi (decide (i < (a.length : Int)))
     (bi (decide (0 ≤ i ∧ i < ((a.length : Nat) : Int)))
      (bi (decide (0 ≤ i ∧ i < ((b.length : Nat) : Int)))
       (bi ((a.getD i.toNat 0) != (b.getD i.toNat 0))
        (K0 false)
        (g16_4 a b (IntKind.i64.wrap (i + 1))))
       none)
      none)
     (K0 true)) (gt_tutorref01_Same_4 g) (fun r0 => K (.v (.bool r0)) []) a b i := by kernel_rfl

theorem gentry_tutorref01_Same {R : Type} (fuel : Nat) (K : AV → List O → Option R) (a b : List Int) :
    fnRun Try.prog T_tutorref01_Same cuts_tutorref01_Same Try.f16 fuel [.rd ⟨false, 3, (.int .i64), a⟩, .rd ⟨false, 3, (.int .i64), b⟩] [] K =
    (fun (g16_4 : GT_tutorref01_Same_4 R) (K0 : Bool → Option R) (a b : List Int) =>
    bi ((a.length : Int) != (b.length : Int))
     (K0 false)
     (g16_4 a b 0)) (gt_tutorref01_Same_4 (runO Try.prog T_tutorref01_Same cuts_tutorref01_Same 0 (finish Try.prog Try.f16 0 K) fuel)) (fun r0 => K (.v (.bool r0)) []) a b := by kernel_rfl

theorem runs_tutorref01_Same {R : Type} (K : AV → List O → Option R) : ∀ fuel : Nat,
    (gt_tutorref01_Same_4 (runO Try.prog T_tutorref01_Same cuts_tutorref01_Same 0 (finish Try.prog Try.f16 0 K) fuel)) = (run_tutorref01_Same (fun r0 => K (.v (.bool r0)) []) fuel)
  | 0 => rfl
  | fuel + 1 => by
    have ih := runs_tutorref01_Same K fuel
    funext a b i
    refine (gstep_tutorref01_Same_4 _ K a b i).trans ?_
    rw [ih]
    rfl

def S_tutorref01_Same (l_tutorref01_Same : LT_tutorref01_Same) : Sum := ⟨[], fun {R} args ob K => match args, ob with
  | [.rd ⟨false, 3, (.int .i64), a⟩, .rd ⟨false, 3, (.int .i64), b⟩], [] => l_tutorref01_Same a b (fun r0 => K (.v (.bool r0)) [])
  | _, _ => none⟩

theorem sound_tutorref01_Same : Sound Try.prog 16 (S_tutorref01_Same @l_tutorref01_Same) := by
  refine fn_sound (cuts := cuts_tutorref01_Same) (fn := Try.f16) (Γ := T_tutorref01_Same) wide right_T_tutorref01_Same Try.func16 fun {R} K r args ob h => ?_
  unfold S_tutorref01_Same at h
  dsimp only at h
  split at h
  · obtain ⟨n, hn⟩ := ok_tutorref01_Same _ _ _ h
    refine ⟨Nat.le_of_ble_eq_true (by kernel_rfl), n, (gentry_tutorref01_Same n K _ _).trans ?_⟩
    rw [(runs_tutorref01_Same K n)]
    exact hn
  · cases h

theorem call_tutorref01_Same : Callable Try.prog 16 := ⟨_, Try.func16, by kernel_rfl, by kernel_rfl⟩

def T_tutorref01_Lists (l_tutorref01_Same : LT_tutorref01_Same) : FuncId → Option Sum := (addS G0 16 (S_tutorref01_Same @l_tutorref01_Same))

theorem right_T_tutorref01_Lists : Right Try.prog (T_tutorref01_Lists @l_tutorref01_Same) := (right_add right_G0 call_tutorref01_Same sound_tutorref01_Same)

abbrev cuts_tutorref01_Lists : Cuts := [(4, [0, 1, 5])]

abbrev sta_tutorref01_Lists_4 (a b : List (List Int)) (i : Int) : St := ⟨fr0 27 [(0, .rd ⟨false, 33, (.sl 3 (.int .i64)), a⟩), (1, .rd ⟨false, 33, (.sl 3 (.int .i64)), b⟩), (5, .v (.int .i64 i))], []⟩

abbrev gt_tutorref01_Lists_4 {R : Type} (g : List Item → St → Option R) : GT_tutorref01_Lists_4 R := fun (a b : List (List Int)) (i : Int) => g (at' Try.f20 4) (sta_tutorref01_Lists_4 a b i)

theorem gstep_tutorref01_Lists_4 (l_tutorref01_Same : LT_tutorref01_Same) {R : Type} (g : List Item → St → Option R) (K : AV → List O → Option R) (a b : List (List Int)) (i : Int) :
    runSeg Try.prog (T_tutorref01_Lists @l_tutorref01_Same) cuts_tutorref01_Lists 0 g (finish Try.prog Try.f20 0 K) (at' Try.f20 4) (sta_tutorref01_Lists_4 a b i) =
    (fun (g20_4 : GT_tutorref01_Lists_4 R) (K0 : Bool → Option R) (a b : List (List Int)) (i : Int) =>
    bi (decide (i < (a.length : Int)))
     (bi (decide (0 ≤ i ∧ i < ((a.length : Nat) : Int)))
      (bi (decide (0 ≤ i ∧ i < ((b.length : Nat) : Int)))
       (l_tutorref01_Same (a.getD i.toNat []) (b.getD i.toNat [])
        (fun r1 =>
         bi (!r1)
          (K0 false)
          (g20_4 a b (IntKind.i64.wrap (i + 1)))))
       none)
      none)
     (K0 true)) (gt_tutorref01_Lists_4 g) (fun r0 => K (.v (.bool r0)) []) a b i := by kernel_rfl

theorem gentry_tutorref01_Lists (l_tutorref01_Same : LT_tutorref01_Same) {R : Type} (fuel : Nat) (K : AV → List O → Option R) (a b : List (List Int)) :
    fnRun Try.prog (T_tutorref01_Lists @l_tutorref01_Same) cuts_tutorref01_Lists Try.f20 fuel [.rd ⟨false, 33, (.sl 3 (.int .i64)), a⟩, .rd ⟨false, 33, (.sl 3 (.int .i64)), b⟩] [] K =
    (fun (g20_4 : GT_tutorref01_Lists_4 R) (K0 : Bool → Option R) (a b : List (List Int)) =>
    bi ((a.length : Int) != (b.length : Int))
     (K0 false)
     (g20_4 a b 0)) (gt_tutorref01_Lists_4 (runO Try.prog (T_tutorref01_Lists @l_tutorref01_Same) cuts_tutorref01_Lists 0 (finish Try.prog Try.f20 0 K) fuel)) (fun r0 => K (.v (.bool r0)) []) a b := by kernel_rfl

theorem runs_tutorref01_Lists {R : Type} (K : AV → List O → Option R) : ∀ fuel : Nat,
    (gt_tutorref01_Lists_4 (runO Try.prog (T_tutorref01_Lists @l_tutorref01_Same) cuts_tutorref01_Lists 0 (finish Try.prog Try.f20 0 K) fuel)) = (run_tutorref01_Lists (fun r0 => K (.v (.bool r0)) []) fuel)
  | 0 => rfl
  | fuel + 1 => by
    have ih := runs_tutorref01_Lists K fuel
    funext a b i
    refine (gstep_tutorref01_Lists_4 @l_tutorref01_Same _ K a b i).trans ?_
    rw [ih]
    rfl

def S_tutorref01_Lists (l_tutorref01_Lists : LT_tutorref01_Lists) : Sum := ⟨[], fun {R} args ob K => match args, ob with
  | [.rd ⟨false, 33, (.sl 3 (.int .i64)), a⟩, .rd ⟨false, 33, (.sl 3 (.int .i64)), b⟩], [] => l_tutorref01_Lists a b (fun r0 => K (.v (.bool r0)) [])
  | _, _ => none⟩

theorem sound_tutorref01_Lists : Sound Try.prog 20 (S_tutorref01_Lists @l_tutorref01_Lists) := by
  refine fn_sound (cuts := cuts_tutorref01_Lists) (fn := Try.f20) (Γ := (T_tutorref01_Lists @l_tutorref01_Same)) wide right_T_tutorref01_Lists Try.func20 fun {R} K r args ob h => ?_
  unfold S_tutorref01_Lists at h
  dsimp only at h
  split at h
  · obtain ⟨n, hn⟩ := ok_tutorref01_Lists _ _ _ h
    refine ⟨Nat.le_of_ble_eq_true (by kernel_rfl), n, (gentry_tutorref01_Lists @l_tutorref01_Same n K _ _).trans ?_⟩
    rw [(runs_tutorref01_Lists K n)]
    exact hn
  · cases h

theorem call_tutorref01_Lists : Callable Try.prog 20 := ⟨_, Try.func20, by kernel_rfl, by kernel_rfl⟩

def T_tutorlaw21_num : FuncId → Option Sum := G0

theorem right_T_tutorlaw21_num : Right Try.prog T_tutorlaw21_num := right_G0

abbrev cuts_tutorlaw21_num : Cuts := []

theorem gentry_tutorlaw21_num {R : Type} (K : AV → List O → Option R) (e : Int) :
    fnRun Try.prog T_tutorlaw21_num cuts_tutorlaw21_num Try.f17 0 [.v (.int .i64 e)] [] K =
    (fun (e : Int) (K0 : Int → Option R) =>
    K0 e) e (fun r0 => K (.v (.int .i64 r0)) []) := by kernel_rfl

def S_tutorlaw21_num (l_tutorlaw21_num : LT_tutorlaw21_num) : Sum := ⟨[], fun {R} args ob K => match args, ob with
  | [.v (.int .i64 e)], [] => l_tutorlaw21_num e (fun r0 => K (.v (.int .i64 r0)) [])
  | _, _ => none⟩

theorem sound_tutorlaw21_num : Sound Try.prog 17 (S_tutorlaw21_num @l_tutorlaw21_num) := by
  refine fn_sound (cuts := cuts_tutorlaw21_num) (fn := Try.f17) (Γ := T_tutorlaw21_num) wide right_T_tutorlaw21_num Try.func17 fun {R} K r args ob h => ?_
  unfold S_tutorlaw21_num at h
  dsimp only at h
  split at h
  · exact ⟨Nat.le_of_ble_eq_true (by kernel_rfl), 0, (gentry_tutorlaw21_num K _).trans h⟩
  · cases h

theorem call_tutorlaw21_num : Callable Try.prog 17 := ⟨_, Try.func17, by kernel_rfl, by kernel_rfl⟩

def T_tutorref01_Apart : FuncId → Option Sum := G0

theorem right_T_tutorref01_Apart : Right Try.prog T_tutorref01_Apart := right_G0

abbrev cuts_tutorref01_Apart : Cuts := [(2, [0, 3]), (5, [0, 3, 4]), (9, [0, 5]), (13, [0, 5, 6, 7]), (17, [0, 8]), (20, [0, 8, 9])]

abbrev sta_tutorref01_Apart_2 (i : Int) (o0 : List (List Int)) : St := ⟨fr0 77 [(0, .nst 0), (3, .v (.int .i64 i))], [.nst ⟨false, 33, (.sl 3 (.int .i64)), o0⟩]⟩

abbrev gt_tutorref01_Apart_2 {R : Type} (g : List Item → St → Option R) : GT_tutorref01_Apart_2 R := fun (i : Int) (o0 : List (List Int)) => g (at' Try.f21 2) (sta_tutorref01_Apart_2 i o0)

abbrev sta_tutorref01_Apart_5 (i k : Int) (o0 : List (List Int)) : St := ⟨fr0 77 [(0, .nst 0), (3, .v (.int .i64 i)), (4, .v (.int .i64 k))], [.nst ⟨false, 33, (.sl 3 (.int .i64)), o0⟩]⟩

abbrev gt_tutorref01_Apart_5 {R : Type} (g : List Item → St → Option R) : GT_tutorref01_Apart_5 R := fun (i k : Int) (o0 : List (List Int)) => g (at' Try.f21 5) (sta_tutorref01_Apart_5 i k o0)

abbrev sta_tutorref01_Apart_9 (i : Int) (o0 : List (List Int)) : St := ⟨fr0 77 [(0, .nst 0), (5, .v (.int .i64 i))], [.nst ⟨false, 33, (.sl 3 (.int .i64)), o0⟩]⟩

abbrev gt_tutorref01_Apart_9 {R : Type} (g : List Item → St → Option R) : GT_tutorref01_Apart_9 R := fun (i : Int) (o0 : List (List Int)) => g (at' Try.f21 9) (sta_tutorref01_Apart_9 i o0)

abbrev sta_tutorref01_Apart_13a (i : Int) (x : Nat) (k : Int) (o0 : List (List Int)) : St := ⟨fr0 77 [(0, .nst 0), (5, .v (.int .i64 i)), (6, .inn 0 x), (7, .v (.int .i64 k))], [.nst ⟨false, 33, (.sl 3 (.int .i64)), o0⟩]⟩

abbrev gt_tutorref01_Apart_13a {R : Type} (g : List Item → St → Option R) : GT_tutorref01_Apart_13a R := fun (i : Int) (x : Nat) (k : Int) (o0 : List (List Int)) => g (at' Try.f21 13) (sta_tutorref01_Apart_13a i x k o0)

abbrev sta_tutorref01_Apart_17 (i : Int) (o0 : List (List Int)) : St := ⟨fr0 77 [(0, .nst 0), (8, .v (.int .i64 i))], [.nst ⟨false, 33, (.sl 3 (.int .i64)), o0⟩]⟩

abbrev gt_tutorref01_Apart_17 {R : Type} (g : List Item → St → Option R) : GT_tutorref01_Apart_17 R := fun (i : Int) (o0 : List (List Int)) => g (at' Try.f21 17) (sta_tutorref01_Apart_17 i o0)

abbrev sta_tutorref01_Apart_13b (i k : Int) (o0 : List (List Int)) (o1 o1_1 : Nat) : St := ⟨fr0 77 [(0, .nst 0), (5, .v (.int .i64 i)), (6, .grn 1), (7, .v (.int .i64 k))], [.nst ⟨false, 33, (.sl 3 (.int .i64)), o0⟩, .grn 0 o1 3 1 o1_1]⟩

abbrev gt_tutorref01_Apart_13b {R : Type} (g : List Item → St → Option R) : GT_tutorref01_Apart_13b R := fun (i k : Int) (o0 : List (List Int)) (o1 o1_1 : Nat) => g (at' Try.f21 13) (sta_tutorref01_Apart_13b i k o0 o1 o1_1)

abbrev sta_tutorref01_Apart_20 (i k : Int) (o0 : List (List Int)) : St := ⟨fr0 77 [(0, .nst 0), (8, .v (.int .i64 i)), (9, .v (.int .i64 k))], [.nst ⟨false, 33, (.sl 3 (.int .i64)), o0⟩]⟩

abbrev gt_tutorref01_Apart_20 {R : Type} (g : List Item → St → Option R) : GT_tutorref01_Apart_20 R := fun (i k : Int) (o0 : List (List Int)) => g (at' Try.f21 20) (sta_tutorref01_Apart_20 i k o0)

theorem gstep_tutorref01_Apart_2 {R : Type} (g : List Item → St → Option R) (K : AV → List O → Option R) (i : Int) (o0 : List (List Int)) :
    runSeg Try.prog T_tutorref01_Apart cuts_tutorref01_Apart 1 g (finish Try.prog Try.f21 1 K) (at' Try.f21 2) (sta_tutorref01_Apart_2 i o0) =
    (fun (g21_2 : GT_tutorref01_Apart_2 R) (g21_5 : GT_tutorref01_Apart_5 R) (g21_9 : GT_tutorref01_Apart_9 R) (g21_13 : GT_tutorref01_Apart_13a R) (g21_17 : GT_tutorref01_Apart_17 R) (g21_13b : GT_tutorref01_Apart_13b R) (g21_20 : GT_tutorref01_Apart_20 R) (K0 : Bool → (List (List Int)) → Option R) (i : Int) (o0 : List (List Int)) =>
    bi (decide (i < (o0.length : Int)))
     (g21_5 i 0 o0)
     (g21_9 0 o0)) (gt_tutorref01_Apart_2 g) (gt_tutorref01_Apart_5 g) (gt_tutorref01_Apart_9 g) (gt_tutorref01_Apart_13a g) (gt_tutorref01_Apart_17 g) (gt_tutorref01_Apart_13b g) (gt_tutorref01_Apart_20 g) (fun r0 r1 => K (.v (.bool r0)) [.nst ⟨false, 33, (.sl 3 (.int .i64)), r1⟩]) i o0 := by kernel_rfl

theorem gstep_tutorref01_Apart_5 {R : Type} (g : List Item → St → Option R) (K : AV → List O → Option R) (i k : Int) (o0 : List (List Int)) :
    runSeg Try.prog T_tutorref01_Apart cuts_tutorref01_Apart 1 g (finish Try.prog Try.f21 1 K) (at' Try.f21 5) (sta_tutorref01_Apart_5 i k o0) =
    (fun (g21_2 : GT_tutorref01_Apart_2 R) (g21_5 : GT_tutorref01_Apart_5 R) (g21_9 : GT_tutorref01_Apart_9 R) (g21_13 : GT_tutorref01_Apart_13a R) (g21_17 : GT_tutorref01_Apart_17 R) (g21_13b : GT_tutorref01_Apart_13b R) (g21_20 : GT_tutorref01_Apart_20 R) (K0 : Bool → (List (List Int)) → Option R) (i k : Int) (o0 : List (List Int)) =>
    bi (decide (0 ≤ i ∧ i < ((o0.length : Nat) : Int)))
     (bi (decide (k < ((o0.getD i.toNat []).length : Int)))
      (bi (decide (0 ≤ i ∧ i < ((o0.length : Nat) : Int)))
       (bi (decide (0 ≤ k ∧ k < (((o0.getD i.toNat []).length : Nat) : Int)))
        (g21_5 i (IntKind.i64.wrap (k + 1)) (o0.set i.toNat ((o0.getD i.toNat []).set k.toNat (IntKind.i64.wrap ((-1000) - i)))))
        none)
       none)
      (g21_2 (IntKind.i64.wrap (i + 1)) o0))
     none) (gt_tutorref01_Apart_2 g) (gt_tutorref01_Apart_5 g) (gt_tutorref01_Apart_9 g) (gt_tutorref01_Apart_13a g) (gt_tutorref01_Apart_17 g) (gt_tutorref01_Apart_13b g) (gt_tutorref01_Apart_20 g) (fun r0 r1 => K (.v (.bool r0)) [.nst ⟨false, 33, (.sl 3 (.int .i64)), r1⟩]) i k o0 := by kernel_rfl

theorem gstep_tutorref01_Apart_9 {R : Type} (g : List Item → St → Option R) (K : AV → List O → Option R) (i : Int) (o0 : List (List Int)) :
    runSeg Try.prog T_tutorref01_Apart cuts_tutorref01_Apart 1 g (finish Try.prog Try.f21 1 K) (at' Try.f21 9) (sta_tutorref01_Apart_9 i o0) =
    (fun (g21_2 : GT_tutorref01_Apart_2 R) (g21_5 : GT_tutorref01_Apart_5 R) (g21_9 : GT_tutorref01_Apart_9 R) (g21_13 : GT_tutorref01_Apart_13a R) (g21_17 : GT_tutorref01_Apart_17 R) (g21_13b : GT_tutorref01_Apart_13b R) (g21_20 : GT_tutorref01_Apart_20 R) (K0 : Bool → (List (List Int)) → Option R) (i : Int) (o0 : List (List Int)) =>
    bi (decide (i < (o0.length : Int)))
     (bi (decide (0 ≤ i ∧ i < ((o0.length : Nat) : Int)))
      (g21_13 i i.toNat 0 o0)
      none)
     (g21_17 0 o0)) (gt_tutorref01_Apart_2 g) (gt_tutorref01_Apart_5 g) (gt_tutorref01_Apart_9 g) (gt_tutorref01_Apart_13a g) (gt_tutorref01_Apart_17 g) (gt_tutorref01_Apart_13b g) (gt_tutorref01_Apart_20 g) (fun r0 r1 => K (.v (.bool r0)) [.nst ⟨false, 33, (.sl 3 (.int .i64)), r1⟩]) i o0 := by kernel_rfl

theorem gstep_tutorref01_Apart_13a {R : Type} (g : List Item → St → Option R) (K : AV → List O → Option R) (i : Int) (x : Nat) (k : Int) (o0 : List (List Int)) :
    runSeg Try.prog T_tutorref01_Apart cuts_tutorref01_Apart 1 g (finish Try.prog Try.f21 1 K) (at' Try.f21 13) (sta_tutorref01_Apart_13a i x k o0) =
    (fun (g21_2 : GT_tutorref01_Apart_2 R) (g21_5 : GT_tutorref01_Apart_5 R) (g21_9 : GT_tutorref01_Apart_9 R) (g21_13 : GT_tutorref01_Apart_13a R) (g21_17 : GT_tutorref01_Apart_17 R) (g21_13b : GT_tutorref01_Apart_13b R) (g21_20 : GT_tutorref01_Apart_20 R) (K0 : Bool → (List (List Int)) → Option R) (i : Int) (x : Nat) (k : Int) (o0 : List (List Int)) =>
    bi (decide (k < 6))
     (bi (decide (((o0.getD x []).length + [IntKind.i64.wrap ((-5000) - i)].length) * 8 ≤ lim))
      (g21_13b i (IntKind.i64.wrap (k + 1)) o0 x ((o0.getD x []).length + [IntKind.i64.wrap ((-5000) - i)].length))
      none)
     (g21_9 (IntKind.i64.wrap (i + 1)) o0)) (gt_tutorref01_Apart_2 g) (gt_tutorref01_Apart_5 g) (gt_tutorref01_Apart_9 g) (gt_tutorref01_Apart_13a g) (gt_tutorref01_Apart_17 g) (gt_tutorref01_Apart_13b g) (gt_tutorref01_Apart_20 g) (fun r0 r1 => K (.v (.bool r0)) [.nst ⟨false, 33, (.sl 3 (.int .i64)), r1⟩]) i x k o0 := by kernel_rfl

theorem gstep_tutorref01_Apart_17 {R : Type} (g : List Item → St → Option R) (K : AV → List O → Option R) (i : Int) (o0 : List (List Int)) :
    runSeg Try.prog T_tutorref01_Apart cuts_tutorref01_Apart 1 g (finish Try.prog Try.f21 1 K) (at' Try.f21 17) (sta_tutorref01_Apart_17 i o0) =
    (fun (g21_2 : GT_tutorref01_Apart_2 R) (g21_5 : GT_tutorref01_Apart_5 R) (g21_9 : GT_tutorref01_Apart_9 R) (g21_13 : GT_tutorref01_Apart_13a R) (g21_17 : GT_tutorref01_Apart_17 R) (g21_13b : GT_tutorref01_Apart_13b R) (g21_20 : GT_tutorref01_Apart_20 R) (K0 : Bool → (List (List Int)) → Option R) (i : Int) (o0 : List (List Int)) =>
    bi (decide (i < (o0.length : Int)))
     (g21_20 i 0 o0)
     (K0 true o0)) (gt_tutorref01_Apart_2 g) (gt_tutorref01_Apart_5 g) (gt_tutorref01_Apart_9 g) (gt_tutorref01_Apart_13a g) (gt_tutorref01_Apart_17 g) (gt_tutorref01_Apart_13b g) (gt_tutorref01_Apart_20 g) (fun r0 r1 => K (.v (.bool r0)) [.nst ⟨false, 33, (.sl 3 (.int .i64)), r1⟩]) i o0 := by kernel_rfl

theorem gstep_tutorref01_Apart_13b {R : Type} (g : List Item → St → Option R) (K : AV → List O → Option R) (i k : Int) (o0 : List (List Int)) (o1 o1_1 : Nat) :
    runSeg Try.prog T_tutorref01_Apart cuts_tutorref01_Apart 1 g (finish Try.prog Try.f21 1 K) (at' Try.f21 13) (sta_tutorref01_Apart_13b i k o0 o1 o1_1) =
    (fun (g21_2 : GT_tutorref01_Apart_2 R) (g21_5 : GT_tutorref01_Apart_5 R) (g21_9 : GT_tutorref01_Apart_9 R) (g21_13 : GT_tutorref01_Apart_13a R) (g21_17 : GT_tutorref01_Apart_17 R) (g21_13b : GT_tutorref01_Apart_13b R) (g21_20 : GT_tutorref01_Apart_20 R) (K0 : Bool → (List (List Int)) → Option R) (i k : Int) (o0 : List (List Int)) (o1 o1_1 : Nat) =>
    bi (decide (k < 6))
     (bi (decide ((o1_1 + [IntKind.i64.wrap ((-5000) - i)].length) * 8 ≤ lim))
      (g21_13b i (IntKind.i64.wrap (k + 1)) o0 o1 (o1_1 + [IntKind.i64.wrap ((-5000) - i)].length))
      none)
     (g21_9 (IntKind.i64.wrap (i + 1)) o0)) (gt_tutorref01_Apart_2 g) (gt_tutorref01_Apart_5 g) (gt_tutorref01_Apart_9 g) (gt_tutorref01_Apart_13a g) (gt_tutorref01_Apart_17 g) (gt_tutorref01_Apart_13b g) (gt_tutorref01_Apart_20 g) (fun r0 r1 => K (.v (.bool r0)) [.nst ⟨false, 33, (.sl 3 (.int .i64)), r1⟩]) i k o0 o1 o1_1 := by kernel_rfl

theorem gstep_tutorref01_Apart_20 {R : Type} (g : List Item → St → Option R) (K : AV → List O → Option R) (i k : Int) (o0 : List (List Int)) :
    runSeg Try.prog T_tutorref01_Apart cuts_tutorref01_Apart 1 g (finish Try.prog Try.f21 1 K) (at' Try.f21 20) (sta_tutorref01_Apart_20 i k o0) =
    (fun (g21_2 : GT_tutorref01_Apart_2 R) (g21_5 : GT_tutorref01_Apart_5 R) (g21_9 : GT_tutorref01_Apart_9 R) (g21_13 : GT_tutorref01_Apart_13a R) (g21_17 : GT_tutorref01_Apart_17 R) (g21_13b : GT_tutorref01_Apart_13b R) (g21_20 : GT_tutorref01_Apart_20 R) (K0 : Bool → (List (List Int)) → Option R) (i k : Int) (o0 : List (List Int)) =>
    bi (decide (0 ≤ i ∧ i < ((o0.length : Nat) : Int)))
     (bi (decide (k < ((o0.getD i.toNat []).length : Int)))
      (bi (decide (0 ≤ i ∧ i < ((o0.length : Nat) : Int)))
       (bi (decide (0 ≤ k ∧ k < (((o0.getD i.toNat []).length : Nat) : Int)))
        (bi (((o0.getD i.toNat []).getD k.toNat 0) != (IntKind.i64.wrap ((-1000) - i)))
         (K0 false o0)
         (g21_20 i (IntKind.i64.wrap (k + 1)) o0))
        none)
       none)
      (g21_17 (IntKind.i64.wrap (i + 1)) o0))
     none) (gt_tutorref01_Apart_2 g) (gt_tutorref01_Apart_5 g) (gt_tutorref01_Apart_9 g) (gt_tutorref01_Apart_13a g) (gt_tutorref01_Apart_17 g) (gt_tutorref01_Apart_13b g) (gt_tutorref01_Apart_20 g) (fun r0 r1 => K (.v (.bool r0)) [.nst ⟨false, 33, (.sl 3 (.int .i64)), r1⟩]) i k o0 := by kernel_rfl

theorem gentry_tutorref01_Apart {R : Type} (fuel : Nat) (K : AV → List O → Option R) (o0 : List (List Int)) :
    fnRun Try.prog T_tutorref01_Apart cuts_tutorref01_Apart Try.f21 fuel [.nst 0] [.nst ⟨false, 33, (.sl 3 (.int .i64)), o0⟩] K =
    (fun (g21_2 : GT_tutorref01_Apart_2 R) (g21_5 : GT_tutorref01_Apart_5 R) (g21_9 : GT_tutorref01_Apart_9 R) (g21_13 : GT_tutorref01_Apart_13a R) (g21_17 : GT_tutorref01_Apart_17 R) (g21_13b : GT_tutorref01_Apart_13b R) (g21_20 : GT_tutorref01_Apart_20 R) (K0 : Bool → (List (List Int)) → Option R) (o0 : List (List Int)) =>
    g21_2 0 o0) (gt_tutorref01_Apart_2 (runO Try.prog T_tutorref01_Apart cuts_tutorref01_Apart 1 (finish Try.prog Try.f21 1 K) fuel)) (gt_tutorref01_Apart_5 (runO Try.prog T_tutorref01_Apart cuts_tutorref01_Apart 1 (finish Try.prog Try.f21 1 K) fuel)) (gt_tutorref01_Apart_9 (runO Try.prog T_tutorref01_Apart cuts_tutorref01_Apart 1 (finish Try.prog Try.f21 1 K) fuel)) (gt_tutorref01_Apart_13a (runO Try.prog T_tutorref01_Apart cuts_tutorref01_Apart 1 (finish Try.prog Try.f21 1 K) fuel)) (gt_tutorref01_Apart_17 (runO Try.prog T_tutorref01_Apart cuts_tutorref01_Apart 1 (finish Try.prog Try.f21 1 K) fuel)) (gt_tutorref01_Apart_13b (runO Try.prog T_tutorref01_Apart cuts_tutorref01_Apart 1 (finish Try.prog Try.f21 1 K) fuel)) (gt_tutorref01_Apart_20 (runO Try.prog T_tutorref01_Apart cuts_tutorref01_Apart 1 (finish Try.prog Try.f21 1 K) fuel)) (fun r0 r1 => K (.v (.bool r0)) [.nst ⟨false, 33, (.sl 3 (.int .i64)), r1⟩]) o0 := by kernel_rfl

theorem runs_tutorref01_Apart {R : Type} (K : AV → List O → Option R) : ∀ fuel : Nat,
    (gt_tutorref01_Apart_2 (runO Try.prog T_tutorref01_Apart cuts_tutorref01_Apart 1 (finish Try.prog Try.f21 1 K) fuel)) = (run_tutorref01_Apart (fun r0 r1 => K (.v (.bool r0)) [.nst ⟨false, 33, (.sl 3 (.int .i64)), r1⟩]) fuel).1 ∧
    (gt_tutorref01_Apart_5 (runO Try.prog T_tutorref01_Apart cuts_tutorref01_Apart 1 (finish Try.prog Try.f21 1 K) fuel)) = (run_tutorref01_Apart (fun r0 r1 => K (.v (.bool r0)) [.nst ⟨false, 33, (.sl 3 (.int .i64)), r1⟩]) fuel).2.1 ∧
    (gt_tutorref01_Apart_9 (runO Try.prog T_tutorref01_Apart cuts_tutorref01_Apart 1 (finish Try.prog Try.f21 1 K) fuel)) = (run_tutorref01_Apart (fun r0 r1 => K (.v (.bool r0)) [.nst ⟨false, 33, (.sl 3 (.int .i64)), r1⟩]) fuel).2.2.1 ∧
    (gt_tutorref01_Apart_13a (runO Try.prog T_tutorref01_Apart cuts_tutorref01_Apart 1 (finish Try.prog Try.f21 1 K) fuel)) = (run_tutorref01_Apart (fun r0 r1 => K (.v (.bool r0)) [.nst ⟨false, 33, (.sl 3 (.int .i64)), r1⟩]) fuel).2.2.2.1 ∧
    (gt_tutorref01_Apart_17 (runO Try.prog T_tutorref01_Apart cuts_tutorref01_Apart 1 (finish Try.prog Try.f21 1 K) fuel)) = (run_tutorref01_Apart (fun r0 r1 => K (.v (.bool r0)) [.nst ⟨false, 33, (.sl 3 (.int .i64)), r1⟩]) fuel).2.2.2.2.1 ∧
    (gt_tutorref01_Apart_13b (runO Try.prog T_tutorref01_Apart cuts_tutorref01_Apart 1 (finish Try.prog Try.f21 1 K) fuel)) = (run_tutorref01_Apart (fun r0 r1 => K (.v (.bool r0)) [.nst ⟨false, 33, (.sl 3 (.int .i64)), r1⟩]) fuel).2.2.2.2.2.1 ∧
    (gt_tutorref01_Apart_20 (runO Try.prog T_tutorref01_Apart cuts_tutorref01_Apart 1 (finish Try.prog Try.f21 1 K) fuel)) = (run_tutorref01_Apart (fun r0 r1 => K (.v (.bool r0)) [.nst ⟨false, 33, (.sl 3 (.int .i64)), r1⟩]) fuel).2.2.2.2.2.2
  | 0 => ⟨rfl, rfl, rfl, rfl, rfl, rfl, rfl⟩
  | fuel + 1 => by
    have ih := runs_tutorref01_Apart K fuel
    refine ⟨?_, ?_, ?_, ?_, ?_, ?_, ?_⟩
    · funext i o0
      refine (gstep_tutorref01_Apart_2 _ K i o0).trans ?_
      rw [ih.1, ih.2.1, ih.2.2.1, ih.2.2.2.1, ih.2.2.2.2.1, ih.2.2.2.2.2.1, ih.2.2.2.2.2.2]
      rfl
    · funext i k o0
      refine (gstep_tutorref01_Apart_5 _ K i k o0).trans ?_
      rw [ih.1, ih.2.1, ih.2.2.1, ih.2.2.2.1, ih.2.2.2.2.1, ih.2.2.2.2.2.1, ih.2.2.2.2.2.2]
      rfl
    · funext i o0
      refine (gstep_tutorref01_Apart_9 _ K i o0).trans ?_
      rw [ih.1, ih.2.1, ih.2.2.1, ih.2.2.2.1, ih.2.2.2.2.1, ih.2.2.2.2.2.1, ih.2.2.2.2.2.2]
      rfl
    · funext i x k o0
      refine (gstep_tutorref01_Apart_13a _ K i x k o0).trans ?_
      rw [ih.1, ih.2.1, ih.2.2.1, ih.2.2.2.1, ih.2.2.2.2.1, ih.2.2.2.2.2.1, ih.2.2.2.2.2.2]
      rfl
    · funext i o0
      refine (gstep_tutorref01_Apart_17 _ K i o0).trans ?_
      rw [ih.1, ih.2.1, ih.2.2.1, ih.2.2.2.1, ih.2.2.2.2.1, ih.2.2.2.2.2.1, ih.2.2.2.2.2.2]
      rfl
    · funext i k o0 o1 o1_1
      refine (gstep_tutorref01_Apart_13b _ K i k o0 o1 o1_1).trans ?_
      rw [ih.1, ih.2.1, ih.2.2.1, ih.2.2.2.1, ih.2.2.2.2.1, ih.2.2.2.2.2.1, ih.2.2.2.2.2.2]
      rfl
    · funext i k o0
      refine (gstep_tutorref01_Apart_20 _ K i k o0).trans ?_
      rw [ih.1, ih.2.1, ih.2.2.1, ih.2.2.2.1, ih.2.2.2.2.1, ih.2.2.2.2.2.1, ih.2.2.2.2.2.2]
      rfl

def S_tutorref01_Apart (l_tutorref01_Apart : LT_tutorref01_Apart) : Sum := ⟨[0], fun {R} args ob K => match args, ob with
  | [.nst 0], [.nst ⟨false, 33, (.sl 3 (.int .i64)), o0⟩] => l_tutorref01_Apart o0 (fun r0 r1 => K (.v (.bool r0)) [.nst ⟨false, 33, (.sl 3 (.int .i64)), r1⟩])
  | _, _ => none⟩

theorem sound_tutorref01_Apart : Sound Try.prog 21 (S_tutorref01_Apart @l_tutorref01_Apart) := by
  refine fn_sound (cuts := cuts_tutorref01_Apart) (fn := Try.f21) (Γ := T_tutorref01_Apart) wide right_T_tutorref01_Apart Try.func21 fun {R} K r args ob h => ?_
  unfold S_tutorref01_Apart at h
  dsimp only at h
  split at h
  · obtain ⟨n, hn⟩ := ok_tutorref01_Apart _ _ h
    refine ⟨Nat.le_of_ble_eq_true (by kernel_rfl), n, (gentry_tutorref01_Apart n K _).trans ?_⟩
    rw [(runs_tutorref01_Apart K n).1, (runs_tutorref01_Apart K n).2.1, (runs_tutorref01_Apart K n).2.2.1, (runs_tutorref01_Apart K n).2.2.2.1, (runs_tutorref01_Apart K n).2.2.2.2.1, (runs_tutorref01_Apart K n).2.2.2.2.2.1, (runs_tutorref01_Apart K n).2.2.2.2.2.2]
    exact hn
  · cases h

theorem call_tutorref01_Apart : Callable Try.prog 21 := ⟨_, Try.func21, by kernel_rfl, by kernel_rfl⟩

def T_tutorlaw21_WalkWords (l_tutorlaw21_live : LT_tutorlaw21_live) (l_tutorref01_Apart : LT_tutorref01_Apart) (l_tutorlaw21_num : LT_tutorlaw21_num) (l_tutorref01_Lists : LT_tutorref01_Lists) (l_tutorref21_Words : LT_tutorref21_Words) (l_walk_Words : LT_walk_Words) : FuncId → Option Sum := (addS (addS (addS (addS (addS (addS G0 9 (S_tutorlaw21_live @l_tutorlaw21_live)) 21 (S_tutorref01_Apart @l_tutorref01_Apart)) 17 (S_tutorlaw21_num @l_tutorlaw21_num)) 20 (S_tutorref01_Lists @l_tutorref01_Lists)) 19 (S_tutorref21_Words @l_tutorref21_Words)) 18 (S_walk_Words @l_walk_Words))

theorem right_T_tutorlaw21_WalkWords : Right Try.prog (T_tutorlaw21_WalkWords @l_tutorlaw21_live @l_tutorref01_Apart @l_tutorlaw21_num @l_tutorref01_Lists @l_tutorref21_Words @l_walk_Words) := (right_add (right_add (right_add (right_add (right_add (right_add right_G0 call_tutorlaw21_live sound_tutorlaw21_live) call_tutorref01_Apart sound_tutorref01_Apart) call_tutorlaw21_num sound_tutorlaw21_num) call_tutorref01_Lists sound_tutorref01_Lists) call_tutorref21_Words sound_tutorref21_Words) call_walk_Words sound_walk_Words)

abbrev cuts_tutorlaw21_WalkWords : Cuts := []

theorem gentry_tutorlaw21_WalkWords (l_tutorlaw21_live : LT_tutorlaw21_live) (l_tutorref01_Apart : LT_tutorref01_Apart) (l_tutorlaw21_num : LT_tutorlaw21_num) (l_tutorref01_Lists : LT_tutorref01_Lists) (l_tutorref21_Words : LT_tutorref21_Words) (l_walk_Words : LT_walk_Words) {R : Type} (K : AV → List O → Option R) (seed k count low high : Int) :
    fnRun Try.prog (T_tutorlaw21_WalkWords @l_tutorlaw21_live @l_tutorref01_Apart @l_tutorlaw21_num @l_tutorref01_Lists @l_tutorref21_Words @l_walk_Words) cuts_tutorlaw21_WalkWords Try.f4 0 [.v (.int .u64 seed), .v (.int .i64 k), .v (.int .i64 count), .v (.int .i64 low), .v (.int .i64 high)] [] K =
    (fun (seed k count low high : Int) (K0 : Bool → Option R) =>
    bi (decide (count > 200))
     (bi (decide (count ≤ 65536))
      (l_tutorlaw21_live
       (fun r1 =>
        K0 r1))
      (l_walk_Words seed k count low high
       (fun r2 r3 =>
        l_tutorref21_Words seed k count low high
         (fun r4 r5 =>
          l_tutorref01_Lists r3 r5
           (fun r6 =>
            bi r6
             (l_tutorlaw21_num r2
              (fun r7 =>
               bi (r7 == r4)
                (l_tutorref01_Apart r3
                 (fun r8 r9 =>
                  bi r8
                   (l_tutorlaw21_live
                    (fun r10 =>
                     K0 r10))
                   (K0 false)))
                (K0 false)))
             (K0 false))))
       (fun r11 r12 =>
        l_tutorref21_Words seed k count low high
         (fun r13 r14 =>
          l_tutorref01_Lists r12 r14
           (fun r15 =>
            bi r15
             (l_tutorlaw21_num r11
              (fun r16 =>
               bi (r16 == r13)
                (l_tutorref01_Apart r12
                 (fun r17 r18 =>
                  bi r17
                   (l_tutorlaw21_live
                    (fun r19 =>
                     K0 r19))
                   (K0 false)))
                (K0 false)))
             (K0 false))))))
     (l_walk_Words seed k count low high
      (fun r20 r21 =>
       l_tutorref21_Words seed k count low high
        (fun r22 r23 =>
         l_tutorref01_Lists r21 r23
          (fun r24 =>
           bi r24
            (l_tutorlaw21_num r20
             (fun r25 =>
              bi (r25 == r22)
               (l_tutorref01_Apart r21
                (fun r26 r27 =>
                 bi r26
                  (l_tutorlaw21_live
                   (fun r28 =>
                    K0 r28))
                  (K0 false)))
               (K0 false)))
            (K0 false))))
      (fun r29 r30 =>
       l_tutorref21_Words seed k count low high
        (fun r31 r32 =>
         l_tutorref01_Lists r30 r32
          (fun r33 =>
           bi r33
            (l_tutorlaw21_num r29
             (fun r34 =>
              bi (r34 == r31)
               (l_tutorref01_Apart r30
                (fun r35 r36 =>
                 bi r35
                  (l_tutorlaw21_live
                   (fun r37 =>
                    K0 r37))
                  (K0 false)))
               (K0 false)))
            (K0 false)))))) seed k count low high (fun r0 => K (.v (.bool r0)) []) := by kernel_rfl

def S_tutorlaw21_WalkWords (l_tutorlaw21_WalkWords : LT_tutorlaw21_WalkWords) : Sum := ⟨[], fun {R} args ob K => match args, ob with
  | [.v (.int .u64 seed), .v (.int .i64 k), .v (.int .i64 count), .v (.int .i64 low), .v (.int .i64 high)], [] => l_tutorlaw21_WalkWords seed k count low high (fun r0 => K (.v (.bool r0)) [])
  | _, _ => none⟩

theorem sound_tutorlaw21_WalkWords : Sound Try.prog 4 (S_tutorlaw21_WalkWords @l_tutorlaw21_WalkWords) := by
  refine fn_sound (cuts := cuts_tutorlaw21_WalkWords) (fn := Try.f4) (Γ := (T_tutorlaw21_WalkWords @l_tutorlaw21_live @l_tutorref01_Apart @l_tutorlaw21_num @l_tutorref01_Lists @l_tutorref21_Words @l_walk_Words)) wide right_T_tutorlaw21_WalkWords Try.func4 fun {R} K r args ob h => ?_
  unfold S_tutorlaw21_WalkWords at h
  dsimp only at h
  split at h
  · exact ⟨Nat.le_of_ble_eq_true (by kernel_rfl), 0, (gentry_tutorlaw21_WalkWords @l_tutorlaw21_live @l_tutorref01_Apart @l_tutorlaw21_num @l_tutorref01_Lists @l_tutorref21_Words @l_walk_Words K _ _ _ _ _).trans h⟩
  · cases h

theorem call_tutorlaw21_WalkWords : Callable Try.prog 4 := ⟨_, Try.func4, by kernel_rfl, by kernel_rfl⟩

end
end Go.Ev
