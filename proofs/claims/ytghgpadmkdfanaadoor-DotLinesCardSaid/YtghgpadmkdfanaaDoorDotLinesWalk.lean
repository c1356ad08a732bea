/- Each function of the program is its tree. -/
import Derived.Test.YtghgpadmkdfanaaDoorProg
import Derived.Test.YtghgpadmkdfanaaDoorEvFn
import Derived.Test.YtghgpadmkdfanaaDoorEvTabs
import Derived.Test.YtghgpadmkdfanaaDoorDotLinesPure
namespace Go.Proofs
open Go.Shelf
set_option maxRecDepth 100000
def Tryd.lays176_ren : Go.Shelf.Ren := ⟨fun | 176 => 37 | 249 => 38 | 288 => 39 | 283 => 40 | 284 => 41 | 285 => 42 | 286 => 43 | 129 => 45 | 317 => 44 | 318 => 46 | 319 => 47 | 320 => 48 | 337 => 49 | 338 => 50 | n => n, fun | 37 => 29 | 2 => 2 | 3 => 3 | 53 => 77 | 4 => 4 | 9 => 9 | 171 => 79 | 0 => 0 | 173 => 82 | 212 => 86 | 51 => 87 | 5 => 5 | 20 => 20 | 213 => 88 | 46 => 75 | 232 => 92 | 233 => 93 | n => n, fun | 17 => 0 | 18 => 1 | 19 => 2 | n => n⟩
theorem Tryd.lays176 : Go.Proofs.LaysM.n176 Tryd.prog Tryd.lays176_ren where
  mixed := by kernel_rfl
  f129 := Tryd.func45.trans (congrArg some (by kernel_rfl))
  f176 := Tryd.func37.trans (congrArg some (by kernel_rfl))
  f249 := Tryd.func38.trans (congrArg some (by kernel_rfl))
  f283 := Tryd.func40.trans (congrArg some (by kernel_rfl))
  f284 := Tryd.func41.trans (congrArg some (by kernel_rfl))
  f285 := Tryd.func42.trans (congrArg some (by kernel_rfl))
  f286 := Tryd.func43.trans (congrArg some (by kernel_rfl))
  f288 := Tryd.func39.trans (congrArg some (by kernel_rfl))
  f317 := Tryd.func44.trans (congrArg some (by kernel_rfl))
  f318 := Tryd.func46.trans (congrArg some (by kernel_rfl))
  f319 := Tryd.func47.trans (congrArg some (by kernel_rfl))
  f320 := Tryd.func48.trans (congrArg some (by kernel_rfl))
  f337 := Tryd.func49.trans (congrArg some (by kernel_rfl))
  f338 := Tryd.func50.trans (congrArg some (by kernel_rfl))
  t0 := Tryd.underlying0
  a0 := Tryd.isAgg0
  z0 := Tryd.sizeOf0
  v0 := Tryd.zeroValue0
  t2 := Tryd.underlying2
  a2 := Tryd.isAgg2
  z2 := Tryd.sizeOf2
  v2 := Tryd.zeroValue2
  t3 := Tryd.underlying3
  a3 := Tryd.isAgg3
  z3 := Tryd.sizeOf3
  v3 := Tryd.zeroValue3
  t4 := Tryd.underlying4
  a4 := Tryd.isAgg4
  z4 := Tryd.sizeOf4
  v4 := Tryd.zeroValue4
  t5 := Tryd.underlying5
  a5 := Tryd.isAgg5
  z5 := Tryd.sizeOf5
  v5 := Tryd.zeroValue5
  t9 := Tryd.underlying9
  a9 := Tryd.isAgg9
  z9 := Tryd.sizeOf9
  v9 := Tryd.zeroValue9
  t20 := Tryd.underlying20
  a20 := Tryd.isAgg20
  z20 := Tryd.sizeOf20
  v20 := Tryd.zeroValue20
  t37 := Tryd.underlying29
  a37 := Tryd.isAgg29
  z37 := Tryd.sizeOf29
  v37 := Tryd.zeroValue29
  t46 := Tryd.underlying75
  a46 := Tryd.isAgg75
  z46 := Tryd.sizeOf75
  v46 := Tryd.zeroValue75
  t51 := Tryd.underlying87
  a51 := Tryd.isAgg87
  z51 := Tryd.sizeOf87
  v51 := Tryd.zeroValue87
  t53 := Tryd.underlying77
  a53 := Tryd.isAgg77
  z53 := Tryd.sizeOf77
  v53 := Tryd.zeroValue77
  t171 := Tryd.underlying79
  a171 := Tryd.isAgg79
  z171 := Tryd.sizeOf79
  v171 := Tryd.zeroValue79
  t173 := Tryd.underlying82
  a173 := Tryd.isAgg82
  z173 := Tryd.sizeOf82
  v173 := Tryd.zeroValue82
  t212 := Tryd.underlying86
  a212 := Tryd.isAgg86
  z212 := Tryd.sizeOf86
  v212 := Tryd.zeroValue86
  t213 := Tryd.underlying88
  a213 := Tryd.isAgg88
  z213 := Tryd.sizeOf88
  t232 := Tryd.underlying92
  a232 := Tryd.isAgg92
  z232 := Tryd.sizeOf92
  v232 := Tryd.zeroValue92
  t233 := Tryd.underlying93
  a233 := Tryd.isAgg93
  z233 := Tryd.sizeOf93
  v233 := Tryd.zeroValue93
  g17 := by kernel_rfl
  g18 := by kernel_rfl
  g19 := by kernel_rfl
  i0 := by kernel_rfl
  i2 := by kernel_rfl
  i3 := by kernel_rfl
  i4 := by kernel_rfl
  i5 := by kernel_rfl
  i9 := by kernel_rfl
  i20 := by kernel_rfl
  i37 := by kernel_rfl
  i46 := by kernel_rfl
  i51 := by kernel_rfl
  i53 := by kernel_rfl
  i171 := by kernel_rfl
  i173 := by kernel_rfl
  i212 := by kernel_rfl
  i232 := by kernel_rfl
  i233 := by kernel_rfl
  m17 := by kernel_rfl
  m18 := by kernel_rfl
  m19 := by kernel_rfl
end Go.Proofs
namespace Go.Ev
open Go.Proofs
noncomputable section
set_option linter.unusedVariables false
set_option linter.unusedSimpArgs false
set_option maxRecDepth 100000
set_option maxHeartbeats 4000000

variable [TabG] [TabsHold Tryd.prog]
set_option linter.unusedSectionVars false

instance : LoopG := ⟨fun k => rfOf Tryd.prog k⟩

theorem wide : Tables.follows Tryd.prog.toTables .mixedOrders = true := by kernel_rfl

def G0 : FuncId → Option Sum := fun _ => none
theorem right_G0 : Right Tryd.prog G0 := fun f S h => by cases h

def T_tutorref03_Big : FuncId → Option Sum := G0

theorem right_T_tutorref03_Big : Right Tryd.prog T_tutorref03_Big := right_G0

abbrev cuts_tutorref03_Big : Cuts := []

theorem gentry_tutorref03_Big {R : Type} (K : AV → List O → Option R) (m m_1 m_2 m_3 : Int) (m_4 m_5 : List Int) (states : Int) :
    fnRun Tryd.prog T_tutorref03_Big cuts_tutorref03_Big Tryd.f6 0 [.agg [.v (.int .i64 m), .v (.int .i64 m_1), .v (.int .i64 m_2), .v (.int .i64 m_3), .rd ⟨false, 3, (.int .i64), m_4⟩, .rd ⟨false, 3, (.int .i64), m_5⟩], .v (.int .i64 states)] [] K =
    (fun (m m_1 m_2 m_3 : Int) (m_4 m_5 : List Int) (states : Int) (K0 : Bool → Option R) =>
    bi (decide (m_3 > states))
     (K0 true)
     (bi (decide ((m_4.length : Int) > 70000))
      (K0 true)
      (K0 (decide ((m_5.length : Int) > 70000))))) m m_1 m_2 m_3 m_4 m_5 states (fun r0 => K (.v (.bool r0)) []) := by kernel_rfl

def S_tutorref03_Big (l_tutorref03_Big : LT_tutorref03_Big) : Sum := ⟨[], fun {R} args ob K => match args, ob with
  | [.agg [.v (.int .i64 m), .v (.int .i64 m_1), .v (.int .i64 m_2), .v (.int .i64 m_3), .rd ⟨false, 3, (.int .i64), m_4⟩, .rd ⟨false, 3, (.int .i64), m_5⟩], .v (.int .i64 states)], [] => l_tutorref03_Big m m_1 m_2 m_3 m_4 m_5 states (fun r0 => K (.v (.bool r0)) [])
  | _, _ => none⟩

theorem sound_tutorref03_Big : Sound Tryd.prog 6 (S_tutorref03_Big @l_tutorref03_Big) := by
  refine fn_sound (cuts := cuts_tutorref03_Big) (fn := Tryd.f6) (Γ := T_tutorref03_Big) wide right_T_tutorref03_Big Tryd.func6 fun {R} K r args ob h => ?_
  unfold S_tutorref03_Big at h
  dsimp only at h
  split at h
  · exact ⟨Nat.le_of_ble_eq_true (by kernel_rfl), 0, (gentry_tutorref03_Big K _ _ _ _ _ _ _).trans h⟩
  · cases h

theorem call_tutorref03_Big : Callable Tryd.prog 6 := ⟨_, Tryd.func6, by kernel_rfl, by kernel_rfl⟩

def T_machine_says : FuncId → Option Sum := G0

theorem right_T_machine_says : Right Tryd.prog T_machine_says := right_G0

abbrev cuts_machine_says : Cuts := []

theorem gentry_machine_says {R : Type} (K : AV → List O → Option R) (m m_1 m_2 m_3 : Int) (m_4 m_5 : List Int) :
    fnRun Tryd.prog T_machine_says cuts_machine_says Tryd.f36 0 [.agg [.v (.int .i64 m), .v (.int .i64 m_1), .v (.int .i64 m_2), .v (.int .i64 m_3), .rd ⟨false, 3, (.int .i64), m_4⟩, .rd ⟨false, 3, (.int .i64), m_5⟩]] [] K =
    (fun (m m_1 m_2 m_3 : Int) (m_4 m_5 : List Int) (K0 : Int → Option R) =>
    bi (m == 1)
     (K0 m_3)
     (K0 (IntKind.i64.wrap (m_3 * m_1)))) m m_1 m_2 m_3 m_4 m_5 (fun r0 => K (.v (.int .i64 r0)) []) := by kernel_rfl

def S_machine_says (l_machine_says : LT_machine_says) : Sum := ⟨[], fun {R} args ob K => match args, ob with
  | [.agg [.v (.int .i64 m), .v (.int .i64 m_1), .v (.int .i64 m_2), .v (.int .i64 m_3), .rd ⟨false, 3, (.int .i64), m_4⟩, .rd ⟨false, 3, (.int .i64), m_5⟩]], [] => l_machine_says m m_1 m_2 m_3 m_4 m_5 (fun r0 => K (.v (.int .i64 r0)) [])
  | _, _ => none⟩

theorem sound_machine_says : Sound Tryd.prog 36 (S_machine_says @l_machine_says) := by
  refine fn_sound (cuts := cuts_machine_says) (fn := Tryd.f36) (Γ := T_machine_says) wide right_T_machine_says Tryd.func36 fun {R} K r args ob h => ?_
  unfold S_machine_says at h
  dsimp only at h
  split at h
  · exact ⟨Nat.le_of_ble_eq_true (by kernel_rfl), 0, (gentry_machine_says K _ _ _ _ _ _).trans h⟩
  · cases h

theorem call_machine_says : Callable Tryd.prog 36 := ⟨_, Tryd.func36, by kernel_rfl, by kernel_rfl⟩

def T_machine_head (l_machine_says : LT_machine_says) : FuncId → Option Sum := (addS G0 36 (S_machine_says @l_machine_says))

theorem right_T_machine_head : Right Tryd.prog (T_machine_head @l_machine_says) := (right_add right_G0 call_machine_says sound_machine_says)

abbrev cuts_machine_head : Cuts := []

theorem gentry_machine_head (l_machine_says : LT_machine_says) {R : Type} (K : AV → List O → Option R) (m m_1 m_2 m_3 : Int) (m_4 m_5 : List Int) :
    fnRun Tryd.prog (T_machine_head @l_machine_says) cuts_machine_head Tryd.f28 0 [.agg [.v (.int .i64 m), .v (.int .i64 m_1), .v (.int .i64 m_2), .v (.int .i64 m_3), .rd ⟨false, 3, (.int .i64), m_4⟩, .rd ⟨false, 3, (.int .i64), m_5⟩]] [] K =
    (fun (m m_1 m_2 m_3 : Int) (m_4 m_5 : List Int) (K0 : Int → Option R) =>
    bi (m != 1)
     (bi (m != 2)
      (K0 30)
      (bi (decide (m_1 < 1))
       (K0 1)
       (bi (decide (m_1 > 64))
        (K0 1)
        (bi (m == 1)
         (bi (m_2 != 2)
          (K0 33)
          (bi (decide (m_2 < 1))
           (K0 33)
           (bi (decide (m_2 > 64))
            (K0 33)
            (bi (decide (m_3 < 1))
             (K0 3)
             (bi (decide (m_3 > 1024))
              (K0 3)
              (bi ((m_4.length : Int) != (IntKind.i64.wrap (m_3 * m_1)))
               (K0 31)
               (l_machine_says m m_1 m_2 m_3 m_4 m_5
                (fun r1 =>
                 bi ((m_5.length : Int) != r1)
                  (K0 31)
                  (K0 0)))))))))
         (bi (decide (m_2 < 1))
          (K0 33)
          (bi (decide (m_2 > 64))
           (K0 33)
           (bi (decide (m_3 < 1))
            (K0 3)
            (bi (decide (m_3 > 1024))
             (K0 3)
             (bi ((m_4.length : Int) != (IntKind.i64.wrap (m_3 * m_1)))
              (K0 31)
              (l_machine_says m m_1 m_2 m_3 m_4 m_5
               (fun r2 =>
                bi ((m_5.length : Int) != r2)
                 (K0 31)
                 (K0 0))))))))))))
     (bi (decide (m_1 < 1))
      (K0 1)
      (bi (decide (m_1 > 64))
       (K0 1)
       (bi (m == 1)
        (bi (m_2 != 2)
         (K0 33)
         (bi (decide (m_2 < 1))
          (K0 33)
          (bi (decide (m_2 > 64))
           (K0 33)
           (bi (decide (m_3 < 1))
            (K0 3)
            (bi (decide (m_3 > 1024))
             (K0 3)
             (bi ((m_4.length : Int) != (IntKind.i64.wrap (m_3 * m_1)))
              (K0 31)
              (l_machine_says m m_1 m_2 m_3 m_4 m_5
               (fun r3 =>
                bi ((m_5.length : Int) != r3)
                 (K0 31)
                 (K0 0)))))))))
        (bi (decide (m_2 < 1))
         (K0 33)
         (bi (decide (m_2 > 64))
          (K0 33)
          (bi (decide (m_3 < 1))
           (K0 3)
           (bi (decide (m_3 > 1024))
            (K0 3)
            (bi ((m_4.length : Int) != (IntKind.i64.wrap (m_3 * m_1)))
             (K0 31)
             (l_machine_says m m_1 m_2 m_3 m_4 m_5
              (fun r4 =>
               bi ((m_5.length : Int) != r4)
                (K0 31)
                (K0 0)))))))))))) m m_1 m_2 m_3 m_4 m_5 (fun r0 => K (.v (.int .i64 r0)) []) := by kernel_rfl

def S_machine_head (l_machine_head : LT_machine_head) : Sum := ⟨[], fun {R} args ob K => match args, ob with
  | [.agg [.v (.int .i64 m), .v (.int .i64 m_1), .v (.int .i64 m_2), .v (.int .i64 m_3), .rd ⟨false, 3, (.int .i64), m_4⟩, .rd ⟨false, 3, (.int .i64), m_5⟩]], [] => l_machine_head m m_1 m_2 m_3 m_4 m_5 (fun r0 => K (.v (.int .i64 r0)) [])
  | _, _ => none⟩

theorem sound_machine_head : Sound Tryd.prog 28 (S_machine_head @l_machine_head) := by
  refine fn_sound (cuts := cuts_machine_head) (fn := Tryd.f28) (Γ := (T_machine_head @l_machine_says)) wide right_T_machine_head Tryd.func28 fun {R} K r args ob h => ?_
  unfold S_machine_head at h
  dsimp only at h
  split at h
  · exact ⟨Nat.le_of_ble_eq_true (by kernel_rfl), 0, (gentry_machine_head @l_machine_says K _ _ _ _ _ _).trans h⟩
  · cases h

theorem call_machine_head : Callable Tryd.prog 28 := ⟨_, Tryd.func28, by kernel_rfl, by kernel_rfl⟩

def T_machine_beyond : FuncId → Option Sum := G0

theorem right_T_machine_beyond : Right Tryd.prog T_machine_beyond := right_G0

abbrev cuts_machine_beyond : Cuts := [(2, [0, 1, 7, 8])]

abbrev sta_machine_beyond_2 (l : List Int) (n x7 x8 : Int) : St := ⟨fr0 21 [(0, .rd ⟨false, 3, (.int .i64), l⟩), (1, .v (.int .i64 n)), (7, .v (.int .i64 x7)), (8, .v (.int .i64 x8))], []⟩

abbrev gt_machine_beyond_2 {R : Type} (g : List Item → St → Option R) : GT_machine_beyond_2 R := fun (l : List Int) (n x7 x8 : Int) => g (at' Tryd.f29 2) (sta_machine_beyond_2 l n x7 x8)

theorem gstep_machine_beyond_2 {R : Type} (g : List Item → St → Option R) (K : AV → List O → Option R) (l : List Int) (n x7 x8 : Int) :
    runSeg Tryd.prog T_machine_beyond cuts_machine_beyond 0 g (finish Tryd.prog Tryd.f29 0 K) (at' Tryd.f29 2) (sta_machine_beyond_2 l n x7 x8) =
    (fun (g29_2 : GT_machine_beyond_2 R) (K0 : Int → Option R) (l : List Int) (n x7 x8 : Int) =>
    bi (decide (x8 < x7))
     (bi (decide (0 ≤ x8 ∧ x8 < ((l.length : Nat) : Int)))
      (bi (decide ((IntKind.u64.wrap (l.getD x8.toNat 0)) ≥ (IntKind.u64.wrap n)))
       (K0 x8)
       (g29_2 l n x7 (IntKind.i64.wrap (x8 + 1))))
      none)
     (K0 (-1))) (gt_machine_beyond_2 g) (fun r0 => K (.v (.int .i64 r0)) []) l n x7 x8 := by kernel_rfl

theorem gentry_machine_beyond {R : Type} (fuel : Nat) (K : AV → List O → Option R) (l : List Int) (n : Int) :
    fnRun Tryd.prog T_machine_beyond cuts_machine_beyond Tryd.f29 fuel [.rd ⟨false, 3, (.int .i64), l⟩, .v (.int .i64 n)] [] K =
    (fun (g29_2 : GT_machine_beyond_2 R) (K0 : Int → Option R) (l : List Int) (n : Int) =>
    g29_2 l n (l.length : Int) 0) (gt_machine_beyond_2 (runO Tryd.prog T_machine_beyond cuts_machine_beyond 0 (finish Tryd.prog Tryd.f29 0 K) fuel)) (fun r0 => K (.v (.int .i64 r0)) []) l n := by kernel_rfl

theorem runs_machine_beyond {R : Type} (K : AV → List O → Option R) : ∀ fuel : Nat,
    (gt_machine_beyond_2 (runO Tryd.prog T_machine_beyond cuts_machine_beyond 0 (finish Tryd.prog Tryd.f29 0 K) fuel)) = (run_machine_beyond (fun r0 => K (.v (.int .i64 r0)) []) fuel)
  | 0 => rfl
  | fuel + 1 => by
    have ih := runs_machine_beyond K fuel
    funext l n x7 x8
    refine (gstep_machine_beyond_2 _ K l n x7 x8).trans ?_
    rw [ih]
    rfl

def S_machine_beyond (l_machine_beyond : LT_machine_beyond) : Sum := ⟨[], fun {R} args ob K => match args, ob with
  | [.rd ⟨false, 3, (.int .i64), l⟩, .v (.int .i64 n)], [] => l_machine_beyond l n (fun r0 => K (.v (.int .i64 r0)) [])
  | _, _ => none⟩

theorem sound_machine_beyond : Sound Tryd.prog 29 (S_machine_beyond @l_machine_beyond) := by
  refine fn_sound (cuts := cuts_machine_beyond) (fn := Tryd.f29) (Γ := T_machine_beyond) wide right_T_machine_beyond Tryd.func29 fun {R} K r args ob h => ?_
  unfold S_machine_beyond at h
  dsimp only at h
  split at h
  · obtain ⟨n, hn⟩ := ok_machine_beyond _ _ _ h
    refine ⟨Nat.le_of_ble_eq_true (by kernel_rfl), n, (gentry_machine_beyond n K _ _).trans ?_⟩
    rw [(runs_machine_beyond K n)]
    exact hn
  · cases h

theorem call_machine_beyond : Callable Tryd.prog 29 := ⟨_, Tryd.func29, by kernel_rfl, by kernel_rfl⟩

def T_machine_Check (l_machine_beyond : LT_machine_beyond) (l_machine_head : LT_machine_head) : FuncId → Option Sum := (addS (addS G0 29 (S_machine_beyond @l_machine_beyond)) 28 (S_machine_head @l_machine_head))

theorem right_T_machine_Check : Right Tryd.prog (T_machine_Check @l_machine_beyond @l_machine_head) := (right_add (right_add right_G0 call_machine_beyond sound_machine_beyond) call_machine_head sound_machine_head)

abbrev cuts_machine_Check : Cuts := []

theorem gentry_machine_Check (l_machine_beyond : LT_machine_beyond) (l_machine_head : LT_machine_head) {R : Type} (K : AV → List O → Option R) (m m_1 m_2 m_3 : Int) (m_4 m_5 : List Int) :
    fnRun Tryd.prog (T_machine_Check @l_machine_beyond @l_machine_head) cuts_machine_Check Tryd.f16 0 [.agg [.v (.int .i64 m), .v (.int .i64 m_1), .v (.int .i64 m_2), .v (.int .i64 m_3), .rd ⟨false, 3, (.int .i64), m_4⟩, .rd ⟨false, 3, (.int .i64), m_5⟩]] [] K =
    (fun (m m_1 m_2 m_3 : Int) (m_4 m_5 : List Int) (K0 : Int → Int → Option R) =>
    l_machine_head m m_1 m_2 m_3 m_4 m_5
     (fun r1 =>
      bi (r1 != 0)
       (K0 0 r1)
       (l_machine_beyond m_4 m_3
        (fun r2 =>
         bi (decide (r2 ≥ 0))
          (K0 r2 32)
          (l_machine_beyond m_5 m_2
           (fun r3 =>
            bi (decide (r3 ≥ 0))
             (K0 r3 33)
             (K0 0 0))))))) m m_1 m_2 m_3 m_4 m_5 (fun r0 r1 => K (.tup [.v (.int .i64 r0), .v (.int .i64 r1)]) []) := by kernel_rfl

def S_machine_Check (l_machine_Check : LT_machine_Check) : Sum := ⟨[], fun {R} args ob K => match args, ob with
  | [.agg [.v (.int .i64 m), .v (.int .i64 m_1), .v (.int .i64 m_2), .v (.int .i64 m_3), .rd ⟨false, 3, (.int .i64), m_4⟩, .rd ⟨false, 3, (.int .i64), m_5⟩]], [] => l_machine_Check m m_1 m_2 m_3 m_4 m_5 (fun r0 r1 => K (.tup [.v (.int .i64 r0), .v (.int .i64 r1)]) [])
  | _, _ => none⟩

theorem sound_machine_Check : Sound Tryd.prog 16 (S_machine_Check @l_machine_Check) := by
  refine fn_sound (cuts := cuts_machine_Check) (fn := Tryd.f16) (Γ := (T_machine_Check @l_machine_beyond @l_machine_head)) wide right_T_machine_Check Tryd.func16 fun {R} K r args ob h => ?_
  unfold S_machine_Check at h
  dsimp only at h
  split at h
  · exact ⟨Nat.le_of_ble_eq_true (by kernel_rfl), 0, (gentry_machine_Check @l_machine_beyond @l_machine_head K _ _ _ _ _ _).trans h⟩
  · cases h

theorem call_machine_Check : Callable Tryd.prog 16 := ⟨_, Tryd.func16, by kernel_rfl, by kernel_rfl⟩

def T_unicode_utf8_ValidRune : FuncId → Option Sum := G0

theorem right_T_unicode_utf8_ValidRune : Right Tryd.prog T_unicode_utf8_ValidRune := right_G0

abbrev cuts_unicode_utf8_ValidRune : Cuts := []

theorem gentry_unicode_utf8_ValidRune {R : Type} (K : AV → List O → Option R) (r : Int) :
    fnRun Tryd.prog T_unicode_utf8_ValidRune cuts_unicode_utf8_ValidRune Tryd.f24 0 [.v (.int .i32 r)] [] K =
    (fun (r : Int) (K0 : Bool → Option R) =>
    bi (decide (0 ≤ r))
     (bi (decide (r < 55296))
      (K0 true)
      (bi (decide (57343 < r))
       (bi (decide (r ≤ 1114111))
        (K0 true)
        (K0 false))
       (K0 false)))
     (bi (decide (57343 < r))
      (bi (decide (r ≤ 1114111))
       (K0 true)
       (K0 false))
      (K0 false))) r (fun r0 => K (.v (.bool r0)) []) := by kernel_rfl

def S_unicode_utf8_ValidRune (l_unicode_utf8_ValidRune : LT_unicode_utf8_ValidRune) : Sum := ⟨[], fun {R} args ob K => match args, ob with
  | [.v (.int .i32 r)], [] => l_unicode_utf8_ValidRune r (fun r0 => K (.v (.bool r0)) [])
  | _, _ => none⟩

theorem sound_unicode_utf8_ValidRune : Sound Tryd.prog 24 (S_unicode_utf8_ValidRune @l_unicode_utf8_ValidRune) := by
  refine fn_sound (cuts := cuts_unicode_utf8_ValidRune) (fn := Tryd.f24) (Γ := T_unicode_utf8_ValidRune) wide right_T_unicode_utf8_ValidRune Tryd.func24 fun {R} K r args ob h => ?_
  unfold S_unicode_utf8_ValidRune at h
  dsimp only at h
  split at h
  · exact ⟨Nat.le_of_ble_eq_true (by kernel_rfl), 0, (gentry_unicode_utf8_ValidRune K _).trans h⟩
  · cases h

theorem call_unicode_utf8_ValidRune : Callable Tryd.prog 24 := ⟨_, Tryd.func24, by kernel_rfl, by kernel_rfl⟩

def T_dot_Label (l_unicode_utf8_ValidRune : LT_unicode_utf8_ValidRune) : FuncId → Option Sum := (addS G0 24 (S_unicode_utf8_ValidRune @l_unicode_utf8_ValidRune))

theorem right_T_dot_Label : Right Tryd.prog (T_dot_Label @l_unicode_utf8_ValidRune) := (right_add right_G0 call_unicode_utf8_ValidRune sound_unicode_utf8_ValidRune)

abbrev cuts_dot_Label : Cuts := []

theorem gentry_dot_Label (l_unicode_utf8_ValidRune : LT_unicode_utf8_ValidRune) {R : Type} (K : AV → List O → Option R) (names : List Int) (x : Int) :
    fnRun Tryd.prog (T_dot_Label @l_unicode_utf8_ValidRune) cuts_dot_Label Tryd.f11 0 [.rd ⟨false, 21, (.int .i32), names⟩, .v (.int .i64 x)] [] K =
    (fun (names : List Int) (x : Int) (K0 : ByteArray → Int → Option R) =>
    bi (decide (x < 0))
     (K0 ByteArray.empty 10)
     (bi (decide (x ≥ (names.length : Int)))
      (K0 ByteArray.empty 10)
      (bi (decide (0 ≤ x ∧ x < ((names.length : Nat) : Int)))
       (l_unicode_utf8_ValidRune (names.getD x.toNat 0)
        (fun r1 =>
         bi (!r1)
          (K0 ByteArray.empty 20)
          (bi (decide ((names.getD x.toNat 0) < 33))
           (K0 ByteArray.empty 20)
           (bi ((names.getD x.toNat 0) == 127)
            (K0 ByteArray.empty 20)
            (bi ((names.getD x.toNat 0) == 34)
             (bi (catOk (ByteArray.mk #[92]) (Utf8.encode (names.getD x.toNat 0)))
              (K0 ((ByteArray.mk #[92]) ++ (Utf8.encode (names.getD x.toNat 0))) 0)
              none)
             (bi ((names.getD x.toNat 0) == 92)
              (bi (catOk (ByteArray.mk #[92]) (Utf8.encode (names.getD x.toNat 0)))
               (K0 ((ByteArray.mk #[92]) ++ (Utf8.encode (names.getD x.toNat 0))) 0)
               none)
              (K0 (Utf8.encode (names.getD x.toNat 0)) 0)))))))
       none))) names x (fun r0 r1 => K (.tup [.v (.string r0), .v (.int .i64 r1)]) []) := by kernel_rfl

def S_dot_Label (l_dot_Label : LT_dot_Label) : Sum := ⟨[], fun {R} args ob K => match args, ob with
  | [.rd ⟨false, 21, (.int .i32), names⟩, .v (.int .i64 x)], [] => l_dot_Label names x (fun r0 r1 => K (.tup [.v (.string r0), .v (.int .i64 r1)]) [])
  | _, _ => none⟩

theorem sound_dot_Label : Sound Tryd.prog 11 (S_dot_Label @l_dot_Label) := by
  refine fn_sound (cuts := cuts_dot_Label) (fn := Tryd.f11) (Γ := (T_dot_Label @l_unicode_utf8_ValidRune)) wide right_T_dot_Label Tryd.func11 fun {R} K r args ob h => ?_
  unfold S_dot_Label at h
  dsimp only at h
  split at h
  · exact ⟨Nat.le_of_ble_eq_true (by kernel_rfl), 0, (gentry_dot_Label @l_unicode_utf8_ValidRune K _ _).trans h⟩
  · cases h

theorem call_dot_Label : Callable Tryd.prog 11 := ⟨_, Tryd.func11, by kernel_rfl, by kernel_rfl⟩

def T_dot_pen_line : FuncId → Option Sum := G0

theorem right_T_dot_pen_line : Right Tryd.prog T_dot_pen_line := right_G0

abbrev cuts_dot_pen_line_fdot_Dot_2 : Cuts := [(2, [0, 15, 16, 17])]

abbrev sta_dot_pen_line_fdot_Dot_2_2 (x15 : List ByteArray) (x16 x17 : Int) (o3 : List ByteArray) (o4 o4_1 o4_2 o4_3 : Int) (o4_4 o4_5 o5 : List Int) : St := ⟨fr0 40 [(0, .ptr 0 0), (15, .rd ⟨false, 9, .str, x15⟩), (16, .v (.int .i64 x16)), (17, .v (.int .i64 x17))], [.box 53 [.own 5, .clo 18 [.ptr 2 0, .ptr 4 0]], .gone, .box 47 [.own 3], .row ⟨false, 9, .str, o3⟩, .box 24 [.v (.int .i64 o4), .v (.int .i64 o4_1), .v (.int .i64 o4_2), .v (.int .i64 o4_3), .rd ⟨false, 3, (.int .i64), o4_4⟩, .rd ⟨false, 3, (.int .i64), o4_5⟩], .row ⟨false, 5, (.int .u8), o5⟩]⟩

abbrev gt_dot_pen_line_fdot_Dot_2_2 {R : Type} (g : List Item → St → Option R) : GT_dot_pen_line_fdot_Dot_2_2 R := fun (x15 : List ByteArray) (x16 x17 : Int) (o3 : List ByteArray) (o4 o4_1 o4_2 o4_3 : Int) (o4_4 o4_5 o5 : List Int) => g (at' Tryd.f20 2) (sta_dot_pen_line_fdot_Dot_2_2 x15 x16 x17 o3 o4 o4_1 o4_2 o4_3 o4_4 o4_5 o5)

theorem gstep_dot_pen_line_fdot_Dot_2_2 {R : Type} (g : List Item → St → Option R) (K : AV → List O → Option R) (x15 : List ByteArray) (x16 x17 : Int) (o3 : List ByteArray) (o4 o4_1 o4_2 o4_3 : Int) (o4_4 o4_5 o5 : List Int) :
    runSeg Tryd.prog T_dot_pen_line cuts_dot_pen_line_fdot_Dot_2 5 g (finish Tryd.prog Tryd.f20 5 K) (at' Tryd.f20 2) (sta_dot_pen_line_fdot_Dot_2_2 x15 x16 x17 o3 o4 o4_1 o4_2 o4_3 o4_4 o4_5 o5) =
    (fun (g20_2 : GT_dot_pen_line_fdot_Dot_2_2 R) (K0 : (List ByteArray) → Int → Int → Int → Int → (List Int) → (List Int) → (List Int) → Option R) (x15 : List ByteArray) (x16 x17 : Int) (o3 : List ByteArray) (o4 o4_1 o4_2 o4_3 : Int) (o4_4 o4_5 o5 : List Int) =>
    bi (decide (x17 < x16))
     (bi (decide (0 ≤ x17 ∧ x17 < ((x15.length : Nat) : Int)))
      (bi (decide ((o5.length + (bts (x15.getD x17.toNat ByteArray.empty)).length) * 1 ≤ lim))
       (g20_2 x15 x16 (IntKind.i64.wrap (x17 + 1)) o3 o4 o4_1 o4_2 o4_3 o4_4 o4_5 (o5 ++ (bts (x15.getD x17.toNat ByteArray.empty))))
       none)
      none)
     (bi (decide ((o5.length + [10].length) * 1 ≤ lim))
      (K0 o3 o4 o4_1 o4_2 o4_3 o4_4 o4_5 (o5 ++ [10]))
      none)) (gt_dot_pen_line_fdot_Dot_2_2 g) (fun r0 r1 r2 r3 r4 r5 r6 r7 => K (.tup []) [.box 53 [.own 5, .clo 18 [.ptr 2 0, .ptr 4 0]], .gone, .box 47 [.own 3], .row ⟨false, 9, .str, r0⟩, .box 24 [.v (.int .i64 r1), .v (.int .i64 r2), .v (.int .i64 r3), .v (.int .i64 r4), .rd ⟨false, 3, (.int .i64), r5⟩, .rd ⟨false, 3, (.int .i64), r6⟩], .row ⟨false, 5, (.int .u8), r7⟩]) x15 x16 x17 o3 o4 o4_1 o4_2 o4_3 o4_4 o4_5 o5 := by kernel_rfl

theorem gentry_dot_pen_line_fdot_Dot_2 {R : Type} (fuel : Nat) (K : AV → List O → Option R) (l : List ByteArray) (o1 : List Int) (o3 : List ByteArray) (o4 o4_1 o4_2 o4_3 : Int) (o4_4 o4_5 : List Int) :
    fnRun Tryd.prog T_dot_pen_line cuts_dot_pen_line_fdot_Dot_2 Tryd.f20 fuel [.ptr 0 0, .rd ⟨false, 9, .str, l⟩] [.box 53 [.own 1, .clo 18 [.ptr 2 0, .ptr 4 0]], .row ⟨false, 5, (.int .u8), o1⟩, .box 47 [.own 3], .row ⟨false, 9, .str, o3⟩, .box 24 [.v (.int .i64 o4), .v (.int .i64 o4_1), .v (.int .i64 o4_2), .v (.int .i64 o4_3), .rd ⟨false, 3, (.int .i64), o4_4⟩, .rd ⟨false, 3, (.int .i64), o4_5⟩]] K =
    (fun (g20_2 : GT_dot_pen_line_fdot_Dot_2_2 R) (K0 : (List ByteArray) → Int → Int → Int → Int → (List Int) → (List Int) → (List Int) → Option R) (l : List ByteArray) (o1 : List Int) (o3 : List ByteArray) (o4 o4_1 o4_2 o4_3 : Int) (o4_4 o4_5 : List Int) =>
    bi (decide ((o1.length + [32, 32].length) * 1 ≤ lim))
     (g20_2 l (l.length : Int) 0 o3 o4 o4_1 o4_2 o4_3 o4_4 o4_5 (o1 ++ [32, 32]))
     none) (gt_dot_pen_line_fdot_Dot_2_2 (runO Tryd.prog T_dot_pen_line cuts_dot_pen_line_fdot_Dot_2 5 (finish Tryd.prog Tryd.f20 5 K) fuel)) (fun r0 r1 r2 r3 r4 r5 r6 r7 => K (.tup []) [.box 53 [.own 5, .clo 18 [.ptr 2 0, .ptr 4 0]], .gone, .box 47 [.own 3], .row ⟨false, 9, .str, r0⟩, .box 24 [.v (.int .i64 r1), .v (.int .i64 r2), .v (.int .i64 r3), .v (.int .i64 r4), .rd ⟨false, 3, (.int .i64), r5⟩, .rd ⟨false, 3, (.int .i64), r6⟩], .row ⟨false, 5, (.int .u8), r7⟩]) l o1 o3 o4 o4_1 o4_2 o4_3 o4_4 o4_5 := by kernel_rfl

theorem runs_dot_pen_line_fdot_Dot_2 {R : Type} (K : AV → List O → Option R) : ∀ fuel : Nat,
    (gt_dot_pen_line_fdot_Dot_2_2 (runO Tryd.prog T_dot_pen_line cuts_dot_pen_line_fdot_Dot_2 5 (finish Tryd.prog Tryd.f20 5 K) fuel)) = (run_dot_pen_line_fdot_Dot_2 (fun r0 r1 r2 r3 r4 r5 r6 r7 => K (.tup []) [.box 53 [.own 5, .clo 18 [.ptr 2 0, .ptr 4 0]], .gone, .box 47 [.own 3], .row ⟨false, 9, .str, r0⟩, .box 24 [.v (.int .i64 r1), .v (.int .i64 r2), .v (.int .i64 r3), .v (.int .i64 r4), .rd ⟨false, 3, (.int .i64), r5⟩, .rd ⟨false, 3, (.int .i64), r6⟩], .row ⟨false, 5, (.int .u8), r7⟩]) fuel)
  | 0 => rfl
  | fuel + 1 => by
    have ih := runs_dot_pen_line_fdot_Dot_2 K fuel
    funext x15 x16 x17 o3 o4 o4_1 o4_2 o4_3 o4_4 o4_5 o5
    refine (gstep_dot_pen_line_fdot_Dot_2_2 _ K x15 x16 x17 o3 o4 o4_1 o4_2 o4_3 o4_4 o4_5 o5).trans ?_
    rw [ih]
    rfl

abbrev cuts_dot_pen_line_fdot_Dot_1 : Cuts := [(2, [0, 15, 16, 17])]

abbrev sta_dot_pen_line_fdot_Dot_1_2 (x15 : List ByteArray) (x16 x17 : Int) (o3 : List ByteArray) (o4 : List Int) : St := ⟨fr0 40 [(0, .ptr 0 0), (15, .rd ⟨false, 9, .str, x15⟩), (16, .v (.int .i64 x16)), (17, .v (.int .i64 x17))], [.box 53 [.own 4, .clo 17 [.ptr 2 0]], .gone, .box 47 [.own 3], .row ⟨false, 9, .str, o3⟩, .row ⟨false, 5, (.int .u8), o4⟩]⟩

abbrev gt_dot_pen_line_fdot_Dot_1_2 {R : Type} (g : List Item → St → Option R) : GT_dot_pen_line_fdot_Dot_1_2 R := fun (x15 : List ByteArray) (x16 x17 : Int) (o3 : List ByteArray) (o4 : List Int) => g (at' Tryd.f20 2) (sta_dot_pen_line_fdot_Dot_1_2 x15 x16 x17 o3 o4)

theorem gstep_dot_pen_line_fdot_Dot_1_2 {R : Type} (g : List Item → St → Option R) (K : AV → List O → Option R) (x15 : List ByteArray) (x16 x17 : Int) (o3 : List ByteArray) (o4 : List Int) :
    runSeg Tryd.prog T_dot_pen_line cuts_dot_pen_line_fdot_Dot_1 4 g (finish Tryd.prog Tryd.f20 4 K) (at' Tryd.f20 2) (sta_dot_pen_line_fdot_Dot_1_2 x15 x16 x17 o3 o4) =
    (fun (g20b_2 : GT_dot_pen_line_fdot_Dot_1_2 R) (K0 : (List ByteArray) → (List Int) → Option R) (x15 : List ByteArray) (x16 x17 : Int) (o3 : List ByteArray) (o4 : List Int) =>
    bi (decide (x17 < x16))
     (bi (decide (0 ≤ x17 ∧ x17 < ((x15.length : Nat) : Int)))
      (bi (decide ((o4.length + (bts (x15.getD x17.toNat ByteArray.empty)).length) * 1 ≤ lim))
       (g20b_2 x15 x16 (IntKind.i64.wrap (x17 + 1)) o3 (o4 ++ (bts (x15.getD x17.toNat ByteArray.empty))))
       none)
      none)
     (bi (decide ((o4.length + [10].length) * 1 ≤ lim))
      (K0 o3 (o4 ++ [10]))
      none)) (gt_dot_pen_line_fdot_Dot_1_2 g) (fun r0 r1 => K (.tup []) [.box 53 [.own 4, .clo 17 [.ptr 2 0]], .gone, .box 47 [.own 3], .row ⟨false, 9, .str, r0⟩, .row ⟨false, 5, (.int .u8), r1⟩]) x15 x16 x17 o3 o4 := by kernel_rfl

theorem gentry_dot_pen_line_fdot_Dot_1 {R : Type} (fuel : Nat) (K : AV → List O → Option R) (l : List ByteArray) (o1 : List Int) (o3 : List ByteArray) :
    fnRun Tryd.prog T_dot_pen_line cuts_dot_pen_line_fdot_Dot_1 Tryd.f20 fuel [.ptr 0 0, .rd ⟨false, 9, .str, l⟩] [.box 53 [.own 1, .clo 17 [.ptr 2 0]], .row ⟨false, 5, (.int .u8), o1⟩, .box 47 [.own 3], .row ⟨false, 9, .str, o3⟩] K =
    (fun (g20b_2 : GT_dot_pen_line_fdot_Dot_1_2 R) (K0 : (List ByteArray) → (List Int) → Option R) (l : List ByteArray) (o1 : List Int) (o3 : List ByteArray) =>
    bi (decide ((o1.length + [32, 32].length) * 1 ≤ lim))
     (g20b_2 l (l.length : Int) 0 o3 (o1 ++ [32, 32]))
     none) (gt_dot_pen_line_fdot_Dot_1_2 (runO Tryd.prog T_dot_pen_line cuts_dot_pen_line_fdot_Dot_1 4 (finish Tryd.prog Tryd.f20 4 K) fuel)) (fun r0 r1 => K (.tup []) [.box 53 [.own 4, .clo 17 [.ptr 2 0]], .gone, .box 47 [.own 3], .row ⟨false, 9, .str, r0⟩, .row ⟨false, 5, (.int .u8), r1⟩]) l o1 o3 := by kernel_rfl

theorem runs_dot_pen_line_fdot_Dot_1 {R : Type} (K : AV → List O → Option R) : ∀ fuel : Nat,
    (gt_dot_pen_line_fdot_Dot_1_2 (runO Tryd.prog T_dot_pen_line cuts_dot_pen_line_fdot_Dot_1 4 (finish Tryd.prog Tryd.f20 4 K) fuel)) = (run_dot_pen_line_fdot_Dot_1 (fun r0 r1 => K (.tup []) [.box 53 [.own 4, .clo 17 [.ptr 2 0]], .gone, .box 47 [.own 3], .row ⟨false, 9, .str, r0⟩, .row ⟨false, 5, (.int .u8), r1⟩]) fuel)
  | 0 => rfl
  | fuel + 1 => by
    have ih := runs_dot_pen_line_fdot_Dot_1 K fuel
    funext x15 x16 x17 o3 o4
    refine (gstep_dot_pen_line_fdot_Dot_1_2 _ K x15 x16 x17 o3 o4).trans ?_
    rw [ih]
    rfl

def S_dot_pen_line (l_dot_pen_line_fdot_Dot_2 : LT_dot_pen_line_fdot_Dot_2) (l_dot_pen_line_fdot_Dot_1 : LT_dot_pen_line_fdot_Dot_1) : Sum := ⟨[], fun {R} args ob K => match args, ob with
  | [.ptr 0 0, .rd ⟨false, 9, .str, l⟩], [.box 53 [.own 1, .clo 18 [.ptr 2 0, .ptr 4 0]], .row ⟨false, 5, (.int .u8), o1⟩, .box 47 [.own 3], .row ⟨false, 9, .str, o3⟩, .box 24 [.v (.int .i64 o4), .v (.int .i64 o4_1), .v (.int .i64 o4_2), .v (.int .i64 o4_3), .rd ⟨false, 3, (.int .i64), o4_4⟩, .rd ⟨false, 3, (.int .i64), o4_5⟩]] => l_dot_pen_line_fdot_Dot_2 l o1 o3 o4 o4_1 o4_2 o4_3 o4_4 o4_5 (fun r0 r1 r2 r3 r4 r5 r6 r7 => K (.tup []) [.box 53 [.own 5, .clo 18 [.ptr 2 0, .ptr 4 0]], .gone, .box 47 [.own 3], .row ⟨false, 9, .str, r0⟩, .box 24 [.v (.int .i64 r1), .v (.int .i64 r2), .v (.int .i64 r3), .v (.int .i64 r4), .rd ⟨false, 3, (.int .i64), r5⟩, .rd ⟨false, 3, (.int .i64), r6⟩], .row ⟨false, 5, (.int .u8), r7⟩])
  | [.ptr 0 0, .rd ⟨false, 9, .str, l⟩], [.box 53 [.own 1, .clo 17 [.ptr 2 0]], .row ⟨false, 5, (.int .u8), o1⟩, .box 47 [.own 3], .row ⟨false, 9, .str, o3⟩] => l_dot_pen_line_fdot_Dot_1 l o1 o3 (fun r0 r1 => K (.tup []) [.box 53 [.own 4, .clo 17 [.ptr 2 0]], .gone, .box 47 [.own 3], .row ⟨false, 9, .str, r0⟩, .row ⟨false, 5, (.int .u8), r1⟩])
  | _, _ => none⟩

theorem sound_dot_pen_line : Sound Tryd.prog 20 (S_dot_pen_line @l_dot_pen_line_fdot_Dot_2 @l_dot_pen_line_fdot_Dot_1) := by
  refine fn_sound (cuts := cuts_dot_pen_line_fdot_Dot_2) (fn := Tryd.f20) (Γ := T_dot_pen_line) wide right_T_dot_pen_line Tryd.func20 fun {R} K r args ob h => ?_
  unfold S_dot_pen_line at h
  dsimp only at h
  split at h
  · obtain ⟨n, hn⟩ := ok_dot_pen_line_fdot_Dot_2 _ _ _ _ _ _ _ _ _ _ h
    refine ⟨Nat.le_of_ble_eq_true (by kernel_rfl), n, (gentry_dot_pen_line_fdot_Dot_2 n K _ _ _ _ _ _ _ _ _).trans ?_⟩
    rw [(runs_dot_pen_line_fdot_Dot_2 K n)]
    exact hn
  · obtain ⟨n, hn⟩ := ok_dot_pen_line_fdot_Dot_1 _ _ _ _ h
    refine ⟨Nat.le_of_ble_eq_true (by kernel_rfl), n, (gentry_dot_pen_line_fdot_Dot_1 n K _ _ _).trans ?_⟩
    rw [(runs_dot_pen_line_fdot_Dot_1 K n)]
    exact hn
  · cases h

theorem call_dot_pen_line : Callable Tryd.prog 20 := ⟨_, Tryd.func20, by kernel_rfl, by kernel_rfl⟩


def S_strconv_AppendInt (l_strconv_AppendInt : LT_strconv_AppendInt) : Sum := ⟨[0], fun {R} args ob K => match args, ob with
  | [.v (.slice none 0 0), .v (.int .i64 n), .v (.int .i64 b)], [] => l_strconv_AppendInt n b (fun r0 => K (.own 0) [.row ⟨true, 5, (.int .u8), r0⟩])
  | _, _ => none⟩

theorem sound_strconv_AppendInt : Sound Tryd.prog 37 (S_strconv_AppendInt @l_strconv_AppendInt) := sound_AppendInt Tryd.lays176 TabsHold.pow10

theorem call_strconv_AppendInt : Callable Tryd.prog 37 := ⟨_, Tryd.func37, by kernel_rfl, by kernel_rfl⟩

def T_text_Put (l_strconv_AppendInt : LT_strconv_AppendInt) : FuncId → Option Sum := (addS G0 37 (S_strconv_AppendInt @l_strconv_AppendInt))

theorem right_T_text_Put : Right Tryd.prog (T_text_Put @l_strconv_AppendInt) := (right_add right_G0 call_strconv_AppendInt sound_strconv_AppendInt)

abbrev cuts_text_Put : Cuts := []

theorem gentry_text_Put (l_strconv_AppendInt : LT_strconv_AppendInt) {R : Type} (K : AV → List O → Option R) (n : Int) :
    fnRun Tryd.prog (T_text_Put @l_strconv_AppendInt) cuts_text_Put Tryd.f30 0 [.v (.int .i64 n)] [] K =
    (fun (n : Int) (K0 : (List Int) → Option R) =>
    l_strconv_AppendInt n 10
     (fun r1 =>
      K0 r1)) n (fun r0 => K (.own 0) [.row ⟨true, 5, (.int .u8), r0⟩]) := by kernel_rfl

def S_text_Put (l_text_Put : LT_text_Put) : Sum := ⟨[], fun {R} args ob K => match args, ob with
  | [.v (.int .i64 n)], [] => l_text_Put n (fun r0 => K (.own 0) [.row ⟨true, 5, (.int .u8), r0⟩])
  | _, _ => none⟩

theorem sound_text_Put : Sound Tryd.prog 30 (S_text_Put @l_text_Put) := by
  refine fn_sound (cuts := cuts_text_Put) (fn := Tryd.f30) (Γ := (T_text_Put @l_strconv_AppendInt)) wide right_T_text_Put Tryd.func30 fun {R} K r args ob h => ?_
  unfold S_text_Put at h
  dsimp only at h
  split at h
  · exact ⟨Nat.le_of_ble_eq_true (by kernel_rfl), 0, (gentry_text_Put @l_strconv_AppendInt K _).trans h⟩
  · cases h

theorem call_text_Put : Callable Tryd.prog 30 := ⟨_, Tryd.func30, by kernel_rfl, by kernel_rfl⟩

def T_dot_num (l_text_Put : LT_text_Put) : FuncId → Option Sum := (addS G0 30 (S_text_Put @l_text_Put))

theorem right_T_dot_num : Right Tryd.prog (T_dot_num @l_text_Put) := (right_add right_G0 call_text_Put sound_text_Put)

abbrev cuts_dot_num : Cuts := []

theorem gentry_dot_num (l_text_Put : LT_text_Put) {R : Type} (K : AV → List O → Option R) (n : Int) :
    fnRun Tryd.prog (T_dot_num @l_text_Put) cuts_dot_num Tryd.f19 0 [.v (.int .i64 n)] [] K =
    (fun (n : Int) (K0 : ByteArray → Option R) =>
    l_text_Put n
     (fun r1 =>
      K0 (ofBts r1))) n (fun r0 => K (.v (.string r0)) []) := by kernel_rfl

def S_dot_num (l_dot_num : LT_dot_num) : Sum := ⟨[], fun {R} args ob K => match args, ob with
  | [.v (.int .i64 n)], [] => l_dot_num n (fun r0 => K (.v (.string r0)) [])
  | _, _ => none⟩

theorem sound_dot_num : Sound Tryd.prog 19 (S_dot_num @l_dot_num) := by
  refine fn_sound (cuts := cuts_dot_num) (fn := Tryd.f19) (Γ := (T_dot_num @l_text_Put)) wide right_T_dot_num Tryd.func19 fun {R} K r args ob h => ?_
  unfold S_dot_num at h
  dsimp only at h
  split at h
  · exact ⟨Nat.le_of_ble_eq_true (by kernel_rfl), 0, (gentry_dot_num @l_text_Put K _).trans h⟩
  · cases h

theorem call_dot_num : Callable Tryd.prog 19 := ⟨_, Tryd.func19, by kernel_rfl, by kernel_rfl⟩

def T_dot_edges : FuncId → Option Sum := G0

theorem right_T_dot_edges : Right Tryd.prog T_dot_edges := right_G0

abbrev cuts_dot_edges : Cuts := []

theorem gentry_dot_edges {R : Type} (K : AV → List O → Option R) (m m_1 m_2 m_3 : Int) (m_4 m_5 : List Int) :
    fnRun Tryd.prog T_dot_edges cuts_dot_edges Tryd.f21 0 [.agg [.v (.int .i64 m), .v (.int .i64 m_1), .v (.int .i64 m_2), .v (.int .i64 m_3), .rd ⟨false, 3, (.int .i64), m_4⟩, .rd ⟨false, 3, (.int .i64), m_5⟩]] [] K =
    (fun (m m_1 m_2 m_3 : Int) (m_4 m_5 : List Int) (K0 : Int → Int → Int → Int → (List Int) → (List Int) → Option R) =>
    K0 m m_1 m_2 m_3 m_4 m_5) m m_1 m_2 m_3 m_4 m_5 (fun r0 r1 r2 r3 r4 r5 => K (.clo 31 [.ptr 0 0]) [.box 24 [.v (.int .i64 r0), .v (.int .i64 r1), .v (.int .i64 r2), .v (.int .i64 r3), .rd ⟨false, 3, (.int .i64), r4⟩, .rd ⟨false, 3, (.int .i64), r5⟩]]) := by kernel_rfl

def S_dot_edges (l_dot_edges : LT_dot_edges) : Sum := ⟨[], fun {R} args ob K => match args, ob with
  | [.agg [.v (.int .i64 m), .v (.int .i64 m_1), .v (.int .i64 m_2), .v (.int .i64 m_3), .rd ⟨false, 3, (.int .i64), m_4⟩, .rd ⟨false, 3, (.int .i64), m_5⟩]], [] => l_dot_edges m m_1 m_2 m_3 m_4 m_5 (fun r0 r1 r2 r3 r4 r5 => K (.clo 31 [.ptr 0 0]) [.box 24 [.v (.int .i64 r0), .v (.int .i64 r1), .v (.int .i64 r2), .v (.int .i64 r3), .rd ⟨false, 3, (.int .i64), r4⟩, .rd ⟨false, 3, (.int .i64), r5⟩]])
  | _, _ => none⟩

theorem sound_dot_edges : Sound Tryd.prog 21 (S_dot_edges @l_dot_edges) := by
  refine fn_sound (cuts := cuts_dot_edges) (fn := Tryd.f21) (Γ := T_dot_edges) wide right_T_dot_edges Tryd.func21 fun {R} K r args ob h => ?_
  unfold S_dot_edges at h
  dsimp only at h
  split at h
  · exact ⟨Nat.le_of_ble_eq_true (by kernel_rfl), 0, (gentry_dot_edges K _ _ _ _ _ _).trans h⟩
  · cases h

theorem call_dot_edges : Callable Tryd.prog 21 := ⟨_, Tryd.func21, by kernel_rfl, by kernel_rfl⟩

def T_dot_Dot_2 (l_dot_num : LT_dot_num) : FuncId → Option Sum := (addS G0 19 (S_dot_num @l_dot_num))

theorem right_T_dot_Dot_2 : Right Tryd.prog (T_dot_Dot_2 @l_dot_num) := (right_add right_G0 call_dot_num sound_dot_num)

abbrev cuts_dot_Dot_2 : Cuts := []

theorem gentry_dot_Dot_2 (l_dot_num : LT_dot_num) {R : Type} (K : AV → List O → Option R) (e e_1 e_2 : Int) (o1 : List ByteArray) (o2 o2_1 o2_2 o2_3 : Int) (o2_4 o2_5 : List Int) :
    fnRun Tryd.prog (T_dot_Dot_2 @l_dot_num) cuts_dot_Dot_2 Tryd.f18 0 [.agg [.v (.int .i64 e), .v (.int .i64 e_1), .v (.int .i64 e_2)], .ptr 0 0, .ptr 2 0] [.box 47 [.own 1], .row ⟨false, 9, .str, o1⟩, .box 24 [.v (.int .i64 o2), .v (.int .i64 o2_1), .v (.int .i64 o2_2), .v (.int .i64 o2_3), .rd ⟨false, 3, (.int .i64), o2_4⟩, .rd ⟨false, 3, (.int .i64), o2_5⟩]] K =
    (fun (e e_1 e_2 : Int) (o1 : List ByteArray) (o2 o2_1 o2_2 o2_3 : Int) (o2_4 o2_5 : List Int) (K0 : ByteArray → (List ByteArray) → Int → Int → Int → Int → (List Int) → (List Int) → Option R) =>
    bi (decide (0 ≤ e_1 ∧ e_1 < ((o1.length : Nat) : Int)))
     (bi (catOk (o1.getD e_1.toNat ByteArray.empty) (ByteArray.mk #[47]))
      (bi (decide (0 ≤ (IntKind.i64.wrap ((IntKind.i64.wrap (e * o2_1)) + e_1)) ∧ (IntKind.i64.wrap ((IntKind.i64.wrap (e * o2_1)) + e_1)) < ((o2_5.length : Nat) : Int)))
       (l_dot_num (o2_5.getD ((IntKind.i64.wrap ((IntKind.i64.wrap (e * o2_1)) + e_1)).toNat) 0)
        (fun r1 =>
         bi (catOk ((o1.getD e_1.toNat ByteArray.empty) ++ (ByteArray.mk #[47])) r1)
          (K0 (((o1.getD e_1.toNat ByteArray.empty) ++ (ByteArray.mk #[47])) ++ r1) o1 o2 o2_1 o2_2 o2_3 o2_4 o2_5)
          none))
       none)
      none)
     none) e e_1 e_2 o1 o2 o2_1 o2_2 o2_3 o2_4 o2_5 (fun r0 r1 r2 r3 r4 r5 r6 r7 => K (.v (.string r0)) [.box 47 [.own 1], .row ⟨false, 9, .str, r1⟩, .box 24 [.v (.int .i64 r2), .v (.int .i64 r3), .v (.int .i64 r4), .v (.int .i64 r5), .rd ⟨false, 3, (.int .i64), r6⟩, .rd ⟨false, 3, (.int .i64), r7⟩]]) := by kernel_rfl

def S_dot_Dot_2 (l_dot_Dot_2 : LT_dot_Dot_2) : Sum := ⟨[], fun {R} args ob K => match args, ob with
  | [.agg [.v (.int .i64 e), .v (.int .i64 e_1), .v (.int .i64 e_2)], .ptr 0 0, .ptr 2 0], [.box 47 [.own 1], .row ⟨false, 9, .str, o1⟩, .box 24 [.v (.int .i64 o2), .v (.int .i64 o2_1), .v (.int .i64 o2_2), .v (.int .i64 o2_3), .rd ⟨false, 3, (.int .i64), o2_4⟩, .rd ⟨false, 3, (.int .i64), o2_5⟩]] => l_dot_Dot_2 e e_1 e_2 o1 o2 o2_1 o2_2 o2_3 o2_4 o2_5 (fun r0 r1 r2 r3 r4 r5 r6 r7 => K (.v (.string r0)) [.box 47 [.own 1], .row ⟨false, 9, .str, r1⟩, .box 24 [.v (.int .i64 r2), .v (.int .i64 r3), .v (.int .i64 r4), .v (.int .i64 r5), .rd ⟨false, 3, (.int .i64), r6⟩, .rd ⟨false, 3, (.int .i64), r7⟩]])
  | _, _ => none⟩

theorem sound_dot_Dot_2 : Sound Tryd.prog 18 (S_dot_Dot_2 @l_dot_Dot_2) := by
  refine fn_sound (cuts := cuts_dot_Dot_2) (fn := Tryd.f18) (Γ := (T_dot_Dot_2 @l_dot_num)) wide right_T_dot_Dot_2 Tryd.func18 fun {R} K r args ob h => ?_
  unfold S_dot_Dot_2 at h
  dsimp only at h
  split at h
  · exact ⟨Nat.le_of_ble_eq_true (by kernel_rfl), 0, (gentry_dot_Dot_2 @l_dot_num K _ _ _ _ _ _ _ _ _ _).trans h⟩
  · cases h

theorem call_dot_Dot_2 : Callable Tryd.prog 18 := ⟨_, Tryd.func18, by kernel_rfl, by kernel_rfl⟩

def T_dot_Dot_1 : FuncId → Option Sum := G0

theorem right_T_dot_Dot_1 : Right Tryd.prog T_dot_Dot_1 := right_G0

abbrev cuts_dot_Dot_1 : Cuts := []

theorem gentry_dot_Dot_1 {R : Type} (K : AV → List O → Option R) (e e_1 e_2 : Int) (o1 : List ByteArray) :
    fnRun Tryd.prog T_dot_Dot_1 cuts_dot_Dot_1 Tryd.f17 0 [.agg [.v (.int .i64 e), .v (.int .i64 e_1), .v (.int .i64 e_2)], .ptr 0 0] [.box 47 [.own 1], .row ⟨false, 9, .str, o1⟩] K =
    (fun (e e_1 e_2 : Int) (o1 : List ByteArray) (K0 : ByteArray → (List ByteArray) → Option R) =>
    bi (decide (0 ≤ e_1 ∧ e_1 < ((o1.length : Nat) : Int)))
     (K0 (o1.getD e_1.toNat ByteArray.empty) o1)
     none) e e_1 e_2 o1 (fun r0 r1 => K (.v (.string r0)) [.box 47 [.own 1], .row ⟨false, 9, .str, r1⟩]) := by kernel_rfl

def S_dot_Dot_1 (l_dot_Dot_1 : LT_dot_Dot_1) : Sum := ⟨[], fun {R} args ob K => match args, ob with
  | [.agg [.v (.int .i64 e), .v (.int .i64 e_1), .v (.int .i64 e_2)], .ptr 0 0], [.box 47 [.own 1], .row ⟨false, 9, .str, o1⟩] => l_dot_Dot_1 e e_1 e_2 o1 (fun r0 r1 => K (.v (.string r0)) [.box 47 [.own 1], .row ⟨false, 9, .str, r1⟩])
  | _, _ => none⟩

theorem sound_dot_Dot_1 : Sound Tryd.prog 17 (S_dot_Dot_1 @l_dot_Dot_1) := by
  refine fn_sound (cuts := cuts_dot_Dot_1) (fn := Tryd.f17) (Γ := T_dot_Dot_1) wide right_T_dot_Dot_1 Tryd.func17 fun {R} K r args ob h => ?_
  unfold S_dot_Dot_1 at h
  dsimp only at h
  split at h
  · exact ⟨Nat.le_of_ble_eq_true (by kernel_rfl), 0, (gentry_dot_Dot_1 K _ _ _ _).trans h⟩
  · cases h

theorem call_dot_Dot_1 : Callable Tryd.prog 17 := ⟨_, Tryd.func17, by kernel_rfl, by kernel_rfl⟩

def T_round_of_dot_Dot (l_dot_pen_line_fdot_Dot_2 : LT_dot_pen_line_fdot_Dot_2) (l_dot_pen_line_fdot_Dot_1 : LT_dot_pen_line_fdot_Dot_1) (l_dot_Dot_2 : LT_dot_Dot_2) (l_dot_num : LT_dot_num) (l_dot_Dot_1 : LT_dot_Dot_1) : FuncId → Option Sum := (addS (addS (addS (addS G0 20 (S_dot_pen_line @l_dot_pen_line_fdot_Dot_2 @l_dot_pen_line_fdot_Dot_1)) 18 (S_dot_Dot_2 @l_dot_Dot_2)) 19 (S_dot_num @l_dot_num)) 17 (S_dot_Dot_1 @l_dot_Dot_1))

theorem right_T_round_of_dot_Dot : Right Tryd.prog (T_round_of_dot_Dot @l_dot_pen_line_fdot_Dot_2 @l_dot_pen_line_fdot_Dot_1 @l_dot_Dot_2 @l_dot_num @l_dot_Dot_1) := (right_add (right_add (right_add (right_add right_G0 call_dot_pen_line sound_dot_pen_line) call_dot_Dot_2 sound_dot_Dot_2) call_dot_num sound_dot_num) call_dot_Dot_1 sound_dot_Dot_1)

theorem gentry_round_of_dot_Dot_fdot_Dot_2 (l_dot_pen_line_fdot_Dot_2 : LT_dot_pen_line_fdot_Dot_2) (l_dot_pen_line_fdot_Dot_1 : LT_dot_pen_line_fdot_Dot_1) (l_dot_Dot_2 : LT_dot_Dot_2) (l_dot_num : LT_dot_num) (l_dot_Dot_1 : LT_dot_Dot_1) {R : Type} (K : AV → List O → Option R) (names names_1 names_2 : Int) (o3 : List Int) (o5 : List ByteArray) (o6 o6_1 o6_2 o6_3 : Int) (o6_4 o6_5 : List Int) :
    roundRun Tryd.prog (T_round_of_dot_Dot @l_dot_pen_line_fdot_Dot_2 @l_dot_pen_line_fdot_Dot_1 @l_dot_Dot_2 @l_dot_num @l_dot_Dot_1) 9 [.yld 0, .agg [.v (.int .i64 names), .v (.int .i64 names_1), .v (.int .i64 names_2)]] [.loop 9 [(12, .ptr 1 0)] 0, .box 48 [.ptr 2 0], .box 53 [.own 3, .clo 18 [.ptr 4 0, .ptr 6 0]], .row ⟨false, 5, (.int .u8), o3⟩, .box 47 [.own 5], .row ⟨false, 9, .str, o5⟩, .box 24 [.v (.int .i64 o6), .v (.int .i64 o6_1), .v (.int .i64 o6_2), .v (.int .i64 o6_3), .rd ⟨false, 3, (.int .i64), o6_4⟩, .rd ⟨false, 3, (.int .i64), o6_5⟩]] K =
    (fun (names names_1 names_2 : Int) (o3 : List Int) (o5 : List ByteArray) (o6 o6_1 o6_2 o6_3 : Int) (o6_4 o6_5 : List Int) (K0 : (List ByteArray) → Int → Int → Int → Int → (List Int) → (List Int) → (List Int) → Option R) =>
    both
     (l_dot_num names
      (fun r1 =>
       l_dot_num names_2
        (fun r2 =>
         l_dot_Dot_2 names names_1 names_2 o5 o6 o6_1 o6_2 o6_3 o6_4 o6_5
          (fun r3 r4 r5 r6 r7 r8 r9 r10 =>
           l_dot_pen_line_fdot_Dot_2 [r1, (ByteArray.mk #[32, 45, 62, 32]), r2, (ByteArray.mk #[32, 91, 108, 97, 98, 101, 108, 61, 34]), r3, (ByteArray.mk #[34, 93])] o3 r4 r5 r6 r7 r8 r9 r10
            (fun r11 r12 r13 r14 r15 r16 r17 r18 =>
             K0 r11 r12 r13 r14 r15 r16 r17 r18)))))
     (l_dot_num names
      (fun r1 =>
       both
        (l_dot_num names_2
         (fun r2 =>
          l_dot_Dot_2 names names_1 names_2 o5 o6 o6_1 o6_2 o6_3 o6_4 o6_5
           (fun r3 r4 r5 r6 r7 r8 r9 r10 =>
            l_dot_pen_line_fdot_Dot_2 [r1, (ByteArray.mk #[32, 45, 62, 32]), r2, (ByteArray.mk #[32, 91, 108, 97, 98, 101, 108, 61, 34]), r3, (ByteArray.mk #[34, 93])] o3 r4 r5 r6 r7 r8 r9 r10
             (fun r11 r12 r13 r14 r15 r16 r17 r18 =>
              K0 r11 r12 r13 r14 r15 r16 r17 r18))))
        (l_dot_num names_2
         (fun r2 =>
          both
           (l_dot_Dot_2 names names_1 names_2 o5 o6 o6_1 o6_2 o6_3 o6_4 o6_5
            (fun r3 r4 r5 r6 r7 r8 r9 r10 =>
             l_dot_pen_line_fdot_Dot_2 [r1, (ByteArray.mk #[32, 45, 62, 32]), r2, (ByteArray.mk #[32, 91, 108, 97, 98, 101, 108, 61, 34]), r3, (ByteArray.mk #[34, 93])] o3 r4 r5 r6 r7 r8 r9 r10
              (fun r11 r12 r13 r14 r15 r16 r17 r18 =>
               K0 r11 r12 r13 r14 r15 r16 r17 r18)))
           (l_dot_Dot_2 names names_1 names_2 o5 o6 o6_1 o6_2 o6_3 o6_4 o6_5
            (fun r3 r4 r5 r6 r7 r8 r9 r10 =>
             twice
              (l_dot_pen_line_fdot_Dot_2 [r1, (ByteArray.mk #[32, 45, 62, 32]), r2, (ByteArray.mk #[32, 91, 108, 97, 98, 101, 108, 61, 34]), r3, (ByteArray.mk #[34, 93])] o3 r4 r5 r6 r7 r8 r9 r10
               (fun r11 r12 r13 r14 r15 r16 r17 r18 =>
                K0 r11 r12 r13 r14 r15 r16 r17 r18))))))))) names names_1 names_2 o3 o5 o6 o6_1 o6_2 o6_3 o6_4 o6_5 (fun r0 r1 r2 r3 r4 r5 r6 r7 => K (.v (.bool true)) [.loop 9 [(12, .ptr 1 0)] 0, .box 48 [.ptr 2 0], .box 53 [.own 7, .clo 18 [.ptr 4 0, .ptr 6 0]], .gone, .box 47 [.own 5], .row ⟨false, 9, .str, r0⟩, .box 24 [.v (.int .i64 r1), .v (.int .i64 r2), .v (.int .i64 r3), .v (.int .i64 r4), .rd ⟨false, 3, (.int .i64), r5⟩, .rd ⟨false, 3, (.int .i64), r6⟩], .row ⟨false, 5, (.int .u8), r7⟩]) := by kernel_rfl

theorem gentry_round_of_dot_Dot_fdot_Dot_1 (l_dot_pen_line_fdot_Dot_2 : LT_dot_pen_line_fdot_Dot_2) (l_dot_pen_line_fdot_Dot_1 : LT_dot_pen_line_fdot_Dot_1) (l_dot_Dot_2 : LT_dot_Dot_2) (l_dot_num : LT_dot_num) (l_dot_Dot_1 : LT_dot_Dot_1) {R : Type} (K : AV → List O → Option R) (names names_1 names_2 : Int) (o3 : List Int) (o5 : List ByteArray) :
    roundRun Tryd.prog (T_round_of_dot_Dot @l_dot_pen_line_fdot_Dot_2 @l_dot_pen_line_fdot_Dot_1 @l_dot_Dot_2 @l_dot_num @l_dot_Dot_1) 9 [.yld 0, .agg [.v (.int .i64 names), .v (.int .i64 names_1), .v (.int .i64 names_2)]] [.loop 9 [(12, .ptr 1 0)] 0, .box 48 [.ptr 2 0], .box 53 [.own 3, .clo 17 [.ptr 4 0]], .row ⟨false, 5, (.int .u8), o3⟩, .box 47 [.own 5], .row ⟨false, 9, .str, o5⟩] K =
    (fun (names names_1 names_2 : Int) (o3 : List Int) (o5 : List ByteArray) (K0 : (List ByteArray) → (List Int) → Option R) =>
    both
     (l_dot_num names
      (fun r1 =>
       l_dot_num names_2
        (fun r2 =>
         l_dot_Dot_1 names names_1 names_2 o5
          (fun r3 r4 =>
           l_dot_pen_line_fdot_Dot_1 [r1, (ByteArray.mk #[32, 45, 62, 32]), r2, (ByteArray.mk #[32, 91, 108, 97, 98, 101, 108, 61, 34]), r3, (ByteArray.mk #[34, 93])] o3 r4
            (fun r5 r6 =>
             K0 r5 r6)))))
     (l_dot_num names
      (fun r1 =>
       both
        (l_dot_num names_2
         (fun r2 =>
          l_dot_Dot_1 names names_1 names_2 o5
           (fun r3 r4 =>
            l_dot_pen_line_fdot_Dot_1 [r1, (ByteArray.mk #[32, 45, 62, 32]), r2, (ByteArray.mk #[32, 91, 108, 97, 98, 101, 108, 61, 34]), r3, (ByteArray.mk #[34, 93])] o3 r4
             (fun r5 r6 =>
              K0 r5 r6))))
        (l_dot_num names_2
         (fun r2 =>
          both
           (l_dot_Dot_1 names names_1 names_2 o5
            (fun r3 r4 =>
             l_dot_pen_line_fdot_Dot_1 [r1, (ByteArray.mk #[32, 45, 62, 32]), r2, (ByteArray.mk #[32, 91, 108, 97, 98, 101, 108, 61, 34]), r3, (ByteArray.mk #[34, 93])] o3 r4
              (fun r5 r6 =>
               K0 r5 r6)))
           (l_dot_Dot_1 names names_1 names_2 o5
            (fun r3 r4 =>
             twice
              (l_dot_pen_line_fdot_Dot_1 [r1, (ByteArray.mk #[32, 45, 62, 32]), r2, (ByteArray.mk #[32, 91, 108, 97, 98, 101, 108, 61, 34]), r3, (ByteArray.mk #[34, 93])] o3 r4
               (fun r5 r6 =>
                K0 r5 r6))))))))) names names_1 names_2 o3 o5 (fun r0 r1 => K (.v (.bool true)) [.loop 9 [(12, .ptr 1 0)] 0, .box 48 [.ptr 2 0], .box 53 [.own 6, .clo 17 [.ptr 4 0]], .gone, .box 47 [.own 5], .row ⟨false, 9, .str, r0⟩, .row ⟨false, 5, (.int .u8), r1⟩]) := by kernel_rfl

def S_round_of_dot_Dot (l_round_of_dot_Dot_fdot_Dot_2 : LT_round_of_dot_Dot_fdot_Dot_2) (l_round_of_dot_Dot_fdot_Dot_1 : LT_round_of_dot_Dot_fdot_Dot_1) : Sum := ⟨[1, 99], fun {R} args ob K => match args, ob with
  | [.yld 0, .agg [.v (.int .i64 names), .v (.int .i64 names_1), .v (.int .i64 names_2)]], [.loop 9 [(12, .ptr 1 0)] 0, .box 48 [.ptr 2 0], .box 53 [.own 3, .clo 18 [.ptr 4 0, .ptr 6 0]], .row ⟨false, 5, (.int .u8), o3⟩, .box 47 [.own 5], .row ⟨false, 9, .str, o5⟩, .box 24 [.v (.int .i64 o6), .v (.int .i64 o6_1), .v (.int .i64 o6_2), .v (.int .i64 o6_3), .rd ⟨false, 3, (.int .i64), o6_4⟩, .rd ⟨false, 3, (.int .i64), o6_5⟩]] => l_round_of_dot_Dot_fdot_Dot_2 names names_1 names_2 o3 o5 o6 o6_1 o6_2 o6_3 o6_4 o6_5 (fun r0 r1 r2 r3 r4 r5 r6 r7 => K (.v (.bool true)) [.loop 9 [(12, .ptr 1 0)] 0, .box 48 [.ptr 2 0], .box 53 [.own 7, .clo 18 [.ptr 4 0, .ptr 6 0]], .gone, .box 47 [.own 5], .row ⟨false, 9, .str, r0⟩, .box 24 [.v (.int .i64 r1), .v (.int .i64 r2), .v (.int .i64 r3), .v (.int .i64 r4), .rd ⟨false, 3, (.int .i64), r5⟩, .rd ⟨false, 3, (.int .i64), r6⟩], .row ⟨false, 5, (.int .u8), r7⟩])
  | [.yld 0, .agg [.v (.int .i64 names), .v (.int .i64 names_1), .v (.int .i64 names_2)]], [.loop 9 [(12, .ptr 1 0)] 0, .box 48 [.ptr 2 0], .box 53 [.own 3, .clo 17 [.ptr 4 0]], .row ⟨false, 5, (.int .u8), o3⟩, .box 47 [.own 5], .row ⟨false, 9, .str, o5⟩] => l_round_of_dot_Dot_fdot_Dot_1 names names_1 names_2 o3 o5 (fun r0 r1 => K (.v (.bool true)) [.loop 9 [(12, .ptr 1 0)] 0, .box 48 [.ptr 2 0], .box 53 [.own 6, .clo 17 [.ptr 4 0]], .gone, .box 47 [.own 5], .row ⟨false, 9, .str, r0⟩, .row ⟨false, 5, (.int .u8), r1⟩])
  | _, _ => none⟩

theorem sound_round_of_dot_Dot : SoundY Tryd.prog (S_round_of_dot_Dot @l_round_of_dot_Dot_fdot_Dot_2 @l_round_of_dot_Dot_fdot_Dot_1) := by
  refine round_sound (key := 9) (Γ := (T_round_of_dot_Dot @l_dot_pen_line_fdot_Dot_2 @l_dot_pen_line_fdot_Dot_1 @l_dot_Dot_2 @l_dot_num @l_dot_Dot_1)) wide right_T_round_of_dot_Dot rfl fun {R} K r args ob h => ?_
  unfold S_round_of_dot_Dot at h
  dsimp only at h
  split at h
  · exact (gentry_round_of_dot_Dot_fdot_Dot_2 @l_dot_pen_line_fdot_Dot_2 @l_dot_pen_line_fdot_Dot_1 @l_dot_Dot_2 @l_dot_num @l_dot_Dot_1 K _ _ _ _ _ _ _ _ _ _ _).trans h
  · exact (gentry_round_of_dot_Dot_fdot_Dot_1 @l_dot_pen_line_fdot_Dot_2 @l_dot_pen_line_fdot_Dot_1 @l_dot_Dot_2 @l_dot_num @l_dot_Dot_1 K _ _ _ _ _).trans h
  · cases h

def T_dot_edges_1 (l_round_of_dot_Dot_fdot_Dot_2 : LT_round_of_dot_Dot_fdot_Dot_2) (l_round_of_dot_Dot_fdot_Dot_1 : LT_round_of_dot_Dot_fdot_Dot_1) : FuncId → Option Sum := (addS G0 9 (S_round_of_dot_Dot @l_round_of_dot_Dot_fdot_Dot_2 @l_round_of_dot_Dot_fdot_Dot_1))

theorem right_T_dot_edges_1 : Right Tryd.prog (T_dot_edges_1 @l_round_of_dot_Dot_fdot_Dot_2 @l_round_of_dot_Dot_fdot_Dot_1) := (right_yld right_G0 sound_round_of_dot_Dot)

abbrev cuts_dot_edges_1_ydot_Dot_fdot_Dot_2 : Cuts := [(1, [0, 1, 6, 7, 8])]

abbrev sta_dot_edges_1_ydot_Dot_fdot_Dot_2_1a (x6 : List Int) (x7 x8 : Int) (o3 : List Int) (o5 : List ByteArray) (o6 o6_1 o6_2 o6_3 : Int) (o6_4 o6_5 : List Int) (o7 o7_1 o7_2 o7_3 : Int) (o7_4 o7_5 : List Int) : St := ⟨fr0 27 [(0, .yld 0), (1, .ptr 7 0), (6, .rd ⟨false, 3, (.int .i64), x6⟩), (7, .v (.int .i64 x7)), (8, .v (.int .i64 x8))], [.loop 9 [(12, .ptr 1 0)] 0, .box 48 [.ptr 2 0], .box 53 [.own 3, .clo 18 [.ptr 4 0, .ptr 6 0]], .row ⟨false, 5, (.int .u8), o3⟩, .box 47 [.own 5], .row ⟨false, 9, .str, o5⟩, .box 24 [.v (.int .i64 o6), .v (.int .i64 o6_1), .v (.int .i64 o6_2), .v (.int .i64 o6_3), .rd ⟨false, 3, (.int .i64), o6_4⟩, .rd ⟨false, 3, (.int .i64), o6_5⟩], .box 24 [.v (.int .i64 o7), .v (.int .i64 o7_1), .v (.int .i64 o7_2), .v (.int .i64 o7_3), .rd ⟨false, 3, (.int .i64), o7_4⟩, .rd ⟨false, 3, (.int .i64), o7_5⟩]]⟩

abbrev gt_dot_edges_1_ydot_Dot_fdot_Dot_2_1a {R : Type} (g : List Item → St → Option R) : GT_dot_edges_1_ydot_Dot_fdot_Dot_2_1a R := fun (x6 : List Int) (x7 x8 : Int) (o3 : List Int) (o5 : List ByteArray) (o6 o6_1 o6_2 o6_3 : Int) (o6_4 o6_5 : List Int) (o7 o7_1 o7_2 o7_3 : Int) (o7_4 o7_5 : List Int) => g (at' Tryd.f31 1) (sta_dot_edges_1_ydot_Dot_fdot_Dot_2_1a x6 x7 x8 o3 o5 o6 o6_1 o6_2 o6_3 o6_4 o6_5 o7 o7_1 o7_2 o7_3 o7_4 o7_5)

abbrev sta_dot_edges_1_ydot_Dot_fdot_Dot_2_1b (x6 : List Int) (x7 x8 : Int) (o5 : List ByteArray) (o6 o6_1 o6_2 o6_3 : Int) (o6_4 o6_5 : List Int) (o7 o7_1 o7_2 o7_3 : Int) (o7_4 o7_5 o8 : List Int) : St := ⟨fr0 27 [(0, .yld 0), (1, .ptr 7 0), (6, .rd ⟨false, 3, (.int .i64), x6⟩), (7, .v (.int .i64 x7)), (8, .v (.int .i64 x8))], [.loop 9 [(12, .ptr 1 0)] 0, .box 48 [.ptr 2 0], .box 53 [.own 8, .clo 18 [.ptr 4 0, .ptr 6 0]], .gone, .box 47 [.own 5], .row ⟨false, 9, .str, o5⟩, .box 24 [.v (.int .i64 o6), .v (.int .i64 o6_1), .v (.int .i64 o6_2), .v (.int .i64 o6_3), .rd ⟨false, 3, (.int .i64), o6_4⟩, .rd ⟨false, 3, (.int .i64), o6_5⟩], .box 24 [.v (.int .i64 o7), .v (.int .i64 o7_1), .v (.int .i64 o7_2), .v (.int .i64 o7_3), .rd ⟨false, 3, (.int .i64), o7_4⟩, .rd ⟨false, 3, (.int .i64), o7_5⟩], .row ⟨false, 5, (.int .u8), o8⟩]⟩

abbrev gt_dot_edges_1_ydot_Dot_fdot_Dot_2_1b {R : Type} (g : List Item → St → Option R) : GT_dot_edges_1_ydot_Dot_fdot_Dot_2_1b R := fun (x6 : List Int) (x7 x8 : Int) (o5 : List ByteArray) (o6 o6_1 o6_2 o6_3 : Int) (o6_4 o6_5 : List Int) (o7 o7_1 o7_2 o7_3 : Int) (o7_4 o7_5 o8 : List Int) => g (at' Tryd.f31 1) (sta_dot_edges_1_ydot_Dot_fdot_Dot_2_1b x6 x7 x8 o5 o6 o6_1 o6_2 o6_3 o6_4 o6_5 o7 o7_1 o7_2 o7_3 o7_4 o7_5 o8)

theorem gstep_dot_edges_1_ydot_Dot_fdot_Dot_2_1a (l_round_of_dot_Dot_fdot_Dot_2 : LT_round_of_dot_Dot_fdot_Dot_2) (l_round_of_dot_Dot_fdot_Dot_1 : LT_round_of_dot_Dot_fdot_Dot_1) {R : Type} (g : List Item → St → Option R) (K : AV → List O → Option R) (x6 : List Int) (x7 x8 : Int) (o3 : List Int) (o5 : List ByteArray) (o6 o6_1 o6_2 o6_3 : Int) (o6_4 o6_5 : List Int) (o7 o7_1 o7_2 o7_3 : Int) (o7_4 o7_5 : List Int) :
    runSeg Tryd.prog (T_dot_edges_1 @l_round_of_dot_Dot_fdot_Dot_2 @l_round_of_dot_Dot_fdot_Dot_1) cuts_dot_edges_1_ydot_Dot_fdot_Dot_2 8 g (finish Tryd.prog Tryd.f31 8 K) (at' Tryd.f31 1) (sta_dot_edges_1_ydot_Dot_fdot_Dot_2_1a x6 x7 x8 o3 o5 o6 o6_1 o6_2 o6_3 o6_4 o6_5 o7 o7_1 o7_2 o7_3 o7_4 o7_5) =
    (fun (g31_1 : GT_dot_edges_1_ydot_Dot_fdot_Dot_2_1a R) (g31_1b : GT_dot_edges_1_ydot_Dot_fdot_Dot_2_1b R) (K0 : (List Int) → (List ByteArray) → Int → Int → Int → Int → (List Int) → (List Int) → Int → Int → Int → Int → (List Int) → (List Int) → Option R) (K1 : (List ByteArray) → Int → Int → Int → Int → (List Int) → (List Int) → Int → Int → Int → Int → (List Int) → (List Int) → (List Int) → Option R) (x6 : List Int) (x7 x8 : Int) (o3 : List Int) (o5 : List ByteArray) (o6 o6_1 o6_2 o6_3 : Int) (o6_4 o6_5 : List Int) (o7 o7_1 o7_2 o7_3 : Int) (o7_4 o7_5 : List Int) =>
    bi (decide (x8 < x7))
     (bi (decide (0 ≤ x8 ∧ x8 < ((x6.length : Nat) : Int)))
      (bi (decide (o7_1 = 0))
       none
       (bi (decide (o7_1 = 0))
        none
        (l_round_of_dot_Dot_fdot_Dot_2 (IntKind.i64.wrap (x8.tdiv o7_1)) (x8.tmod o7_1) (x6.getD x8.toNat 0) o3 o5 o6 o6_1 o6_2 o6_3 o6_4 o6_5
         (fun r1 r2 r3 r4 r5 r6 r7 r8 =>
          g31_1b x6 x7 (IntKind.i64.wrap (x8 + 1)) r1 r2 r3 r4 r5 r6 r7 o7 o7_1 o7_2 o7_3 o7_4 o7_5 r8))))
      none)
     (K0 o3 o5 o6 o6_1 o6_2 o6_3 o6_4 o6_5 o7 o7_1 o7_2 o7_3 o7_4 o7_5)) (gt_dot_edges_1_ydot_Dot_fdot_Dot_2_1a g) (gt_dot_edges_1_ydot_Dot_fdot_Dot_2_1b g) (fun r0 r1 r2 r3 r4 r5 r6 r7 r8 r9 r10 r11 r12 r13 => K (.tup []) [.loop 9 [(12, .ptr 1 0)] 0, .box 48 [.ptr 2 0], .box 53 [.own 3, .clo 18 [.ptr 4 0, .ptr 6 0]], .row ⟨false, 5, (.int .u8), r0⟩, .box 47 [.own 5], .row ⟨false, 9, .str, r1⟩, .box 24 [.v (.int .i64 r2), .v (.int .i64 r3), .v (.int .i64 r4), .v (.int .i64 r5), .rd ⟨false, 3, (.int .i64), r6⟩, .rd ⟨false, 3, (.int .i64), r7⟩], .box 24 [.v (.int .i64 r8), .v (.int .i64 r9), .v (.int .i64 r10), .v (.int .i64 r11), .rd ⟨false, 3, (.int .i64), r12⟩, .rd ⟨false, 3, (.int .i64), r13⟩]]) (fun r0 r1 r2 r3 r4 r5 r6 r7 r8 r9 r10 r11 r12 r13 => K (.tup []) [.loop 9 [(12, .ptr 1 0)] 0, .box 48 [.ptr 2 0], .box 53 [.own 8, .clo 18 [.ptr 4 0, .ptr 6 0]], .gone, .box 47 [.own 5], .row ⟨false, 9, .str, r0⟩, .box 24 [.v (.int .i64 r1), .v (.int .i64 r2), .v (.int .i64 r3), .v (.int .i64 r4), .rd ⟨false, 3, (.int .i64), r5⟩, .rd ⟨false, 3, (.int .i64), r6⟩], .box 24 [.v (.int .i64 r7), .v (.int .i64 r8), .v (.int .i64 r9), .v (.int .i64 r10), .rd ⟨false, 3, (.int .i64), r11⟩, .rd ⟨false, 3, (.int .i64), r12⟩], .row ⟨false, 5, (.int .u8), r13⟩]) x6 x7 x8 o3 o5 o6 o6_1 o6_2 o6_3 o6_4 o6_5 o7 o7_1 o7_2 o7_3 o7_4 o7_5 := by kernel_rfl

theorem gstep_dot_edges_1_ydot_Dot_fdot_Dot_2_1b (l_round_of_dot_Dot_fdot_Dot_2 : LT_round_of_dot_Dot_fdot_Dot_2) (l_round_of_dot_Dot_fdot_Dot_1 : LT_round_of_dot_Dot_fdot_Dot_1) {R : Type} (g : List Item → St → Option R) (K : AV → List O → Option R) (x6 : List Int) (x7 x8 : Int) (o5 : List ByteArray) (o6 o6_1 o6_2 o6_3 : Int) (o6_4 o6_5 : List Int) (o7 o7_1 o7_2 o7_3 : Int) (o7_4 o7_5 o8 : List Int) :
    runSeg Tryd.prog (T_dot_edges_1 @l_round_of_dot_Dot_fdot_Dot_2 @l_round_of_dot_Dot_fdot_Dot_1) cuts_dot_edges_1_ydot_Dot_fdot_Dot_2 8 g (finish Tryd.prog Tryd.f31 8 K) (at' Tryd.f31 1) (sta_dot_edges_1_ydot_Dot_fdot_Dot_2_1b x6 x7 x8 o5 o6 o6_1 o6_2 o6_3 o6_4 o6_5 o7 o7_1 o7_2 o7_3 o7_4 o7_5 o8) =
    (fun (g31_1 : GT_dot_edges_1_ydot_Dot_fdot_Dot_2_1a R) (g31_1b : GT_dot_edges_1_ydot_Dot_fdot_Dot_2_1b R) (K0 : (List Int) → (List ByteArray) → Int → Int → Int → Int → (List Int) → (List Int) → Int → Int → Int → Int → (List Int) → (List Int) → Option R) (K1 : (List ByteArray) → Int → Int → Int → Int → (List Int) → (List Int) → Int → Int → Int → Int → (List Int) → (List Int) → (List Int) → Option R) (x6 : List Int) (x7 x8 : Int) (o5 : List ByteArray) (o6 o6_1 o6_2 o6_3 : Int) (o6_4 o6_5 : List Int) (o7 o7_1 o7_2 o7_3 : Int) (o7_4 o7_5 o8 : List Int) =>
    bi (decide (x8 < x7))
     (bi (decide (0 ≤ x8 ∧ x8 < ((x6.length : Nat) : Int)))
      (bi (decide (o7_1 = 0))
       none
       (bi (decide (o7_1 = 0))
        none
        (l_round_of_dot_Dot_fdot_Dot_2 (IntKind.i64.wrap (x8.tdiv o7_1)) (x8.tmod o7_1) (x6.getD x8.toNat 0) o8 o5 o6 o6_1 o6_2 o6_3 o6_4 o6_5
         (fun r9 r10 r11 r12 r13 r14 r15 r16 =>
          g31_1b x6 x7 (IntKind.i64.wrap (x8 + 1)) r9 r10 r11 r12 r13 r14 r15 o7 o7_1 o7_2 o7_3 o7_4 o7_5 r16))))
      none)
     (K1 o5 o6 o6_1 o6_2 o6_3 o6_4 o6_5 o7 o7_1 o7_2 o7_3 o7_4 o7_5 o8)) (gt_dot_edges_1_ydot_Dot_fdot_Dot_2_1a g) (gt_dot_edges_1_ydot_Dot_fdot_Dot_2_1b g) (fun r0 r1 r2 r3 r4 r5 r6 r7 r8 r9 r10 r11 r12 r13 => K (.tup []) [.loop 9 [(12, .ptr 1 0)] 0, .box 48 [.ptr 2 0], .box 53 [.own 3, .clo 18 [.ptr 4 0, .ptr 6 0]], .row ⟨false, 5, (.int .u8), r0⟩, .box 47 [.own 5], .row ⟨false, 9, .str, r1⟩, .box 24 [.v (.int .i64 r2), .v (.int .i64 r3), .v (.int .i64 r4), .v (.int .i64 r5), .rd ⟨false, 3, (.int .i64), r6⟩, .rd ⟨false, 3, (.int .i64), r7⟩], .box 24 [.v (.int .i64 r8), .v (.int .i64 r9), .v (.int .i64 r10), .v (.int .i64 r11), .rd ⟨false, 3, (.int .i64), r12⟩, .rd ⟨false, 3, (.int .i64), r13⟩]]) (fun r0 r1 r2 r3 r4 r5 r6 r7 r8 r9 r10 r11 r12 r13 => K (.tup []) [.loop 9 [(12, .ptr 1 0)] 0, .box 48 [.ptr 2 0], .box 53 [.own 8, .clo 18 [.ptr 4 0, .ptr 6 0]], .gone, .box 47 [.own 5], .row ⟨false, 9, .str, r0⟩, .box 24 [.v (.int .i64 r1), .v (.int .i64 r2), .v (.int .i64 r3), .v (.int .i64 r4), .rd ⟨false, 3, (.int .i64), r5⟩, .rd ⟨false, 3, (.int .i64), r6⟩], .box 24 [.v (.int .i64 r7), .v (.int .i64 r8), .v (.int .i64 r9), .v (.int .i64 r10), .rd ⟨false, 3, (.int .i64), r11⟩, .rd ⟨false, 3, (.int .i64), r12⟩], .row ⟨false, 5, (.int .u8), r13⟩]) x6 x7 x8 o5 o6 o6_1 o6_2 o6_3 o6_4 o6_5 o7 o7_1 o7_2 o7_3 o7_4 o7_5 o8 := by kernel_rfl

theorem gentry_dot_edges_1_ydot_Dot_fdot_Dot_2 (l_round_of_dot_Dot_fdot_Dot_2 : LT_round_of_dot_Dot_fdot_Dot_2) (l_round_of_dot_Dot_fdot_Dot_1 : LT_round_of_dot_Dot_fdot_Dot_1) {R : Type} (fuel : Nat) (K : AV → List O → Option R) (o3 : List Int) (o5 : List ByteArray) (o6 o6_1 o6_2 o6_3 : Int) (o6_4 o6_5 : List Int) (o7 o7_1 o7_2 o7_3 : Int) (o7_4 o7_5 : List Int) :
    fnRun Tryd.prog (T_dot_edges_1 @l_round_of_dot_Dot_fdot_Dot_2 @l_round_of_dot_Dot_fdot_Dot_1) cuts_dot_edges_1_ydot_Dot_fdot_Dot_2 Tryd.f31 fuel [.yld 0, .ptr 7 0] [.loop 9 [(12, .ptr 1 0)] 0, .box 48 [.ptr 2 0], .box 53 [.own 3, .clo 18 [.ptr 4 0, .ptr 6 0]], .row ⟨false, 5, (.int .u8), o3⟩, .box 47 [.own 5], .row ⟨false, 9, .str, o5⟩, .box 24 [.v (.int .i64 o6), .v (.int .i64 o6_1), .v (.int .i64 o6_2), .v (.int .i64 o6_3), .rd ⟨false, 3, (.int .i64), o6_4⟩, .rd ⟨false, 3, (.int .i64), o6_5⟩], .box 24 [.v (.int .i64 o7), .v (.int .i64 o7_1), .v (.int .i64 o7_2), .v (.int .i64 o7_3), .rd ⟨false, 3, (.int .i64), o7_4⟩, .rd ⟨false, 3, (.int .i64), o7_5⟩]] K =
    (fun (g31_1 : GT_dot_edges_1_ydot_Dot_fdot_Dot_2_1a R) (g31_1b : GT_dot_edges_1_ydot_Dot_fdot_Dot_2_1b R) (K0 : (List Int) → (List ByteArray) → Int → Int → Int → Int → (List Int) → (List Int) → Int → Int → Int → Int → (List Int) → (List Int) → Option R) (K1 : (List ByteArray) → Int → Int → Int → Int → (List Int) → (List Int) → Int → Int → Int → Int → (List Int) → (List Int) → (List Int) → Option R) (o3 : List Int) (o5 : List ByteArray) (o6 o6_1 o6_2 o6_3 : Int) (o6_4 o6_5 : List Int) (o7 o7_1 o7_2 o7_3 : Int) (o7_4 o7_5 : List Int) =>
    g31_1 o7_4 (o7_4.length : Int) 0 o3 o5 o6 o6_1 o6_2 o6_3 o6_4 o6_5 o7 o7_1 o7_2 o7_3 o7_4 o7_5) (gt_dot_edges_1_ydot_Dot_fdot_Dot_2_1a (runO Tryd.prog (T_dot_edges_1 @l_round_of_dot_Dot_fdot_Dot_2 @l_round_of_dot_Dot_fdot_Dot_1) cuts_dot_edges_1_ydot_Dot_fdot_Dot_2 8 (finish Tryd.prog Tryd.f31 8 K) fuel)) (gt_dot_edges_1_ydot_Dot_fdot_Dot_2_1b (runO Tryd.prog (T_dot_edges_1 @l_round_of_dot_Dot_fdot_Dot_2 @l_round_of_dot_Dot_fdot_Dot_1) cuts_dot_edges_1_ydot_Dot_fdot_Dot_2 8 (finish Tryd.prog Tryd.f31 8 K) fuel)) (fun r0 r1 r2 r3 r4 r5 r6 r7 r8 r9 r10 r11 r12 r13 => K (.tup []) [.loop 9 [(12, .ptr 1 0)] 0, .box 48 [.ptr 2 0], .box 53 [.own 3, .clo 18 [.ptr 4 0, .ptr 6 0]], .row ⟨false, 5, (.int .u8), r0⟩, .box 47 [.own 5], .row ⟨false, 9, .str, r1⟩, .box 24 [.v (.int .i64 r2), .v (.int .i64 r3), .v (.int .i64 r4), .v (.int .i64 r5), .rd ⟨false, 3, (.int .i64), r6⟩, .rd ⟨false, 3, (.int .i64), r7⟩], .box 24 [.v (.int .i64 r8), .v (.int .i64 r9), .v (.int .i64 r10), .v (.int .i64 r11), .rd ⟨false, 3, (.int .i64), r12⟩, .rd ⟨false, 3, (.int .i64), r13⟩]]) (fun r0 r1 r2 r3 r4 r5 r6 r7 r8 r9 r10 r11 r12 r13 => K (.tup []) [.loop 9 [(12, .ptr 1 0)] 0, .box 48 [.ptr 2 0], .box 53 [.own 8, .clo 18 [.ptr 4 0, .ptr 6 0]], .gone, .box 47 [.own 5], .row ⟨false, 9, .str, r0⟩, .box 24 [.v (.int .i64 r1), .v (.int .i64 r2), .v (.int .i64 r3), .v (.int .i64 r4), .rd ⟨false, 3, (.int .i64), r5⟩, .rd ⟨false, 3, (.int .i64), r6⟩], .box 24 [.v (.int .i64 r7), .v (.int .i64 r8), .v (.int .i64 r9), .v (.int .i64 r10), .rd ⟨false, 3, (.int .i64), r11⟩, .rd ⟨false, 3, (.int .i64), r12⟩], .row ⟨false, 5, (.int .u8), r13⟩]) o3 o5 o6 o6_1 o6_2 o6_3 o6_4 o6_5 o7 o7_1 o7_2 o7_3 o7_4 o7_5 := by kernel_rfl

theorem runs_dot_edges_1_ydot_Dot_fdot_Dot_2 {R : Type} (K : AV → List O → Option R) : ∀ fuel : Nat,
    (gt_dot_edges_1_ydot_Dot_fdot_Dot_2_1a (runO Tryd.prog (T_dot_edges_1 @l_round_of_dot_Dot_fdot_Dot_2 @l_round_of_dot_Dot_fdot_Dot_1) cuts_dot_edges_1_ydot_Dot_fdot_Dot_2 8 (finish Tryd.prog Tryd.f31 8 K) fuel)) = (run_dot_edges_1_ydot_Dot_fdot_Dot_2 (fun r0 r1 r2 r3 r4 r5 r6 r7 r8 r9 r10 r11 r12 r13 => K (.tup []) [.loop 9 [(12, .ptr 1 0)] 0, .box 48 [.ptr 2 0], .box 53 [.own 3, .clo 18 [.ptr 4 0, .ptr 6 0]], .row ⟨false, 5, (.int .u8), r0⟩, .box 47 [.own 5], .row ⟨false, 9, .str, r1⟩, .box 24 [.v (.int .i64 r2), .v (.int .i64 r3), .v (.int .i64 r4), .v (.int .i64 r5), .rd ⟨false, 3, (.int .i64), r6⟩, .rd ⟨false, 3, (.int .i64), r7⟩], .box 24 [.v (.int .i64 r8), .v (.int .i64 r9), .v (.int .i64 r10), .v (.int .i64 r11), .rd ⟨false, 3, (.int .i64), r12⟩, .rd ⟨false, 3, (.int .i64), r13⟩]]) (fun r0 r1 r2 r3 r4 r5 r6 r7 r8 r9 r10 r11 r12 r13 => K (.tup []) [.loop 9 [(12, .ptr 1 0)] 0, .box 48 [.ptr 2 0], .box 53 [.own 8, .clo 18 [.ptr 4 0, .ptr 6 0]], .gone, .box 47 [.own 5], .row ⟨false, 9, .str, r0⟩, .box 24 [.v (.int .i64 r1), .v (.int .i64 r2), .v (.int .i64 r3), .v (.int .i64 r4), .rd ⟨false, 3, (.int .i64), r5⟩, .rd ⟨false, 3, (.int .i64), r6⟩], .box 24 [.v (.int .i64 r7), .v (.int .i64 r8), .v (.int .i64 r9), .v (.int .i64 r10), .rd ⟨false, 3, (.int .i64), r11⟩, .rd ⟨false, 3, (.int .i64), r12⟩], .row ⟨false, 5, (.int .u8), r13⟩]) fuel).1 ∧
    (gt_dot_edges_1_ydot_Dot_fdot_Dot_2_1b (runO Tryd.prog (T_dot_edges_1 @l_round_of_dot_Dot_fdot_Dot_2 @l_round_of_dot_Dot_fdot_Dot_1) cuts_dot_edges_1_ydot_Dot_fdot_Dot_2 8 (finish Tryd.prog Tryd.f31 8 K) fuel)) = (run_dot_edges_1_ydot_Dot_fdot_Dot_2 (fun r0 r1 r2 r3 r4 r5 r6 r7 r8 r9 r10 r11 r12 r13 => K (.tup []) [.loop 9 [(12, .ptr 1 0)] 0, .box 48 [.ptr 2 0], .box 53 [.own 3, .clo 18 [.ptr 4 0, .ptr 6 0]], .row ⟨false, 5, (.int .u8), r0⟩, .box 47 [.own 5], .row ⟨false, 9, .str, r1⟩, .box 24 [.v (.int .i64 r2), .v (.int .i64 r3), .v (.int .i64 r4), .v (.int .i64 r5), .rd ⟨false, 3, (.int .i64), r6⟩, .rd ⟨false, 3, (.int .i64), r7⟩], .box 24 [.v (.int .i64 r8), .v (.int .i64 r9), .v (.int .i64 r10), .v (.int .i64 r11), .rd ⟨false, 3, (.int .i64), r12⟩, .rd ⟨false, 3, (.int .i64), r13⟩]]) (fun r0 r1 r2 r3 r4 r5 r6 r7 r8 r9 r10 r11 r12 r13 => K (.tup []) [.loop 9 [(12, .ptr 1 0)] 0, .box 48 [.ptr 2 0], .box 53 [.own 8, .clo 18 [.ptr 4 0, .ptr 6 0]], .gone, .box 47 [.own 5], .row ⟨false, 9, .str, r0⟩, .box 24 [.v (.int .i64 r1), .v (.int .i64 r2), .v (.int .i64 r3), .v (.int .i64 r4), .rd ⟨false, 3, (.int .i64), r5⟩, .rd ⟨false, 3, (.int .i64), r6⟩], .box 24 [.v (.int .i64 r7), .v (.int .i64 r8), .v (.int .i64 r9), .v (.int .i64 r10), .rd ⟨false, 3, (.int .i64), r11⟩, .rd ⟨false, 3, (.int .i64), r12⟩], .row ⟨false, 5, (.int .u8), r13⟩]) fuel).2
  | 0 => ⟨rfl, rfl⟩
  | fuel + 1 => by
    have ih := runs_dot_edges_1_ydot_Dot_fdot_Dot_2 K fuel
    refine ⟨?_, ?_⟩
    · funext x6 x7 x8 o3 o5 o6 o6_1 o6_2 o6_3 o6_4 o6_5 o7 o7_1 o7_2 o7_3 o7_4 o7_5
      refine (gstep_dot_edges_1_ydot_Dot_fdot_Dot_2_1a @l_round_of_dot_Dot_fdot_Dot_2 @l_round_of_dot_Dot_fdot_Dot_1 _ K x6 x7 x8 o3 o5 o6 o6_1 o6_2 o6_3 o6_4 o6_5 o7 o7_1 o7_2 o7_3 o7_4 o7_5).trans ?_
      rw [ih.1, ih.2]
      rfl
    · funext x6 x7 x8 o5 o6 o6_1 o6_2 o6_3 o6_4 o6_5 o7 o7_1 o7_2 o7_3 o7_4 o7_5 o8
      refine (gstep_dot_edges_1_ydot_Dot_fdot_Dot_2_1b @l_round_of_dot_Dot_fdot_Dot_2 @l_round_of_dot_Dot_fdot_Dot_1 _ K x6 x7 x8 o5 o6 o6_1 o6_2 o6_3 o6_4 o6_5 o7 o7_1 o7_2 o7_3 o7_4 o7_5 o8).trans ?_
      rw [ih.1, ih.2]
      rfl

abbrev cuts_dot_edges_1_ydot_Dot_fdot_Dot_1 : Cuts := [(1, [0, 1, 6, 7, 8])]

abbrev sta_dot_edges_1_ydot_Dot_fdot_Dot_1_1a (x6 : List Int) (x7 x8 : Int) (o3 : List Int) (o5 : List ByteArray) (o6 o6_1 o6_2 o6_3 : Int) (o6_4 o6_5 : List Int) : St := ⟨fr0 27 [(0, .yld 0), (1, .ptr 6 0), (6, .rd ⟨false, 3, (.int .i64), x6⟩), (7, .v (.int .i64 x7)), (8, .v (.int .i64 x8))], [.loop 9 [(12, .ptr 1 0)] 0, .box 48 [.ptr 2 0], .box 53 [.own 3, .clo 17 [.ptr 4 0]], .row ⟨false, 5, (.int .u8), o3⟩, .box 47 [.own 5], .row ⟨false, 9, .str, o5⟩, .box 24 [.v (.int .i64 o6), .v (.int .i64 o6_1), .v (.int .i64 o6_2), .v (.int .i64 o6_3), .rd ⟨false, 3, (.int .i64), o6_4⟩, .rd ⟨false, 3, (.int .i64), o6_5⟩]]⟩

abbrev gt_dot_edges_1_ydot_Dot_fdot_Dot_1_1a {R : Type} (g : List Item → St → Option R) : GT_dot_edges_1_ydot_Dot_fdot_Dot_1_1a R := fun (x6 : List Int) (x7 x8 : Int) (o3 : List Int) (o5 : List ByteArray) (o6 o6_1 o6_2 o6_3 : Int) (o6_4 o6_5 : List Int) => g (at' Tryd.f31 1) (sta_dot_edges_1_ydot_Dot_fdot_Dot_1_1a x6 x7 x8 o3 o5 o6 o6_1 o6_2 o6_3 o6_4 o6_5)

abbrev sta_dot_edges_1_ydot_Dot_fdot_Dot_1_1b (x6 : List Int) (x7 x8 : Int) (o5 : List ByteArray) (o6 o6_1 o6_2 o6_3 : Int) (o6_4 o6_5 o7 : List Int) : St := ⟨fr0 27 [(0, .yld 0), (1, .ptr 6 0), (6, .rd ⟨false, 3, (.int .i64), x6⟩), (7, .v (.int .i64 x7)), (8, .v (.int .i64 x8))], [.loop 9 [(12, .ptr 1 0)] 0, .box 48 [.ptr 2 0], .box 53 [.own 7, .clo 17 [.ptr 4 0]], .gone, .box 47 [.own 5], .row ⟨false, 9, .str, o5⟩, .box 24 [.v (.int .i64 o6), .v (.int .i64 o6_1), .v (.int .i64 o6_2), .v (.int .i64 o6_3), .rd ⟨false, 3, (.int .i64), o6_4⟩, .rd ⟨false, 3, (.int .i64), o6_5⟩], .row ⟨false, 5, (.int .u8), o7⟩]⟩

abbrev gt_dot_edges_1_ydot_Dot_fdot_Dot_1_1b {R : Type} (g : List Item → St → Option R) : GT_dot_edges_1_ydot_Dot_fdot_Dot_1_1b R := fun (x6 : List Int) (x7 x8 : Int) (o5 : List ByteArray) (o6 o6_1 o6_2 o6_3 : Int) (o6_4 o6_5 o7 : List Int) => g (at' Tryd.f31 1) (sta_dot_edges_1_ydot_Dot_fdot_Dot_1_1b x6 x7 x8 o5 o6 o6_1 o6_2 o6_3 o6_4 o6_5 o7)

theorem gstep_dot_edges_1_ydot_Dot_fdot_Dot_1_1a (l_round_of_dot_Dot_fdot_Dot_2 : LT_round_of_dot_Dot_fdot_Dot_2) (l_round_of_dot_Dot_fdot_Dot_1 : LT_round_of_dot_Dot_fdot_Dot_1) {R : Type} (g : List Item → St → Option R) (K : AV → List O → Option R) (x6 : List Int) (x7 x8 : Int) (o3 : List Int) (o5 : List ByteArray) (o6 o6_1 o6_2 o6_3 : Int) (o6_4 o6_5 : List Int) :
    runSeg Tryd.prog (T_dot_edges_1 @l_round_of_dot_Dot_fdot_Dot_2 @l_round_of_dot_Dot_fdot_Dot_1) cuts_dot_edges_1_ydot_Dot_fdot_Dot_1 7 g (finish Tryd.prog Tryd.f31 7 K) (at' Tryd.f31 1) (sta_dot_edges_1_ydot_Dot_fdot_Dot_1_1a x6 x7 x8 o3 o5 o6 o6_1 o6_2 o6_3 o6_4 o6_5) =
    (fun (g31b_1 : GT_dot_edges_1_ydot_Dot_fdot_Dot_1_1a R) (g31b_1b : GT_dot_edges_1_ydot_Dot_fdot_Dot_1_1b R) (K0 : (List Int) → (List ByteArray) → Int → Int → Int → Int → (List Int) → (List Int) → Option R) (K1 : (List ByteArray) → Int → Int → Int → Int → (List Int) → (List Int) → (List Int) → Option R) (x6 : List Int) (x7 x8 : Int) (o3 : List Int) (o5 : List ByteArray) (o6 o6_1 o6_2 o6_3 : Int) (o6_4 o6_5 : List Int) =>
    bi (decide (x8 < x7))
     (bi (decide (0 ≤ x8 ∧ x8 < ((x6.length : Nat) : Int)))
      (bi (decide (o6_1 = 0))
       none
       (bi (decide (o6_1 = 0))
        none
        (l_round_of_dot_Dot_fdot_Dot_1 (IntKind.i64.wrap (x8.tdiv o6_1)) (x8.tmod o6_1) (x6.getD x8.toNat 0) o3 o5
         (fun r1 r2 =>
          g31b_1b x6 x7 (IntKind.i64.wrap (x8 + 1)) r1 o6 o6_1 o6_2 o6_3 o6_4 o6_5 r2))))
      none)
     (K0 o3 o5 o6 o6_1 o6_2 o6_3 o6_4 o6_5)) (gt_dot_edges_1_ydot_Dot_fdot_Dot_1_1a g) (gt_dot_edges_1_ydot_Dot_fdot_Dot_1_1b g) (fun r0 r1 r2 r3 r4 r5 r6 r7 => K (.tup []) [.loop 9 [(12, .ptr 1 0)] 0, .box 48 [.ptr 2 0], .box 53 [.own 3, .clo 17 [.ptr 4 0]], .row ⟨false, 5, (.int .u8), r0⟩, .box 47 [.own 5], .row ⟨false, 9, .str, r1⟩, .box 24 [.v (.int .i64 r2), .v (.int .i64 r3), .v (.int .i64 r4), .v (.int .i64 r5), .rd ⟨false, 3, (.int .i64), r6⟩, .rd ⟨false, 3, (.int .i64), r7⟩]]) (fun r0 r1 r2 r3 r4 r5 r6 r7 => K (.tup []) [.loop 9 [(12, .ptr 1 0)] 0, .box 48 [.ptr 2 0], .box 53 [.own 7, .clo 17 [.ptr 4 0]], .gone, .box 47 [.own 5], .row ⟨false, 9, .str, r0⟩, .box 24 [.v (.int .i64 r1), .v (.int .i64 r2), .v (.int .i64 r3), .v (.int .i64 r4), .rd ⟨false, 3, (.int .i64), r5⟩, .rd ⟨false, 3, (.int .i64), r6⟩], .row ⟨false, 5, (.int .u8), r7⟩]) x6 x7 x8 o3 o5 o6 o6_1 o6_2 o6_3 o6_4 o6_5 := by kernel_rfl

theorem gstep_dot_edges_1_ydot_Dot_fdot_Dot_1_1b (l_round_of_dot_Dot_fdot_Dot_2 : LT_round_of_dot_Dot_fdot_Dot_2) (l_round_of_dot_Dot_fdot_Dot_1 : LT_round_of_dot_Dot_fdot_Dot_1) {R : Type} (g : List Item → St → Option R) (K : AV → List O → Option R) (x6 : List Int) (x7 x8 : Int) (o5 : List ByteArray) (o6 o6_1 o6_2 o6_3 : Int) (o6_4 o6_5 o7 : List Int) :
    runSeg Tryd.prog (T_dot_edges_1 @l_round_of_dot_Dot_fdot_Dot_2 @l_round_of_dot_Dot_fdot_Dot_1) cuts_dot_edges_1_ydot_Dot_fdot_Dot_1 7 g (finish Tryd.prog Tryd.f31 7 K) (at' Tryd.f31 1) (sta_dot_edges_1_ydot_Dot_fdot_Dot_1_1b x6 x7 x8 o5 o6 o6_1 o6_2 o6_3 o6_4 o6_5 o7) =
    (fun (g31b_1 : GT_dot_edges_1_ydot_Dot_fdot_Dot_1_1a R) (g31b_1b : GT_dot_edges_1_ydot_Dot_fdot_Dot_1_1b R) (K0 : (List Int) → (List ByteArray) → Int → Int → Int → Int → (List Int) → (List Int) → Option R) (K1 : (List ByteArray) → Int → Int → Int → Int → (List Int) → (List Int) → (List Int) → Option R) (x6 : List Int) (x7 x8 : Int) (o5 : List ByteArray) (o6 o6_1 o6_2 o6_3 : Int) (o6_4 o6_5 o7 : List Int) =>
    bi (decide (x8 < x7))
     (bi (decide (0 ≤ x8 ∧ x8 < ((x6.length : Nat) : Int)))
      (bi (decide (o6_1 = 0))
       none
       (bi (decide (o6_1 = 0))
        none
        (l_round_of_dot_Dot_fdot_Dot_1 (IntKind.i64.wrap (x8.tdiv o6_1)) (x8.tmod o6_1) (x6.getD x8.toNat 0) o7 o5
         (fun r3 r4 =>
          g31b_1b x6 x7 (IntKind.i64.wrap (x8 + 1)) r3 o6 o6_1 o6_2 o6_3 o6_4 o6_5 r4))))
      none)
     (K1 o5 o6 o6_1 o6_2 o6_3 o6_4 o6_5 o7)) (gt_dot_edges_1_ydot_Dot_fdot_Dot_1_1a g) (gt_dot_edges_1_ydot_Dot_fdot_Dot_1_1b g) (fun r0 r1 r2 r3 r4 r5 r6 r7 => K (.tup []) [.loop 9 [(12, .ptr 1 0)] 0, .box 48 [.ptr 2 0], .box 53 [.own 3, .clo 17 [.ptr 4 0]], .row ⟨false, 5, (.int .u8), r0⟩, .box 47 [.own 5], .row ⟨false, 9, .str, r1⟩, .box 24 [.v (.int .i64 r2), .v (.int .i64 r3), .v (.int .i64 r4), .v (.int .i64 r5), .rd ⟨false, 3, (.int .i64), r6⟩, .rd ⟨false, 3, (.int .i64), r7⟩]]) (fun r0 r1 r2 r3 r4 r5 r6 r7 => K (.tup []) [.loop 9 [(12, .ptr 1 0)] 0, .box 48 [.ptr 2 0], .box 53 [.own 7, .clo 17 [.ptr 4 0]], .gone, .box 47 [.own 5], .row ⟨false, 9, .str, r0⟩, .box 24 [.v (.int .i64 r1), .v (.int .i64 r2), .v (.int .i64 r3), .v (.int .i64 r4), .rd ⟨false, 3, (.int .i64), r5⟩, .rd ⟨false, 3, (.int .i64), r6⟩], .row ⟨false, 5, (.int .u8), r7⟩]) x6 x7 x8 o5 o6 o6_1 o6_2 o6_3 o6_4 o6_5 o7 := by kernel_rfl

theorem gentry_dot_edges_1_ydot_Dot_fdot_Dot_1 (l_round_of_dot_Dot_fdot_Dot_2 : LT_round_of_dot_Dot_fdot_Dot_2) (l_round_of_dot_Dot_fdot_Dot_1 : LT_round_of_dot_Dot_fdot_Dot_1) {R : Type} (fuel : Nat) (K : AV → List O → Option R) (o3 : List Int) (o5 : List ByteArray) (o6 o6_1 o6_2 o6_3 : Int) (o6_4 o6_5 : List Int) :
    fnRun Tryd.prog (T_dot_edges_1 @l_round_of_dot_Dot_fdot_Dot_2 @l_round_of_dot_Dot_fdot_Dot_1) cuts_dot_edges_1_ydot_Dot_fdot_Dot_1 Tryd.f31 fuel [.yld 0, .ptr 6 0] [.loop 9 [(12, .ptr 1 0)] 0, .box 48 [.ptr 2 0], .box 53 [.own 3, .clo 17 [.ptr 4 0]], .row ⟨false, 5, (.int .u8), o3⟩, .box 47 [.own 5], .row ⟨false, 9, .str, o5⟩, .box 24 [.v (.int .i64 o6), .v (.int .i64 o6_1), .v (.int .i64 o6_2), .v (.int .i64 o6_3), .rd ⟨false, 3, (.int .i64), o6_4⟩, .rd ⟨false, 3, (.int .i64), o6_5⟩]] K =
    (fun (g31b_1 : GT_dot_edges_1_ydot_Dot_fdot_Dot_1_1a R) (g31b_1b : GT_dot_edges_1_ydot_Dot_fdot_Dot_1_1b R) (K0 : (List Int) → (List ByteArray) → Int → Int → Int → Int → (List Int) → (List Int) → Option R) (K1 : (List ByteArray) → Int → Int → Int → Int → (List Int) → (List Int) → (List Int) → Option R) (o3 : List Int) (o5 : List ByteArray) (o6 o6_1 o6_2 o6_3 : Int) (o6_4 o6_5 : List Int) =>
    g31b_1 o6_4 (o6_4.length : Int) 0 o3 o5 o6 o6_1 o6_2 o6_3 o6_4 o6_5) (gt_dot_edges_1_ydot_Dot_fdot_Dot_1_1a (runO Tryd.prog (T_dot_edges_1 @l_round_of_dot_Dot_fdot_Dot_2 @l_round_of_dot_Dot_fdot_Dot_1) cuts_dot_edges_1_ydot_Dot_fdot_Dot_1 7 (finish Tryd.prog Tryd.f31 7 K) fuel)) (gt_dot_edges_1_ydot_Dot_fdot_Dot_1_1b (runO Tryd.prog (T_dot_edges_1 @l_round_of_dot_Dot_fdot_Dot_2 @l_round_of_dot_Dot_fdot_Dot_1) cuts_dot_edges_1_ydot_Dot_fdot_Dot_1 7 (finish Tryd.prog Tryd.f31 7 K) fuel)) (fun r0 r1 r2 r3 r4 r5 r6 r7 => K (.tup []) [.loop 9 [(12, .ptr 1 0)] 0, .box 48 [.ptr 2 0], .box 53 [.own 3, .clo 17 [.ptr 4 0]], .row ⟨false, 5, (.int .u8), r0⟩, .box 47 [.own 5], .row ⟨false, 9, .str, r1⟩, .box 24 [.v (.int .i64 r2), .v (.int .i64 r3), .v (.int .i64 r4), .v (.int .i64 r5), .rd ⟨false, 3, (.int .i64), r6⟩, .rd ⟨false, 3, (.int .i64), r7⟩]]) (fun r0 r1 r2 r3 r4 r5 r6 r7 => K (.tup []) [.loop 9 [(12, .ptr 1 0)] 0, .box 48 [.ptr 2 0], .box 53 [.own 7, .clo 17 [.ptr 4 0]], .gone, .box 47 [.own 5], .row ⟨false, 9, .str, r0⟩, .box 24 [.v (.int .i64 r1), .v (.int .i64 r2), .v (.int .i64 r3), .v (.int .i64 r4), .rd ⟨false, 3, (.int .i64), r5⟩, .rd ⟨false, 3, (.int .i64), r6⟩], .row ⟨false, 5, (.int .u8), r7⟩]) o3 o5 o6 o6_1 o6_2 o6_3 o6_4 o6_5 := by kernel_rfl

theorem runs_dot_edges_1_ydot_Dot_fdot_Dot_1 {R : Type} (K : AV → List O → Option R) : ∀ fuel : Nat,
    (gt_dot_edges_1_ydot_Dot_fdot_Dot_1_1a (runO Tryd.prog (T_dot_edges_1 @l_round_of_dot_Dot_fdot_Dot_2 @l_round_of_dot_Dot_fdot_Dot_1) cuts_dot_edges_1_ydot_Dot_fdot_Dot_1 7 (finish Tryd.prog Tryd.f31 7 K) fuel)) = (run_dot_edges_1_ydot_Dot_fdot_Dot_1 (fun r0 r1 r2 r3 r4 r5 r6 r7 => K (.tup []) [.loop 9 [(12, .ptr 1 0)] 0, .box 48 [.ptr 2 0], .box 53 [.own 3, .clo 17 [.ptr 4 0]], .row ⟨false, 5, (.int .u8), r0⟩, .box 47 [.own 5], .row ⟨false, 9, .str, r1⟩, .box 24 [.v (.int .i64 r2), .v (.int .i64 r3), .v (.int .i64 r4), .v (.int .i64 r5), .rd ⟨false, 3, (.int .i64), r6⟩, .rd ⟨false, 3, (.int .i64), r7⟩]]) (fun r0 r1 r2 r3 r4 r5 r6 r7 => K (.tup []) [.loop 9 [(12, .ptr 1 0)] 0, .box 48 [.ptr 2 0], .box 53 [.own 7, .clo 17 [.ptr 4 0]], .gone, .box 47 [.own 5], .row ⟨false, 9, .str, r0⟩, .box 24 [.v (.int .i64 r1), .v (.int .i64 r2), .v (.int .i64 r3), .v (.int .i64 r4), .rd ⟨false, 3, (.int .i64), r5⟩, .rd ⟨false, 3, (.int .i64), r6⟩], .row ⟨false, 5, (.int .u8), r7⟩]) fuel).1 ∧
    (gt_dot_edges_1_ydot_Dot_fdot_Dot_1_1b (runO Tryd.prog (T_dot_edges_1 @l_round_of_dot_Dot_fdot_Dot_2 @l_round_of_dot_Dot_fdot_Dot_1) cuts_dot_edges_1_ydot_Dot_fdot_Dot_1 7 (finish Tryd.prog Tryd.f31 7 K) fuel)) = (run_dot_edges_1_ydot_Dot_fdot_Dot_1 (fun r0 r1 r2 r3 r4 r5 r6 r7 => K (.tup []) [.loop 9 [(12, .ptr 1 0)] 0, .box 48 [.ptr 2 0], .box 53 [.own 3, .clo 17 [.ptr 4 0]], .row ⟨false, 5, (.int .u8), r0⟩, .box 47 [.own 5], .row ⟨false, 9, .str, r1⟩, .box 24 [.v (.int .i64 r2), .v (.int .i64 r3), .v (.int .i64 r4), .v (.int .i64 r5), .rd ⟨false, 3, (.int .i64), r6⟩, .rd ⟨false, 3, (.int .i64), r7⟩]]) (fun r0 r1 r2 r3 r4 r5 r6 r7 => K (.tup []) [.loop 9 [(12, .ptr 1 0)] 0, .box 48 [.ptr 2 0], .box 53 [.own 7, .clo 17 [.ptr 4 0]], .gone, .box 47 [.own 5], .row ⟨false, 9, .str, r0⟩, .box 24 [.v (.int .i64 r1), .v (.int .i64 r2), .v (.int .i64 r3), .v (.int .i64 r4), .rd ⟨false, 3, (.int .i64), r5⟩, .rd ⟨false, 3, (.int .i64), r6⟩], .row ⟨false, 5, (.int .u8), r7⟩]) fuel).2
  | 0 => ⟨rfl, rfl⟩
  | fuel + 1 => by
    have ih := runs_dot_edges_1_ydot_Dot_fdot_Dot_1 K fuel
    refine ⟨?_, ?_⟩
    · funext x6 x7 x8 o3 o5 o6 o6_1 o6_2 o6_3 o6_4 o6_5
      refine (gstep_dot_edges_1_ydot_Dot_fdot_Dot_1_1a @l_round_of_dot_Dot_fdot_Dot_2 @l_round_of_dot_Dot_fdot_Dot_1 _ K x6 x7 x8 o3 o5 o6 o6_1 o6_2 o6_3 o6_4 o6_5).trans ?_
      rw [ih.1, ih.2]
      rfl
    · funext x6 x7 x8 o5 o6 o6_1 o6_2 o6_3 o6_4 o6_5 o7
      refine (gstep_dot_edges_1_ydot_Dot_fdot_Dot_1_1b @l_round_of_dot_Dot_fdot_Dot_2 @l_round_of_dot_Dot_fdot_Dot_1 _ K x6 x7 x8 o5 o6 o6_1 o6_2 o6_3 o6_4 o6_5 o7).trans ?_
      rw [ih.1, ih.2]
      rfl

def S_dot_edges_1 (l_dot_edges_1_ydot_Dot_fdot_Dot_2 : LT_dot_edges_1_ydot_Dot_fdot_Dot_2) (l_dot_edges_1_ydot_Dot_fdot_Dot_1 : LT_dot_edges_1_ydot_Dot_fdot_Dot_1) : Sum := ⟨[], fun {R} args ob K => match args, ob with
  | [.yld 0, .ptr 7 0], [.loop 9 [(12, .ptr 1 0)] 0, .box 48 [.ptr 2 0], .box 53 [.own 3, .clo 18 [.ptr 4 0, .ptr 6 0]], .row ⟨false, 5, (.int .u8), o3⟩, .box 47 [.own 5], .row ⟨false, 9, .str, o5⟩, .box 24 [.v (.int .i64 o6), .v (.int .i64 o6_1), .v (.int .i64 o6_2), .v (.int .i64 o6_3), .rd ⟨false, 3, (.int .i64), o6_4⟩, .rd ⟨false, 3, (.int .i64), o6_5⟩], .box 24 [.v (.int .i64 o7), .v (.int .i64 o7_1), .v (.int .i64 o7_2), .v (.int .i64 o7_3), .rd ⟨false, 3, (.int .i64), o7_4⟩, .rd ⟨false, 3, (.int .i64), o7_5⟩]] => l_dot_edges_1_ydot_Dot_fdot_Dot_2 o3 o5 o6 o6_1 o6_2 o6_3 o6_4 o6_5 o7 o7_1 o7_2 o7_3 o7_4 o7_5 (fun r0 r1 r2 r3 r4 r5 r6 r7 r8 r9 r10 r11 r12 r13 => K (.tup []) [.loop 9 [(12, .ptr 1 0)] 0, .box 48 [.ptr 2 0], .box 53 [.own 3, .clo 18 [.ptr 4 0, .ptr 6 0]], .row ⟨false, 5, (.int .u8), r0⟩, .box 47 [.own 5], .row ⟨false, 9, .str, r1⟩, .box 24 [.v (.int .i64 r2), .v (.int .i64 r3), .v (.int .i64 r4), .v (.int .i64 r5), .rd ⟨false, 3, (.int .i64), r6⟩, .rd ⟨false, 3, (.int .i64), r7⟩], .box 24 [.v (.int .i64 r8), .v (.int .i64 r9), .v (.int .i64 r10), .v (.int .i64 r11), .rd ⟨false, 3, (.int .i64), r12⟩, .rd ⟨false, 3, (.int .i64), r13⟩]]) (fun r0 r1 r2 r3 r4 r5 r6 r7 r8 r9 r10 r11 r12 r13 => K (.tup []) [.loop 9 [(12, .ptr 1 0)] 0, .box 48 [.ptr 2 0], .box 53 [.own 8, .clo 18 [.ptr 4 0, .ptr 6 0]], .gone, .box 47 [.own 5], .row ⟨false, 9, .str, r0⟩, .box 24 [.v (.int .i64 r1), .v (.int .i64 r2), .v (.int .i64 r3), .v (.int .i64 r4), .rd ⟨false, 3, (.int .i64), r5⟩, .rd ⟨false, 3, (.int .i64), r6⟩], .box 24 [.v (.int .i64 r7), .v (.int .i64 r8), .v (.int .i64 r9), .v (.int .i64 r10), .rd ⟨false, 3, (.int .i64), r11⟩, .rd ⟨false, 3, (.int .i64), r12⟩], .row ⟨false, 5, (.int .u8), r13⟩])
  | [.yld 0, .ptr 6 0], [.loop 9 [(12, .ptr 1 0)] 0, .box 48 [.ptr 2 0], .box 53 [.own 3, .clo 17 [.ptr 4 0]], .row ⟨false, 5, (.int .u8), o3⟩, .box 47 [.own 5], .row ⟨false, 9, .str, o5⟩, .box 24 [.v (.int .i64 o6), .v (.int .i64 o6_1), .v (.int .i64 o6_2), .v (.int .i64 o6_3), .rd ⟨false, 3, (.int .i64), o6_4⟩, .rd ⟨false, 3, (.int .i64), o6_5⟩]] => l_dot_edges_1_ydot_Dot_fdot_Dot_1 o3 o5 o6 o6_1 o6_2 o6_3 o6_4 o6_5 (fun r0 r1 r2 r3 r4 r5 r6 r7 => K (.tup []) [.loop 9 [(12, .ptr 1 0)] 0, .box 48 [.ptr 2 0], .box 53 [.own 3, .clo 17 [.ptr 4 0]], .row ⟨false, 5, (.int .u8), r0⟩, .box 47 [.own 5], .row ⟨false, 9, .str, r1⟩, .box 24 [.v (.int .i64 r2), .v (.int .i64 r3), .v (.int .i64 r4), .v (.int .i64 r5), .rd ⟨false, 3, (.int .i64), r6⟩, .rd ⟨false, 3, (.int .i64), r7⟩]]) (fun r0 r1 r2 r3 r4 r5 r6 r7 => K (.tup []) [.loop 9 [(12, .ptr 1 0)] 0, .box 48 [.ptr 2 0], .box 53 [.own 7, .clo 17 [.ptr 4 0]], .gone, .box 47 [.own 5], .row ⟨false, 9, .str, r0⟩, .box 24 [.v (.int .i64 r1), .v (.int .i64 r2), .v (.int .i64 r3), .v (.int .i64 r4), .rd ⟨false, 3, (.int .i64), r5⟩, .rd ⟨false, 3, (.int .i64), r6⟩], .row ⟨false, 5, (.int .u8), r7⟩])
  | _, _ => none⟩

theorem sound_dot_edges_1 : Sound Tryd.prog 31 (S_dot_edges_1 @l_dot_edges_1_ydot_Dot_fdot_Dot_2 @l_dot_edges_1_ydot_Dot_fdot_Dot_1) := by
  refine fn_sound (cuts := cuts_dot_edges_1_ydot_Dot_fdot_Dot_2) (fn := Tryd.f31) (Γ := (T_dot_edges_1 @l_round_of_dot_Dot_fdot_Dot_2 @l_round_of_dot_Dot_fdot_Dot_1)) wide right_T_dot_edges_1 Tryd.func31 fun {R} K r args ob h => ?_
  unfold S_dot_edges_1 at h
  dsimp only at h
  split at h
  · obtain ⟨n, hn⟩ := ok_dot_edges_1_ydot_Dot_fdot_Dot_2 _ _ _ _ _ _ _ _ _ _ _ _ _ _ _ _ h
    refine ⟨Nat.le_of_ble_eq_true (by kernel_rfl), n, (gentry_dot_edges_1_ydot_Dot_fdot_Dot_2 @l_round_of_dot_Dot_fdot_Dot_2 @l_round_of_dot_Dot_fdot_Dot_1 n K _ _ _ _ _ _ _ _ _ _ _ _ _ _).trans ?_⟩
    rw [(runs_dot_edges_1_ydot_Dot_fdot_Dot_2 K n).1, (runs_dot_edges_1_ydot_Dot_fdot_Dot_2 K n).2]
    exact hn
  · obtain ⟨n, hn⟩ := ok_dot_edges_1_ydot_Dot_fdot_Dot_1 _ _ _ _ _ _ _ _ _ _ h
    refine ⟨Nat.le_of_ble_eq_true (by kernel_rfl), n, (gentry_dot_edges_1_ydot_Dot_fdot_Dot_1 @l_round_of_dot_Dot_fdot_Dot_2 @l_round_of_dot_Dot_fdot_Dot_1 n K _ _ _ _ _ _ _ _).trans ?_⟩
    rw [(runs_dot_edges_1_ydot_Dot_fdot_Dot_1 K n).1, (runs_dot_edges_1_ydot_Dot_fdot_Dot_1 K n).2]
    exact hn
  · cases h

theorem call_dot_edges_1 : Callable Tryd.prog 31 := ⟨_, Tryd.func31, by kernel_rfl, by kernel_rfl⟩

def T_dot_Dot (l_machine_Check : LT_machine_Check) (l_dot_Label : LT_dot_Label) (l_dot_pen_line_fdot_Dot_2 : LT_dot_pen_line_fdot_Dot_2) (l_dot_pen_line_fdot_Dot_1 : LT_dot_pen_line_fdot_Dot_1) (l_dot_num : LT_dot_num) (l_dot_edges_1_ydot_Dot_fdot_Dot_2 : LT_dot_edges_1_ydot_Dot_fdot_Dot_2) (l_dot_edges_1_ydot_Dot_fdot_Dot_1 : LT_dot_edges_1_ydot_Dot_fdot_Dot_1) (l_dot_edges : LT_dot_edges) : FuncId → Option Sum := (addS (addS (addS (addS (addS (addS G0 16 (S_machine_Check @l_machine_Check)) 11 (S_dot_Label @l_dot_Label)) 20 (S_dot_pen_line @l_dot_pen_line_fdot_Dot_2 @l_dot_pen_line_fdot_Dot_1)) 19 (S_dot_num @l_dot_num)) 31 (S_dot_edges_1 @l_dot_edges_1_ydot_Dot_fdot_Dot_2 @l_dot_edges_1_ydot_Dot_fdot_Dot_1)) 21 (S_dot_edges @l_dot_edges))

theorem right_T_dot_Dot : Right Tryd.prog (T_dot_Dot @l_machine_Check @l_dot_Label @l_dot_pen_line_fdot_Dot_2 @l_dot_pen_line_fdot_Dot_1 @l_dot_num @l_dot_edges_1_ydot_Dot_fdot_Dot_2 @l_dot_edges_1_ydot_Dot_fdot_Dot_1 @l_dot_edges) := (right_add (right_add (right_add (right_add (right_add (right_add right_G0 call_machine_Check sound_machine_Check) call_dot_Label sound_dot_Label) call_dot_pen_line sound_dot_pen_line) call_dot_num sound_dot_num) call_dot_edges_1 sound_dot_edges_1) call_dot_edges sound_dot_edges)

abbrev cuts_dot_Dot : Cuts := [(8, [1, 2, 8, 33, 34]), (21, [2, 12, 70, 71]), (1000009, [12])]

abbrev sta_dot_Dot_8 (names : List Int) (x33 x34 o0 o0_1 o0_2 o0_3 : Int) (o0_4 o0_5 : List Int) (o2 : List ByteArray) : St := ⟨fr0 118 [(1, .rd ⟨false, 21, (.int .i32), names⟩), (2, .ptr 0 0), (8, .ptr 1 0), (33, .v (.int .i64 x33)), (34, .v (.int .i64 x34))], [.box 24 [.v (.int .i64 o0), .v (.int .i64 o0_1), .v (.int .i64 o0_2), .v (.int .i64 o0_3), .rd ⟨false, 3, (.int .i64), o0_4⟩, .rd ⟨false, 3, (.int .i64), o0_5⟩], .box 47 [.own 2], .row ⟨true, 9, .str, o2⟩]⟩

abbrev gt_dot_Dot_8 {R : Type} (g : List Item → St → Option R) : GT_dot_Dot_8 R := fun (names : List Int) (x33 x34 o0 o0_1 o0_2 o0_3 : Int) (o0_4 o0_5 : List Int) (o2 : List ByteArray) => g (at' Tryd.f9 8) (sta_dot_Dot_8 names x33 x34 o0 o0_1 o0_2 o0_3 o0_4 o0_5 o2)

abbrev sta_dot_Dot_21a (x70 x71 o0 o0_1 o0_2 o0_3 : Int) (o0_4 o0_5 o3 : List Int) (o5 : List ByteArray) : St := ⟨fr0 118 [(2, .ptr 0 0), (12, .ptr 1 0), (70, .v (.int .i64 x70)), (71, .v (.int .i64 x71))], [.box 24 [.v (.int .i64 o0), .v (.int .i64 o0_1), .v (.int .i64 o0_2), .v (.int .i64 o0_3), .rd ⟨false, 3, (.int .i64), o0_4⟩, .rd ⟨false, 3, (.int .i64), o0_5⟩], .box 48 [.ptr 2 0], .box 53 [.own 3, .clo 18 [.ptr 4 0, .ptr 0 0]], .row ⟨false, 5, (.int .u8), o3⟩, .box 47 [.own 5], .row ⟨true, 9, .str, o5⟩]⟩

abbrev gt_dot_Dot_21a {R : Type} (g : List Item → St → Option R) : GT_dot_Dot_21a R := fun (x70 x71 o0 o0_1 o0_2 o0_3 : Int) (o0_4 o0_5 o3 : List Int) (o5 : List ByteArray) => g (at' Tryd.f9 21) (sta_dot_Dot_21a x70 x71 o0 o0_1 o0_2 o0_3 o0_4 o0_5 o3 o5)

abbrev sta_dot_Dot_21b (x70 x71 o0 o0_1 o0_2 o0_3 : Int) (o0_4 o0_5 o3 : List Int) (o5 : List ByteArray) : St := ⟨fr0 118 [(2, .ptr 0 0), (12, .ptr 1 0), (70, .v (.int .i64 x70)), (71, .v (.int .i64 x71))], [.box 24 [.v (.int .i64 o0), .v (.int .i64 o0_1), .v (.int .i64 o0_2), .v (.int .i64 o0_3), .rd ⟨false, 3, (.int .i64), o0_4⟩, .rd ⟨false, 3, (.int .i64), o0_5⟩], .box 48 [.ptr 2 0], .box 53 [.own 3, .clo 17 [.ptr 4 0]], .row ⟨false, 5, (.int .u8), o3⟩, .box 47 [.own 5], .row ⟨true, 9, .str, o5⟩]⟩

abbrev gt_dot_Dot_21b {R : Type} (g : List Item → St → Option R) : GT_dot_Dot_21b R := fun (x70 x71 o0 o0_1 o0_2 o0_3 : Int) (o0_4 o0_5 o3 : List Int) (o5 : List ByteArray) => g (at' Tryd.f9 21) (sta_dot_Dot_21b x70 x71 o0 o0_1 o0_2 o0_3 o0_4 o0_5 o3 o5)

theorem gstep_dot_Dot_8 (l_machine_Check : LT_machine_Check) (l_dot_Label : LT_dot_Label) (l_dot_pen_line_fdot_Dot_2 : LT_dot_pen_line_fdot_Dot_2) (l_dot_pen_line_fdot_Dot_1 : LT_dot_pen_line_fdot_Dot_1) (l_dot_num : LT_dot_num) (l_dot_edges_1_ydot_Dot_fdot_Dot_2 : LT_dot_edges_1_ydot_Dot_fdot_Dot_2) (l_dot_edges_1_ydot_Dot_fdot_Dot_1 : LT_dot_edges_1_ydot_Dot_fdot_Dot_1) (l_dot_edges : LT_dot_edges) {R : Type} (g : List Item → St → Option R) (K : AV → List O → Option R) (names : List Int) (x33 x34 o0 o0_1 o0_2 o0_3 : Int) (o0_4 o0_5 : List Int) (o2 : List ByteArray) :
    runSeg Tryd.prog (T_dot_Dot @l_machine_Check @l_dot_Label @l_dot_pen_line_fdot_Dot_2 @l_dot_pen_line_fdot_Dot_1 @l_dot_num @l_dot_edges_1_ydot_Dot_fdot_Dot_2 @l_dot_edges_1_ydot_Dot_fdot_Dot_1 @l_dot_edges) cuts_dot_Dot 0 g (finish Tryd.prog Tryd.f9 0 K) (at' Tryd.f9 8) (sta_dot_Dot_8 names x33 x34 o0 o0_1 o0_2 o0_3 o0_4 o0_5 o2) =
    (fun (g9_8 : GT_dot_Dot_8 R) (g9_21 : GT_dot_Dot_21a R) (g9_21b : GT_dot_Dot_21b R) (K0 : Int → (List Int) → Option R) (K1 : Int → (List Int) → Option R) (names : List Int) (x33 x34 o0 o0_1 o0_2 o0_3 : Int) (o0_4 o0_5 : List Int) (o2 : List ByteArray) =>
    bi (decide (x34 < x33))
     (l_dot_Label names x34
      (fun r3 r4 =>
       bi (r4 != 0)
        (K0 r4 ([] : List Int))
        (bi (decide (0 ≤ x34 ∧ x34 < ((o2.length : Nat) : Int)))
         (g9_8 names x33 (IntKind.i64.wrap (x34 + 1)) o0 o0_1 o0_2 o0_3 o0_4 o0_5 (o2.set x34.toNat r3))
         none)))
     (bi (decide (0 < [100, 105, 103, 114, 97, 112, 104, 32, 109, 32, 123, 10].length))
      (bi (o0 == 2)
       (l_dot_pen_line_fdot_Dot_2 [(ByteArray.mk #[114, 97, 110, 107, 100, 105, 114, 61, 76, 82])] [100, 105, 103, 114, 97, 112, 104, 32, 109, 32, 123, 10] o2 o0 o0_1 o0_2 o0_3 o0_4 o0_5
        (fun r5 r6 r7 r8 r9 r10 r11 r12 =>
         l_dot_pen_line_fdot_Dot_2 [(ByteArray.mk #[115, 116, 97, 114, 116, 32, 91, 115, 104, 97, 112, 101, 61, 112, 111, 105, 110, 116, 93])] r12 r5 r6 r7 r8 r9 r10 r11
          (fun r13 r14 r15 r16 r17 r18 r19 r20 =>
           g9_21 r17 0 r14 r15 r16 r17 r18 r19 r20 r13)))
       (l_dot_pen_line_fdot_Dot_1 [(ByteArray.mk #[114, 97, 110, 107, 100, 105, 114, 61, 76, 82])] [100, 105, 103, 114, 97, 112, 104, 32, 109, 32, 123, 10] o2
        (fun r21 r22 =>
         l_dot_pen_line_fdot_Dot_1 [(ByteArray.mk #[115, 116, 97, 114, 116, 32, 91, 115, 104, 97, 112, 101, 61, 112, 111, 105, 110, 116, 93])] r22 r21
          (fun r23 r24 =>
           g9_21b o0_3 0 o0 o0_1 o0_2 o0_3 o0_4 o0_5 r24 r23))))
      none)) (gt_dot_Dot_8 g) (gt_dot_Dot_21a g) (gt_dot_Dot_21b g) (fun r0 r1 => K (.tup [.own 0, .v (.int .i64 r0)]) [.row ⟨true, 5, (.int .u8), r1⟩]) (fun r0 r1 => K (.tup [.own 0, .v (.int .i64 r0)]) [.row ⟨false, 5, (.int .u8), r1⟩]) names x33 x34 o0 o0_1 o0_2 o0_3 o0_4 o0_5 o2 := by kernel_rfl

theorem gstep_dot_Dot_21a (l_machine_Check : LT_machine_Check) (l_dot_Label : LT_dot_Label) (l_dot_pen_line_fdot_Dot_2 : LT_dot_pen_line_fdot_Dot_2) (l_dot_pen_line_fdot_Dot_1 : LT_dot_pen_line_fdot_Dot_1) (l_dot_num : LT_dot_num) (l_dot_edges_1_ydot_Dot_fdot_Dot_2 : LT_dot_edges_1_ydot_Dot_fdot_Dot_2) (l_dot_edges_1_ydot_Dot_fdot_Dot_1 : LT_dot_edges_1_ydot_Dot_fdot_Dot_1) (l_dot_edges : LT_dot_edges) {R : Type} (g : List Item → St → Option R) (K : AV → List O → Option R) (x70 x71 o0 o0_1 o0_2 o0_3 : Int) (o0_4 o0_5 o3 : List Int) (o5 : List ByteArray) :
    runSeg Tryd.prog (T_dot_Dot @l_machine_Check @l_dot_Label @l_dot_pen_line_fdot_Dot_2 @l_dot_pen_line_fdot_Dot_1 @l_dot_num @l_dot_edges_1_ydot_Dot_fdot_Dot_2 @l_dot_edges_1_ydot_Dot_fdot_Dot_1 @l_dot_edges) cuts_dot_Dot 0 g (finish Tryd.prog Tryd.f9 0 K) (at' Tryd.f9 21) (sta_dot_Dot_21a x70 x71 o0 o0_1 o0_2 o0_3 o0_4 o0_5 o3 o5) =
    (fun (g9_8 : GT_dot_Dot_8 R) (g9_21 : GT_dot_Dot_21a R) (g9_21b : GT_dot_Dot_21b R) (K0 : Int → (List Int) → Option R) (K1 : Int → (List Int) → Option R) (x70 x71 o0 o0_1 o0_2 o0_3 : Int) (o0_4 o0_5 o3 : List Int) (o5 : List ByteArray) =>
    bi (decide (x71 < x70))
     (bi (o0 == 1)
      (bi (decide (0 ≤ x71 ∧ x71 < ((o0_5.length : Nat) : Int)))
       (bi ((o0_5.getD x71.toNat 0) == 1)
        (l_dot_num x71
         (fun r25 =>
          l_dot_pen_line_fdot_Dot_2 [r25, (ByteArray.mk #[32, 91, 115, 104, 97, 112, 101, 61]), (ByteArray.mk #[100, 111, 117, 98, 108, 101, 99, 105, 114, 99, 108, 101]), (ByteArray.mk #[93])] o3 o5 o0 o0_1 o0_2 o0_3 o0_4 o0_5
           (fun r26 r27 r28 r29 r30 r31 r32 r33 =>
            g9_21 x70 (IntKind.i64.wrap (x71 + 1)) r27 r28 r29 r30 r31 r32 r33 r26)))
        (l_dot_num x71
         (fun r34 =>
          l_dot_pen_line_fdot_Dot_2 [r34, (ByteArray.mk #[32, 91, 115, 104, 97, 112, 101, 61]), (ByteArray.mk #[99, 105, 114, 99, 108, 101]), (ByteArray.mk #[93])] o3 o5 o0 o0_1 o0_2 o0_3 o0_4 o0_5
           (fun r35 r36 r37 r38 r39 r40 r41 r42 =>
            g9_21 x70 (IntKind.i64.wrap (x71 + 1)) r36 r37 r38 r39 r40 r41 r42 r35))))
       none)
      (l_dot_num x71
       (fun r43 =>
        l_dot_pen_line_fdot_Dot_2 [r43, (ByteArray.mk #[32, 91, 115, 104, 97, 112, 101, 61]), (ByteArray.mk #[99, 105, 114, 99, 108, 101]), (ByteArray.mk #[93])] o3 o5 o0 o0_1 o0_2 o0_3 o0_4 o0_5
         (fun r44 r45 r46 r47 r48 r49 r50 r51 =>
          g9_21 x70 (IntKind.i64.wrap (x71 + 1)) r45 r46 r47 r48 r49 r50 r51 r44))))
     (l_dot_pen_line_fdot_Dot_2 [(ByteArray.mk #[115, 116, 97, 114, 116, 32, 45, 62, 32, 48])] o3 o5 o0 o0_1 o0_2 o0_3 o0_4 o0_5
      (fun r52 r53 r54 r55 r56 r57 r58 r59 =>
       l_dot_edges r53 r54 r55 r56 r57 r58
        (fun r60 r61 r62 r63 r64 r65 =>
         l_dot_edges_1_ydot_Dot_fdot_Dot_2 r59 r52 r53 r54 r55 r56 r57 r58 r60 r61 r62 r63 r64 r65
          (fun r66 r67 r68 r69 r70 r71 r72 r73 r74 r75 r76 r77 r78 r79 =>
           bi (decide ((r66.length + (bts (ByteArray.mk #[125, 10])).length) * 1 ≤ lim))
            (K1 0 (r66 ++ (bts (ByteArray.mk #[125, 10]))))
            none)
          (fun r80 r81 r82 r83 r84 r85 r86 r87 r88 r89 r90 r91 r92 r93 =>
           bi (decide ((r93.length + (bts (ByteArray.mk #[125, 10])).length) * 1 ≤ lim))
            (K1 0 (r93 ++ (bts (ByteArray.mk #[125, 10]))))
            none))))) (gt_dot_Dot_8 g) (gt_dot_Dot_21a g) (gt_dot_Dot_21b g) (fun r0 r1 => K (.tup [.own 0, .v (.int .i64 r0)]) [.row ⟨true, 5, (.int .u8), r1⟩]) (fun r0 r1 => K (.tup [.own 0, .v (.int .i64 r0)]) [.row ⟨false, 5, (.int .u8), r1⟩]) x70 x71 o0 o0_1 o0_2 o0_3 o0_4 o0_5 o3 o5 := by kernel_rfl

theorem gstep_dot_Dot_21b (l_machine_Check : LT_machine_Check) (l_dot_Label : LT_dot_Label) (l_dot_pen_line_fdot_Dot_2 : LT_dot_pen_line_fdot_Dot_2) (l_dot_pen_line_fdot_Dot_1 : LT_dot_pen_line_fdot_Dot_1) (l_dot_num : LT_dot_num) (l_dot_edges_1_ydot_Dot_fdot_Dot_2 : LT_dot_edges_1_ydot_Dot_fdot_Dot_2) (l_dot_edges_1_ydot_Dot_fdot_Dot_1 : LT_dot_edges_1_ydot_Dot_fdot_Dot_1) (l_dot_edges : LT_dot_edges) {R : Type} (g : List Item → St → Option R) (K : AV → List O → Option R) (x70 x71 o0 o0_1 o0_2 o0_3 : Int) (o0_4 o0_5 o3 : List Int) (o5 : List ByteArray) :
    runSeg Tryd.prog (T_dot_Dot @l_machine_Check @l_dot_Label @l_dot_pen_line_fdot_Dot_2 @l_dot_pen_line_fdot_Dot_1 @l_dot_num @l_dot_edges_1_ydot_Dot_fdot_Dot_2 @l_dot_edges_1_ydot_Dot_fdot_Dot_1 @l_dot_edges) cuts_dot_Dot 0 g (finish Tryd.prog Tryd.f9 0 K) (at' Tryd.f9 21) (sta_dot_Dot_21b x70 x71 o0 o0_1 o0_2 o0_3 o0_4 o0_5 o3 o5) =
    (fun (g9_8 : GT_dot_Dot_8 R) (g9_21 : GT_dot_Dot_21a R) (g9_21b : GT_dot_Dot_21b R) (K0 : Int → (List Int) → Option R) (K1 : Int → (List Int) → Option R) (x70 x71 o0 o0_1 o0_2 o0_3 : Int) (o0_4 o0_5 o3 : List Int) (o5 : List ByteArray) =>
    bi (decide (x71 < x70))
     (bi (o0 == 1)
      (bi (decide (0 ≤ x71 ∧ x71 < ((o0_5.length : Nat) : Int)))
       (bi ((o0_5.getD x71.toNat 0) == 1)
        (l_dot_num x71
         (fun r94 =>
          l_dot_pen_line_fdot_Dot_1 [r94, (ByteArray.mk #[32, 91, 115, 104, 97, 112, 101, 61]), (ByteArray.mk #[100, 111, 117, 98, 108, 101, 99, 105, 114, 99, 108, 101]), (ByteArray.mk #[93])] o3 o5
           (fun r95 r96 =>
            g9_21b x70 (IntKind.i64.wrap (x71 + 1)) o0 o0_1 o0_2 o0_3 o0_4 o0_5 r96 r95)))
        (l_dot_num x71
         (fun r97 =>
          l_dot_pen_line_fdot_Dot_1 [r97, (ByteArray.mk #[32, 91, 115, 104, 97, 112, 101, 61]), (ByteArray.mk #[99, 105, 114, 99, 108, 101]), (ByteArray.mk #[93])] o3 o5
           (fun r98 r99 =>
            g9_21b x70 (IntKind.i64.wrap (x71 + 1)) o0 o0_1 o0_2 o0_3 o0_4 o0_5 r99 r98))))
       none)
      (l_dot_num x71
       (fun r100 =>
        l_dot_pen_line_fdot_Dot_1 [r100, (ByteArray.mk #[32, 91, 115, 104, 97, 112, 101, 61]), (ByteArray.mk #[99, 105, 114, 99, 108, 101]), (ByteArray.mk #[93])] o3 o5
         (fun r101 r102 =>
          g9_21b x70 (IntKind.i64.wrap (x71 + 1)) o0 o0_1 o0_2 o0_3 o0_4 o0_5 r102 r101))))
     (l_dot_pen_line_fdot_Dot_1 [(ByteArray.mk #[115, 116, 97, 114, 116, 32, 45, 62, 32, 48])] o3 o5
      (fun r103 r104 =>
       l_dot_edges o0 o0_1 o0_2 o0_3 o0_4 o0_5
        (fun r105 r106 r107 r108 r109 r110 =>
         l_dot_edges_1_ydot_Dot_fdot_Dot_1 r104 r103 r105 r106 r107 r108 r109 r110
          (fun r111 r112 r113 r114 r115 r116 r117 r118 =>
           bi (decide ((r111.length + (bts (ByteArray.mk #[125, 10])).length) * 1 ≤ lim))
            (K1 0 (r111 ++ (bts (ByteArray.mk #[125, 10]))))
            none)
          (fun r119 r120 r121 r122 r123 r124 r125 r126 =>
           bi (decide ((r126.length + (bts (ByteArray.mk #[125, 10])).length) * 1 ≤ lim))
            (K1 0 (r126 ++ (bts (ByteArray.mk #[125, 10]))))
            none))))) (gt_dot_Dot_8 g) (gt_dot_Dot_21a g) (gt_dot_Dot_21b g) (fun r0 r1 => K (.tup [.own 0, .v (.int .i64 r0)]) [.row ⟨true, 5, (.int .u8), r1⟩]) (fun r0 r1 => K (.tup [.own 0, .v (.int .i64 r0)]) [.row ⟨false, 5, (.int .u8), r1⟩]) x70 x71 o0 o0_1 o0_2 o0_3 o0_4 o0_5 o3 o5 := by kernel_rfl

theorem gentry_dot_Dot (l_machine_Check : LT_machine_Check) (l_dot_Label : LT_dot_Label) (l_dot_pen_line_fdot_Dot_2 : LT_dot_pen_line_fdot_Dot_2) (l_dot_pen_line_fdot_Dot_1 : LT_dot_pen_line_fdot_Dot_1) (l_dot_num : LT_dot_num) (l_dot_edges_1_ydot_Dot_fdot_Dot_2 : LT_dot_edges_1_ydot_Dot_fdot_Dot_2) (l_dot_edges_1_ydot_Dot_fdot_Dot_1 : LT_dot_edges_1_ydot_Dot_fdot_Dot_1) (l_dot_edges : LT_dot_edges) {R : Type} (fuel : Nat) (K : AV → List O → Option R) (m m_1 m_2 m_3 : Int) (m_4 m_5 names : List Int) :
    fnRun Tryd.prog (T_dot_Dot @l_machine_Check @l_dot_Label @l_dot_pen_line_fdot_Dot_2 @l_dot_pen_line_fdot_Dot_1 @l_dot_num @l_dot_edges_1_ydot_Dot_fdot_Dot_2 @l_dot_edges_1_ydot_Dot_fdot_Dot_1 @l_dot_edges) cuts_dot_Dot Tryd.f9 fuel [.agg [.v (.int .i64 m), .v (.int .i64 m_1), .v (.int .i64 m_2), .v (.int .i64 m_3), .rd ⟨false, 3, (.int .i64), m_4⟩, .rd ⟨false, 3, (.int .i64), m_5⟩], .rd ⟨false, 21, (.int .i32), names⟩] [] K =
    (fun (g9_8 : GT_dot_Dot_8 R) (g9_21 : GT_dot_Dot_21a R) (g9_21b : GT_dot_Dot_21b R) (K0 : Int → (List Int) → Option R) (K1 : Int → (List Int) → Option R) (m m_1 m_2 m_3 : Int) (m_4 m_5 names : List Int) =>
    l_machine_Check m m_1 m_2 m_3 m_4 m_5
     (fun r1 r2 =>
      bi (r2 != 0)
       (K0 r2 ([] : List Int))
       (bi ((names.length : Int) != m_1)
        (K0 1 ([] : List Int))
        (bi (decide (0 ≤ m_1 ∧ m_1 ≤ m_1 ∧ m_1 ≤ 1073741824))
         (g9_8 names m_1 0 m m_1 m_2 m_3 m_4 m_5 (List.replicate m_1.toNat (ByteArray.empty : ByteArray)))
         none)))) (gt_dot_Dot_8 (runO Tryd.prog (T_dot_Dot @l_machine_Check @l_dot_Label @l_dot_pen_line_fdot_Dot_2 @l_dot_pen_line_fdot_Dot_1 @l_dot_num @l_dot_edges_1_ydot_Dot_fdot_Dot_2 @l_dot_edges_1_ydot_Dot_fdot_Dot_1 @l_dot_edges) cuts_dot_Dot 0 (finish Tryd.prog Tryd.f9 0 K) fuel)) (gt_dot_Dot_21a (runO Tryd.prog (T_dot_Dot @l_machine_Check @l_dot_Label @l_dot_pen_line_fdot_Dot_2 @l_dot_pen_line_fdot_Dot_1 @l_dot_num @l_dot_edges_1_ydot_Dot_fdot_Dot_2 @l_dot_edges_1_ydot_Dot_fdot_Dot_1 @l_dot_edges) cuts_dot_Dot 0 (finish Tryd.prog Tryd.f9 0 K) fuel)) (gt_dot_Dot_21b (runO Tryd.prog (T_dot_Dot @l_machine_Check @l_dot_Label @l_dot_pen_line_fdot_Dot_2 @l_dot_pen_line_fdot_Dot_1 @l_dot_num @l_dot_edges_1_ydot_Dot_fdot_Dot_2 @l_dot_edges_1_ydot_Dot_fdot_Dot_1 @l_dot_edges) cuts_dot_Dot 0 (finish Tryd.prog Tryd.f9 0 K) fuel)) (fun r0 r1 => K (.tup [.own 0, .v (.int .i64 r0)]) [.row ⟨true, 5, (.int .u8), r1⟩]) (fun r0 r1 => K (.tup [.own 0, .v (.int .i64 r0)]) [.row ⟨false, 5, (.int .u8), r1⟩]) m m_1 m_2 m_3 m_4 m_5 names := by kernel_rfl

theorem runs_dot_Dot {R : Type} (K : AV → List O → Option R) : ∀ fuel : Nat,
    (gt_dot_Dot_8 (runO Tryd.prog (T_dot_Dot @l_machine_Check @l_dot_Label @l_dot_pen_line_fdot_Dot_2 @l_dot_pen_line_fdot_Dot_1 @l_dot_num @l_dot_edges_1_ydot_Dot_fdot_Dot_2 @l_dot_edges_1_ydot_Dot_fdot_Dot_1 @l_dot_edges) cuts_dot_Dot 0 (finish Tryd.prog Tryd.f9 0 K) fuel)) = (run_dot_Dot (fun r0 r1 => K (.tup [.own 0, .v (.int .i64 r0)]) [.row ⟨true, 5, (.int .u8), r1⟩]) (fun r0 r1 => K (.tup [.own 0, .v (.int .i64 r0)]) [.row ⟨false, 5, (.int .u8), r1⟩]) fuel).1 ∧
    (gt_dot_Dot_21a (runO Tryd.prog (T_dot_Dot @l_machine_Check @l_dot_Label @l_dot_pen_line_fdot_Dot_2 @l_dot_pen_line_fdot_Dot_1 @l_dot_num @l_dot_edges_1_ydot_Dot_fdot_Dot_2 @l_dot_edges_1_ydot_Dot_fdot_Dot_1 @l_dot_edges) cuts_dot_Dot 0 (finish Tryd.prog Tryd.f9 0 K) fuel)) = (run_dot_Dot (fun r0 r1 => K (.tup [.own 0, .v (.int .i64 r0)]) [.row ⟨true, 5, (.int .u8), r1⟩]) (fun r0 r1 => K (.tup [.own 0, .v (.int .i64 r0)]) [.row ⟨false, 5, (.int .u8), r1⟩]) fuel).2.1 ∧
    (gt_dot_Dot_21b (runO Tryd.prog (T_dot_Dot @l_machine_Check @l_dot_Label @l_dot_pen_line_fdot_Dot_2 @l_dot_pen_line_fdot_Dot_1 @l_dot_num @l_dot_edges_1_ydot_Dot_fdot_Dot_2 @l_dot_edges_1_ydot_Dot_fdot_Dot_1 @l_dot_edges) cuts_dot_Dot 0 (finish Tryd.prog Tryd.f9 0 K) fuel)) = (run_dot_Dot (fun r0 r1 => K (.tup [.own 0, .v (.int .i64 r0)]) [.row ⟨true, 5, (.int .u8), r1⟩]) (fun r0 r1 => K (.tup [.own 0, .v (.int .i64 r0)]) [.row ⟨false, 5, (.int .u8), r1⟩]) fuel).2.2
  | 0 => ⟨rfl, rfl, rfl⟩
  | fuel + 1 => by
    have ih := runs_dot_Dot K fuel
    refine ⟨?_, ?_, ?_⟩
    · funext names x33 x34 o0 o0_1 o0_2 o0_3 o0_4 o0_5 o2
      refine (gstep_dot_Dot_8 @l_machine_Check @l_dot_Label @l_dot_pen_line_fdot_Dot_2 @l_dot_pen_line_fdot_Dot_1 @l_dot_num @l_dot_edges_1_ydot_Dot_fdot_Dot_2 @l_dot_edges_1_ydot_Dot_fdot_Dot_1 @l_dot_edges _ K names x33 x34 o0 o0_1 o0_2 o0_3 o0_4 o0_5 o2).trans ?_
      rw [ih.1, ih.2.1, ih.2.2]
      rfl
    · funext x70 x71 o0 o0_1 o0_2 o0_3 o0_4 o0_5 o3 o5
      refine (gstep_dot_Dot_21a @l_machine_Check @l_dot_Label @l_dot_pen_line_fdot_Dot_2 @l_dot_pen_line_fdot_Dot_1 @l_dot_num @l_dot_edges_1_ydot_Dot_fdot_Dot_2 @l_dot_edges_1_ydot_Dot_fdot_Dot_1 @l_dot_edges _ K x70 x71 o0 o0_1 o0_2 o0_3 o0_4 o0_5 o3 o5).trans ?_
      rw [ih.1, ih.2.1, ih.2.2]
      rfl
    · funext x70 x71 o0 o0_1 o0_2 o0_3 o0_4 o0_5 o3 o5
      refine (gstep_dot_Dot_21b @l_machine_Check @l_dot_Label @l_dot_pen_line_fdot_Dot_2 @l_dot_pen_line_fdot_Dot_1 @l_dot_num @l_dot_edges_1_ydot_Dot_fdot_Dot_2 @l_dot_edges_1_ydot_Dot_fdot_Dot_1 @l_dot_edges _ K x70 x71 o0 o0_1 o0_2 o0_3 o0_4 o0_5 o3 o5).trans ?_
      rw [ih.1, ih.2.1, ih.2.2]
      rfl

def S_dot_Dot (l_dot_Dot : LT_dot_Dot) : Sum := ⟨[], fun {R} args ob K => match args, ob with
  | [.agg [.v (.int .i64 m), .v (.int .i64 m_1), .v (.int .i64 m_2), .v (.int .i64 m_3), .rd ⟨false, 3, (.int .i64), m_4⟩, .rd ⟨false, 3, (.int .i64), m_5⟩], .rd ⟨false, 21, (.int .i32), names⟩], [] => l_dot_Dot m m_1 m_2 m_3 m_4 m_5 names (fun r0 r1 => K (.tup [.own 0, .v (.int .i64 r0)]) [.row ⟨true, 5, (.int .u8), r1⟩]) (fun r0 r1 => K (.tup [.own 0, .v (.int .i64 r0)]) [.row ⟨false, 5, (.int .u8), r1⟩])
  | _, _ => none⟩

theorem sound_dot_Dot : Sound Tryd.prog 9 (S_dot_Dot @l_dot_Dot) := by
  refine fn_sound (cuts := cuts_dot_Dot) (fn := Tryd.f9) (Γ := (T_dot_Dot @l_machine_Check @l_dot_Label @l_dot_pen_line_fdot_Dot_2 @l_dot_pen_line_fdot_Dot_1 @l_dot_num @l_dot_edges_1_ydot_Dot_fdot_Dot_2 @l_dot_edges_1_ydot_Dot_fdot_Dot_1 @l_dot_edges)) wide right_T_dot_Dot Tryd.func9 fun {R} K r args ob h => ?_
  unfold S_dot_Dot at h
  dsimp only at h
  split at h
  · obtain ⟨n, hn⟩ := ok_dot_Dot _ _ _ _ _ _ _ _ _ h
    refine ⟨Nat.le_of_ble_eq_true (by kernel_rfl), n, (gentry_dot_Dot @l_machine_Check @l_dot_Label @l_dot_pen_line_fdot_Dot_2 @l_dot_pen_line_fdot_Dot_1 @l_dot_num @l_dot_edges_1_ydot_Dot_fdot_Dot_2 @l_dot_edges_1_ydot_Dot_fdot_Dot_1 @l_dot_edges n K _ _ _ _ _ _ _).trans ?_⟩
    rw [(runs_dot_Dot K n).1, (runs_dot_Dot K n).2.1, (runs_dot_Dot K n).2.2]
    exact hn
  · cases h

theorem call_dot_Dot : Callable Tryd.prog 9 := ⟨_, Tryd.func9, by kernel_rfl, by kernel_rfl⟩

def T_tutorlaw09_num : FuncId → Option Sum := G0

theorem right_T_tutorlaw09_num : Right Tryd.prog T_tutorlaw09_num := right_G0

abbrev cuts_tutorlaw09_num : Cuts := []

theorem gentry_tutorlaw09_num {R : Type} (K : AV → List O → Option R) (e : Int) :
    fnRun Tryd.prog T_tutorlaw09_num cuts_tutorlaw09_num Tryd.f14 0 [.v (.int .i64 e)] [] K =
    (fun (e : Int) (K0 : Int → Option R) =>
    K0 e) e (fun r0 => K (.v (.int .i64 r0)) []) := by kernel_rfl

def S_tutorlaw09_num (l_tutorlaw09_num : LT_tutorlaw09_num) : Sum := ⟨[], fun {R} args ob K => match args, ob with
  | [.v (.int .i64 e)], [] => l_tutorlaw09_num e (fun r0 => K (.v (.int .i64 r0)) [])
  | _, _ => none⟩

theorem sound_tutorlaw09_num : Sound Tryd.prog 14 (S_tutorlaw09_num @l_tutorlaw09_num) := by
  refine fn_sound (cuts := cuts_tutorlaw09_num) (fn := Tryd.f14) (Γ := T_tutorlaw09_num) wide right_T_tutorlaw09_num Tryd.func14 fun {R} K r args ob h => ?_
  unfold S_tutorlaw09_num at h
  dsimp only at h
  split at h
  · exact ⟨Nat.le_of_ble_eq_true (by kernel_rfl), 0, (gentry_tutorlaw09_num K _).trans h⟩
  · cases h

theorem call_tutorlaw09_num : Callable Tryd.prog 14 := ⟨_, Tryd.func14, by kernel_rfl, by kernel_rfl⟩

def T_tutorlaw09_live (l_tutorlaw09_num : LT_tutorlaw09_num) (l_dot_Dot : LT_dot_Dot) : FuncId → Option Sum := (addS (addS G0 14 (S_tutorlaw09_num @l_tutorlaw09_num)) 9 (S_dot_Dot @l_dot_Dot))

theorem right_T_tutorlaw09_live : Right Tryd.prog (T_tutorlaw09_live @l_tutorlaw09_num @l_dot_Dot) := (right_add (right_add right_G0 call_tutorlaw09_num sound_tutorlaw09_num) call_dot_Dot sound_dot_Dot)

abbrev cuts_tutorlaw09_live : Cuts := []

theorem gentry_tutorlaw09_live (l_tutorlaw09_num : LT_tutorlaw09_num) (l_dot_Dot : LT_dot_Dot) {R : Type} (K : AV → List O → Option R)  :
    fnRun Tryd.prog (T_tutorlaw09_live @l_tutorlaw09_num @l_dot_Dot) cuts_tutorlaw09_live Tryd.f7 0 [] [] K =
    (fun  (K0 : Bool → Option R) =>
    l_dot_Dot 1 1 2 1 [0] [1] [97]
     (fun r1 r2 =>
      l_tutorlaw09_num r1
       (fun r3 =>
        bi (r3 == 0)
         (K0 ((ofBts r2).toList == (ByteArray.mk #[100, 105, 103, 114, 97, 112, 104, 32, 109, 32, 123, 10, 32, 32, 114, 97, 110, 107, 100, 105, 114, 61, 76, 82, 10, 32, 32, 115, 116, 97, 114, 116, 32, 91, 115, 104, 97, 112, 101, 61, 112, 111, 105, 110, 116, 93, 10, 32, 32, 48, 32, 91, 115, 104, 97, 112, 101, 61, 100, 111, 117, 98, 108, 101, 99, 105, 114, 99, 108, 101, 93, 10, 32, 32, 115, 116, 97, 114, 116, 32, 45, 62, 32, 48, 10, 32, 32, 48, 32, 45, 62, 32, 48, 32, 91, 108, 97, 98, 101, 108, 61, 34, 97, 34, 93, 10, 125, 10]).toList))
         (K0 false)))
     (fun r4 r5 =>
      l_tutorlaw09_num r4
       (fun r6 =>
        bi (r6 == 0)
         (K0 ((ofBts r5).toList == (ByteArray.mk #[100, 105, 103, 114, 97, 112, 104, 32, 109, 32, 123, 10, 32, 32, 114, 97, 110, 107, 100, 105, 114, 61, 76, 82, 10, 32, 32, 115, 116, 97, 114, 116, 32, 91, 115, 104, 97, 112, 101, 61, 112, 111, 105, 110, 116, 93, 10, 32, 32, 48, 32, 91, 115, 104, 97, 112, 101, 61, 100, 111, 117, 98, 108, 101, 99, 105, 114, 99, 108, 101, 93, 10, 32, 32, 115, 116, 97, 114, 116, 32, 45, 62, 32, 48, 10, 32, 32, 48, 32, 45, 62, 32, 48, 32, 91, 108, 97, 98, 101, 108, 61, 34, 97, 34, 93, 10, 125, 10]).toList))
         (K0 false))))  (fun r0 => K (.v (.bool r0)) []) := by kernel_rfl

def S_tutorlaw09_live (l_tutorlaw09_live : LT_tutorlaw09_live) : Sum := ⟨[], fun {R} args ob K => match args, ob with
  | [], [] => l_tutorlaw09_live  (fun r0 => K (.v (.bool r0)) [])
  | _, _ => none⟩

theorem sound_tutorlaw09_live : Sound Tryd.prog 7 (S_tutorlaw09_live @l_tutorlaw09_live) := by
  refine fn_sound (cuts := cuts_tutorlaw09_live) (fn := Tryd.f7) (Γ := (T_tutorlaw09_live @l_tutorlaw09_num @l_dot_Dot)) wide right_T_tutorlaw09_live Tryd.func7 fun {R} K r args ob h => ?_
  unfold S_tutorlaw09_live at h
  dsimp only at h
  split at h
  · exact ⟨Nat.le_of_ble_eq_true (by kernel_rfl), 0, (gentry_tutorlaw09_live @l_tutorlaw09_num @l_dot_Dot K).trans h⟩
  · cases h

theorem call_tutorlaw09_live : Callable Tryd.prog 7 := ⟨_, Tryd.func7, by kernel_rfl, by kernel_rfl⟩

def T_tutorref03_Check : FuncId → Option Sum := G0

theorem right_T_tutorref03_Check : Right Tryd.prog T_tutorref03_Check := right_G0

abbrev cuts_tutorref03_Check : Cuts := [(15, [1, 5]), (20, [1, 6])]

abbrev sta_tutorref03_Check_15 (i o0 o0_1 o0_2 o0_3 : Int) (o0_4 o0_5 : List Int) : St := ⟨fr0 123 [(1, .ptr 0 0), (5, .v (.int .i64 i))], [.box 24 [.v (.int .i64 o0), .v (.int .i64 o0_1), .v (.int .i64 o0_2), .v (.int .i64 o0_3), .rd ⟨false, 3, (.int .i64), o0_4⟩, .rd ⟨false, 3, (.int .i64), o0_5⟩]]⟩

abbrev gt_tutorref03_Check_15 {R : Type} (g : List Item → St → Option R) : GT_tutorref03_Check_15 R := fun (i o0 o0_1 o0_2 o0_3 : Int) (o0_4 o0_5 : List Int) => g (at' Tryd.f22 15) (sta_tutorref03_Check_15 i o0 o0_1 o0_2 o0_3 o0_4 o0_5)

abbrev sta_tutorref03_Check_20 (i o0 o0_1 o0_2 o0_3 : Int) (o0_4 o0_5 : List Int) : St := ⟨fr0 123 [(1, .ptr 0 0), (6, .v (.int .i64 i))], [.box 24 [.v (.int .i64 o0), .v (.int .i64 o0_1), .v (.int .i64 o0_2), .v (.int .i64 o0_3), .rd ⟨false, 3, (.int .i64), o0_4⟩, .rd ⟨false, 3, (.int .i64), o0_5⟩]]⟩

abbrev gt_tutorref03_Check_20 {R : Type} (g : List Item → St → Option R) : GT_tutorref03_Check_20 R := fun (i o0 o0_1 o0_2 o0_3 : Int) (o0_4 o0_5 : List Int) => g (at' Tryd.f22 20) (sta_tutorref03_Check_20 i o0 o0_1 o0_2 o0_3 o0_4 o0_5)

theorem gstep_tutorref03_Check_15 {R : Type} (g : List Item → St → Option R) (K : AV → List O → Option R) (i o0 o0_1 o0_2 o0_3 : Int) (o0_4 o0_5 : List Int) :
    runSeg Tryd.prog T_tutorref03_Check cuts_tutorref03_Check 0 g (finish Tryd.prog Tryd.f22 0 K) (at' Tryd.f22 15) (sta_tutorref03_Check_15 i o0 o0_1 o0_2 o0_3 o0_4 o0_5) =
    (fun (g22_15 : GT_tutorref03_Check_15 R) (g22_20 : GT_tutorref03_Check_20 R) (K0 : Int → Int → Option R) (i o0 o0_1 o0_2 o0_3 : Int) (o0_4 o0_5 : List Int) =>
    bi (decide (i < (o0_4.length : Int)))
     (bi (decide (0 ≤ i ∧ i < ((o0_4.length : Nat) : Int)))
      (bi (decide ((o0_4.getD i.toNat 0) < 0))
       (K0 i 32)
       (bi (decide (0 ≤ i ∧ i < ((o0_4.length : Nat) : Int)))
        (bi (decide ((o0_4.getD i.toNat 0) ≥ o0_3))
         (K0 i 32)
         (g22_15 (IntKind.i64.wrap (i + 1)) o0 o0_1 o0_2 o0_3 o0_4 o0_5))
        none))
      none)
     (g22_20 0 o0 o0_1 o0_2 o0_3 o0_4 o0_5)) (gt_tutorref03_Check_15 g) (gt_tutorref03_Check_20 g) (fun r0 r1 => K (.tup [.v (.int .i64 r0), .v (.int .i64 r1)]) []) i o0 o0_1 o0_2 o0_3 o0_4 o0_5 := by kernel_rfl

theorem gstep_tutorref03_Check_20 {R : Type} (g : List Item → St → Option R) (K : AV → List O → Option R) (i o0 o0_1 o0_2 o0_3 : Int) (o0_4 o0_5 : List Int) :
    runSeg Tryd.prog T_tutorref03_Check cuts_tutorref03_Check 0 g (finish Tryd.prog Tryd.f22 0 K) (at' Tryd.f22 20) (sta_tutorref03_Check_20 i o0 o0_1 o0_2 o0_3 o0_4 o0_5) =
    (fun (g22_15 : GT_tutorref03_Check_15 R) (g22_20 : GT_tutorref03_Check_20 R) (K0 : Int → Int → Option R) (i o0 o0_1 o0_2 o0_3 : Int) (o0_4 o0_5 : List Int) =>
    bi (decide (i < (o0_5.length : Int)))
     (bi (decide (0 ≤ i ∧ i < ((o0_5.length : Nat) : Int)))
      (bi (decide ((o0_5.getD i.toNat 0) < 0))
       (K0 i 33)
       (bi (decide (0 ≤ i ∧ i < ((o0_5.length : Nat) : Int)))
        (bi (decide ((o0_5.getD i.toNat 0) ≥ o0_2))
         (K0 i 33)
         (g22_20 (IntKind.i64.wrap (i + 1)) o0 o0_1 o0_2 o0_3 o0_4 o0_5))
        none))
      none)
     (K0 0 0)) (gt_tutorref03_Check_15 g) (gt_tutorref03_Check_20 g) (fun r0 r1 => K (.tup [.v (.int .i64 r0), .v (.int .i64 r1)]) []) i o0 o0_1 o0_2 o0_3 o0_4 o0_5 := by kernel_rfl

theorem gentry_tutorref03_Check {R : Type} (fuel : Nat) (K : AV → List O → Option R) (m m_1 m_2 m_3 : Int) (m_4 m_5 : List Int) :
    fnRun Tryd.prog T_tutorref03_Check cuts_tutorref03_Check Tryd.f22 fuel [.agg [.v (.int .i64 m), .v (.int .i64 m_1), .v (.int .i64 m_2), .v (.int .i64 m_3), .rd ⟨false, 3, (.int .i64), m_4⟩, .rd ⟨false, 3, (.int .i64), m_5⟩]] [] K =
    (fun (g22_15 : GT_tutorref03_Check_15 R) (g22_20 : GT_tutorref03_Check_20 R) (K0 : Int → Int → Option R) (m m_1 m_2 m_3 : Int) (m_4 m_5 : List Int) =>
    bi (m != 1)
     (bi (m != 2)
      (K0 0 30)
      (bi (decide (m_1 < 1))
       (K0 0 1)
       (bi (decide (m_1 > 64))
        (K0 0 1)
        (bi (m == 1)
         (bi (m_2 != 2)
          (K0 0 33)
          (bi (decide (m_2 < 1))
           (K0 0 33)
           (bi (decide (m_2 > 64))
            (K0 0 33)
            (bi (decide (m_3 < 1))
             (K0 0 3)
             (bi (decide (m_3 > 1024))
              (K0 0 3)
              (bi (m == 2)
               (bi ((m_4.length : Int) != (IntKind.i64.wrap (m_3 * m_1)))
                (K0 0 31)
                (bi ((m_5.length : Int) != (IntKind.i64.wrap (m_3 * m_1)))
                 (K0 0 31)
                 (g22_15 0 m m_1 m_2 m_3 m_4 m_5)))
               (bi ((m_4.length : Int) != (IntKind.i64.wrap (m_3 * m_1)))
                (K0 0 31)
                (bi ((m_5.length : Int) != m_3)
                 (K0 0 31)
                 (g22_15 0 m m_1 m_2 m_3 m_4 m_5)))))))))
         (bi (decide (m_2 < 1))
          (K0 0 33)
          (bi (decide (m_2 > 64))
           (K0 0 33)
           (bi (decide (m_3 < 1))
            (K0 0 3)
            (bi (decide (m_3 > 1024))
             (K0 0 3)
             (bi (m == 2)
              (bi ((m_4.length : Int) != (IntKind.i64.wrap (m_3 * m_1)))
               (K0 0 31)
               (bi ((m_5.length : Int) != (IntKind.i64.wrap (m_3 * m_1)))
                (K0 0 31)
                (g22_15 0 m m_1 m_2 m_3 m_4 m_5)))
              (bi ((m_4.length : Int) != (IntKind.i64.wrap (m_3 * m_1)))
               (K0 0 31)
               (bi ((m_5.length : Int) != m_3)
                (K0 0 31)
                (g22_15 0 m m_1 m_2 m_3 m_4 m_5))))))))))))
     (bi (decide (m_1 < 1))
      (K0 0 1)
      (bi (decide (m_1 > 64))
       (K0 0 1)
       (bi (m == 1)
        (bi (m_2 != 2)
         (K0 0 33)
         (bi (decide (m_2 < 1))
          (K0 0 33)
          (bi (decide (m_2 > 64))
           (K0 0 33)
           (bi (decide (m_3 < 1))
            (K0 0 3)
            (bi (decide (m_3 > 1024))
             (K0 0 3)
             (bi (m == 2)
              (bi ((m_4.length : Int) != (IntKind.i64.wrap (m_3 * m_1)))
               (K0 0 31)
               (bi ((m_5.length : Int) != (IntKind.i64.wrap (m_3 * m_1)))
                (K0 0 31)
                (g22_15 0 m m_1 m_2 m_3 m_4 m_5)))
              (bi ((m_4.length : Int) != (IntKind.i64.wrap (m_3 * m_1)))
               (K0 0 31)
               (bi ((m_5.length : Int) != m_3)
                (K0 0 31)
                (g22_15 0 m m_1 m_2 m_3 m_4 m_5)))))))))
        (bi (decide (m_2 < 1))
         (K0 0 33)
         (bi (decide (m_2 > 64))
          (K0 0 33)
          (bi (decide (m_3 < 1))
           (K0 0 3)
           (bi (decide (m_3 > 1024))
            (K0 0 3)
            (bi (m == 2)
             (bi ((m_4.length : Int) != (IntKind.i64.wrap (m_3 * m_1)))
              (K0 0 31)
              (bi ((m_5.length : Int) != (IntKind.i64.wrap (m_3 * m_1)))
               (K0 0 31)
               (g22_15 0 m m_1 m_2 m_3 m_4 m_5)))
             (bi ((m_4.length : Int) != (IntKind.i64.wrap (m_3 * m_1)))
              (K0 0 31)
              (bi ((m_5.length : Int) != m_3)
               (K0 0 31)
               (g22_15 0 m m_1 m_2 m_3 m_4 m_5)))))))))))) (gt_tutorref03_Check_15 (runO Tryd.prog T_tutorref03_Check cuts_tutorref03_Check 0 (finish Tryd.prog Tryd.f22 0 K) fuel)) (gt_tutorref03_Check_20 (runO Tryd.prog T_tutorref03_Check cuts_tutorref03_Check 0 (finish Tryd.prog Tryd.f22 0 K) fuel)) (fun r0 r1 => K (.tup [.v (.int .i64 r0), .v (.int .i64 r1)]) []) m m_1 m_2 m_3 m_4 m_5 := by kernel_rfl

theorem runs_tutorref03_Check {R : Type} (K : AV → List O → Option R) : ∀ fuel : Nat,
    (gt_tutorref03_Check_15 (runO Tryd.prog T_tutorref03_Check cuts_tutorref03_Check 0 (finish Tryd.prog Tryd.f22 0 K) fuel)) = (run_tutorref03_Check (fun r0 r1 => K (.tup [.v (.int .i64 r0), .v (.int .i64 r1)]) []) fuel).1 ∧
    (gt_tutorref03_Check_20 (runO Tryd.prog T_tutorref03_Check cuts_tutorref03_Check 0 (finish Tryd.prog Tryd.f22 0 K) fuel)) = (run_tutorref03_Check (fun r0 r1 => K (.tup [.v (.int .i64 r0), .v (.int .i64 r1)]) []) fuel).2
  | 0 => ⟨rfl, rfl⟩
  | fuel + 1 => by
    have ih := runs_tutorref03_Check K fuel
    refine ⟨?_, ?_⟩
    · funext i o0 o0_1 o0_2 o0_3 o0_4 o0_5
      refine (gstep_tutorref03_Check_15 _ K i o0 o0_1 o0_2 o0_3 o0_4 o0_5).trans ?_
      rw [ih.1, ih.2]
      rfl
    · funext i o0 o0_1 o0_2 o0_3 o0_4 o0_5
      refine (gstep_tutorref03_Check_20 _ K i o0 o0_1 o0_2 o0_3 o0_4 o0_5).trans ?_
      rw [ih.1, ih.2]
      rfl

def S_tutorref03_Check (l_tutorref03_Check : LT_tutorref03_Check) : Sum := ⟨[], fun {R} args ob K => match args, ob with
  | [.agg [.v (.int .i64 m), .v (.int .i64 m_1), .v (.int .i64 m_2), .v (.int .i64 m_3), .rd ⟨false, 3, (.int .i64), m_4⟩, .rd ⟨false, 3, (.int .i64), m_5⟩]], [] => l_tutorref03_Check m m_1 m_2 m_3 m_4 m_5 (fun r0 r1 => K (.tup [.v (.int .i64 r0), .v (.int .i64 r1)]) [])
  | _, _ => none⟩

theorem sound_tutorref03_Check : Sound Tryd.prog 22 (S_tutorref03_Check @l_tutorref03_Check) := by
  refine fn_sound (cuts := cuts_tutorref03_Check) (fn := Tryd.f22) (Γ := T_tutorref03_Check) wide right_T_tutorref03_Check Tryd.func22 fun {R} K r args ob h => ?_
  unfold S_tutorref03_Check at h
  dsimp only at h
  split at h
  · obtain ⟨n, hn⟩ := ok_tutorref03_Check _ _ _ _ _ _ _ h
    refine ⟨Nat.le_of_ble_eq_true (by kernel_rfl), n, (gentry_tutorref03_Check n K _ _ _ _ _ _).trans ?_⟩
    rw [(runs_tutorref03_Check K n).1, (runs_tutorref03_Check K n).2]
    exact hn
  · cases h

theorem call_tutorref03_Check : Callable Tryd.prog 22 := ⟨_, Tryd.func22, by kernel_rfl, by kernel_rfl⟩

def T_tutorref02_put : FuncId → Option Sum := G0

theorem right_T_tutorref02_put : Right Tryd.prog T_tutorref02_put := right_G0

abbrev cuts_tutorref02_put : Cuts := []

theorem gentry_tutorref02_put {R : Type} (K : AV → List O → Option R) (c : Int) :
    fnRun Tryd.prog T_tutorref02_put cuts_tutorref02_put Tryd.f33 0 [.v (.int .i32 c)] [] K =
    (fun (c : Int) (K0 : (List Int) → Option R) =>
    bi (decide (c < 128))
     (K0 [IntKind.u8.wrap c])
     (bi (decide (c < 2048))
      (K0 [IntKind.u8.wrap (IntKind.i32.wrap (192 + (IntKind.i32.wrap (c.tdiv 64)))), IntKind.u8.wrap (IntKind.i32.wrap (128 + (c.tmod 64)))])
      (bi (decide (c < 65536))
       (K0 [IntKind.u8.wrap (IntKind.i32.wrap (224 + (IntKind.i32.wrap (c.tdiv 4096)))), IntKind.u8.wrap (IntKind.i32.wrap (128 + ((IntKind.i32.wrap (c.tdiv 64)).tmod 64))), IntKind.u8.wrap (IntKind.i32.wrap (128 + (c.tmod 64)))])
       (K0 [IntKind.u8.wrap (IntKind.i32.wrap (240 + (IntKind.i32.wrap (c.tdiv 262144)))), IntKind.u8.wrap (IntKind.i32.wrap (128 + ((IntKind.i32.wrap (c.tdiv 4096)).tmod 64))), IntKind.u8.wrap (IntKind.i32.wrap (128 + ((IntKind.i32.wrap (c.tdiv 64)).tmod 64))), IntKind.u8.wrap (IntKind.i32.wrap (128 + (c.tmod 64)))])))) c (fun r0 => K (.own 0) [.row ⟨true, 5, (.int .u8), r0⟩]) := by kernel_rfl

def S_tutorref02_put (l_tutorref02_put : LT_tutorref02_put) : Sum := ⟨[], fun {R} args ob K => match args, ob with
  | [.v (.int .i32 c)], [] => l_tutorref02_put c (fun r0 => K (.own 0) [.row ⟨true, 5, (.int .u8), r0⟩])
  | _, _ => none⟩

theorem sound_tutorref02_put : Sound Tryd.prog 33 (S_tutorref02_put @l_tutorref02_put) := by
  refine fn_sound (cuts := cuts_tutorref02_put) (fn := Tryd.f33) (Γ := T_tutorref02_put) wide right_T_tutorref02_put Tryd.func33 fun {R} K r args ob h => ?_
  unfold S_tutorref02_put at h
  dsimp only at h
  split at h
  · exact ⟨Nat.le_of_ble_eq_true (by kernel_rfl), 0, (gentry_tutorref02_put K _).trans h⟩
  · cases h

theorem call_tutorref02_put : Callable Tryd.prog 33 := ⟨_, Tryd.func33, by kernel_rfl, by kernel_rfl⟩

def T_tutorref02_Show (l_tutorref02_put : LT_tutorref02_put) : FuncId → Option Sum := (addS G0 33 (S_tutorref02_put @l_tutorref02_put))

theorem right_T_tutorref02_Show : Right Tryd.prog (T_tutorref02_Show @l_tutorref02_put) := (right_add right_G0 call_tutorref02_put sound_tutorref02_put)

abbrev cuts_tutorref02_Show : Cuts := [(3, [0, 1, 6, 7])]

abbrev sta_tutorref02_Show_3 (names w : List Int) (i : Int) (o0 : List Int) : St := ⟨fr0 56 [(0, .rd ⟨false, 21, (.int .i32), names⟩), (1, .rd ⟨false, 3, (.int .i64), w⟩), (6, .own 0), (7, .v (.int .i64 i))], [.row ⟨true, 5, (.int .u8), o0⟩]⟩

abbrev gt_tutorref02_Show_3 {R : Type} (g : List Item → St → Option R) : GT_tutorref02_Show_3 R := fun (names w : List Int) (i : Int) (o0 : List Int) => g (at' Tryd.f25 3) (sta_tutorref02_Show_3 names w i o0)

theorem gstep_tutorref02_Show_3 (l_tutorref02_put : LT_tutorref02_put) {R : Type} (g : List Item → St → Option R) (K : AV → List O → Option R) (names w : List Int) (i : Int) (o0 : List Int) :
    runSeg Tryd.prog (T_tutorref02_Show @l_tutorref02_put) cuts_tutorref02_Show 0 g (finish Tryd.prog Tryd.f25 0 K) (at' Tryd.f25 3) (sta_tutorref02_Show_3 names w i o0) =
    (fun (g25_3 : GT_tutorref02_Show_3 R) (K0 : ByteArray → Int → Option R) (names w : List Int) (i : Int) (o0 : List Int) =>
    bi (decide (i < (w.length : Int)))
     (bi (decide (0 ≤ i ∧ i < ((w.length : Nat) : Int)))
      (bi (decide ((w.getD i.toNat 0) < 0))
       (K0 ByteArray.empty 10)
       (bi (decide (0 ≤ i ∧ i < ((w.length : Nat) : Int)))
        (bi (decide ((w.getD i.toNat 0) ≥ (names.length : Int)))
         (K0 ByteArray.empty 10)
         (bi (decide (0 ≤ i ∧ i < ((w.length : Nat) : Int)))
          (bi (decide (0 ≤ (w.getD i.toNat 0) ∧ (w.getD i.toNat 0) < ((names.length : Nat) : Int)))
           (bi (decide ((names.getD ((w.getD i.toNat 0).toNat) 0) < 0))
            (K0 ByteArray.empty 1)
            (bi (decide ((names.getD ((w.getD i.toNat 0).toNat) 0) > 1114111))
             (K0 ByteArray.empty 1)
             (bi (decide ((names.getD ((w.getD i.toNat 0).toNat) 0) ≥ 55296))
              (bi (decide ((names.getD ((w.getD i.toNat 0).toNat) 0) ≤ 57343))
               (K0 ByteArray.empty 1)
               (l_tutorref02_put (names.getD ((w.getD i.toNat 0).toNat) 0)
                (fun r1 =>
                 bi (decide ((o0.length + r1.length) * 1 ≤ lim))
                  (g25_3 names w (IntKind.i64.wrap (i + 1)) (o0 ++ r1))
                  none)))
              (l_tutorref02_put (names.getD ((w.getD i.toNat 0).toNat) 0)
               (fun r2 =>
                bi (decide ((o0.length + r2.length) * 1 ≤ lim))
                 (g25_3 names w (IntKind.i64.wrap (i + 1)) (o0 ++ r2))
                 none)))))
           none)
          none))
        none))
      none)
     (K0 (ofBts o0) 0)) (gt_tutorref02_Show_3 g) (fun r0 r1 => K (.tup [.v (.string r0), .v (.int .i64 r1)]) []) names w i o0 := by kernel_rfl

theorem gentry_tutorref02_Show (l_tutorref02_put : LT_tutorref02_put) {R : Type} (fuel : Nat) (K : AV → List O → Option R) (names w : List Int) :
    fnRun Tryd.prog (T_tutorref02_Show @l_tutorref02_put) cuts_tutorref02_Show Tryd.f25 fuel [.rd ⟨false, 21, (.int .i32), names⟩, .rd ⟨false, 3, (.int .i64), w⟩] [] K =
    (fun (g25_3 : GT_tutorref02_Show_3 R) (K0 : ByteArray → Int → Option R) (names w : List Int) =>
    g25_3 names w 0 ([] : List Int)) (gt_tutorref02_Show_3 (runO Tryd.prog (T_tutorref02_Show @l_tutorref02_put) cuts_tutorref02_Show 0 (finish Tryd.prog Tryd.f25 0 K) fuel)) (fun r0 r1 => K (.tup [.v (.string r0), .v (.int .i64 r1)]) []) names w := by kernel_rfl

theorem runs_tutorref02_Show {R : Type} (K : AV → List O → Option R) : ∀ fuel : Nat,
    (gt_tutorref02_Show_3 (runO Tryd.prog (T_tutorref02_Show @l_tutorref02_put) cuts_tutorref02_Show 0 (finish Tryd.prog Tryd.f25 0 K) fuel)) = (run_tutorref02_Show (fun r0 r1 => K (.tup [.v (.string r0), .v (.int .i64 r1)]) []) fuel)
  | 0 => rfl
  | fuel + 1 => by
    have ih := runs_tutorref02_Show K fuel
    funext names w i o0
    refine (gstep_tutorref02_Show_3 @l_tutorref02_put _ K names w i o0).trans ?_
    rw [ih]
    rfl

def S_tutorref02_Show (l_tutorref02_Show : LT_tutorref02_Show) : Sum := ⟨[], fun {R} args ob K => match args, ob with
  | [.rd ⟨false, 21, (.int .i32), names⟩, .rd ⟨false, 3, (.int .i64), w⟩], [] => l_tutorref02_Show names w (fun r0 r1 => K (.tup [.v (.string r0), .v (.int .i64 r1)]) [])
  | _, _ => none⟩

theorem sound_tutorref02_Show : Sound Tryd.prog 25 (S_tutorref02_Show @l_tutorref02_Show) := by
  refine fn_sound (cuts := cuts_tutorref02_Show) (fn := Tryd.f25) (Γ := (T_tutorref02_Show @l_tutorref02_put)) wide right_T_tutorref02_Show Tryd.func25 fun {R} K r args ob h => ?_
  unfold S_tutorref02_Show at h
  dsimp only at h
  split at h
  · obtain ⟨n, hn⟩ := ok_tutorref02_Show _ _ _ h
    refine ⟨Nat.le_of_ble_eq_true (by kernel_rfl), n, (gentry_tutorref02_Show @l_tutorref02_put n K _ _).trans ?_⟩
    rw [(runs_tutorref02_Show K n)]
    exact hn
  · cases h

theorem call_tutorref02_Show : Callable Tryd.prog 25 := ⟨_, Tryd.func25, by kernel_rfl, by kernel_rfl⟩

def T_tutorref02_At : FuncId → Option Sum := G0

theorem right_T_tutorref02_At : Right Tryd.prog T_tutorref02_At := right_G0

abbrev cuts_tutorref02_At : Cuts := [(15, [0, 1, 7, 8, 9, 10])]

abbrev sta_tutorref02_At_15 (s : ByteArray) (i n v least k : Int) : St := ⟨fr0 96 [(0, .v (.string s)), (1, .v (.int .i64 i)), (7, .v (.int .i64 n)), (8, .v (.int .i64 v)), (9, .v (.int .i64 least)), (10, .v (.int .i64 k))], []⟩

abbrev gt_tutorref02_At_15 {R : Type} (g : List Item → St → Option R) : GT_tutorref02_At_15 R := fun (s : ByteArray) (i n v least k : Int) => g (at' Tryd.f34 15) (sta_tutorref02_At_15 s i n v least k)

theorem gstep_tutorref02_At_15 {R : Type} (g : List Item → St → Option R) (K : AV → List O → Option R) (s : ByteArray) (i n v least k : Int) :
    runSeg Tryd.prog T_tutorref02_At cuts_tutorref02_At 0 g (finish Tryd.prog Tryd.f34 0 K) (at' Tryd.f34 15) (sta_tutorref02_At_15 s i n v least k) =
    (fun (g34_15 : GT_tutorref02_At_15 R) (K0 : Int → Int → Option R) (s : ByteArray) (i n v least k : Int) =>
    bi (decide (k < (IntKind.i64.wrap (i + n))))
     (bi (decide (0 ≤ k ∧ k < ((s.size : Nat) : Int)))
      (bi (decide ((IntKind.i64.wrap ((s.data.toList.getD k.toNat 0).toNat : Int)) < 128))
       (K0 0 0)
       (bi (decide ((IntKind.i64.wrap ((s.data.toList.getD k.toNat 0).toNat : Int)) ≥ 192))
        (K0 0 0)
        (g34_15 s i n (IntKind.i64.wrap ((IntKind.i64.wrap ((IntKind.i64.wrap (v * 64)) + (IntKind.i64.wrap ((s.data.toList.getD k.toNat 0).toNat : Int)))) - 128)) least (IntKind.i64.wrap (k + 1)))))
      none)
     (bi (decide (v < least))
      (K0 0 0)
      (bi (decide (v > 1114111))
       (K0 0 0)
       (bi (decide (v ≥ 55296))
        (bi (decide (v ≤ 57343))
         (K0 0 0)
         (K0 (IntKind.i32.wrap v) n))
        (K0 (IntKind.i32.wrap v) n))))) (gt_tutorref02_At_15 g) (fun r0 r1 => K (.tup [.v (.int .i32 r0), .v (.int .i64 r1)]) []) s i n v least k := by kernel_rfl

theorem gentry_tutorref02_At {R : Type} (fuel : Nat) (K : AV → List O → Option R) (s : ByteArray) (i : Int) :
    fnRun Tryd.prog T_tutorref02_At cuts_tutorref02_At Tryd.f34 fuel [.v (.string s), .v (.int .i64 i)] [] K =
    (fun (g34_15 : GT_tutorref02_At_15 R) (K0 : Int → Int → Option R) (s : ByteArray) (i : Int) =>
    bi (decide (0 ≤ i ∧ i < ((s.size : Nat) : Int)))
     (bi (decide ((IntKind.i64.wrap ((s.data.toList.getD i.toNat 0).toNat : Int)) < 128))
      (K0 (IntKind.i32.wrap (IntKind.i64.wrap ((s.data.toList.getD i.toNat 0).toNat : Int))) 1)
      (bi (decide ((IntKind.i64.wrap ((s.data.toList.getD i.toNat 0).toNat : Int)) ≥ 192))
       (bi (decide ((IntKind.i64.wrap ((s.data.toList.getD i.toNat 0).toNat : Int)) < 224))
        (bi (decide ((IntKind.i64.wrap ((s.size : Int) - i)) < 2))
         (K0 0 0)
         (g34_15 s i 2 (IntKind.i64.wrap ((IntKind.i64.wrap ((s.data.toList.getD i.toNat 0).toNat : Int)) - 192)) 128 (IntKind.i64.wrap (i + 1))))
        (bi (decide ((IntKind.i64.wrap ((s.data.toList.getD i.toNat 0).toNat : Int)) ≥ 224))
         (bi (decide ((IntKind.i64.wrap ((s.data.toList.getD i.toNat 0).toNat : Int)) < 240))
          (bi (decide ((IntKind.i64.wrap ((s.size : Int) - i)) < 3))
           (K0 0 0)
           (g34_15 s i 3 (IntKind.i64.wrap ((IntKind.i64.wrap ((s.data.toList.getD i.toNat 0).toNat : Int)) - 224)) 2048 (IntKind.i64.wrap (i + 1))))
          (bi (decide ((IntKind.i64.wrap ((s.data.toList.getD i.toNat 0).toNat : Int)) ≥ 240))
           (bi (decide ((IntKind.i64.wrap ((s.data.toList.getD i.toNat 0).toNat : Int)) < 248))
            (bi (decide ((IntKind.i64.wrap ((s.size : Int) - i)) < 4))
             (K0 0 0)
             (g34_15 s i 4 (IntKind.i64.wrap ((IntKind.i64.wrap ((s.data.toList.getD i.toNat 0).toNat : Int)) - 240)) 65536 (IntKind.i64.wrap (i + 1))))
            (K0 0 0))
           (K0 0 0)))
         (bi (decide ((IntKind.i64.wrap ((s.data.toList.getD i.toNat 0).toNat : Int)) ≥ 240))
          (bi (decide ((IntKind.i64.wrap ((s.data.toList.getD i.toNat 0).toNat : Int)) < 248))
           (bi (decide ((IntKind.i64.wrap ((s.size : Int) - i)) < 4))
            (K0 0 0)
            (g34_15 s i 4 (IntKind.i64.wrap ((IntKind.i64.wrap ((s.data.toList.getD i.toNat 0).toNat : Int)) - 240)) 65536 (IntKind.i64.wrap (i + 1))))
           (K0 0 0))
          (K0 0 0))))
       (bi (decide ((IntKind.i64.wrap ((s.data.toList.getD i.toNat 0).toNat : Int)) ≥ 224))
        (bi (decide ((IntKind.i64.wrap ((s.data.toList.getD i.toNat 0).toNat : Int)) < 240))
         (bi (decide ((IntKind.i64.wrap ((s.size : Int) - i)) < 3))
          (K0 0 0)
          (g34_15 s i 3 (IntKind.i64.wrap ((IntKind.i64.wrap ((s.data.toList.getD i.toNat 0).toNat : Int)) - 224)) 2048 (IntKind.i64.wrap (i + 1))))
         (bi (decide ((IntKind.i64.wrap ((s.data.toList.getD i.toNat 0).toNat : Int)) ≥ 240))
          (bi (decide ((IntKind.i64.wrap ((s.data.toList.getD i.toNat 0).toNat : Int)) < 248))
           (bi (decide ((IntKind.i64.wrap ((s.size : Int) - i)) < 4))
            (K0 0 0)
            (g34_15 s i 4 (IntKind.i64.wrap ((IntKind.i64.wrap ((s.data.toList.getD i.toNat 0).toNat : Int)) - 240)) 65536 (IntKind.i64.wrap (i + 1))))
           (K0 0 0))
          (K0 0 0)))
        (bi (decide ((IntKind.i64.wrap ((s.data.toList.getD i.toNat 0).toNat : Int)) ≥ 240))
         (bi (decide ((IntKind.i64.wrap ((s.data.toList.getD i.toNat 0).toNat : Int)) < 248))
          (bi (decide ((IntKind.i64.wrap ((s.size : Int) - i)) < 4))
           (K0 0 0)
           (g34_15 s i 4 (IntKind.i64.wrap ((IntKind.i64.wrap ((s.data.toList.getD i.toNat 0).toNat : Int)) - 240)) 65536 (IntKind.i64.wrap (i + 1))))
          (K0 0 0))
         (K0 0 0)))))
     none) (gt_tutorref02_At_15 (runO Tryd.prog T_tutorref02_At cuts_tutorref02_At 0 (finish Tryd.prog Tryd.f34 0 K) fuel)) (fun r0 r1 => K (.tup [.v (.int .i32 r0), .v (.int .i64 r1)]) []) s i := by kernel_rfl

theorem runs_tutorref02_At {R : Type} (K : AV → List O → Option R) : ∀ fuel : Nat,
    (gt_tutorref02_At_15 (runO Tryd.prog T_tutorref02_At cuts_tutorref02_At 0 (finish Tryd.prog Tryd.f34 0 K) fuel)) = (run_tutorref02_At (fun r0 r1 => K (.tup [.v (.int .i32 r0), .v (.int .i64 r1)]) []) fuel)
  | 0 => rfl
  | fuel + 1 => by
    have ih := runs_tutorref02_At K fuel
    funext s i n v least k
    refine (gstep_tutorref02_At_15 _ K s i n v least k).trans ?_
    rw [ih]
    rfl

def S_tutorref02_At (l_tutorref02_At : LT_tutorref02_At) : Sum := ⟨[], fun {R} args ob K => match args, ob with
  | [.v (.string s), .v (.int .i64 i)], [] => l_tutorref02_At s i (fun r0 r1 => K (.tup [.v (.int .i32 r0), .v (.int .i64 r1)]) [])
  | _, _ => none⟩

theorem sound_tutorref02_At : Sound Tryd.prog 34 (S_tutorref02_At @l_tutorref02_At) := by
  refine fn_sound (cuts := cuts_tutorref02_At) (fn := Tryd.f34) (Γ := T_tutorref02_At) wide right_T_tutorref02_At Tryd.func34 fun {R} K r args ob h => ?_
  unfold S_tutorref02_At at h
  dsimp only at h
  split at h
  · obtain ⟨n, hn⟩ := ok_tutorref02_At _ _ _ h
    refine ⟨Nat.le_of_ble_eq_true (by kernel_rfl), n, (gentry_tutorref02_At n K _ _).trans ?_⟩
    rw [(runs_tutorref02_At K n)]
    exact hn
  · cases h

theorem call_tutorref02_At : Callable Tryd.prog 34 := ⟨_, Tryd.func34, by kernel_rfl, by kernel_rfl⟩

def T_tutorref02_place : FuncId → Option Sum := G0

theorem right_T_tutorref02_place : Right Tryd.prog T_tutorref02_place := right_G0

abbrev cuts_tutorref02_place : Cuts := [(2, [0, 1, 5])]

abbrev sta_tutorref02_place_2 (names : List Int) (c i : Int) : St := ⟨fr0 19 [(0, .rd ⟨false, 21, (.int .i32), names⟩), (1, .v (.int .i32 c)), (5, .v (.int .i64 i))], []⟩

abbrev gt_tutorref02_place_2 {R : Type} (g : List Item → St → Option R) : GT_tutorref02_place_2 R := fun (names : List Int) (c i : Int) => g (at' Tryd.f35 2) (sta_tutorref02_place_2 names c i)

theorem gstep_tutorref02_place_2 {R : Type} (g : List Item → St → Option R) (K : AV → List O → Option R) (names : List Int) (c i : Int) :
    runSeg Tryd.prog T_tutorref02_place cuts_tutorref02_place 0 g (finish Tryd.prog Tryd.f35 0 K) (at' Tryd.f35 2) (sta_tutorref02_place_2 names c i) =
    (fun (g35_2 : GT_tutorref02_place_2 R) (K0 : Int → Option R) (names : List Int) (c i : Int) =>
    bi (decide (i < (names.length : Int)))
     (bi (decide (0 ≤ i ∧ i < ((names.length : Nat) : Int)))
      (bi ((names.getD i.toNat 0) == c)
       (K0 i)
       (g35_2 names c (IntKind.i64.wrap (i + 1))))
      none)
     (K0 (-1))) (gt_tutorref02_place_2 g) (fun r0 => K (.v (.int .i64 r0)) []) names c i := by kernel_rfl

theorem gentry_tutorref02_place {R : Type} (fuel : Nat) (K : AV → List O → Option R) (names : List Int) (c : Int) :
    fnRun Tryd.prog T_tutorref02_place cuts_tutorref02_place Tryd.f35 fuel [.rd ⟨false, 21, (.int .i32), names⟩, .v (.int .i32 c)] [] K =
    (fun (g35_2 : GT_tutorref02_place_2 R) (K0 : Int → Option R) (names : List Int) (c : Int) =>
    g35_2 names c 0) (gt_tutorref02_place_2 (runO Tryd.prog T_tutorref02_place cuts_tutorref02_place 0 (finish Tryd.prog Tryd.f35 0 K) fuel)) (fun r0 => K (.v (.int .i64 r0)) []) names c := by kernel_rfl

theorem runs_tutorref02_place {R : Type} (K : AV → List O → Option R) : ∀ fuel : Nat,
    (gt_tutorref02_place_2 (runO Tryd.prog T_tutorref02_place cuts_tutorref02_place 0 (finish Tryd.prog Tryd.f35 0 K) fuel)) = (run_tutorref02_place (fun r0 => K (.v (.int .i64 r0)) []) fuel)
  | 0 => rfl
  | fuel + 1 => by
    have ih := runs_tutorref02_place K fuel
    funext names c i
    refine (gstep_tutorref02_place_2 _ K names c i).trans ?_
    rw [ih]
    rfl

def S_tutorref02_place (l_tutorref02_place : LT_tutorref02_place) : Sum := ⟨[], fun {R} args ob K => match args, ob with
  | [.rd ⟨false, 21, (.int .i32), names⟩, .v (.int .i32 c)], [] => l_tutorref02_place names c (fun r0 => K (.v (.int .i64 r0)) [])
  | _, _ => none⟩

theorem sound_tutorref02_place : Sound Tryd.prog 35 (S_tutorref02_place @l_tutorref02_place) := by
  refine fn_sound (cuts := cuts_tutorref02_place) (fn := Tryd.f35) (Γ := T_tutorref02_place) wide right_T_tutorref02_place Tryd.func35 fun {R} K r args ob h => ?_
  unfold S_tutorref02_place at h
  dsimp only at h
  split at h
  · obtain ⟨n, hn⟩ := ok_tutorref02_place _ _ _ h
    refine ⟨Nat.le_of_ble_eq_true (by kernel_rfl), n, (gentry_tutorref02_place n K _ _).trans ?_⟩
    rw [(runs_tutorref02_place K n)]
    exact hn
  · cases h

theorem call_tutorref02_place : Callable Tryd.prog 35 := ⟨_, Tryd.func35, by kernel_rfl, by kernel_rfl⟩

def T_tutorref02_Parse (l_tutorref02_place : LT_tutorref02_place) (l_tutorref02_At : LT_tutorref02_At) : FuncId → Option Sum := (addS (addS G0 35 (S_tutorref02_place @l_tutorref02_place)) 34 (S_tutorref02_At @l_tutorref02_At))

theorem right_T_tutorref02_Parse : Right Tryd.prog (T_tutorref02_Parse @l_tutorref02_place @l_tutorref02_At) := (right_add (right_add right_G0 call_tutorref02_place sound_tutorref02_place) call_tutorref02_At sound_tutorref02_At)

abbrev cuts_tutorref02_Parse : Cuts := [(5, [0, 5, 6])]

abbrev sta_tutorref02_Parse_5 (s : ByteArray) (i : Int) (o0 : List Int) : St := ⟨fr0 52 [(0, .v (.string s)), (5, .own 0), (6, .v (.int .i64 i))], [.row ⟨true, 21, (.int .i32), o0⟩]⟩

abbrev gt_tutorref02_Parse_5 {R : Type} (g : List Item → St → Option R) : GT_tutorref02_Parse_5 R := fun (s : ByteArray) (i : Int) (o0 : List Int) => g (at' Tryd.f26 5) (sta_tutorref02_Parse_5 s i o0)

theorem gstep_tutorref02_Parse_5 (l_tutorref02_place : LT_tutorref02_place) (l_tutorref02_At : LT_tutorref02_At) {R : Type} (g : List Item → St → Option R) (K : AV → List O → Option R) (s : ByteArray) (i : Int) (o0 : List Int) :
    runSeg Tryd.prog (T_tutorref02_Parse @l_tutorref02_place @l_tutorref02_At) cuts_tutorref02_Parse 0 g (finish Tryd.prog Tryd.f26 0 K) (at' Tryd.f26 5) (sta_tutorref02_Parse_5 s i o0) =
    (fun (g26_5 : GT_tutorref02_Parse_5 R) (K0 : Int → Int → (List Int) → Option R) (s : ByteArray) (i : Int) (o0 : List Int) =>
    bi (decide (i < (s.size : Int)))
     (l_tutorref02_At s i
      (fun r1 r2 =>
       bi (r2 == 0)
        (K0 20 i ([] : List Int))
        (bi (decide (r1 < 33))
         (K0 20 i ([] : List Int))
         (bi (r1 == 127)
          (K0 20 i ([] : List Int))
          (l_tutorref02_place o0 r1
           (fun r3 =>
            bi (decide (r3 ≥ 0))
             (K0 21 i ([] : List Int))
             (bi ((o0.length : Int) == 64)
              (K0 3 i ([] : List Int))
              (bi (decide ((o0.length + [r1].length) * 4 ≤ lim))
               (g26_5 s (IntKind.i64.wrap (i + r2)) (o0 ++ [r1]))
               none))))))))
     (K0 0 (s.size : Int) o0)) (gt_tutorref02_Parse_5 g) (fun r0 r1 r2 => K (.tup [.own 0, .v (.int .i64 r0), .v (.int .i64 r1)]) [.row ⟨true, 21, (.int .i32), r2⟩]) s i o0 := by kernel_rfl

theorem gentry_tutorref02_Parse (l_tutorref02_place : LT_tutorref02_place) (l_tutorref02_At : LT_tutorref02_At) {R : Type} (fuel : Nat) (K : AV → List O → Option R) (s : ByteArray) :
    fnRun Tryd.prog (T_tutorref02_Parse @l_tutorref02_place @l_tutorref02_At) cuts_tutorref02_Parse Tryd.f26 fuel [.v (.string s)] [] K =
    (fun (g26_5 : GT_tutorref02_Parse_5 R) (K0 : Int → Int → (List Int) → Option R) (s : ByteArray) =>
    bi ((s.size : Int) == 0)
     (K0 4 0 ([] : List Int))
     (g26_5 s 0 ([] : List Int))) (gt_tutorref02_Parse_5 (runO Tryd.prog (T_tutorref02_Parse @l_tutorref02_place @l_tutorref02_At) cuts_tutorref02_Parse 0 (finish Tryd.prog Tryd.f26 0 K) fuel)) (fun r0 r1 r2 => K (.tup [.own 0, .v (.int .i64 r0), .v (.int .i64 r1)]) [.row ⟨true, 21, (.int .i32), r2⟩]) s := by kernel_rfl

theorem runs_tutorref02_Parse {R : Type} (K : AV → List O → Option R) : ∀ fuel : Nat,
    (gt_tutorref02_Parse_5 (runO Tryd.prog (T_tutorref02_Parse @l_tutorref02_place @l_tutorref02_At) cuts_tutorref02_Parse 0 (finish Tryd.prog Tryd.f26 0 K) fuel)) = (run_tutorref02_Parse (fun r0 r1 r2 => K (.tup [.own 0, .v (.int .i64 r0), .v (.int .i64 r1)]) [.row ⟨true, 21, (.int .i32), r2⟩]) fuel)
  | 0 => rfl
  | fuel + 1 => by
    have ih := runs_tutorref02_Parse K fuel
    funext s i o0
    refine (gstep_tutorref02_Parse_5 @l_tutorref02_place @l_tutorref02_At _ K s i o0).trans ?_
    rw [ih]
    rfl

def S_tutorref02_Parse (l_tutorref02_Parse : LT_tutorref02_Parse) : Sum := ⟨[], fun {R} args ob K => match args, ob with
  | [.v (.string s)], [] => l_tutorref02_Parse s (fun r0 r1 r2 => K (.tup [.own 0, .v (.int .i64 r0), .v (.int .i64 r1)]) [.row ⟨true, 21, (.int .i32), r2⟩])
  | _, _ => none⟩

theorem sound_tutorref02_Parse : Sound Tryd.prog 26 (S_tutorref02_Parse @l_tutorref02_Parse) := by
  refine fn_sound (cuts := cuts_tutorref02_Parse) (fn := Tryd.f26) (Γ := (T_tutorref02_Parse @l_tutorref02_place @l_tutorref02_At)) wide right_T_tutorref02_Parse Tryd.func26 fun {R} K r args ob h => ?_
  unfold S_tutorref02_Parse at h
  dsimp only at h
  split at h
  · obtain ⟨n, hn⟩ := ok_tutorref02_Parse _ _ h
    refine ⟨Nat.le_of_ble_eq_true (by kernel_rfl), n, (gentry_tutorref02_Parse @l_tutorref02_place @l_tutorref02_At n K _).trans ?_⟩
    rw [(runs_tutorref02_Parse K n)]
    exact hn
  · cases h

theorem call_tutorref02_Parse : Callable Tryd.prog 26 := ⟨_, Tryd.func26, by kernel_rfl, by kernel_rfl⟩

def T_tutorref09_Label (l_tutorref02_Parse : LT_tutorref02_Parse) (l_tutorref02_Show : LT_tutorref02_Show) : FuncId → Option Sum := (addS (addS G0 26 (S_tutorref02_Parse @l_tutorref02_Parse)) 25 (S_tutorref02_Show @l_tutorref02_Show))

theorem right_T_tutorref09_Label : Right Tryd.prog (T_tutorref09_Label @l_tutorref02_Parse @l_tutorref02_Show) := (right_add (right_add right_G0 call_tutorref02_Parse sound_tutorref02_Parse) call_tutorref02_Show sound_tutorref02_Show)

abbrev cuts_tutorref09_Label : Cuts := []

theorem gentry_tutorref09_Label (l_tutorref02_Parse : LT_tutorref02_Parse) (l_tutorref02_Show : LT_tutorref02_Show) {R : Type} (K : AV → List O → Option R) (names : List Int) (x : Int) :
    fnRun Tryd.prog (T_tutorref09_Label @l_tutorref02_Parse @l_tutorref02_Show) cuts_tutorref09_Label Tryd.f12 0 [.rd ⟨false, 21, (.int .i32), names⟩, .v (.int .i64 x)] [] K =
    (fun (names : List Int) (x : Int) (K0 : ByteArray → Int → Option R) =>
    bi (decide (x < 0))
     (K0 ByteArray.empty 10)
     (bi (decide (x ≥ (names.length : Int)))
      (K0 ByteArray.empty 10)
      (l_tutorref02_Show names [x]
       (fun r1 r2 =>
        bi (r2 != 0)
         (K0 ByteArray.empty 20)
         (l_tutorref02_Parse r1
          (fun r3 r4 r5 =>
           bi (r3 != 0)
            (K0 ByteArray.empty 20)
            (bi (r1.toList == (ByteArray.mk #[34]).toList)
             (bi (catOk (ByteArray.mk #[92]) r1)
              (K0 ((ByteArray.mk #[92]) ++ r1) 0)
              none)
             (bi (r1.toList == (ByteArray.mk #[92]).toList)
              (bi (catOk (ByteArray.mk #[92]) r1)
               (K0 ((ByteArray.mk #[92]) ++ r1) 0)
               none)
              (K0 r1 0))))))))) names x (fun r0 r1 => K (.tup [.v (.string r0), .v (.int .i64 r1)]) []) := by kernel_rfl

def S_tutorref09_Label (l_tutorref09_Label : LT_tutorref09_Label) : Sum := ⟨[], fun {R} args ob K => match args, ob with
  | [.rd ⟨false, 21, (.int .i32), names⟩, .v (.int .i64 x)], [] => l_tutorref09_Label names x (fun r0 r1 => K (.tup [.v (.string r0), .v (.int .i64 r1)]) [])
  | _, _ => none⟩

theorem sound_tutorref09_Label : Sound Tryd.prog 12 (S_tutorref09_Label @l_tutorref09_Label) := by
  refine fn_sound (cuts := cuts_tutorref09_Label) (fn := Tryd.f12) (Γ := (T_tutorref09_Label @l_tutorref02_Parse @l_tutorref02_Show)) wide right_T_tutorref09_Label Tryd.func12 fun {R} K r args ob h => ?_
  unfold S_tutorref09_Label at h
  dsimp only at h
  split at h
  · exact ⟨Nat.le_of_ble_eq_true (by kernel_rfl), 0, (gentry_tutorref09_Label @l_tutorref02_Parse @l_tutorref02_Show K _ _).trans h⟩
  · cases h

theorem call_tutorref09_Label : Callable Tryd.prog 12 := ⟨_, Tryd.func12, by kernel_rfl, by kernel_rfl⟩

def S_tutorref08_Put (l_tutorref08_Put : {R : Type} → Int → ((List Int) → Option R) → Option R) : Sum := ⟨[], fun {R} args ob K => match args, ob with
  | [.v (.int .i64 n)], [] => l_tutorref08_Put n (fun r0 => K (.own 0) [.row ⟨true, 5, (.int .u8), r0⟩])
  | _, _ => none⟩

theorem call_tutorref08_Put : Callable Tryd.prog 32 := ⟨_, Tryd.func32, by kernel_rfl, by kernel_rfl⟩

def T_tutorref08_Put (l_tutorref08_Put : {R : Type} → Int → ((List Int) → Option R) → Option R) : FuncId → Option Sum := addS G0 32 (S_tutorref08_Put @l_tutorref08_Put)

abbrev cuts_tutorref08_Put : Cuts := []

theorem gentry_tutorref08_Put (l_tutorref08_Put : {R : Type} → Int → ((List Int) → Option R) → Option R) {R : Type} (K : AV → List O → Option R) (n : Int) :
    fnRun Tryd.prog (T_tutorref08_Put @l_tutorref08_Put) cuts_tutorref08_Put Tryd.f32 0 [.v (.int .i64 n)] [] K =
    (fun (n : Int) (K0 : (List Int) → Option R) =>
    bi (decide (n < 0))
     (bi (decide (n > (-10)))
      (bi (decide (([45].length + [IntKind.u8.wrap (IntKind.i64.wrap (48 - n))].length) * 1 ≤ lim))
       (K0 ([45] ++ [IntKind.u8.wrap (IntKind.i64.wrap (48 - n))]))
       none)
      (bi (decide (n < 0))
       (l_tutorref08_Put (IntKind.i64.wrap (n.tdiv 10))
        (fun r1 =>
         bi (decide ((r1.length + [IntKind.u8.wrap (IntKind.i64.wrap (48 - (n.tmod 10)))].length) * 1 ≤ lim))
          (K0 (r1 ++ [IntKind.u8.wrap (IntKind.i64.wrap (48 - (n.tmod 10)))]))
          none))
       (bi (decide (n < 10))
        (K0 [IntKind.u8.wrap (IntKind.i64.wrap (48 + n))])
        (l_tutorref08_Put (IntKind.i64.wrap (n.tdiv 10))
         (fun r2 =>
          bi (decide ((r2.length + [IntKind.u8.wrap (IntKind.i64.wrap (48 + (n.tmod 10)))].length) * 1 ≤ lim))
           (K0 (r2 ++ [IntKind.u8.wrap (IntKind.i64.wrap (48 + (n.tmod 10)))]))
           none)))))
     (bi (decide (n < 0))
      (l_tutorref08_Put (IntKind.i64.wrap (n.tdiv 10))
       (fun r3 =>
        bi (decide ((r3.length + [IntKind.u8.wrap (IntKind.i64.wrap (48 - (n.tmod 10)))].length) * 1 ≤ lim))
         (K0 (r3 ++ [IntKind.u8.wrap (IntKind.i64.wrap (48 - (n.tmod 10)))]))
         none))
      (bi (decide (n < 10))
       (K0 [IntKind.u8.wrap (IntKind.i64.wrap (48 + n))])
       (l_tutorref08_Put (IntKind.i64.wrap (n.tdiv 10))
        (fun r4 =>
         bi (decide ((r4.length + [IntKind.u8.wrap (IntKind.i64.wrap (48 + (n.tmod 10)))].length) * 1 ≤ lim))
          (K0 (r4 ++ [IntKind.u8.wrap (IntKind.i64.wrap (48 + (n.tmod 10)))]))
          none))))) n (fun r0 => K (.own 0) [.row ⟨true, 5, (.int .u8), r0⟩]) := by kernel_rfl

theorem rsound_tutorref08_Put : ∀ m : Nat, Sound Tryd.prog 32 (S_tutorref08_Put (@run_tutorref08_Put m))
  | 0 => sound_none fun {R} K r args ob h => by
    unfold S_tutorref08_Put at h
    dsimp only at h
    split at h
    · cases h
    · cases h
  | m + 1 => by
    refine fn_sound (cuts := cuts_tutorref08_Put) (fn := Tryd.f32) (Γ := T_tutorref08_Put (@run_tutorref08_Put m)) wide (right_add right_G0 call_tutorref08_Put (rsound_tutorref08_Put m)) Tryd.func32 fun {R} K r args ob h => ?_
    unfold S_tutorref08_Put at h
    dsimp only at h
    split at h
    · exact ⟨Nat.le_of_ble_eq_true (by kernel_rfl), 0, (gentry_tutorref08_Put (@run_tutorref08_Put m) K _).trans h⟩
    · cases h

theorem sound_tutorref08_Put : Sound Tryd.prog 32 (S_tutorref08_Put @l_tutorref08_Put) := by
  refine sound_runs rsound_tutorref08_Put fun {R} K r args ob h => ?_
  unfold S_tutorref08_Put at h ⊢
  dsimp only at h ⊢
  split at h
  · exact ok_tutorref08_Put _ _ h
  · cases h

def T_tutorref09_num (l_tutorref08_Put : LT_tutorref08_Put) : FuncId → Option Sum := (addS G0 32 (S_tutorref08_Put @l_tutorref08_Put))

theorem right_T_tutorref09_num : Right Tryd.prog (T_tutorref09_num @l_tutorref08_Put) := (right_add right_G0 call_tutorref08_Put sound_tutorref08_Put)

abbrev cuts_tutorref09_num : Cuts := []

theorem gentry_tutorref09_num (l_tutorref08_Put : LT_tutorref08_Put) {R : Type} (K : AV → List O → Option R) (n : Int) :
    fnRun Tryd.prog (T_tutorref09_num @l_tutorref08_Put) cuts_tutorref09_num Tryd.f23 0 [.v (.int .i64 n)] [] K =
    (fun (n : Int) (K0 : ByteArray → Option R) =>
    l_tutorref08_Put n
     (fun r1 =>
      K0 (ofBts r1))) n (fun r0 => K (.v (.string r0)) []) := by kernel_rfl

def S_tutorref09_num (l_tutorref09_num : LT_tutorref09_num) : Sum := ⟨[], fun {R} args ob K => match args, ob with
  | [.v (.int .i64 n)], [] => l_tutorref09_num n (fun r0 => K (.v (.string r0)) [])
  | _, _ => none⟩

theorem sound_tutorref09_num : Sound Tryd.prog 23 (S_tutorref09_num @l_tutorref09_num) := by
  refine fn_sound (cuts := cuts_tutorref09_num) (fn := Tryd.f23) (Γ := (T_tutorref09_num @l_tutorref08_Put)) wide right_T_tutorref09_num Tryd.func23 fun {R} K r args ob h => ?_
  unfold S_tutorref09_num at h
  dsimp only at h
  split at h
  · exact ⟨Nat.le_of_ble_eq_true (by kernel_rfl), 0, (gentry_tutorref09_num @l_tutorref08_Put K _).trans h⟩
  · cases h

theorem call_tutorref09_num : Callable Tryd.prog 23 := ⟨_, Tryd.func23, by kernel_rfl, by kernel_rfl⟩

def T_tutorref09_Dot (l_tutorref03_Check : LT_tutorref03_Check) (l_tutorref09_Label : LT_tutorref09_Label) (l_tutorref09_num : LT_tutorref09_num) : FuncId → Option Sum := (addS (addS (addS G0 22 (S_tutorref03_Check @l_tutorref03_Check)) 12 (S_tutorref09_Label @l_tutorref09_Label)) 23 (S_tutorref09_num @l_tutorref09_num))

theorem right_T_tutorref09_Dot : Right Tryd.prog (T_tutorref09_Dot @l_tutorref03_Check @l_tutorref09_Label @l_tutorref09_num) := (right_add (right_add (right_add right_G0 call_tutorref03_Check sound_tutorref03_Check) call_tutorref09_Label sound_tutorref09_Label) call_tutorref09_num sound_tutorref09_num)

abbrev cuts_tutorref09_Dot : Cuts := [(8, [1, 2, 8, 9]), (16, [2, 8, 12, 13]), (23, [2, 8, 12, 14]), (26, [2, 8, 12, 14, 15]), (34, [12, 17, 18])]

abbrev sta_tutorref09_Dot_8 (names : List Int) (x o0 o0_1 o0_2 o0_3 : Int) (o0_4 o0_5 : List Int) (o1 : List ByteArray) : St := ⟨fr0 158 [(1, .rd ⟨false, 21, (.int .i32), names⟩), (2, .ptr 0 0), (8, .own 1), (9, .v (.int .i64 x))], [.box 24 [.v (.int .i64 o0), .v (.int .i64 o0_1), .v (.int .i64 o0_2), .v (.int .i64 o0_3), .rd ⟨false, 3, (.int .i64), o0_4⟩, .rd ⟨false, 3, (.int .i64), o0_5⟩], .row ⟨true, 9, .str, o1⟩]⟩

abbrev gt_tutorref09_Dot_8 {R : Type} (g : List Item → St → Option R) : GT_tutorref09_Dot_8 R := fun (names : List Int) (x o0 o0_1 o0_2 o0_3 : Int) (o0_4 o0_5 : List Int) (o1 : List ByteArray) => g (at' Tryd.f10 8) (sta_tutorref09_Dot_8 names x o0 o0_1 o0_2 o0_3 o0_4 o0_5 o1)

abbrev sta_tutorref09_Dot_16 (s o0 o0_1 o0_2 o0_3 : Int) (o0_4 o0_5 : List Int) (o1 o2 : List ByteArray) : St := ⟨fr0 158 [(2, .ptr 0 0), (8, .own 1), (12, .own 2), (13, .v (.int .i64 s))], [.box 24 [.v (.int .i64 o0), .v (.int .i64 o0_1), .v (.int .i64 o0_2), .v (.int .i64 o0_3), .rd ⟨false, 3, (.int .i64), o0_4⟩, .rd ⟨false, 3, (.int .i64), o0_5⟩], .row ⟨true, 9, .str, o1⟩, .row ⟨true, 9, .str, o2⟩]⟩

abbrev gt_tutorref09_Dot_16 {R : Type} (g : List Item → St → Option R) : GT_tutorref09_Dot_16 R := fun (s o0 o0_1 o0_2 o0_3 : Int) (o0_4 o0_5 : List Int) (o1 o2 : List ByteArray) => g (at' Tryd.f10 16) (sta_tutorref09_Dot_16 s o0 o0_1 o0_2 o0_3 o0_4 o0_5 o1 o2)

abbrev sta_tutorref09_Dot_23 (s o0 o0_1 o0_2 o0_3 : Int) (o0_4 o0_5 : List Int) (o1 o2 : List ByteArray) : St := ⟨fr0 158 [(2, .ptr 0 0), (8, .own 1), (12, .own 2), (14, .v (.int .i64 s))], [.box 24 [.v (.int .i64 o0), .v (.int .i64 o0_1), .v (.int .i64 o0_2), .v (.int .i64 o0_3), .rd ⟨false, 3, (.int .i64), o0_4⟩, .rd ⟨false, 3, (.int .i64), o0_5⟩], .row ⟨true, 9, .str, o1⟩, .row ⟨true, 9, .str, o2⟩]⟩

abbrev gt_tutorref09_Dot_23 {R : Type} (g : List Item → St → Option R) : GT_tutorref09_Dot_23 R := fun (s o0 o0_1 o0_2 o0_3 : Int) (o0_4 o0_5 : List Int) (o1 o2 : List ByteArray) => g (at' Tryd.f10 23) (sta_tutorref09_Dot_23 s o0 o0_1 o0_2 o0_3 o0_4 o0_5 o1 o2)

abbrev sta_tutorref09_Dot_26 (s x o0 o0_1 o0_2 o0_3 : Int) (o0_4 o0_5 : List Int) (o1 o2 : List ByteArray) : St := ⟨fr0 158 [(2, .ptr 0 0), (8, .own 1), (12, .own 2), (14, .v (.int .i64 s)), (15, .v (.int .i64 x))], [.box 24 [.v (.int .i64 o0), .v (.int .i64 o0_1), .v (.int .i64 o0_2), .v (.int .i64 o0_3), .rd ⟨false, 3, (.int .i64), o0_4⟩, .rd ⟨false, 3, (.int .i64), o0_5⟩], .row ⟨true, 9, .str, o1⟩, .row ⟨true, 9, .str, o2⟩]⟩

abbrev gt_tutorref09_Dot_26 {R : Type} (g : List Item → St → Option R) : GT_tutorref09_Dot_26 R := fun (s x o0 o0_1 o0_2 o0_3 : Int) (o0_4 o0_5 : List Int) (o1 o2 : List ByteArray) => g (at' Tryd.f10 26) (sta_tutorref09_Dot_26 s x o0 o0_1 o0_2 o0_3 o0_4 o0_5 o1 o2)

abbrev sta_tutorref09_Dot_34 (i : Int) (o0 : List ByteArray) (o1 : List Int) : St := ⟨fr0 158 [(12, .own 0), (17, .own 1), (18, .v (.int .i64 i))], [.row ⟨true, 9, .str, o0⟩, .row ⟨true, 5, (.int .u8), o1⟩]⟩

abbrev gt_tutorref09_Dot_34 {R : Type} (g : List Item → St → Option R) : GT_tutorref09_Dot_34 R := fun (i : Int) (o0 : List ByteArray) (o1 : List Int) => g (at' Tryd.f10 34) (sta_tutorref09_Dot_34 i o0 o1)

theorem gstep_tutorref09_Dot_8 (l_tutorref03_Check : LT_tutorref03_Check) (l_tutorref09_Label : LT_tutorref09_Label) (l_tutorref09_num : LT_tutorref09_num) {R : Type} (g : List Item → St → Option R) (K : AV → List O → Option R) (names : List Int) (x o0 o0_1 o0_2 o0_3 : Int) (o0_4 o0_5 : List Int) (o1 : List ByteArray) :
    runSeg Tryd.prog (T_tutorref09_Dot @l_tutorref03_Check @l_tutorref09_Label @l_tutorref09_num) cuts_tutorref09_Dot 0 g (finish Tryd.prog Tryd.f10 0 K) (at' Tryd.f10 8) (sta_tutorref09_Dot_8 names x o0 o0_1 o0_2 o0_3 o0_4 o0_5 o1) =
    (fun (g10_8 : GT_tutorref09_Dot_8 R) (g10_16 : GT_tutorref09_Dot_16 R) (g10_23 : GT_tutorref09_Dot_23 R) (g10_26 : GT_tutorref09_Dot_26 R) (g10_34 : GT_tutorref09_Dot_34 R) (K0 : Int → (List Int) → Option R) (names : List Int) (x o0 o0_1 o0_2 o0_3 : Int) (o0_4 o0_5 : List Int) (o1 : List ByteArray) =>
    bi (decide (x < o0_1))
     (l_tutorref09_Label names x
      (fun r3 r4 =>
       bi (r4 != 0)
        (K0 r4 ([] : List Int))
        (bi (decide ((o1.length + [r3].length) * 16 ≤ lim))
         (g10_8 names (IntKind.i64.wrap (x + 1)) o0 o0_1 o0_2 o0_3 o0_4 o0_5 (o1 ++ [r3]))
         none)))
     (g10_16 0 o0 o0_1 o0_2 o0_3 o0_4 o0_5 o1 [(ByteArray.mk #[114, 97, 110, 107, 100, 105, 114, 61, 76, 82]), (ByteArray.mk #[115, 116, 97, 114, 116, 32, 91, 115, 104, 97, 112, 101, 61, 112, 111, 105, 110, 116, 93])])) (gt_tutorref09_Dot_8 g) (gt_tutorref09_Dot_16 g) (gt_tutorref09_Dot_23 g) (gt_tutorref09_Dot_26 g) (gt_tutorref09_Dot_34 g) (fun r0 r1 => K (.tup [.own 0, .v (.int .i64 r0)]) [.row ⟨true, 5, (.int .u8), r1⟩]) names x o0 o0_1 o0_2 o0_3 o0_4 o0_5 o1 := by kernel_rfl

theorem gstep_tutorref09_Dot_16 (l_tutorref03_Check : LT_tutorref03_Check) (l_tutorref09_Label : LT_tutorref09_Label) (l_tutorref09_num : LT_tutorref09_num) {R : Type} (g : List Item → St → Option R) (K : AV → List O → Option R) (s o0 o0_1 o0_2 o0_3 : Int) (o0_4 o0_5 : List Int) (o1 o2 : List ByteArray) :
    runSeg Tryd.prog (T_tutorref09_Dot @l_tutorref03_Check @l_tutorref09_Label @l_tutorref09_num) cuts_tutorref09_Dot 0 g (finish Tryd.prog Tryd.f10 0 K) (at' Tryd.f10 16) (sta_tutorref09_Dot_16 s o0 o0_1 o0_2 o0_3 o0_4 o0_5 o1 o2) =
    (fun (g10_8 : GT_tutorref09_Dot_8 R) (g10_16 : GT_tutorref09_Dot_16 R) (g10_23 : GT_tutorref09_Dot_23 R) (g10_26 : GT_tutorref09_Dot_26 R) (g10_34 : GT_tutorref09_Dot_34 R) (K0 : Int → (List Int) → Option R) (s o0 o0_1 o0_2 o0_3 : Int) (o0_4 o0_5 : List Int) (o1 o2 : List ByteArray) =>
    bi (decide (s < o0_3))
     (bi (o0 == 1)
      (bi (decide (0 ≤ s ∧ s < ((o0_5.length : Nat) : Int)))
       (bi ((o0_5.getD s.toNat 0) == 1)
        (l_tutorref09_num s
         (fun r5 =>
          bi (catOk r5 (ByteArray.mk #[32, 91, 115, 104, 97, 112, 101, 61, 100, 111, 117, 98, 108, 101, 99, 105, 114, 99, 108, 101, 93]))
           (bi (decide ((o2.length + [r5 ++ (ByteArray.mk #[32, 91, 115, 104, 97, 112, 101, 61, 100, 111, 117, 98, 108, 101, 99, 105, 114, 99, 108, 101, 93])].length) * 16 ≤ lim))
            (g10_16 (IntKind.i64.wrap (s + 1)) o0 o0_1 o0_2 o0_3 o0_4 o0_5 o1 (o2 ++ [r5 ++ (ByteArray.mk #[32, 91, 115, 104, 97, 112, 101, 61, 100, 111, 117, 98, 108, 101, 99, 105, 114, 99, 108, 101, 93])]))
            none)
           none))
        (l_tutorref09_num s
         (fun r6 =>
          bi (catOk r6 (ByteArray.mk #[32, 91, 115, 104, 97, 112, 101, 61, 99, 105, 114, 99, 108, 101, 93]))
           (bi (decide ((o2.length + [r6 ++ (ByteArray.mk #[32, 91, 115, 104, 97, 112, 101, 61, 99, 105, 114, 99, 108, 101, 93])].length) * 16 ≤ lim))
            (g10_16 (IntKind.i64.wrap (s + 1)) o0 o0_1 o0_2 o0_3 o0_4 o0_5 o1 (o2 ++ [r6 ++ (ByteArray.mk #[32, 91, 115, 104, 97, 112, 101, 61, 99, 105, 114, 99, 108, 101, 93])]))
            none)
           none)))
       none)
      (l_tutorref09_num s
       (fun r7 =>
        bi (catOk r7 (ByteArray.mk #[32, 91, 115, 104, 97, 112, 101, 61, 99, 105, 114, 99, 108, 101, 93]))
         (bi (decide ((o2.length + [r7 ++ (ByteArray.mk #[32, 91, 115, 104, 97, 112, 101, 61, 99, 105, 114, 99, 108, 101, 93])].length) * 16 ≤ lim))
          (g10_16 (IntKind.i64.wrap (s + 1)) o0 o0_1 o0_2 o0_3 o0_4 o0_5 o1 (o2 ++ [r7 ++ (ByteArray.mk #[32, 91, 115, 104, 97, 112, 101, 61, 99, 105, 114, 99, 108, 101, 93])]))
          none)
         none)))
     (bi (decide ((o2.length + [(ByteArray.mk #[115, 116, 97, 114, 116, 32, 45, 62, 32, 48])].length) * 16 ≤ lim))
      (g10_23 0 o0 o0_1 o0_2 o0_3 o0_4 o0_5 o1 (o2 ++ [(ByteArray.mk #[115, 116, 97, 114, 116, 32, 45, 62, 32, 48])]))
      none)) (gt_tutorref09_Dot_8 g) (gt_tutorref09_Dot_16 g) (gt_tutorref09_Dot_23 g) (gt_tutorref09_Dot_26 g) (gt_tutorref09_Dot_34 g) (fun r0 r1 => K (.tup [.own 0, .v (.int .i64 r0)]) [.row ⟨true, 5, (.int .u8), r1⟩]) s o0 o0_1 o0_2 o0_3 o0_4 o0_5 o1 o2 := by kernel_rfl

theorem gstep_tutorref09_Dot_23 (l_tutorref03_Check : LT_tutorref03_Check) (l_tutorref09_Label : LT_tutorref09_Label) (l_tutorref09_num : LT_tutorref09_num) {R : Type} (g : List Item → St → Option R) (K : AV → List O → Option R) (s o0 o0_1 o0_2 o0_3 : Int) (o0_4 o0_5 : List Int) (o1 o2 : List ByteArray) :
    runSeg Tryd.prog (T_tutorref09_Dot @l_tutorref03_Check @l_tutorref09_Label @l_tutorref09_num) cuts_tutorref09_Dot 0 g (finish Tryd.prog Tryd.f10 0 K) (at' Tryd.f10 23) (sta_tutorref09_Dot_23 s o0 o0_1 o0_2 o0_3 o0_4 o0_5 o1 o2) =
    (fun (g10_8 : GT_tutorref09_Dot_8 R) (g10_16 : GT_tutorref09_Dot_16 R) (g10_23 : GT_tutorref09_Dot_23 R) (g10_26 : GT_tutorref09_Dot_26 R) (g10_34 : GT_tutorref09_Dot_34 R) (K0 : Int → (List Int) → Option R) (s o0 o0_1 o0_2 o0_3 : Int) (o0_4 o0_5 : List Int) (o1 o2 : List ByteArray) =>
    bi (decide (s < o0_3))
     (g10_26 s 0 o0 o0_1 o0_2 o0_3 o0_4 o0_5 o1 o2)
     (bi (decide (0 < [100, 105, 103, 114, 97, 112, 104, 32, 109, 32, 123, 10].length))
      (g10_34 0 o2 [100, 105, 103, 114, 97, 112, 104, 32, 109, 32, 123, 10])
      none)) (gt_tutorref09_Dot_8 g) (gt_tutorref09_Dot_16 g) (gt_tutorref09_Dot_23 g) (gt_tutorref09_Dot_26 g) (gt_tutorref09_Dot_34 g) (fun r0 r1 => K (.tup [.own 0, .v (.int .i64 r0)]) [.row ⟨true, 5, (.int .u8), r1⟩]) s o0 o0_1 o0_2 o0_3 o0_4 o0_5 o1 o2 := by kernel_rfl

theorem gstep_tutorref09_Dot_26 (l_tutorref03_Check : LT_tutorref03_Check) (l_tutorref09_Label : LT_tutorref09_Label) (l_tutorref09_num : LT_tutorref09_num) {R : Type} (g : List Item → St → Option R) (K : AV → List O → Option R) (s x o0 o0_1 o0_2 o0_3 : Int) (o0_4 o0_5 : List Int) (o1 o2 : List ByteArray) :
    runSeg Tryd.prog (T_tutorref09_Dot @l_tutorref03_Check @l_tutorref09_Label @l_tutorref09_num) cuts_tutorref09_Dot 0 g (finish Tryd.prog Tryd.f10 0 K) (at' Tryd.f10 26) (sta_tutorref09_Dot_26 s x o0 o0_1 o0_2 o0_3 o0_4 o0_5 o1 o2) =
    (fun (g10_8 : GT_tutorref09_Dot_8 R) (g10_16 : GT_tutorref09_Dot_16 R) (g10_23 : GT_tutorref09_Dot_23 R) (g10_26 : GT_tutorref09_Dot_26 R) (g10_34 : GT_tutorref09_Dot_34 R) (K0 : Int → (List Int) → Option R) (s x o0 o0_1 o0_2 o0_3 : Int) (o0_4 o0_5 : List Int) (o1 o2 : List ByteArray) =>
    bi (decide (x < o0_1))
     (bi (decide (0 ≤ x ∧ x < ((o1.length : Nat) : Int)))
      (bi (o0 == 2)
       (bi (catOk (o1.getD x.toNat ByteArray.empty) (ByteArray.mk #[47]))
        (bi (decide (0 ≤ (IntKind.i64.wrap ((IntKind.i64.wrap (s * o0_1)) + x)) ∧ (IntKind.i64.wrap ((IntKind.i64.wrap (s * o0_1)) + x)) < ((o0_5.length : Nat) : Int)))
         (l_tutorref09_num (o0_5.getD ((IntKind.i64.wrap ((IntKind.i64.wrap (s * o0_1)) + x)).toNat) 0)
          (fun r8 =>
           bi (catOk ((o1.getD x.toNat ByteArray.empty) ++ (ByteArray.mk #[47])) r8)
            (bi (decide (0 ≤ (IntKind.i64.wrap ((IntKind.i64.wrap (s * o0_1)) + x)) ∧ (IntKind.i64.wrap ((IntKind.i64.wrap (s * o0_1)) + x)) < ((o0_4.length : Nat) : Int)))
             (l_tutorref09_num s
              (fun r9 =>
               bi (catOk r9 (ByteArray.mk #[32, 45, 62, 32]))
                (l_tutorref09_num (o0_4.getD ((IntKind.i64.wrap ((IntKind.i64.wrap (s * o0_1)) + x)).toNat) 0)
                 (fun r10 =>
                  bi (catOk (r9 ++ (ByteArray.mk #[32, 45, 62, 32])) r10)
                   (bi (catOk ((r9 ++ (ByteArray.mk #[32, 45, 62, 32])) ++ r10) (ByteArray.mk #[32, 91, 108, 97, 98, 101, 108, 61, 34]))
                    (bi (catOk (((r9 ++ (ByteArray.mk #[32, 45, 62, 32])) ++ r10) ++ (ByteArray.mk #[32, 91, 108, 97, 98, 101, 108, 61, 34])) (((o1.getD x.toNat ByteArray.empty) ++ (ByteArray.mk #[47])) ++ r8))
                     (bi (catOk ((((r9 ++ (ByteArray.mk #[32, 45, 62, 32])) ++ r10) ++ (ByteArray.mk #[32, 91, 108, 97, 98, 101, 108, 61, 34])) ++ (((o1.getD x.toNat ByteArray.empty) ++ (ByteArray.mk #[47])) ++ r8)) (ByteArray.mk #[34, 93]))
                      (bi (decide ((o2.length + [((((r9 ++ (ByteArray.mk #[32, 45, 62, 32])) ++ r10) ++ (ByteArray.mk #[32, 91, 108, 97, 98, 101, 108, 61, 34])) ++ (((o1.getD x.toNat ByteArray.empty) ++ (ByteArray.mk #[47])) ++ r8)) ++ (ByteArray.mk #[34, 93])].length) * 16 ≤ lim))
                       (g10_26 s (IntKind.i64.wrap (x + 1)) o0 o0_1 o0_2 o0_3 o0_4 o0_5 o1 (o2 ++ [((((r9 ++ (ByteArray.mk #[32, 45, 62, 32])) ++ r10) ++ (ByteArray.mk #[32, 91, 108, 97, 98, 101, 108, 61, 34])) ++ (((o1.getD x.toNat ByteArray.empty) ++ (ByteArray.mk #[47])) ++ r8)) ++ (ByteArray.mk #[34, 93])]))
                       none)
                      none)
                     none)
                    none)
                   none))
                none))
             none)
            none))
         none)
        none)
       (bi (decide (0 ≤ (IntKind.i64.wrap ((IntKind.i64.wrap (s * o0_1)) + x)) ∧ (IntKind.i64.wrap ((IntKind.i64.wrap (s * o0_1)) + x)) < ((o0_4.length : Nat) : Int)))
        (l_tutorref09_num s
         (fun r11 =>
          bi (catOk r11 (ByteArray.mk #[32, 45, 62, 32]))
           (l_tutorref09_num (o0_4.getD ((IntKind.i64.wrap ((IntKind.i64.wrap (s * o0_1)) + x)).toNat) 0)
            (fun r12 =>
             bi (catOk (r11 ++ (ByteArray.mk #[32, 45, 62, 32])) r12)
              (bi (catOk ((r11 ++ (ByteArray.mk #[32, 45, 62, 32])) ++ r12) (ByteArray.mk #[32, 91, 108, 97, 98, 101, 108, 61, 34]))
               (bi (catOk (((r11 ++ (ByteArray.mk #[32, 45, 62, 32])) ++ r12) ++ (ByteArray.mk #[32, 91, 108, 97, 98, 101, 108, 61, 34])) (o1.getD x.toNat ByteArray.empty))
                (bi (catOk ((((r11 ++ (ByteArray.mk #[32, 45, 62, 32])) ++ r12) ++ (ByteArray.mk #[32, 91, 108, 97, 98, 101, 108, 61, 34])) ++ (o1.getD x.toNat ByteArray.empty)) (ByteArray.mk #[34, 93]))
                 (bi (decide ((o2.length + [((((r11 ++ (ByteArray.mk #[32, 45, 62, 32])) ++ r12) ++ (ByteArray.mk #[32, 91, 108, 97, 98, 101, 108, 61, 34])) ++ (o1.getD x.toNat ByteArray.empty)) ++ (ByteArray.mk #[34, 93])].length) * 16 ≤ lim))
                  (g10_26 s (IntKind.i64.wrap (x + 1)) o0 o0_1 o0_2 o0_3 o0_4 o0_5 o1 (o2 ++ [((((r11 ++ (ByteArray.mk #[32, 45, 62, 32])) ++ r12) ++ (ByteArray.mk #[32, 91, 108, 97, 98, 101, 108, 61, 34])) ++ (o1.getD x.toNat ByteArray.empty)) ++ (ByteArray.mk #[34, 93])]))
                  none)
                 none)
                none)
               none)
              none))
           none))
        none))
      none)
     (g10_23 (IntKind.i64.wrap (s + 1)) o0 o0_1 o0_2 o0_3 o0_4 o0_5 o1 o2)) (gt_tutorref09_Dot_8 g) (gt_tutorref09_Dot_16 g) (gt_tutorref09_Dot_23 g) (gt_tutorref09_Dot_26 g) (gt_tutorref09_Dot_34 g) (fun r0 r1 => K (.tup [.own 0, .v (.int .i64 r0)]) [.row ⟨true, 5, (.int .u8), r1⟩]) s x o0 o0_1 o0_2 o0_3 o0_4 o0_5 o1 o2 := by kernel_rfl

theorem gstep_tutorref09_Dot_34 (l_tutorref03_Check : LT_tutorref03_Check) (l_tutorref09_Label : LT_tutorref09_Label) (l_tutorref09_num : LT_tutorref09_num) {R : Type} (g : List Item → St → Option R) (K : AV → List O → Option R) (i : Int) (o0 : List ByteArray) (o1 : List Int) :
    runSeg Tryd.prog (T_tutorref09_Dot @l_tutorref03_Check @l_tutorref09_Label @l_tutorref09_num) cuts_tutorref09_Dot 0 g (finish Tryd.prog Tryd.f10 0 K) (at' Tryd.f10 34) (sta_tutorref09_Dot_34 i o0 o1) =
    (fun (g10_8 : GT_tutorref09_Dot_8 R) (g10_16 : GT_tutorref09_Dot_16 R) (g10_23 : GT_tutorref09_Dot_23 R) (g10_26 : GT_tutorref09_Dot_26 R) (g10_34 : GT_tutorref09_Dot_34 R) (K0 : Int → (List Int) → Option R) (i : Int) (o0 : List ByteArray) (o1 : List Int) =>
    bi (decide (i < (o0.length : Int)))
     (bi (decide (0 ≤ i ∧ i < ((o0.length : Nat) : Int)))
      (both
       (bi (decide ((o1.length + (bts (ByteArray.mk #[32, 32])).length) * 1 ≤ lim))
        (both
         (twice
          (bi (decide (((o1 ++ (bts (ByteArray.mk #[32, 32]))).length + (bts (o0.getD i.toNat ByteArray.empty)).length) * 1 ≤ lim))
           (bi (decide ((((o1 ++ (bts (ByteArray.mk #[32, 32]))) ++ (bts (o0.getD i.toNat ByteArray.empty))).length + [10].length) * 1 ≤ lim))
            (g10_34 (IntKind.i64.wrap (i + 1)) o0 (((o1 ++ (bts (ByteArray.mk #[32, 32]))) ++ (bts (o0.getD i.toNat ByteArray.empty))) ++ [10]))
            none)
           none))
         (bi (decide (((o1 ++ (bts (ByteArray.mk #[32, 32]))).length + (bts (o0.getD i.toNat ByteArray.empty)).length) * 1 ≤ lim))
          (bi (decide ((((o1 ++ (bts (ByteArray.mk #[32, 32]))) ++ (bts (o0.getD i.toNat ByteArray.empty))).length + [10].length) * 1 ≤ lim))
           (g10_34 (IntKind.i64.wrap (i + 1)) o0 (((o1 ++ (bts (ByteArray.mk #[32, 32]))) ++ (bts (o0.getD i.toNat ByteArray.empty))) ++ [10]))
           none)
          none))
        none)
       (both
        (both
         (bi (decide ((o1.length + (bts (ByteArray.mk #[32, 32])).length) * 1 ≤ lim))
          (twice
           (bi (decide (((o1 ++ (bts (ByteArray.mk #[32, 32]))).length + (bts (o0.getD i.toNat ByteArray.empty)).length) * 1 ≤ lim))
            (bi (decide ((((o1 ++ (bts (ByteArray.mk #[32, 32]))) ++ (bts (o0.getD i.toNat ByteArray.empty))).length + [10].length) * 1 ≤ lim))
             (g10_34 (IntKind.i64.wrap (i + 1)) o0 (((o1 ++ (bts (ByteArray.mk #[32, 32]))) ++ (bts (o0.getD i.toNat ByteArray.empty))) ++ [10]))
             none)
            none))
          none)
         (bi (decide ((o1.length + (bts (ByteArray.mk #[32, 32])).length) * 1 ≤ lim))
          (bi (decide (((o1 ++ (bts (ByteArray.mk #[32, 32]))).length + (bts (o0.getD i.toNat ByteArray.empty)).length) * 1 ≤ lim))
           (bi (decide ((((o1 ++ (bts (ByteArray.mk #[32, 32]))) ++ (bts (o0.getD i.toNat ByteArray.empty))).length + [10].length) * 1 ≤ lim))
            (g10_34 (IntKind.i64.wrap (i + 1)) o0 (((o1 ++ (bts (ByteArray.mk #[32, 32]))) ++ (bts (o0.getD i.toNat ByteArray.empty))) ++ [10]))
            none)
           none)
          none))
        (twice
         (bi (decide ((o1.length + (bts (ByteArray.mk #[32, 32])).length) * 1 ≤ lim))
          (bi (decide (((o1 ++ (bts (ByteArray.mk #[32, 32]))).length + (bts (o0.getD i.toNat ByteArray.empty)).length) * 1 ≤ lim))
           (bi (decide ((((o1 ++ (bts (ByteArray.mk #[32, 32]))) ++ (bts (o0.getD i.toNat ByteArray.empty))).length + [10].length) * 1 ≤ lim))
            (g10_34 (IntKind.i64.wrap (i + 1)) o0 (((o1 ++ (bts (ByteArray.mk #[32, 32]))) ++ (bts (o0.getD i.toNat ByteArray.empty))) ++ [10]))
            none)
           none)
          none))))
      none)
     (bi (decide ((o1.length + (bts (ByteArray.mk #[125, 10])).length) * 1 ≤ lim))
      (K0 0 (o1 ++ (bts (ByteArray.mk #[125, 10]))))
      none)) (gt_tutorref09_Dot_8 g) (gt_tutorref09_Dot_16 g) (gt_tutorref09_Dot_23 g) (gt_tutorref09_Dot_26 g) (gt_tutorref09_Dot_34 g) (fun r0 r1 => K (.tup [.own 0, .v (.int .i64 r0)]) [.row ⟨true, 5, (.int .u8), r1⟩]) i o0 o1 := by kernel_rfl

theorem gentry_tutorref09_Dot (l_tutorref03_Check : LT_tutorref03_Check) (l_tutorref09_Label : LT_tutorref09_Label) (l_tutorref09_num : LT_tutorref09_num) {R : Type} (fuel : Nat) (K : AV → List O → Option R) (m m_1 m_2 m_3 : Int) (m_4 m_5 names : List Int) :
    fnRun Tryd.prog (T_tutorref09_Dot @l_tutorref03_Check @l_tutorref09_Label @l_tutorref09_num) cuts_tutorref09_Dot Tryd.f10 fuel [.agg [.v (.int .i64 m), .v (.int .i64 m_1), .v (.int .i64 m_2), .v (.int .i64 m_3), .rd ⟨false, 3, (.int .i64), m_4⟩, .rd ⟨false, 3, (.int .i64), m_5⟩], .rd ⟨false, 21, (.int .i32), names⟩] [] K =
    (fun (g10_8 : GT_tutorref09_Dot_8 R) (g10_16 : GT_tutorref09_Dot_16 R) (g10_23 : GT_tutorref09_Dot_23 R) (g10_26 : GT_tutorref09_Dot_26 R) (g10_34 : GT_tutorref09_Dot_34 R) (K0 : Int → (List Int) → Option R) (m m_1 m_2 m_3 : Int) (m_4 m_5 names : List Int) =>
    l_tutorref03_Check m m_1 m_2 m_3 m_4 m_5
     (fun r1 r2 =>
      bi (r2 != 0)
       (K0 r2 ([] : List Int))
       (bi ((names.length : Int) != m_1)
        (K0 1 ([] : List Int))
        (g10_8 names 0 m m_1 m_2 m_3 m_4 m_5 ([] : List ByteArray))))) (gt_tutorref09_Dot_8 (runO Tryd.prog (T_tutorref09_Dot @l_tutorref03_Check @l_tutorref09_Label @l_tutorref09_num) cuts_tutorref09_Dot 0 (finish Tryd.prog Tryd.f10 0 K) fuel)) (gt_tutorref09_Dot_16 (runO Tryd.prog (T_tutorref09_Dot @l_tutorref03_Check @l_tutorref09_Label @l_tutorref09_num) cuts_tutorref09_Dot 0 (finish Tryd.prog Tryd.f10 0 K) fuel)) (gt_tutorref09_Dot_23 (runO Tryd.prog (T_tutorref09_Dot @l_tutorref03_Check @l_tutorref09_Label @l_tutorref09_num) cuts_tutorref09_Dot 0 (finish Tryd.prog Tryd.f10 0 K) fuel)) (gt_tutorref09_Dot_26 (runO Tryd.prog (T_tutorref09_Dot @l_tutorref03_Check @l_tutorref09_Label @l_tutorref09_num) cuts_tutorref09_Dot 0 (finish Tryd.prog Tryd.f10 0 K) fuel)) (gt_tutorref09_Dot_34 (runO Tryd.prog (T_tutorref09_Dot @l_tutorref03_Check @l_tutorref09_Label @l_tutorref09_num) cuts_tutorref09_Dot 0 (finish Tryd.prog Tryd.f10 0 K) fuel)) (fun r0 r1 => K (.tup [.own 0, .v (.int .i64 r0)]) [.row ⟨true, 5, (.int .u8), r1⟩]) m m_1 m_2 m_3 m_4 m_5 names := by kernel_rfl

theorem runs_tutorref09_Dot {R : Type} (K : AV → List O → Option R) : ∀ fuel : Nat,
    (gt_tutorref09_Dot_8 (runO Tryd.prog (T_tutorref09_Dot @l_tutorref03_Check @l_tutorref09_Label @l_tutorref09_num) cuts_tutorref09_Dot 0 (finish Tryd.prog Tryd.f10 0 K) fuel)) = (run_tutorref09_Dot (fun r0 r1 => K (.tup [.own 0, .v (.int .i64 r0)]) [.row ⟨true, 5, (.int .u8), r1⟩]) fuel).1 ∧
    (gt_tutorref09_Dot_16 (runO Tryd.prog (T_tutorref09_Dot @l_tutorref03_Check @l_tutorref09_Label @l_tutorref09_num) cuts_tutorref09_Dot 0 (finish Tryd.prog Tryd.f10 0 K) fuel)) = (run_tutorref09_Dot (fun r0 r1 => K (.tup [.own 0, .v (.int .i64 r0)]) [.row ⟨true, 5, (.int .u8), r1⟩]) fuel).2.1 ∧
    (gt_tutorref09_Dot_23 (runO Tryd.prog (T_tutorref09_Dot @l_tutorref03_Check @l_tutorref09_Label @l_tutorref09_num) cuts_tutorref09_Dot 0 (finish Tryd.prog Tryd.f10 0 K) fuel)) = (run_tutorref09_Dot (fun r0 r1 => K (.tup [.own 0, .v (.int .i64 r0)]) [.row ⟨true, 5, (.int .u8), r1⟩]) fuel).2.2.1 ∧
    (gt_tutorref09_Dot_26 (runO Tryd.prog (T_tutorref09_Dot @l_tutorref03_Check @l_tutorref09_Label @l_tutorref09_num) cuts_tutorref09_Dot 0 (finish Tryd.prog Tryd.f10 0 K) fuel)) = (run_tutorref09_Dot (fun r0 r1 => K (.tup [.own 0, .v (.int .i64 r0)]) [.row ⟨true, 5, (.int .u8), r1⟩]) fuel).2.2.2.1 ∧
    (gt_tutorref09_Dot_34 (runO Tryd.prog (T_tutorref09_Dot @l_tutorref03_Check @l_tutorref09_Label @l_tutorref09_num) cuts_tutorref09_Dot 0 (finish Tryd.prog Tryd.f10 0 K) fuel)) = (run_tutorref09_Dot (fun r0 r1 => K (.tup [.own 0, .v (.int .i64 r0)]) [.row ⟨true, 5, (.int .u8), r1⟩]) fuel).2.2.2.2
  | 0 => ⟨rfl, rfl, rfl, rfl, rfl⟩
  | fuel + 1 => by
    have ih := runs_tutorref09_Dot K fuel
    refine ⟨?_, ?_, ?_, ?_, ?_⟩
    · funext names x o0 o0_1 o0_2 o0_3 o0_4 o0_5 o1
      refine (gstep_tutorref09_Dot_8 @l_tutorref03_Check @l_tutorref09_Label @l_tutorref09_num _ K names x o0 o0_1 o0_2 o0_3 o0_4 o0_5 o1).trans ?_
      rw [ih.1, ih.2.1, ih.2.2.1, ih.2.2.2.1, ih.2.2.2.2]
      rfl
    · funext s o0 o0_1 o0_2 o0_3 o0_4 o0_5 o1 o2
      refine (gstep_tutorref09_Dot_16 @l_tutorref03_Check @l_tutorref09_Label @l_tutorref09_num _ K s o0 o0_1 o0_2 o0_3 o0_4 o0_5 o1 o2).trans ?_
      rw [ih.1, ih.2.1, ih.2.2.1, ih.2.2.2.1, ih.2.2.2.2]
      rfl
    · funext s o0 o0_1 o0_2 o0_3 o0_4 o0_5 o1 o2
      refine (gstep_tutorref09_Dot_23 @l_tutorref03_Check @l_tutorref09_Label @l_tutorref09_num _ K s o0 o0_1 o0_2 o0_3 o0_4 o0_5 o1 o2).trans ?_
      rw [ih.1, ih.2.1, ih.2.2.1, ih.2.2.2.1, ih.2.2.2.2]
      rfl
    · funext s x o0 o0_1 o0_2 o0_3 o0_4 o0_5 o1 o2
      refine (gstep_tutorref09_Dot_26 @l_tutorref03_Check @l_tutorref09_Label @l_tutorref09_num _ K s x o0 o0_1 o0_2 o0_3 o0_4 o0_5 o1 o2).trans ?_
      rw [ih.1, ih.2.1, ih.2.2.1, ih.2.2.2.1, ih.2.2.2.2]
      rfl
    · funext i o0 o1
      refine (gstep_tutorref09_Dot_34 @l_tutorref03_Check @l_tutorref09_Label @l_tutorref09_num _ K i o0 o1).trans ?_
      rw [ih.1, ih.2.1, ih.2.2.1, ih.2.2.2.1, ih.2.2.2.2]
      rfl

def S_tutorref09_Dot (l_tutorref09_Dot : LT_tutorref09_Dot) : Sum := ⟨[], fun {R} args ob K => match args, ob with
  | [.agg [.v (.int .i64 m), .v (.int .i64 m_1), .v (.int .i64 m_2), .v (.int .i64 m_3), .rd ⟨false, 3, (.int .i64), m_4⟩, .rd ⟨false, 3, (.int .i64), m_5⟩], .rd ⟨false, 21, (.int .i32), names⟩], [] => l_tutorref09_Dot m m_1 m_2 m_3 m_4 m_5 names (fun r0 r1 => K (.tup [.own 0, .v (.int .i64 r0)]) [.row ⟨true, 5, (.int .u8), r1⟩])
  | _, _ => none⟩

theorem sound_tutorref09_Dot : Sound Tryd.prog 10 (S_tutorref09_Dot @l_tutorref09_Dot) := by
  refine fn_sound (cuts := cuts_tutorref09_Dot) (fn := Tryd.f10) (Γ := (T_tutorref09_Dot @l_tutorref03_Check @l_tutorref09_Label @l_tutorref09_num)) wide right_T_tutorref09_Dot Tryd.func10 fun {R} K r args ob h => ?_
  unfold S_tutorref09_Dot at h
  dsimp only at h
  split at h
  · obtain ⟨n, hn⟩ := ok_tutorref09_Dot _ _ _ _ _ _ _ _ h
    refine ⟨Nat.le_of_ble_eq_true (by kernel_rfl), n, (gentry_tutorref09_Dot @l_tutorref03_Check @l_tutorref09_Label @l_tutorref09_num n K _ _ _ _ _ _ _).trans ?_⟩
    rw [(runs_tutorref09_Dot K n).1, (runs_tutorref09_Dot K n).2.1, (runs_tutorref09_Dot K n).2.2.1, (runs_tutorref09_Dot K n).2.2.2.1, (runs_tutorref09_Dot K n).2.2.2.2]
    exact hn
  · cases h

theorem call_tutorref09_Dot : Callable Tryd.prog 10 := ⟨_, Tryd.func10, by kernel_rfl, by kernel_rfl⟩

def T_tutorref08_Same : FuncId → Option Sum := G0

theorem right_T_tutorref08_Same : Right Tryd.prog T_tutorref08_Same := right_G0

abbrev cuts_tutorref08_Same : Cuts := []

theorem gentry_tutorref08_Same {R : Type} (K : AV → List O → Option R) (a b : List Int) :
    fnRun Tryd.prog T_tutorref08_Same cuts_tutorref08_Same Tryd.f13 0 [.rd ⟨false, 5, (.int .u8), a⟩, .rd ⟨false, 5, (.int .u8), b⟩] [] K =
    (fun (a b : List Int) (K0 : Bool → Option R) =>
    K0 ((ofBts a).toList == (ofBts b).toList)) a b (fun r0 => K (.v (.bool r0)) []) := by kernel_rfl

def S_tutorref08_Same (l_tutorref08_Same : LT_tutorref08_Same) : Sum := ⟨[], fun {R} args ob K => match args, ob with
  | [.rd ⟨false, 5, (.int .u8), a⟩, .rd ⟨false, 5, (.int .u8), b⟩], [] => l_tutorref08_Same a b (fun r0 => K (.v (.bool r0)) [])
  | _, _ => none⟩

theorem sound_tutorref08_Same : Sound Tryd.prog 13 (S_tutorref08_Same @l_tutorref08_Same) := by
  refine fn_sound (cuts := cuts_tutorref08_Same) (fn := Tryd.f13) (Γ := T_tutorref08_Same) wide right_T_tutorref08_Same Tryd.func13 fun {R} K r args ob h => ?_
  unfold S_tutorref08_Same at h
  dsimp only at h
  split at h
  · exact ⟨Nat.le_of_ble_eq_true (by kernel_rfl), 0, (gentry_tutorref08_Same K _ _).trans h⟩
  · cases h

theorem call_tutorref08_Same : Callable Tryd.prog 13 := ⟨_, Tryd.func13, by kernel_rfl, by kernel_rfl⟩

def T_tutorlaw09_DotLines (l_tutorlaw09_live : LT_tutorlaw09_live) (l_tutorlaw09_num : LT_tutorlaw09_num) (l_dot_Dot : LT_dot_Dot) (l_tutorref03_Big : LT_tutorref03_Big) (l_tutorref08_Same : LT_tutorref08_Same) (l_tutorref09_Dot : LT_tutorref09_Dot) : FuncId → Option Sum := (addS (addS (addS (addS (addS (addS G0 7 (S_tutorlaw09_live @l_tutorlaw09_live)) 14 (S_tutorlaw09_num @l_tutorlaw09_num)) 9 (S_dot_Dot @l_dot_Dot)) 6 (S_tutorref03_Big @l_tutorref03_Big)) 13 (S_tutorref08_Same @l_tutorref08_Same)) 10 (S_tutorref09_Dot @l_tutorref09_Dot))

theorem right_T_tutorlaw09_DotLines : Right Tryd.prog (T_tutorlaw09_DotLines @l_tutorlaw09_live @l_tutorlaw09_num @l_dot_Dot @l_tutorref03_Big @l_tutorref08_Same @l_tutorref09_Dot) := (right_add (right_add (right_add (right_add (right_add (right_add right_G0 call_tutorlaw09_live sound_tutorlaw09_live) call_tutorlaw09_num sound_tutorlaw09_num) call_dot_Dot sound_dot_Dot) call_tutorref03_Big sound_tutorref03_Big) call_tutorref08_Same sound_tutorref08_Same) call_tutorref09_Dot sound_tutorref09_Dot)

abbrev cuts_tutorlaw09_DotLines : Cuts := [(8, [1, 2, 5, 7, 8, 9]), (16, [1, 2, 5, 7, 8, 11])]

abbrev sta_tutorlaw09_DotLines_8a (names : List Int) (n : Int) (wrong : Bool) (i o0 o0_1 o0_2 o0_3 : Int) (o0_4 o0_5 o1 : List Int) : St := ⟨fr0 126 [(1, .rd ⟨false, 21, (.int .i32), names⟩), (2, .ptr 0 0), (5, .own 1), (7, .v (.int .i64 n)), (8, .v (.bool wrong)), (9, .v (.int .i64 i))], [.box 24 [.v (.int .i64 o0), .v (.int .i64 o0_1), .v (.int .i64 o0_2), .v (.int .i64 o0_3), .rd ⟨false, 3, (.int .i64), o0_4⟩, .rd ⟨false, 3, (.int .i64), o0_5⟩], .row ⟨true, 5, (.int .u8), o1⟩]⟩

abbrev gt_tutorlaw09_DotLines_8a {R : Type} (g : List Item → St → Option R) : GT_tutorlaw09_DotLines_8a R := fun (names : List Int) (n : Int) (wrong : Bool) (i o0 o0_1 o0_2 o0_3 : Int) (o0_4 o0_5 o1 : List Int) => g (at' Tryd.f5 8) (sta_tutorlaw09_DotLines_8a names n wrong i o0 o0_1 o0_2 o0_3 o0_4 o0_5 o1)

abbrev sta_tutorlaw09_DotLines_8b (names : List Int) (n : Int) (wrong : Bool) (i o0 o0_1 o0_2 o0_3 : Int) (o0_4 o0_5 o1 : List Int) : St := ⟨fr0 126 [(1, .rd ⟨false, 21, (.int .i32), names⟩), (2, .ptr 0 0), (5, .own 1), (7, .v (.int .i64 n)), (8, .v (.bool wrong)), (9, .v (.int .i64 i))], [.box 24 [.v (.int .i64 o0), .v (.int .i64 o0_1), .v (.int .i64 o0_2), .v (.int .i64 o0_3), .rd ⟨false, 3, (.int .i64), o0_4⟩, .rd ⟨false, 3, (.int .i64), o0_5⟩], .row ⟨false, 5, (.int .u8), o1⟩]⟩

abbrev gt_tutorlaw09_DotLines_8b {R : Type} (g : List Item → St → Option R) : GT_tutorlaw09_DotLines_8b R := fun (names : List Int) (n : Int) (wrong : Bool) (i o0 o0_1 o0_2 o0_3 : Int) (o0_4 o0_5 o1 : List Int) => g (at' Tryd.f5 8) (sta_tutorlaw09_DotLines_8b names n wrong i o0 o0_1 o0_2 o0_3 o0_4 o0_5 o1)

abbrev sta_tutorlaw09_DotLines_16a (names : List Int) (n : Int) (wrong : Bool) (i o0 o0_1 o0_2 o0_3 : Int) (o0_4 o0_5 o1 : List Int) : St := ⟨fr0 126 [(1, .rd ⟨false, 21, (.int .i32), names⟩), (2, .ptr 0 0), (5, .own 1), (7, .v (.int .i64 n)), (8, .v (.bool wrong)), (11, .v (.int .i64 i))], [.box 24 [.v (.int .i64 o0), .v (.int .i64 o0_1), .v (.int .i64 o0_2), .v (.int .i64 o0_3), .rd ⟨false, 3, (.int .i64), o0_4⟩, .rd ⟨false, 3, (.int .i64), o0_5⟩], .row ⟨true, 5, (.int .u8), o1⟩]⟩

abbrev gt_tutorlaw09_DotLines_16a {R : Type} (g : List Item → St → Option R) : GT_tutorlaw09_DotLines_16a R := fun (names : List Int) (n : Int) (wrong : Bool) (i o0 o0_1 o0_2 o0_3 : Int) (o0_4 o0_5 o1 : List Int) => g (at' Tryd.f5 16) (sta_tutorlaw09_DotLines_16a names n wrong i o0 o0_1 o0_2 o0_3 o0_4 o0_5 o1)

abbrev sta_tutorlaw09_DotLines_16b (names : List Int) (n : Int) (wrong : Bool) (i o0 o0_1 o0_2 o0_3 : Int) (o0_4 o0_5 o1 : List Int) : St := ⟨fr0 126 [(1, .rd ⟨false, 21, (.int .i32), names⟩), (2, .ptr 0 0), (5, .own 1), (7, .v (.int .i64 n)), (8, .v (.bool wrong)), (11, .v (.int .i64 i))], [.box 24 [.v (.int .i64 o0), .v (.int .i64 o0_1), .v (.int .i64 o0_2), .v (.int .i64 o0_3), .rd ⟨false, 3, (.int .i64), o0_4⟩, .rd ⟨false, 3, (.int .i64), o0_5⟩], .row ⟨false, 5, (.int .u8), o1⟩]⟩

abbrev gt_tutorlaw09_DotLines_16b {R : Type} (g : List Item → St → Option R) : GT_tutorlaw09_DotLines_16b R := fun (names : List Int) (n : Int) (wrong : Bool) (i o0 o0_1 o0_2 o0_3 : Int) (o0_4 o0_5 o1 : List Int) => g (at' Tryd.f5 16) (sta_tutorlaw09_DotLines_16b names n wrong i o0 o0_1 o0_2 o0_3 o0_4 o0_5 o1)

theorem gstep_tutorlaw09_DotLines_8a (l_tutorlaw09_live : LT_tutorlaw09_live) (l_tutorlaw09_num : LT_tutorlaw09_num) (l_dot_Dot : LT_dot_Dot) (l_tutorref03_Big : LT_tutorref03_Big) (l_tutorref08_Same : LT_tutorref08_Same) (l_tutorref09_Dot : LT_tutorref09_Dot) {R : Type} (g : List Item → St → Option R) (K : AV → List O → Option R) (names : List Int) (n : Int) (wrong : Bool) (i o0 o0_1 o0_2 o0_3 : Int) (o0_4 o0_5 o1 : List Int) :
    runSeg Tryd.prog (T_tutorlaw09_DotLines @l_tutorlaw09_live @l_tutorlaw09_num @l_dot_Dot @l_tutorref03_Big @l_tutorref08_Same @l_tutorref09_Dot) cuts_tutorlaw09_DotLines 0 g (finish Tryd.prog Tryd.f5 0 K) (at' Tryd.f5 8) (sta_tutorlaw09_DotLines_8a names n wrong i o0 o0_1 o0_2 o0_3 o0_4 o0_5 o1) =
    (fun (g5_8 : GT_tutorlaw09_DotLines_8a R) (g5_8b : GT_tutorlaw09_DotLines_8b R) (g5_16 : GT_tutorlaw09_DotLines_16a R) (g5_16b : GT_tutorlaw09_DotLines_16b R) (K0 : Bool → Option R) (names : List Int) (n : Int) (wrong : Bool) (i o0 o0_1 o0_2 o0_3 : Int) (o0_4 o0_5 o1 : List Int) =>
    bi (decide (i < (o1.length : Int)))
     (bi (decide (0 ≤ i ∧ i < ((o1.length : Nat) : Int)))
      (bi ((o1.getD i.toNat 0) != 10)
       (g5_8 names n wrong (IntKind.i64.wrap (i + 1)) o0 o0_1 o0_2 o0_3 o0_4 o0_5 o1)
       (bi (decide (i < (IntKind.i64.wrap ((o1.length : Int) - 1))))
        (bi (!(i == (IntKind.i64.wrap ((o1.length : Int) - 3))))
         (bi (decide (0 ≤ (IntKind.i64.wrap (i + 1)) ∧ (IntKind.i64.wrap (i + 1)) < ((o1.length : Nat) : Int)))
          (bi ((o1.getD ((IntKind.i64.wrap (i + 1)).toNat) 0) != 32)
           (g5_8 names (IntKind.i64.wrap (n + 1)) true (IntKind.i64.wrap (i + 1)) o0 o0_1 o0_2 o0_3 o0_4 o0_5 o1)
           (bi (decide (0 ≤ (IntKind.i64.wrap (i + 2)) ∧ (IntKind.i64.wrap (i + 2)) < ((o1.length : Nat) : Int)))
            (bi ((o1.getD ((IntKind.i64.wrap (i + 2)).toNat) 0) != 32)
             (g5_8 names (IntKind.i64.wrap (n + 1)) true (IntKind.i64.wrap (i + 1)) o0 o0_1 o0_2 o0_3 o0_4 o0_5 o1)
             (g5_8 names (IntKind.i64.wrap (n + 1)) wrong (IntKind.i64.wrap (i + 1)) o0 o0_1 o0_2 o0_3 o0_4 o0_5 o1))
            none))
          none)
         (g5_8 names (IntKind.i64.wrap (n + 1)) wrong (IntKind.i64.wrap (i + 1)) o0 o0_1 o0_2 o0_3 o0_4 o0_5 o1))
        (g5_8 names (IntKind.i64.wrap (n + 1)) wrong (IntKind.i64.wrap (i + 1)) o0 o0_1 o0_2 o0_3 o0_4 o0_5 o1)))
      none)
     (g5_16 names n wrong 0 o0 o0_1 o0_2 o0_3 o0_4 o0_5 o1)) (gt_tutorlaw09_DotLines_8a g) (gt_tutorlaw09_DotLines_8b g) (gt_tutorlaw09_DotLines_16a g) (gt_tutorlaw09_DotLines_16b g) (fun r0 => K (.v (.bool r0)) []) names n wrong i o0 o0_1 o0_2 o0_3 o0_4 o0_5 o1 := by kernel_rfl

theorem gstep_tutorlaw09_DotLines_8b (l_tutorlaw09_live : LT_tutorlaw09_live) (l_tutorlaw09_num : LT_tutorlaw09_num) (l_dot_Dot : LT_dot_Dot) (l_tutorref03_Big : LT_tutorref03_Big) (l_tutorref08_Same : LT_tutorref08_Same) (l_tutorref09_Dot : LT_tutorref09_Dot) {R : Type} (g : List Item → St → Option R) (K : AV → List O → Option R) (names : List Int) (n : Int) (wrong : Bool) (i o0 o0_1 o0_2 o0_3 : Int) (o0_4 o0_5 o1 : List Int) :
    runSeg Tryd.prog (T_tutorlaw09_DotLines @l_tutorlaw09_live @l_tutorlaw09_num @l_dot_Dot @l_tutorref03_Big @l_tutorref08_Same @l_tutorref09_Dot) cuts_tutorlaw09_DotLines 0 g (finish Tryd.prog Tryd.f5 0 K) (at' Tryd.f5 8) (sta_tutorlaw09_DotLines_8b names n wrong i o0 o0_1 o0_2 o0_3 o0_4 o0_5 o1) =
    (fun (g5_8 : GT_tutorlaw09_DotLines_8a R) (g5_8b : GT_tutorlaw09_DotLines_8b R) (g5_16 : GT_tutorlaw09_DotLines_16a R) (g5_16b : GT_tutorlaw09_DotLines_16b R) (K0 : Bool → Option R) (names : List Int) (n : Int) (wrong : Bool) (i o0 o0_1 o0_2 o0_3 : Int) (o0_4 o0_5 o1 : List Int) =>
    bi (decide (i < (o1.length : Int)))
     (bi (decide (0 ≤ i ∧ i < ((o1.length : Nat) : Int)))
      (bi ((o1.getD i.toNat 0) != 10)
       (g5_8b names n wrong (IntKind.i64.wrap (i + 1)) o0 o0_1 o0_2 o0_3 o0_4 o0_5 o1)
       (bi (decide (i < (IntKind.i64.wrap ((o1.length : Int) - 1))))
        (bi (!(i == (IntKind.i64.wrap ((o1.length : Int) - 3))))
         (bi (decide (0 ≤ (IntKind.i64.wrap (i + 1)) ∧ (IntKind.i64.wrap (i + 1)) < ((o1.length : Nat) : Int)))
          (bi ((o1.getD ((IntKind.i64.wrap (i + 1)).toNat) 0) != 32)
           (g5_8b names (IntKind.i64.wrap (n + 1)) true (IntKind.i64.wrap (i + 1)) o0 o0_1 o0_2 o0_3 o0_4 o0_5 o1)
           (bi (decide (0 ≤ (IntKind.i64.wrap (i + 2)) ∧ (IntKind.i64.wrap (i + 2)) < ((o1.length : Nat) : Int)))
            (bi ((o1.getD ((IntKind.i64.wrap (i + 2)).toNat) 0) != 32)
             (g5_8b names (IntKind.i64.wrap (n + 1)) true (IntKind.i64.wrap (i + 1)) o0 o0_1 o0_2 o0_3 o0_4 o0_5 o1)
             (g5_8b names (IntKind.i64.wrap (n + 1)) wrong (IntKind.i64.wrap (i + 1)) o0 o0_1 o0_2 o0_3 o0_4 o0_5 o1))
            none))
          none)
         (g5_8b names (IntKind.i64.wrap (n + 1)) wrong (IntKind.i64.wrap (i + 1)) o0 o0_1 o0_2 o0_3 o0_4 o0_5 o1))
        (g5_8b names (IntKind.i64.wrap (n + 1)) wrong (IntKind.i64.wrap (i + 1)) o0 o0_1 o0_2 o0_3 o0_4 o0_5 o1)))
      none)
     (g5_16b names n wrong 0 o0 o0_1 o0_2 o0_3 o0_4 o0_5 o1)) (gt_tutorlaw09_DotLines_8a g) (gt_tutorlaw09_DotLines_8b g) (gt_tutorlaw09_DotLines_16a g) (gt_tutorlaw09_DotLines_16b g) (fun r0 => K (.v (.bool r0)) []) names n wrong i o0 o0_1 o0_2 o0_3 o0_4 o0_5 o1 := by kernel_rfl

theorem gstep_tutorlaw09_DotLines_16a (l_tutorlaw09_live : LT_tutorlaw09_live) (l_tutorlaw09_num : LT_tutorlaw09_num) (l_dot_Dot : LT_dot_Dot) (l_tutorref03_Big : LT_tutorref03_Big) (l_tutorref08_Same : LT_tutorref08_Same) (l_tutorref09_Dot : LT_tutorref09_Dot) {R : Type} (g : List Item → St → Option R) (K : AV → List O → Option R) (names : List Int) (n : Int) (wrong : Bool) (i o0 o0_1 o0_2 o0_3 : Int) (o0_4 o0_5 o1 : List Int) :
    runSeg Tryd.prog (T_tutorlaw09_DotLines @l_tutorlaw09_live @l_tutorlaw09_num @l_dot_Dot @l_tutorref03_Big @l_tutorref08_Same @l_tutorref09_Dot) cuts_tutorlaw09_DotLines 0 g (finish Tryd.prog Tryd.f5 0 K) (at' Tryd.f5 16) (sta_tutorlaw09_DotLines_16a names n wrong i o0 o0_1 o0_2 o0_3 o0_4 o0_5 o1) =
    (fun (g5_8 : GT_tutorlaw09_DotLines_8a R) (g5_8b : GT_tutorlaw09_DotLines_8b R) (g5_16 : GT_tutorlaw09_DotLines_16a R) (g5_16b : GT_tutorlaw09_DotLines_16b R) (K0 : Bool → Option R) (names : List Int) (n : Int) (wrong : Bool) (i o0 o0_1 o0_2 o0_3 : Int) (o0_4 o0_5 o1 : List Int) =>
    bi (decide (i < (o1.length : Int)))
     (bi (decide (0 ≤ i ∧ i < ((o1.length : Nat) : Int)))
      (g5_16 names n wrong (IntKind.i64.wrap (i + 1)) o0 o0_1 o0_2 o0_3 o0_4 o0_5 (o1.set i.toNat 120))
      none)
     (l_dot_Dot o0 o0_1 o0_2 o0_3 o0_4 o0_5 names
      (fun r12 r13 =>
       l_tutorref09_Dot o0 o0_1 o0_2 o0_3 o0_4 o0_5 names
        (fun r14 r15 =>
         bi (!wrong)
          (bi (n == (IntKind.i64.wrap ((IntKind.i64.wrap (o0_3 + (IntKind.i64.wrap (o0_3 * o0_1)))) + 5)))
           (l_tutorref08_Same r13 r15
            (fun r16 =>
             bi r16
              (l_tutorlaw09_live
               (fun r17 =>
                K0 r17))
              (K0 false)))
           (K0 false))
          (K0 false)))
      (fun r18 r19 =>
       l_tutorref09_Dot o0 o0_1 o0_2 o0_3 o0_4 o0_5 names
        (fun r20 r21 =>
         bi (!wrong)
          (bi (n == (IntKind.i64.wrap ((IntKind.i64.wrap (o0_3 + (IntKind.i64.wrap (o0_3 * o0_1)))) + 5)))
           (l_tutorref08_Same r19 r21
            (fun r22 =>
             bi r22
              (l_tutorlaw09_live
               (fun r23 =>
                K0 r23))
              (K0 false)))
           (K0 false))
          (K0 false))))) (gt_tutorlaw09_DotLines_8a g) (gt_tutorlaw09_DotLines_8b g) (gt_tutorlaw09_DotLines_16a g) (gt_tutorlaw09_DotLines_16b g) (fun r0 => K (.v (.bool r0)) []) names n wrong i o0 o0_1 o0_2 o0_3 o0_4 o0_5 o1 := by kernel_rfl

theorem gstep_tutorlaw09_DotLines_16b (l_tutorlaw09_live : LT_tutorlaw09_live) (l_tutorlaw09_num : LT_tutorlaw09_num) (l_dot_Dot : LT_dot_Dot) (l_tutorref03_Big : LT_tutorref03_Big) (l_tutorref08_Same : LT_tutorref08_Same) (l_tutorref09_Dot : LT_tutorref09_Dot) {R : Type} (g : List Item → St → Option R) (K : AV → List O → Option R) (names : List Int) (n : Int) (wrong : Bool) (i o0 o0_1 o0_2 o0_3 : Int) (o0_4 o0_5 o1 : List Int) :
    runSeg Tryd.prog (T_tutorlaw09_DotLines @l_tutorlaw09_live @l_tutorlaw09_num @l_dot_Dot @l_tutorref03_Big @l_tutorref08_Same @l_tutorref09_Dot) cuts_tutorlaw09_DotLines 0 g (finish Tryd.prog Tryd.f5 0 K) (at' Tryd.f5 16) (sta_tutorlaw09_DotLines_16b names n wrong i o0 o0_1 o0_2 o0_3 o0_4 o0_5 o1) =
    (fun (g5_8 : GT_tutorlaw09_DotLines_8a R) (g5_8b : GT_tutorlaw09_DotLines_8b R) (g5_16 : GT_tutorlaw09_DotLines_16a R) (g5_16b : GT_tutorlaw09_DotLines_16b R) (K0 : Bool → Option R) (names : List Int) (n : Int) (wrong : Bool) (i o0 o0_1 o0_2 o0_3 : Int) (o0_4 o0_5 o1 : List Int) =>
    bi (decide (i < (o1.length : Int)))
     (bi (decide (0 ≤ i ∧ i < ((o1.length : Nat) : Int)))
      (g5_16b names n wrong (IntKind.i64.wrap (i + 1)) o0 o0_1 o0_2 o0_3 o0_4 o0_5 (o1.set i.toNat 120))
      none)
     (l_dot_Dot o0 o0_1 o0_2 o0_3 o0_4 o0_5 names
      (fun r24 r25 =>
       l_tutorref09_Dot o0 o0_1 o0_2 o0_3 o0_4 o0_5 names
        (fun r26 r27 =>
         bi (!wrong)
          (bi (n == (IntKind.i64.wrap ((IntKind.i64.wrap (o0_3 + (IntKind.i64.wrap (o0_3 * o0_1)))) + 5)))
           (l_tutorref08_Same r25 r27
            (fun r28 =>
             bi r28
              (l_tutorlaw09_live
               (fun r29 =>
                K0 r29))
              (K0 false)))
           (K0 false))
          (K0 false)))
      (fun r30 r31 =>
       l_tutorref09_Dot o0 o0_1 o0_2 o0_3 o0_4 o0_5 names
        (fun r32 r33 =>
         bi (!wrong)
          (bi (n == (IntKind.i64.wrap ((IntKind.i64.wrap (o0_3 + (IntKind.i64.wrap (o0_3 * o0_1)))) + 5)))
           (l_tutorref08_Same r31 r33
            (fun r34 =>
             bi r34
              (l_tutorlaw09_live
               (fun r35 =>
                K0 r35))
              (K0 false)))
           (K0 false))
          (K0 false))))) (gt_tutorlaw09_DotLines_8a g) (gt_tutorlaw09_DotLines_8b g) (gt_tutorlaw09_DotLines_16a g) (gt_tutorlaw09_DotLines_16b g) (fun r0 => K (.v (.bool r0)) []) names n wrong i o0 o0_1 o0_2 o0_3 o0_4 o0_5 o1 := by kernel_rfl

theorem gentry_tutorlaw09_DotLines (l_tutorlaw09_live : LT_tutorlaw09_live) (l_tutorlaw09_num : LT_tutorlaw09_num) (l_dot_Dot : LT_dot_Dot) (l_tutorref03_Big : LT_tutorref03_Big) (l_tutorref08_Same : LT_tutorref08_Same) (l_tutorref09_Dot : LT_tutorref09_Dot) {R : Type} (fuel : Nat) (K : AV → List O → Option R) (m m_1 m_2 m_3 : Int) (m_4 m_5 names : List Int) :
    fnRun Tryd.prog (T_tutorlaw09_DotLines @l_tutorlaw09_live @l_tutorlaw09_num @l_dot_Dot @l_tutorref03_Big @l_tutorref08_Same @l_tutorref09_Dot) cuts_tutorlaw09_DotLines Tryd.f5 fuel [.agg [.v (.int .i64 m), .v (.int .i64 m_1), .v (.int .i64 m_2), .v (.int .i64 m_3), .rd ⟨false, 3, (.int .i64), m_4⟩, .rd ⟨false, 3, (.int .i64), m_5⟩], .rd ⟨false, 21, (.int .i32), names⟩] [] K =
    (fun (g5_8 : GT_tutorlaw09_DotLines_8a R) (g5_8b : GT_tutorlaw09_DotLines_8b R) (g5_16 : GT_tutorlaw09_DotLines_16a R) (g5_16b : GT_tutorlaw09_DotLines_16b R) (K0 : Bool → Option R) (m m_1 m_2 m_3 : Int) (m_4 m_5 names : List Int) =>
    l_tutorref03_Big m m_1 m_2 m_3 m_4 m_5 100
     (fun r1 =>
      bi r1
       (l_tutorlaw09_live
        (fun r2 =>
         K0 r2))
       (bi (decide ((names.length : Int) > 1000))
        (l_tutorlaw09_live
         (fun r3 =>
          K0 r3))
        (l_dot_Dot m m_1 m_2 m_3 m_4 m_5 names
         (fun r4 r5 =>
          l_tutorlaw09_num r4
           (fun r6 =>
            bi (r6 != 0)
             (bi ((r5.length : Int) == 0)
              (l_tutorlaw09_live
               (fun r7 =>
                K0 r7))
              (K0 false))
             (g5_8 names 0 false 0 m m_1 m_2 m_3 m_4 m_5 r5)))
         (fun r8 r9 =>
          l_tutorlaw09_num r8
           (fun r10 =>
            bi (r10 != 0)
             (bi ((r9.length : Int) == 0)
              (l_tutorlaw09_live
               (fun r11 =>
                K0 r11))
              (K0 false))
             (g5_8b names 0 false 0 m m_1 m_2 m_3 m_4 m_5 r9))))))) (gt_tutorlaw09_DotLines_8a (runO Tryd.prog (T_tutorlaw09_DotLines @l_tutorlaw09_live @l_tutorlaw09_num @l_dot_Dot @l_tutorref03_Big @l_tutorref08_Same @l_tutorref09_Dot) cuts_tutorlaw09_DotLines 0 (finish Tryd.prog Tryd.f5 0 K) fuel)) (gt_tutorlaw09_DotLines_8b (runO Tryd.prog (T_tutorlaw09_DotLines @l_tutorlaw09_live @l_tutorlaw09_num @l_dot_Dot @l_tutorref03_Big @l_tutorref08_Same @l_tutorref09_Dot) cuts_tutorlaw09_DotLines 0 (finish Tryd.prog Tryd.f5 0 K) fuel)) (gt_tutorlaw09_DotLines_16a (runO Tryd.prog (T_tutorlaw09_DotLines @l_tutorlaw09_live @l_tutorlaw09_num @l_dot_Dot @l_tutorref03_Big @l_tutorref08_Same @l_tutorref09_Dot) cuts_tutorlaw09_DotLines 0 (finish Tryd.prog Tryd.f5 0 K) fuel)) (gt_tutorlaw09_DotLines_16b (runO Tryd.prog (T_tutorlaw09_DotLines @l_tutorlaw09_live @l_tutorlaw09_num @l_dot_Dot @l_tutorref03_Big @l_tutorref08_Same @l_tutorref09_Dot) cuts_tutorlaw09_DotLines 0 (finish Tryd.prog Tryd.f5 0 K) fuel)) (fun r0 => K (.v (.bool r0)) []) m m_1 m_2 m_3 m_4 m_5 names := by kernel_rfl

theorem runs_tutorlaw09_DotLines {R : Type} (K : AV → List O → Option R) : ∀ fuel : Nat,
    (gt_tutorlaw09_DotLines_8a (runO Tryd.prog (T_tutorlaw09_DotLines @l_tutorlaw09_live @l_tutorlaw09_num @l_dot_Dot @l_tutorref03_Big @l_tutorref08_Same @l_tutorref09_Dot) cuts_tutorlaw09_DotLines 0 (finish Tryd.prog Tryd.f5 0 K) fuel)) = (run_tutorlaw09_DotLines (fun r0 => K (.v (.bool r0)) []) fuel).1 ∧
    (gt_tutorlaw09_DotLines_8b (runO Tryd.prog (T_tutorlaw09_DotLines @l_tutorlaw09_live @l_tutorlaw09_num @l_dot_Dot @l_tutorref03_Big @l_tutorref08_Same @l_tutorref09_Dot) cuts_tutorlaw09_DotLines 0 (finish Tryd.prog Tryd.f5 0 K) fuel)) = (run_tutorlaw09_DotLines (fun r0 => K (.v (.bool r0)) []) fuel).2.1 ∧
    (gt_tutorlaw09_DotLines_16a (runO Tryd.prog (T_tutorlaw09_DotLines @l_tutorlaw09_live @l_tutorlaw09_num @l_dot_Dot @l_tutorref03_Big @l_tutorref08_Same @l_tutorref09_Dot) cuts_tutorlaw09_DotLines 0 (finish Tryd.prog Tryd.f5 0 K) fuel)) = (run_tutorlaw09_DotLines (fun r0 => K (.v (.bool r0)) []) fuel).2.2.1 ∧
    (gt_tutorlaw09_DotLines_16b (runO Tryd.prog (T_tutorlaw09_DotLines @l_tutorlaw09_live @l_tutorlaw09_num @l_dot_Dot @l_tutorref03_Big @l_tutorref08_Same @l_tutorref09_Dot) cuts_tutorlaw09_DotLines 0 (finish Tryd.prog Tryd.f5 0 K) fuel)) = (run_tutorlaw09_DotLines (fun r0 => K (.v (.bool r0)) []) fuel).2.2.2
  | 0 => ⟨rfl, rfl, rfl, rfl⟩
  | fuel + 1 => by
    have ih := runs_tutorlaw09_DotLines K fuel
    refine ⟨?_, ?_, ?_, ?_⟩
    · funext names n wrong i o0 o0_1 o0_2 o0_3 o0_4 o0_5 o1
      refine (gstep_tutorlaw09_DotLines_8a @l_tutorlaw09_live @l_tutorlaw09_num @l_dot_Dot @l_tutorref03_Big @l_tutorref08_Same @l_tutorref09_Dot _ K names n wrong i o0 o0_1 o0_2 o0_3 o0_4 o0_5 o1).trans ?_
      rw [ih.1, ih.2.1, ih.2.2.1, ih.2.2.2]
      rfl
    · funext names n wrong i o0 o0_1 o0_2 o0_3 o0_4 o0_5 o1
      refine (gstep_tutorlaw09_DotLines_8b @l_tutorlaw09_live @l_tutorlaw09_num @l_dot_Dot @l_tutorref03_Big @l_tutorref08_Same @l_tutorref09_Dot _ K names n wrong i o0 o0_1 o0_2 o0_3 o0_4 o0_5 o1).trans ?_
      rw [ih.1, ih.2.1, ih.2.2.1, ih.2.2.2]
      rfl
    · funext names n wrong i o0 o0_1 o0_2 o0_3 o0_4 o0_5 o1
      refine (gstep_tutorlaw09_DotLines_16a @l_tutorlaw09_live @l_tutorlaw09_num @l_dot_Dot @l_tutorref03_Big @l_tutorref08_Same @l_tutorref09_Dot _ K names n wrong i o0 o0_1 o0_2 o0_3 o0_4 o0_5 o1).trans ?_
      rw [ih.1, ih.2.1, ih.2.2.1, ih.2.2.2]
      rfl
    · funext names n wrong i o0 o0_1 o0_2 o0_3 o0_4 o0_5 o1
      refine (gstep_tutorlaw09_DotLines_16b @l_tutorlaw09_live @l_tutorlaw09_num @l_dot_Dot @l_tutorref03_Big @l_tutorref08_Same @l_tutorref09_Dot _ K names n wrong i o0 o0_1 o0_2 o0_3 o0_4 o0_5 o1).trans ?_
      rw [ih.1, ih.2.1, ih.2.2.1, ih.2.2.2]
      rfl

def S_tutorlaw09_DotLines (l_tutorlaw09_DotLines : LT_tutorlaw09_DotLines) : Sum := ⟨[], fun {R} args ob K => match args, ob with
  | [.agg [.v (.int .i64 m), .v (.int .i64 m_1), .v (.int .i64 m_2), .v (.int .i64 m_3), .rd ⟨false, 3, (.int .i64), m_4⟩, .rd ⟨false, 3, (.int .i64), m_5⟩], .rd ⟨false, 21, (.int .i32), names⟩], [] => l_tutorlaw09_DotLines m m_1 m_2 m_3 m_4 m_5 names (fun r0 => K (.v (.bool r0)) [])
  | _, _ => none⟩

theorem sound_tutorlaw09_DotLines : Sound Tryd.prog 5 (S_tutorlaw09_DotLines @l_tutorlaw09_DotLines) := by
  refine fn_sound (cuts := cuts_tutorlaw09_DotLines) (fn := Tryd.f5) (Γ := (T_tutorlaw09_DotLines @l_tutorlaw09_live @l_tutorlaw09_num @l_dot_Dot @l_tutorref03_Big @l_tutorref08_Same @l_tutorref09_Dot)) wide right_T_tutorlaw09_DotLines Tryd.func5 fun {R} K r args ob h => ?_
  unfold S_tutorlaw09_DotLines at h
  dsimp only at h
  split at h
  · obtain ⟨n, hn⟩ := ok_tutorlaw09_DotLines _ _ _ _ _ _ _ _ h
    refine ⟨Nat.le_of_ble_eq_true (by kernel_rfl), n, (gentry_tutorlaw09_DotLines @l_tutorlaw09_live @l_tutorlaw09_num @l_dot_Dot @l_tutorref03_Big @l_tutorref08_Same @l_tutorref09_Dot n K _ _ _ _ _ _ _).trans ?_⟩
    rw [(runs_tutorlaw09_DotLines K n).1, (runs_tutorlaw09_DotLines K n).2.1, (runs_tutorlaw09_DotLines K n).2.2.1, (runs_tutorlaw09_DotLines K n).2.2.2]
    exact hn
  · cases h

theorem call_tutorlaw09_DotLines : Callable Tryd.prog 5 := ⟨_, Tryd.func5, by kernel_rfl, by kernel_rfl⟩

end
end Go.Ev
