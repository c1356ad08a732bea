/- Each function of the program is its tree. -/
import Derived.Test.YtlbomliaegmnpaaProg
import Derived.Test.YtlbomliaegmnpaaEvFn
import Derived.Test.YtlbomliaegmnpaaMachineOwnPure
namespace Go.Ev
open Go.Proofs
noncomputable section
set_option linter.unusedVariables false
set_option linter.unusedSimpArgs false
set_option maxRecDepth 100000
set_option maxHeartbeats 4000000

theorem wide : Tables.follows Try.prog.toTables .mixedOrders = true := by kernel_rfl

def G0 : FuncId → Option Sum := fun _ => none
theorem right_G0 : Right Try.prog G0 := fun f S h => by cases h

def T_tutorref03_Big : FuncId → Option Sum := G0

theorem right_T_tutorref03_Big : Right Try.prog T_tutorref03_Big := right_G0

abbrev cuts_tutorref03_Big : Cuts := []

theorem gentry_tutorref03_Big {R : Type} (K : AV → List O → Option R) (m : Int) (m_1 : Int) (m_2 : Int) (m_3 : Int) (m_4 : List Int) (m_5 : List Int) (states : Int) :
    fnRun Try.prog T_tutorref03_Big cuts_tutorref03_Big Try.f15 0 [.agg [.v (.int .i64 m), .v (.int .i64 m_1), .v (.int .i64 m_2), .v (.int .i64 m_3), .rd ⟨false, 3, (.int .i64), m_4⟩, .rd ⟨false, 3, (.int .i64), m_5⟩], .v (.int .i64 states)] [] K =
    (fun (m : Int) (m_1 : Int) (m_2 : Int) (m_3 : Int) (m_4 : List Int) (m_5 : List Int) (states : Int) (K0 : Bool → Option R) =>
    bi (decide (m_3 > states))
     (K0 true)
     (bi (decide ((m_4.length : Int) > 70000))
      (K0 true)
      (K0 (decide ((m_5.length : Int) > 70000))))) m m_1 m_2 m_3 m_4 m_5 states (fun r0 => K (.v (.bool r0)) []) := by kernel_rfl

theorem entry_tutorref03_Big {R : Type} (K : AV → List O → Option R) (m : Int) (m_1 : Int) (m_2 : Int) (m_3 : Int) (m_4 : List Int) (m_5 : List Int) (states : Int) :
    fnRun Try.prog T_tutorref03_Big cuts_tutorref03_Big Try.f15 0 [.agg [.v (.int .i64 m), .v (.int .i64 m_1), .v (.int .i64 m_2), .v (.int .i64 m_3), .rd ⟨false, 3, (.int .i64), m_4⟩, .rd ⟨false, 3, (.int .i64), m_5⟩], .v (.int .i64 states)] [] K =
    l_tutorref03_Big m m_1 m_2 m_3 m_4 m_5 states (fun r0 => K (.v (.bool r0)) []) := gentry_tutorref03_Big K m m_1 m_2 m_3 m_4 m_5 states

def S_tutorref03_Big (l_tutorref03_Big : {R : Type} → Int → Int → Int → Int → (List Int) → (List Int) → Int → (Bool → Option R) → Option R) : Sum := ⟨[], fun {R} args ob K => match args, ob with
  | [.agg [.v (.int .i64 m), .v (.int .i64 m_1), .v (.int .i64 m_2), .v (.int .i64 m_3), .rd ⟨false, 3, (.int .i64), m_4⟩, .rd ⟨false, 3, (.int .i64), m_5⟩], .v (.int .i64 states)], [] => l_tutorref03_Big m m_1 m_2 m_3 m_4 m_5 states (fun r0 => K (.v (.bool r0)) [])
  | _, _ => none⟩

theorem sound_tutorref03_Big : Sound Try.prog 15 (S_tutorref03_Big @l_tutorref03_Big) := by
  refine fn_sound (cuts := cuts_tutorref03_Big) (fn := Try.f15) (Γ := T_tutorref03_Big) wide right_T_tutorref03_Big Try.func15 fun {R} K r args ob h => ?_
  unfold S_tutorref03_Big at h
  dsimp only at h
  split at h
  · exact ⟨Nat.le_of_ble_eq_true (by kernel_rfl), 0, (entry_tutorref03_Big K _ _ _ _ _ _ _).trans h⟩
  · cases h

theorem call_tutorref03_Big : Callable Try.prog 15 := ⟨_, Try.func15, by kernel_rfl, by kernel_rfl⟩

def T_machine_says : FuncId → Option Sum := G0

theorem right_T_machine_says : Right Try.prog T_machine_says := right_G0

abbrev cuts_machine_says : Cuts := []

theorem gentry_machine_says {R : Type} (K : AV → List O → Option R) (m : Int) (m_1 : Int) (m_2 : Int) (m_3 : Int) (m_4 : List Int) (m_5 : List Int) :
    fnRun Try.prog T_machine_says cuts_machine_says Try.f68 0 [.agg [.v (.int .i64 m), .v (.int .i64 m_1), .v (.int .i64 m_2), .v (.int .i64 m_3), .rd ⟨false, 3, (.int .i64), m_4⟩, .rd ⟨false, 3, (.int .i64), m_5⟩]] [] K =
    (fun (m : Int) (m_1 : Int) (m_2 : Int) (m_3 : Int) (m_4 : List Int) (m_5 : List Int) (K0 : Int → Option R) =>
    bi (m == 1)
     (K0 m_3)
     (K0 (IntKind.i64.wrap (m_3 * m_1)))) m m_1 m_2 m_3 m_4 m_5 (fun r0 => K (.v (.int .i64 r0)) []) := by kernel_rfl

theorem entry_machine_says {R : Type} (K : AV → List O → Option R) (m : Int) (m_1 : Int) (m_2 : Int) (m_3 : Int) (m_4 : List Int) (m_5 : List Int) :
    fnRun Try.prog T_machine_says cuts_machine_says Try.f68 0 [.agg [.v (.int .i64 m), .v (.int .i64 m_1), .v (.int .i64 m_2), .v (.int .i64 m_3), .rd ⟨false, 3, (.int .i64), m_4⟩, .rd ⟨false, 3, (.int .i64), m_5⟩]] [] K =
    l_machine_says m m_1 m_2 m_3 m_4 m_5 (fun r0 => K (.v (.int .i64 r0)) []) := gentry_machine_says K m m_1 m_2 m_3 m_4 m_5

def S_machine_says (l_machine_says : {R : Type} → Int → Int → Int → Int → (List Int) → (List Int) → (Int → Option R) → Option R) : Sum := ⟨[], fun {R} args ob K => match args, ob with
  | [.agg [.v (.int .i64 m), .v (.int .i64 m_1), .v (.int .i64 m_2), .v (.int .i64 m_3), .rd ⟨false, 3, (.int .i64), m_4⟩, .rd ⟨false, 3, (.int .i64), m_5⟩]], [] => l_machine_says m m_1 m_2 m_3 m_4 m_5 (fun r0 => K (.v (.int .i64 r0)) [])
  | _, _ => none⟩

theorem sound_machine_says : Sound Try.prog 68 (S_machine_says @l_machine_says) := by
  refine fn_sound (cuts := cuts_machine_says) (fn := Try.f68) (Γ := T_machine_says) wide right_T_machine_says Try.func68 fun {R} K r args ob h => ?_
  unfold S_machine_says at h
  dsimp only at h
  split at h
  · exact ⟨Nat.le_of_ble_eq_true (by kernel_rfl), 0, (entry_machine_says K _ _ _ _ _ _).trans h⟩
  · cases h

theorem call_machine_says : Callable Try.prog 68 := ⟨_, Try.func68, by kernel_rfl, by kernel_rfl⟩

def T_machine_head (l_machine_says : {R : Type} → Int → Int → Int → Int → (List Int) → (List Int) → (Int → Option R) → Option R) : FuncId → Option Sum := (addS G0 68 (S_machine_says @l_machine_says))

theorem right_T_machine_head : Right Try.prog (T_machine_head @l_machine_says) := (right_add right_G0 call_machine_says sound_machine_says)

abbrev cuts_machine_head : Cuts := []

theorem gentry_machine_head (l_machine_says : {R : Type} → Int → Int → Int → Int → (List Int) → (List Int) → (Int → Option R) → Option R) {R : Type} (K : AV → List O → Option R) (m : Int) (m_1 : Int) (m_2 : Int) (m_3 : Int) (m_4 : List Int) (m_5 : List Int) :
    fnRun Try.prog (T_machine_head @l_machine_says) cuts_machine_head Try.f57 0 [.agg [.v (.int .i64 m), .v (.int .i64 m_1), .v (.int .i64 m_2), .v (.int .i64 m_3), .rd ⟨false, 3, (.int .i64), m_4⟩, .rd ⟨false, 3, (.int .i64), m_5⟩]] [] K =
    (fun (m : Int) (m_1 : Int) (m_2 : Int) (m_3 : Int) (m_4 : List Int) (m_5 : List Int) (K0 : Int → Option R) =>
    bi (m != 1)
     (bi (m != 2)
      (K0 30)
      (bi (decide (m_1 < 1))
       (K0 1)
       (bi (decide (m_1 > 64))
        (K0 1)
        (bi (m == 1)
         (bi (m_2 != 2)
          (K0 33)
          (bi (decide (m_2 < 1))
           (K0 33)
           (bi (decide (m_2 > 64))
            (K0 33)
            (bi (decide (m_3 < 1))
             (K0 3)
             (bi (decide (m_3 > 1024))
              (K0 3)
              (bi ((m_4.length : Int) != (IntKind.i64.wrap (m_3 * m_1)))
               (K0 31)
               (l_machine_says m m_1 m_2 m_3 m_4 m_5
                (fun r1 =>
                 bi ((m_5.length : Int) != r1)
                  (K0 31)
                  (K0 0)))))))))
         (bi (decide (m_2 < 1))
          (K0 33)
          (bi (decide (m_2 > 64))
           (K0 33)
           (bi (decide (m_3 < 1))
            (K0 3)
            (bi (decide (m_3 > 1024))
             (K0 3)
             (bi ((m_4.length : Int) != (IntKind.i64.wrap (m_3 * m_1)))
              (K0 31)
              (l_machine_says m m_1 m_2 m_3 m_4 m_5
               (fun r2 =>
                bi ((m_5.length : Int) != r2)
                 (K0 31)
                 (K0 0))))))))))))
     (bi (decide (m_1 < 1))
      (K0 1)
      (bi (decide (m_1 > 64))
       (K0 1)
       (bi (m == 1)
        (bi (m_2 != 2)
         (K0 33)
         (bi (decide (m_2 < 1))
          (K0 33)
          (bi (decide (m_2 > 64))
           (K0 33)
           (bi (decide (m_3 < 1))
            (K0 3)
            (bi (decide (m_3 > 1024))
             (K0 3)
             (bi ((m_4.length : Int) != (IntKind.i64.wrap (m_3 * m_1)))
              (K0 31)
              (l_machine_says m m_1 m_2 m_3 m_4 m_5
               (fun r3 =>
                bi ((m_5.length : Int) != r3)
                 (K0 31)
                 (K0 0)))))))))
        (bi (decide (m_2 < 1))
         (K0 33)
         (bi (decide (m_2 > 64))
          (K0 33)
          (bi (decide (m_3 < 1))
           (K0 3)
           (bi (decide (m_3 > 1024))
            (K0 3)
            (bi ((m_4.length : Int) != (IntKind.i64.wrap (m_3 * m_1)))
             (K0 31)
             (l_machine_says m m_1 m_2 m_3 m_4 m_5
              (fun r4 =>
               bi ((m_5.length : Int) != r4)
                (K0 31)
                (K0 0)))))))))))) m m_1 m_2 m_3 m_4 m_5 (fun r0 => K (.v (.int .i64 r0)) []) := by kernel_rfl

theorem entry_machine_head {R : Type} (K : AV → List O → Option R) (m : Int) (m_1 : Int) (m_2 : Int) (m_3 : Int) (m_4 : List Int) (m_5 : List Int) :
    fnRun Try.prog (T_machine_head @l_machine_says) cuts_machine_head Try.f57 0 [.agg [.v (.int .i64 m), .v (.int .i64 m_1), .v (.int .i64 m_2), .v (.int .i64 m_3), .rd ⟨false, 3, (.int .i64), m_4⟩, .rd ⟨false, 3, (.int .i64), m_5⟩]] [] K =
    l_machine_head m m_1 m_2 m_3 m_4 m_5 (fun r0 => K (.v (.int .i64 r0)) []) := gentry_machine_head @l_machine_says K m m_1 m_2 m_3 m_4 m_5

def S_machine_head (l_machine_head : {R : Type} → Int → Int → Int → Int → (List Int) → (List Int) → (Int → Option R) → Option R) : Sum := ⟨[], fun {R} args ob K => match args, ob with
  | [.agg [.v (.int .i64 m), .v (.int .i64 m_1), .v (.int .i64 m_2), .v (.int .i64 m_3), .rd ⟨false, 3, (.int .i64), m_4⟩, .rd ⟨false, 3, (.int .i64), m_5⟩]], [] => l_machine_head m m_1 m_2 m_3 m_4 m_5 (fun r0 => K (.v (.int .i64 r0)) [])
  | _, _ => none⟩

theorem sound_machine_head : Sound Try.prog 57 (S_machine_head @l_machine_head) := by
  refine fn_sound (cuts := cuts_machine_head) (fn := Try.f57) (Γ := (T_machine_head @l_machine_says)) wide right_T_machine_head Try.func57 fun {R} K r args ob h => ?_
  unfold S_machine_head at h
  dsimp only at h
  split at h
  · exact ⟨Nat.le_of_ble_eq_true (by kernel_rfl), 0, (entry_machine_head K _ _ _ _ _ _).trans h⟩
  · cases h

theorem call_machine_head : Callable Try.prog 57 := ⟨_, Try.func57, by kernel_rfl, by kernel_rfl⟩

def T_machine_beyond : FuncId → Option Sum := G0

theorem right_T_machine_beyond : Right Try.prog T_machine_beyond := right_G0

abbrev cuts_machine_beyond : Cuts := [(2, [0, 1, 7, 8])]

theorem gstep_machine_beyond_2 {R : Type} (g : List Item → St → Option R) (K : AV → List O → Option R) (l : List Int) (n : Int) (x7 : Int) (x8 : Int) :
    runSeg Try.prog T_machine_beyond cuts_machine_beyond 0 g (finish Try.prog Try.f58 0 K) (at' Try.f58 2) ⟨fr0 21 [(0, .rd ⟨false, 3, (.int .i64), l⟩), (1, .v (.int .i64 n)), (7, .v (.int .i64 x7)), (8, .v (.int .i64 x8))], []⟩ =
    (fun (g58_2 : (List Int) → Int → Int → Int → Option R) (K0 : Int → Option R) (l : List Int) (n : Int) (x7 : Int) (x8 : Int) =>
    bi (decide (x8 < x7))
     (bi (decide (0 ≤ x8 ∧ x8 < ((l.length : Nat) : Int)))
      (bi (decide ((IntKind.u64.wrap (l.getD x8.toNat 0)) ≥ (IntKind.u64.wrap n)))
       (K0 x8)
       (g58_2 l n x7 (IntKind.i64.wrap (x8 + 1))))
      none)
     (K0 (-1))) (fun l n x7 x8 => g (at' Try.f58 2) ⟨fr0 21 [(0, .rd ⟨false, 3, (.int .i64), l⟩), (1, .v (.int .i64 n)), (7, .v (.int .i64 x7)), (8, .v (.int .i64 x8))], []⟩) (fun r0 => K (.v (.int .i64 r0)) []) l n x7 x8 := by kernel_rfl

theorem step_machine_beyond_2 {R : Type} (g : List Item → St → Option R) (K : AV → List O → Option R) (l : List Int) (n : Int) (x7 : Int) (x8 : Int) :
    runSeg Try.prog T_machine_beyond cuts_machine_beyond 0 g (finish Try.prog Try.f58 0 K) (at' Try.f58 2) ⟨fr0 21 [(0, .rd ⟨false, 3, (.int .i64), l⟩), (1, .v (.int .i64 n)), (7, .v (.int .i64 x7)), (8, .v (.int .i64 x8))], []⟩ =
    s_machine_beyond_2 (fun l n x7 x8 => g (at' Try.f58 2) ⟨fr0 21 [(0, .rd ⟨false, 3, (.int .i64), l⟩), (1, .v (.int .i64 n)), (7, .v (.int .i64 x7)), (8, .v (.int .i64 x8))], []⟩) (fun r0 => K (.v (.int .i64 r0)) []) l n x7 x8 := gstep_machine_beyond_2 g K l n x7 x8

theorem gentry_machine_beyond {R : Type} (fuel : Nat) (K : AV → List O → Option R) (l : List Int) (n : Int) :
    fnRun Try.prog T_machine_beyond cuts_machine_beyond Try.f58 fuel [.rd ⟨false, 3, (.int .i64), l⟩, .v (.int .i64 n)] [] K =
    (fun (g58_2 : (List Int) → Int → Int → Int → Option R) (K0 : Int → Option R) (l : List Int) (n : Int) =>
    g58_2 l n (l.length : Int) 0) (fun l n x7 x8 => (runO Try.prog T_machine_beyond cuts_machine_beyond 0 (finish Try.prog Try.f58 0 K) fuel) (at' Try.f58 2) ⟨fr0 21 [(0, .rd ⟨false, 3, (.int .i64), l⟩), (1, .v (.int .i64 n)), (7, .v (.int .i64 x7)), (8, .v (.int .i64 x8))], []⟩) (fun r0 => K (.v (.int .i64 r0)) []) l n := by kernel_rfl

theorem entry_machine_beyond {R : Type} (fuel : Nat) (K : AV → List O → Option R) (l : List Int) (n : Int) :
    fnRun Try.prog T_machine_beyond cuts_machine_beyond Try.f58 fuel [.rd ⟨false, 3, (.int .i64), l⟩, .v (.int .i64 n)] [] K =
    e_machine_beyond (fun l n x7 x8 => (runO Try.prog T_machine_beyond cuts_machine_beyond 0 (finish Try.prog Try.f58 0 K) fuel) (at' Try.f58 2) ⟨fr0 21 [(0, .rd ⟨false, 3, (.int .i64), l⟩), (1, .v (.int .i64 n)), (7, .v (.int .i64 x7)), (8, .v (.int .i64 x8))], []⟩) (fun r0 => K (.v (.int .i64 r0)) []) l n := gentry_machine_beyond fuel K l n

theorem runs_machine_beyond {R : Type} (K : AV → List O → Option R) : ∀ fuel : Nat,
    (fun l n x7 x8 => (runO Try.prog T_machine_beyond cuts_machine_beyond 0 (finish Try.prog Try.f58 0 K) fuel) (at' Try.f58 2) ⟨fr0 21 [(0, .rd ⟨false, 3, (.int .i64), l⟩), (1, .v (.int .i64 n)), (7, .v (.int .i64 x7)), (8, .v (.int .i64 x8))], []⟩) = (run_machine_beyond (fun r0 => K (.v (.int .i64 r0)) []) fuel)
  | 0 => rfl
  | fuel + 1 => by
    have ih := runs_machine_beyond K fuel
    funext l n x7 x8
    refine (step_machine_beyond_2 _ K l n x7 x8).trans ?_
    rw [ih]
    rfl

def S_machine_beyond (l_machine_beyond : {R : Type} → (List Int) → Int → (Int → Option R) → Option R) : Sum := ⟨[], fun {R} args ob K => match args, ob with
  | [.rd ⟨false, 3, (.int .i64), l⟩, .v (.int .i64 n)], [] => l_machine_beyond l n (fun r0 => K (.v (.int .i64 r0)) [])
  | _, _ => none⟩

theorem sound_machine_beyond : Sound Try.prog 58 (S_machine_beyond @l_machine_beyond) := by
  refine fn_sound (cuts := cuts_machine_beyond) (fn := Try.f58) (Γ := T_machine_beyond) wide right_T_machine_beyond Try.func58 fun {R} K r args ob h => ?_
  unfold S_machine_beyond at h
  dsimp only at h
  split at h
  · obtain ⟨n, hn⟩ := ok_machine_beyond _ _ _ h
    refine ⟨Nat.le_of_ble_eq_true (by kernel_rfl), n, (entry_machine_beyond n K _ _).trans ?_⟩
    rw [(runs_machine_beyond K n)]
    exact hn
  · cases h

theorem call_machine_beyond : Callable Try.prog 58 := ⟨_, Try.func58, by kernel_rfl, by kernel_rfl⟩

def T_machine_Check (l_machine_beyond : {R : Type} → (List Int) → Int → (Int → Option R) → Option R) (l_machine_head : {R : Type} → Int → Int → Int → Int → (List Int) → (List Int) → (Int → Option R) → Option R) : FuncId → Option Sum := (addS (addS G0 58 (S_machine_beyond @l_machine_beyond)) 57 (S_machine_head @l_machine_head))

theorem right_T_machine_Check : Right Try.prog (T_machine_Check @l_machine_beyond @l_machine_head) := (right_add (right_add right_G0 call_machine_beyond sound_machine_beyond) call_machine_head sound_machine_head)

abbrev cuts_machine_Check : Cuts := []

theorem gentry_machine_Check (l_machine_beyond : {R : Type} → (List Int) → Int → (Int → Option R) → Option R) (l_machine_head : {R : Type} → Int → Int → Int → Int → (List Int) → (List Int) → (Int → Option R) → Option R) {R : Type} (K : AV → List O → Option R) (m : Int) (m_1 : Int) (m_2 : Int) (m_3 : Int) (m_4 : List Int) (m_5 : List Int) :
    fnRun Try.prog (T_machine_Check @l_machine_beyond @l_machine_head) cuts_machine_Check Try.f18 0 [.agg [.v (.int .i64 m), .v (.int .i64 m_1), .v (.int .i64 m_2), .v (.int .i64 m_3), .rd ⟨false, 3, (.int .i64), m_4⟩, .rd ⟨false, 3, (.int .i64), m_5⟩]] [] K =
    (fun (m : Int) (m_1 : Int) (m_2 : Int) (m_3 : Int) (m_4 : List Int) (m_5 : List Int) (K0 : Int → Int → Option R) =>
    l_machine_head m m_1 m_2 m_3 m_4 m_5
     (fun r1 =>
      bi (r1 != 0)
       (K0 0 r1)
       (l_machine_beyond m_4 m_3
        (fun r2 =>
         bi (decide (r2 ≥ 0))
          (K0 r2 32)
          (l_machine_beyond m_5 m_2
           (fun r3 =>
            bi (decide (r3 ≥ 0))
             (K0 r3 33)
             (K0 0 0))))))) m m_1 m_2 m_3 m_4 m_5 (fun r0 r1 => K (.tup [.v (.int .i64 r0), .v (.int .i64 r1)]) []) := by kernel_rfl

theorem entry_machine_Check {R : Type} (K : AV → List O → Option R) (m : Int) (m_1 : Int) (m_2 : Int) (m_3 : Int) (m_4 : List Int) (m_5 : List Int) :
    fnRun Try.prog (T_machine_Check @l_machine_beyond @l_machine_head) cuts_machine_Check Try.f18 0 [.agg [.v (.int .i64 m), .v (.int .i64 m_1), .v (.int .i64 m_2), .v (.int .i64 m_3), .rd ⟨false, 3, (.int .i64), m_4⟩, .rd ⟨false, 3, (.int .i64), m_5⟩]] [] K =
    l_machine_Check m m_1 m_2 m_3 m_4 m_5 (fun r0 r1 => K (.tup [.v (.int .i64 r0), .v (.int .i64 r1)]) []) := gentry_machine_Check @l_machine_beyond @l_machine_head K m m_1 m_2 m_3 m_4 m_5

def S_machine_Check (l_machine_Check : {R : Type} → Int → Int → Int → Int → (List Int) → (List Int) → (Int → Int → Option R) → Option R) : Sum := ⟨[], fun {R} args ob K => match args, ob with
  | [.agg [.v (.int .i64 m), .v (.int .i64 m_1), .v (.int .i64 m_2), .v (.int .i64 m_3), .rd ⟨false, 3, (.int .i64), m_4⟩, .rd ⟨false, 3, (.int .i64), m_5⟩]], [] => l_machine_Check m m_1 m_2 m_3 m_4 m_5 (fun r0 r1 => K (.tup [.v (.int .i64 r0), .v (.int .i64 r1)]) [])
  | _, _ => none⟩

theorem sound_machine_Check : Sound Try.prog 18 (S_machine_Check @l_machine_Check) := by
  refine fn_sound (cuts := cuts_machine_Check) (fn := Try.f18) (Γ := (T_machine_Check @l_machine_beyond @l_machine_head)) wide right_T_machine_Check Try.func18 fun {R} K r args ob h => ?_
  unfold S_machine_Check at h
  dsimp only at h
  split at h
  · exact ⟨Nat.le_of_ble_eq_true (by kernel_rfl), 0, (entry_machine_Check K _ _ _ _ _ _).trans h⟩
  · cases h

theorem call_machine_Check : Callable Try.prog 18 := ⟨_, Try.func18, by kernel_rfl, by kernel_rfl⟩

def T_word_alphabet : FuncId → Option Sum := G0

theorem right_T_word_alphabet : Right Try.prog T_word_alphabet := right_G0

abbrev cuts_word_alphabet : Cuts := []

theorem gentry_word_alphabet {R : Type} (K : AV → List O → Option R) (k : Int) :
    fnRun Try.prog T_word_alphabet cuts_word_alphabet Try.f69 0 [.v (.int .i64 k)] [] K =
    (fun (k : Int) (K0 : Bool → Option R) =>
    bi (decide (k ≥ 1))
     (K0 (decide (k ≤ 64)))
     (K0 false)) k (fun r0 => K (.v (.bool r0)) []) := by kernel_rfl

theorem entry_word_alphabet {R : Type} (K : AV → List O → Option R) (k : Int) :
    fnRun Try.prog T_word_alphabet cuts_word_alphabet Try.f69 0 [.v (.int .i64 k)] [] K =
    l_word_alphabet k (fun r0 => K (.v (.bool r0)) []) := gentry_word_alphabet K k

def S_word_alphabet (l_word_alphabet : {R : Type} → Int → (Bool → Option R) → Option R) : Sum := ⟨[], fun {R} args ob K => match args, ob with
  | [.v (.int .i64 k)], [] => l_word_alphabet k (fun r0 => K (.v (.bool r0)) [])
  | _, _ => none⟩

theorem sound_word_alphabet : Sound Try.prog 69 (S_word_alphabet @l_word_alphabet) := by
  refine fn_sound (cuts := cuts_word_alphabet) (fn := Try.f69) (Γ := T_word_alphabet) wide right_T_word_alphabet Try.func69 fun {R} K r args ob h => ?_
  unfold S_word_alphabet at h
  dsimp only at h
  split at h
  · exact ⟨Nat.le_of_ble_eq_true (by kernel_rfl), 0, (entry_word_alphabet K _).trans h⟩
  · cases h

theorem call_word_alphabet : Callable Try.prog 69 := ⟨_, Try.func69, by kernel_rfl, by kernel_rfl⟩

def T_word_Check (l_word_alphabet : {R : Type} → Int → (Bool → Option R) → Option R) : FuncId → Option Sum := (addS G0 69 (S_word_alphabet @l_word_alphabet))

theorem right_T_word_Check : Right Try.prog (T_word_Check @l_word_alphabet) := (right_add right_G0 call_word_alphabet sound_word_alphabet)

abbrev cuts_word_Check : Cuts := [(6, [0, 1, 16, 17])]

theorem gstep_word_Check_6 (l_word_alphabet : {R : Type} → Int → (Bool → Option R) → Option R) {R : Type} (g : List Item → St → Option R) (K : AV → List O → Option R) (w : List Int) (k : Int) (x16 : Int) (x17 : Int) :
    runSeg Try.prog (T_word_Check @l_word_alphabet) cuts_word_Check 0 g (finish Try.prog Try.f59 0 K) (at' Try.f59 6) ⟨fr0 35 [(0, .rd ⟨false, 3, (.int .i64), w⟩), (1, .v (.int .i64 k)), (16, .v (.int .i64 x16)), (17, .v (.int .i64 x17))], []⟩ =
    (fun (g59_6 : (List Int) → Int → Int → Int → Option R) (K0 : Int → Int → Option R) (w : List Int) (k : Int) (x16 : Int) (x17 : Int) =>
    bi (decide (x17 < x16))
     (bi (decide (0 ≤ x17 ∧ x17 < ((w.length : Nat) : Int)))
      (bi (decide ((w.getD x17.toNat 0) < 0))
       (K0 x17 10)
       (bi (decide (0 ≤ x17 ∧ x17 < ((w.length : Nat) : Int)))
        (bi (decide ((w.getD x17.toNat 0) ≥ k))
         (K0 x17 10)
         (g59_6 w k x16 (IntKind.i64.wrap (x17 + 1))))
        none))
      none)
     (K0 0 0)) (fun w k x16 x17 => g (at' Try.f59 6) ⟨fr0 35 [(0, .rd ⟨false, 3, (.int .i64), w⟩), (1, .v (.int .i64 k)), (16, .v (.int .i64 x16)), (17, .v (.int .i64 x17))], []⟩) (fun r0 r1 => K (.tup [.v (.int .i64 r0), .v (.int .i64 r1)]) []) w k x16 x17 := by kernel_rfl

theorem step_word_Check_6 {R : Type} (g : List Item → St → Option R) (K : AV → List O → Option R) (w : List Int) (k : Int) (x16 : Int) (x17 : Int) :
    runSeg Try.prog (T_word_Check @l_word_alphabet) cuts_word_Check 0 g (finish Try.prog Try.f59 0 K) (at' Try.f59 6) ⟨fr0 35 [(0, .rd ⟨false, 3, (.int .i64), w⟩), (1, .v (.int .i64 k)), (16, .v (.int .i64 x16)), (17, .v (.int .i64 x17))], []⟩ =
    s_word_Check_6 (fun w k x16 x17 => g (at' Try.f59 6) ⟨fr0 35 [(0, .rd ⟨false, 3, (.int .i64), w⟩), (1, .v (.int .i64 k)), (16, .v (.int .i64 x16)), (17, .v (.int .i64 x17))], []⟩) (fun r0 r1 => K (.tup [.v (.int .i64 r0), .v (.int .i64 r1)]) []) w k x16 x17 := gstep_word_Check_6 @l_word_alphabet g K w k x16 x17

theorem gentry_word_Check (l_word_alphabet : {R : Type} → Int → (Bool → Option R) → Option R) {R : Type} (fuel : Nat) (K : AV → List O → Option R) (w : List Int) (k : Int) :
    fnRun Try.prog (T_word_Check @l_word_alphabet) cuts_word_Check Try.f59 fuel [.rd ⟨false, 3, (.int .i64), w⟩, .v (.int .i64 k)] [] K =
    (fun (g59_6 : (List Int) → Int → Int → Int → Option R) (K0 : Int → Int → Option R) (w : List Int) (k : Int) =>
    l_word_alphabet k
     (fun r1 =>
      bi (!r1)
       (K0 0 1)
       (bi (decide ((w.length : Int) > 4096))
        (K0 0 2)
        (g59_6 w k (w.length : Int) 0)))) (fun w k x16 x17 => (runO Try.prog (T_word_Check @l_word_alphabet) cuts_word_Check 0 (finish Try.prog Try.f59 0 K) fuel) (at' Try.f59 6) ⟨fr0 35 [(0, .rd ⟨false, 3, (.int .i64), w⟩), (1, .v (.int .i64 k)), (16, .v (.int .i64 x16)), (17, .v (.int .i64 x17))], []⟩) (fun r0 r1 => K (.tup [.v (.int .i64 r0), .v (.int .i64 r1)]) []) w k := by kernel_rfl

theorem entry_word_Check {R : Type} (fuel : Nat) (K : AV → List O → Option R) (w : List Int) (k : Int) :
    fnRun Try.prog (T_word_Check @l_word_alphabet) cuts_word_Check Try.f59 fuel [.rd ⟨false, 3, (.int .i64), w⟩, .v (.int .i64 k)] [] K =
    e_word_Check (fun w k x16 x17 => (runO Try.prog (T_word_Check @l_word_alphabet) cuts_word_Check 0 (finish Try.prog Try.f59 0 K) fuel) (at' Try.f59 6) ⟨fr0 35 [(0, .rd ⟨false, 3, (.int .i64), w⟩), (1, .v (.int .i64 k)), (16, .v (.int .i64 x16)), (17, .v (.int .i64 x17))], []⟩) (fun r0 r1 => K (.tup [.v (.int .i64 r0), .v (.int .i64 r1)]) []) w k := gentry_word_Check @l_word_alphabet fuel K w k

theorem runs_word_Check {R : Type} (K : AV → List O → Option R) : ∀ fuel : Nat,
    (fun w k x16 x17 => (runO Try.prog (T_word_Check @l_word_alphabet) cuts_word_Check 0 (finish Try.prog Try.f59 0 K) fuel) (at' Try.f59 6) ⟨fr0 35 [(0, .rd ⟨false, 3, (.int .i64), w⟩), (1, .v (.int .i64 k)), (16, .v (.int .i64 x16)), (17, .v (.int .i64 x17))], []⟩) = (run_word_Check (fun r0 r1 => K (.tup [.v (.int .i64 r0), .v (.int .i64 r1)]) []) fuel)
  | 0 => rfl
  | fuel + 1 => by
    have ih := runs_word_Check K fuel
    funext w k x16 x17
    refine (step_word_Check_6 _ K w k x16 x17).trans ?_
    rw [ih]
    rfl

def S_word_Check (l_word_Check : {R : Type} → (List Int) → Int → (Int → Int → Option R) → Option R) : Sum := ⟨[], fun {R} args ob K => match args, ob with
  | [.rd ⟨false, 3, (.int .i64), w⟩, .v (.int .i64 k)], [] => l_word_Check w k (fun r0 r1 => K (.tup [.v (.int .i64 r0), .v (.int .i64 r1)]) [])
  | _, _ => none⟩

theorem sound_word_Check : Sound Try.prog 59 (S_word_Check @l_word_Check) := by
  refine fn_sound (cuts := cuts_word_Check) (fn := Try.f59) (Γ := (T_word_Check @l_word_alphabet)) wide right_T_word_Check Try.func59 fun {R} K r args ob h => ?_
  unfold S_word_Check at h
  dsimp only at h
  split at h
  · obtain ⟨n, hn⟩ := ok_word_Check _ _ _ h
    refine ⟨Nat.le_of_ble_eq_true (by kernel_rfl), n, (entry_word_Check n K _ _).trans ?_⟩
    rw [(runs_word_Check K n)]
    exact hn
  · cases h

theorem call_word_Check : Callable Try.prog 59 := ⟨_, Try.func59, by kernel_rfl, by kernel_rfl⟩

def T_machine_From (l_word_Check : {R : Type} → (List Int) → Int → (Int → Int → Option R) → Option R) (l_machine_Check : {R : Type} → Int → Int → Int → Int → (List Int) → (List Int) → (Int → Int → Option R) → Option R) : FuncId → Option Sum := (addS (addS G0 59 (S_word_Check @l_word_Check)) 18 (S_machine_Check @l_machine_Check))

theorem right_T_machine_From : Right Try.prog (T_machine_From @l_word_Check @l_machine_Check) := (right_add (right_add right_G0 call_word_Check sound_word_Check) call_machine_Check sound_machine_Check)

abbrev cuts_machine_From : Cuts := [(10, [1, 3, 7, 42, 43, 44])]

theorem gstep_machine_From_10 (l_word_Check : {R : Type} → (List Int) → Int → (Int → Int → Option R) → Option R) (l_machine_Check : {R : Type} → Int → Int → Int → Int → (List Int) → (List Int) → (Int → Int → Option R) → Option R) {R : Type} (g : List Item → St → Option R) (K : AV → List O → Option R) (s : Int) (x42 : List Int) (x43 : Int) (x44 : Int) (o0 : Int) (o0_1 : Int) (o0_2 : Int) (o0_3 : Int) (o0_4 : List Int) (o0_5 : List Int) (o1 : List Int) :
    runSeg Try.prog (T_machine_From @l_word_Check @l_machine_Check) cuts_machine_From 0 g (finish Try.prog Try.f22 0 K) (at' Try.f22 10) ⟨fr0 82 [(1, .v (.int .i64 s)), (3, .ptr 0 0), (7, .own 1), (42, .rd ⟨false, 3, (.int .i64), x42⟩), (43, .v (.int .i64 x43)), (44, .v (.int .i64 x44))], [.box 24 [.v (.int .i64 o0), .v (.int .i64 o0_1), .v (.int .i64 o0_2), .v (.int .i64 o0_3), .rd ⟨false, 3, (.int .i64), o0_4⟩, .rd ⟨false, 3, (.int .i64), o0_5⟩], .row ⟨true, 3, (.int .i64), o1⟩]⟩ =
    (fun (g22_10 : Int → (List Int) → Int → Int → Int → Int → Int → Int → (List Int) → (List Int) → (List Int) → Option R) (K0 : Int → Int → (List Int) → Option R) (s : Int) (x42 : List Int) (x43 : Int) (x44 : Int) (o0 : Int) (o0_1 : Int) (o0_2 : Int) (o0_3 : Int) (o0_4 : List Int) (o0_5 : List Int) (o1 : List Int) =>
    bi (decide (x44 < x43))
     (bi (decide (0 ≤ x44 ∧ x44 < ((x42.length : Nat) : Int)))
      (bi (o0 == 2)
       (bi (decide (0 ≤ (IntKind.i64.wrap ((IntKind.i64.wrap (s * o0_1)) + (x42.getD x44.toNat 0))) ∧ (IntKind.i64.wrap ((IntKind.i64.wrap (s * o0_1)) + (x42.getD x44.toNat 0))) < ((o0_5.length : Nat) : Int)))
        (bi (decide ((o1.length + [o0_5.getD ((IntKind.i64.wrap ((IntKind.i64.wrap (s * o0_1)) + (x42.getD x44.toNat 0))).toNat) 0].length) * 8 ≤ lim))
         (bi (decide (0 ≤ (IntKind.i64.wrap ((IntKind.i64.wrap (s * o0_1)) + (x42.getD x44.toNat 0))) ∧ (IntKind.i64.wrap ((IntKind.i64.wrap (s * o0_1)) + (x42.getD x44.toNat 0))) < ((o0_4.length : Nat) : Int)))
          (g22_10 (o0_4.getD ((IntKind.i64.wrap ((IntKind.i64.wrap (s * o0_1)) + (x42.getD x44.toNat 0))).toNat) 0) x42 x43 (IntKind.i64.wrap (x44 + 1)) o0 o0_1 o0_2 o0_3 o0_4 o0_5 (o1 ++ [o0_5.getD ((IntKind.i64.wrap ((IntKind.i64.wrap (s * o0_1)) + (x42.getD x44.toNat 0))).toNat) 0]))
          none)
         none)
        none)
       (bi (decide (0 ≤ (IntKind.i64.wrap ((IntKind.i64.wrap (s * o0_1)) + (x42.getD x44.toNat 0))) ∧ (IntKind.i64.wrap ((IntKind.i64.wrap (s * o0_1)) + (x42.getD x44.toNat 0))) < ((o0_4.length : Nat) : Int)))
        (g22_10 (o0_4.getD ((IntKind.i64.wrap ((IntKind.i64.wrap (s * o0_1)) + (x42.getD x44.toNat 0))).toNat) 0) x42 x43 (IntKind.i64.wrap (x44 + 1)) o0 o0_1 o0_2 o0_3 o0_4 o0_5 o1)
        none))
      none)
     (bi (o0 == 1)
      (bi (decide (0 ≤ s ∧ s < ((o0_5.length : Nat) : Int)))
       (K0 s 0 [o0_5.getD s.toNat 0])
       none)
      (K0 s 0 o1))) (fun s x42 x43 x44 o0 o0_1 o0_2 o0_3 o0_4 o0_5 o1 => g (at' Try.f22 10) ⟨fr0 82 [(1, .v (.int .i64 s)), (3, .ptr 0 0), (7, .own 1), (42, .rd ⟨false, 3, (.int .i64), x42⟩), (43, .v (.int .i64 x43)), (44, .v (.int .i64 x44))], [.box 24 [.v (.int .i64 o0), .v (.int .i64 o0_1), .v (.int .i64 o0_2), .v (.int .i64 o0_3), .rd ⟨false, 3, (.int .i64), o0_4⟩, .rd ⟨false, 3, (.int .i64), o0_5⟩], .row ⟨true, 3, (.int .i64), o1⟩]⟩) (fun r0 r1 r2 => K (.tup [.v (.int .i64 r0), .own 0, .v (.int .i64 r1)]) [.row ⟨true, 3, (.int .i64), r2⟩]) s x42 x43 x44 o0 o0_1 o0_2 o0_3 o0_4 o0_5 o1 := by kernel_rfl

theorem step_machine_From_10 {R : Type} (g : List Item → St → Option R) (K : AV → List O → Option R) (s : Int) (x42 : List Int) (x43 : Int) (x44 : Int) (o0 : Int) (o0_1 : Int) (o0_2 : Int) (o0_3 : Int) (o0_4 : List Int) (o0_5 : List Int) (o1 : List Int) :
    runSeg Try.prog (T_machine_From @l_word_Check @l_machine_Check) cuts_machine_From 0 g (finish Try.prog Try.f22 0 K) (at' Try.f22 10) ⟨fr0 82 [(1, .v (.int .i64 s)), (3, .ptr 0 0), (7, .own 1), (42, .rd ⟨false, 3, (.int .i64), x42⟩), (43, .v (.int .i64 x43)), (44, .v (.int .i64 x44))], [.box 24 [.v (.int .i64 o0), .v (.int .i64 o0_1), .v (.int .i64 o0_2), .v (.int .i64 o0_3), .rd ⟨false, 3, (.int .i64), o0_4⟩, .rd ⟨false, 3, (.int .i64), o0_5⟩], .row ⟨true, 3, (.int .i64), o1⟩]⟩ =
    s_machine_From_10 (fun s x42 x43 x44 o0 o0_1 o0_2 o0_3 o0_4 o0_5 o1 => g (at' Try.f22 10) ⟨fr0 82 [(1, .v (.int .i64 s)), (3, .ptr 0 0), (7, .own 1), (42, .rd ⟨false, 3, (.int .i64), x42⟩), (43, .v (.int .i64 x43)), (44, .v (.int .i64 x44))], [.box 24 [.v (.int .i64 o0), .v (.int .i64 o0_1), .v (.int .i64 o0_2), .v (.int .i64 o0_3), .rd ⟨false, 3, (.int .i64), o0_4⟩, .rd ⟨false, 3, (.int .i64), o0_5⟩], .row ⟨true, 3, (.int .i64), o1⟩]⟩) (fun r0 r1 r2 => K (.tup [.v (.int .i64 r0), .own 0, .v (.int .i64 r1)]) [.row ⟨true, 3, (.int .i64), r2⟩]) s x42 x43 x44 o0 o0_1 o0_2 o0_3 o0_4 o0_5 o1 := gstep_machine_From_10 @l_word_Check @l_machine_Check g K s x42 x43 x44 o0 o0_1 o0_2 o0_3 o0_4 o0_5 o1

theorem gentry_machine_From (l_word_Check : {R : Type} → (List Int) → Int → (Int → Int → Option R) → Option R) (l_machine_Check : {R : Type} → Int → Int → Int → Int → (List Int) → (List Int) → (Int → Int → Option R) → Option R) {R : Type} (fuel : Nat) (K : AV → List O → Option R) (m : Int) (m_1 : Int) (m_2 : Int) (m_3 : Int) (m_4 : List Int) (m_5 : List Int) (s : Int) (w : List Int) :
    fnRun Try.prog (T_machine_From @l_word_Check @l_machine_Check) cuts_machine_From Try.f22 fuel [.agg [.v (.int .i64 m), .v (.int .i64 m_1), .v (.int .i64 m_2), .v (.int .i64 m_3), .rd ⟨false, 3, (.int .i64), m_4⟩, .rd ⟨false, 3, (.int .i64), m_5⟩], .v (.int .i64 s), .rd ⟨false, 3, (.int .i64), w⟩] [] K =
    (fun (g22_10 : Int → (List Int) → Int → Int → Int → Int → Int → Int → (List Int) → (List Int) → (List Int) → Option R) (K0 : Int → Int → (List Int) → Option R) (m : Int) (m_1 : Int) (m_2 : Int) (m_3 : Int) (m_4 : List Int) (m_5 : List Int) (s : Int) (w : List Int) =>
    l_machine_Check m m_1 m_2 m_3 m_4 m_5
     (fun r1 r2 =>
      bi (r2 != 0)
       (K0 0 r2 ([] : List Int))
       (bi (decide (s < 0))
        (K0 0 32 ([] : List Int))
        (bi (decide (s ≥ m_3))
         (K0 0 32 ([] : List Int))
         (l_word_Check w m_1
          (fun r3 r4 =>
           bi (r4 != 0)
            (K0 0 r4 ([] : List Int))
            (g22_10 s w (w.length : Int) 0 m m_1 m_2 m_3 m_4 m_5 ([] : List Int)))))))) (fun s x42 x43 x44 o0 o0_1 o0_2 o0_3 o0_4 o0_5 o1 => (runO Try.prog (T_machine_From @l_word_Check @l_machine_Check) cuts_machine_From 0 (finish Try.prog Try.f22 0 K) fuel) (at' Try.f22 10) ⟨fr0 82 [(1, .v (.int .i64 s)), (3, .ptr 0 0), (7, .own 1), (42, .rd ⟨false, 3, (.int .i64), x42⟩), (43, .v (.int .i64 x43)), (44, .v (.int .i64 x44))], [.box 24 [.v (.int .i64 o0), .v (.int .i64 o0_1), .v (.int .i64 o0_2), .v (.int .i64 o0_3), .rd ⟨false, 3, (.int .i64), o0_4⟩, .rd ⟨false, 3, (.int .i64), o0_5⟩], .row ⟨true, 3, (.int .i64), o1⟩]⟩) (fun r0 r1 r2 => K (.tup [.v (.int .i64 r0), .own 0, .v (.int .i64 r1)]) [.row ⟨true, 3, (.int .i64), r2⟩]) m m_1 m_2 m_3 m_4 m_5 s w := by kernel_rfl

theorem entry_machine_From {R : Type} (fuel : Nat) (K : AV → List O → Option R) (m : Int) (m_1 : Int) (m_2 : Int) (m_3 : Int) (m_4 : List Int) (m_5 : List Int) (s : Int) (w : List Int) :
    fnRun Try.prog (T_machine_From @l_word_Check @l_machine_Check) cuts_machine_From Try.f22 fuel [.agg [.v (.int .i64 m), .v (.int .i64 m_1), .v (.int .i64 m_2), .v (.int .i64 m_3), .rd ⟨false, 3, (.int .i64), m_4⟩, .rd ⟨false, 3, (.int .i64), m_5⟩], .v (.int .i64 s), .rd ⟨false, 3, (.int .i64), w⟩] [] K =
    e_machine_From (fun s x42 x43 x44 o0 o0_1 o0_2 o0_3 o0_4 o0_5 o1 => (runO Try.prog (T_machine_From @l_word_Check @l_machine_Check) cuts_machine_From 0 (finish Try.prog Try.f22 0 K) fuel) (at' Try.f22 10) ⟨fr0 82 [(1, .v (.int .i64 s)), (3, .ptr 0 0), (7, .own 1), (42, .rd ⟨false, 3, (.int .i64), x42⟩), (43, .v (.int .i64 x43)), (44, .v (.int .i64 x44))], [.box 24 [.v (.int .i64 o0), .v (.int .i64 o0_1), .v (.int .i64 o0_2), .v (.int .i64 o0_3), .rd ⟨false, 3, (.int .i64), o0_4⟩, .rd ⟨false, 3, (.int .i64), o0_5⟩], .row ⟨true, 3, (.int .i64), o1⟩]⟩) (fun r0 r1 r2 => K (.tup [.v (.int .i64 r0), .own 0, .v (.int .i64 r1)]) [.row ⟨true, 3, (.int .i64), r2⟩]) m m_1 m_2 m_3 m_4 m_5 s w := gentry_machine_From @l_word_Check @l_machine_Check fuel K m m_1 m_2 m_3 m_4 m_5 s w

theorem runs_machine_From {R : Type} (K : AV → List O → Option R) : ∀ fuel : Nat,
    (fun s x42 x43 x44 o0 o0_1 o0_2 o0_3 o0_4 o0_5 o1 => (runO Try.prog (T_machine_From @l_word_Check @l_machine_Check) cuts_machine_From 0 (finish Try.prog Try.f22 0 K) fuel) (at' Try.f22 10) ⟨fr0 82 [(1, .v (.int .i64 s)), (3, .ptr 0 0), (7, .own 1), (42, .rd ⟨false, 3, (.int .i64), x42⟩), (43, .v (.int .i64 x43)), (44, .v (.int .i64 x44))], [.box 24 [.v (.int .i64 o0), .v (.int .i64 o0_1), .v (.int .i64 o0_2), .v (.int .i64 o0_3), .rd ⟨false, 3, (.int .i64), o0_4⟩, .rd ⟨false, 3, (.int .i64), o0_5⟩], .row ⟨true, 3, (.int .i64), o1⟩]⟩) = (run_machine_From (fun r0 r1 r2 => K (.tup [.v (.int .i64 r0), .own 0, .v (.int .i64 r1)]) [.row ⟨true, 3, (.int .i64), r2⟩]) fuel)
  | 0 => rfl
  | fuel + 1 => by
    have ih := runs_machine_From K fuel
    funext s x42 x43 x44 o0 o0_1 o0_2 o0_3 o0_4 o0_5 o1
    refine (step_machine_From_10 _ K s x42 x43 x44 o0 o0_1 o0_2 o0_3 o0_4 o0_5 o1).trans ?_
    rw [ih]
    rfl

def S_machine_From (l_machine_From : {R : Type} → Int → Int → Int → Int → (List Int) → (List Int) → Int → (List Int) → (Int → Int → (List Int) → Option R) → Option R) : Sum := ⟨[], fun {R} args ob K => match args, ob with
  | [.agg [.v (.int .i64 m), .v (.int .i64 m_1), .v (.int .i64 m_2), .v (.int .i64 m_3), .rd ⟨false, 3, (.int .i64), m_4⟩, .rd ⟨false, 3, (.int .i64), m_5⟩], .v (.int .i64 s), .rd ⟨false, 3, (.int .i64), w⟩], [] => l_machine_From m m_1 m_2 m_3 m_4 m_5 s w (fun r0 r1 r2 => K (.tup [.v (.int .i64 r0), .own 0, .v (.int .i64 r1)]) [.row ⟨true, 3, (.int .i64), r2⟩])
  | _, _ => none⟩

theorem sound_machine_From : Sound Try.prog 22 (S_machine_From @l_machine_From) := by
  refine fn_sound (cuts := cuts_machine_From) (fn := Try.f22) (Γ := (T_machine_From @l_word_Check @l_machine_Check)) wide right_T_machine_From Try.func22 fun {R} K r args ob h => ?_
  unfold S_machine_From at h
  dsimp only at h
  split at h
  · obtain ⟨n, hn⟩ := ok_machine_From _ _ _ _ _ _ _ _ _ h
    refine ⟨Nat.le_of_ble_eq_true (by kernel_rfl), n, (entry_machine_From n K _ _ _ _ _ _ _ _).trans ?_⟩
    rw [(runs_machine_From K n)]
    exact hn
  · cases h

theorem call_machine_From : Callable Try.prog 22 := ⟨_, Try.func22, by kernel_rfl, by kernel_rfl⟩

def T_machine_Run (l_machine_From : {R : Type} → Int → Int → Int → Int → (List Int) → (List Int) → Int → (List Int) → (Int → Int → (List Int) → Option R) → Option R) : FuncId → Option Sum := (addS G0 22 (S_machine_From @l_machine_From))

theorem right_T_machine_Run : Right Try.prog (T_machine_Run @l_machine_From) := (right_add right_G0 call_machine_From sound_machine_From)

abbrev cuts_machine_Run : Cuts := []

theorem gentry_machine_Run (l_machine_From : {R : Type} → Int → Int → Int → Int → (List Int) → (List Int) → Int → (List Int) → (Int → Int → (List Int) → Option R) → Option R) {R : Type} (K : AV → List O → Option R) (m : Int) (m_1 : Int) (m_2 : Int) (m_3 : Int) (m_4 : List Int) (m_5 : List Int) (w : List Int) :
    fnRun Try.prog (T_machine_Run @l_machine_From) cuts_machine_Run Try.f26 0 [.agg [.v (.int .i64 m), .v (.int .i64 m_1), .v (.int .i64 m_2), .v (.int .i64 m_3), .rd ⟨false, 3, (.int .i64), m_4⟩, .rd ⟨false, 3, (.int .i64), m_5⟩], .rd ⟨false, 3, (.int .i64), w⟩] [] K =
    (fun (m : Int) (m_1 : Int) (m_2 : Int) (m_3 : Int) (m_4 : List Int) (m_5 : List Int) (w : List Int) (K0 : Int → (List Int) → Option R) =>
    l_machine_From m m_1 m_2 m_3 m_4 m_5 0 w
     (fun r1 r2 r3 =>
      K0 r2 r3)) m m_1 m_2 m_3 m_4 m_5 w (fun r0 r1 => K (.tup [.own 0, .v (.int .i64 r0)]) [.row ⟨true, 3, (.int .i64), r1⟩]) := by kernel_rfl

theorem entry_machine_Run {R : Type} (K : AV → List O → Option R) (m : Int) (m_1 : Int) (m_2 : Int) (m_3 : Int) (m_4 : List Int) (m_5 : List Int) (w : List Int) :
    fnRun Try.prog (T_machine_Run @l_machine_From) cuts_machine_Run Try.f26 0 [.agg [.v (.int .i64 m), .v (.int .i64 m_1), .v (.int .i64 m_2), .v (.int .i64 m_3), .rd ⟨false, 3, (.int .i64), m_4⟩, .rd ⟨false, 3, (.int .i64), m_5⟩], .rd ⟨false, 3, (.int .i64), w⟩] [] K =
    l_machine_Run m m_1 m_2 m_3 m_4 m_5 w (fun r0 r1 => K (.tup [.own 0, .v (.int .i64 r0)]) [.row ⟨true, 3, (.int .i64), r1⟩]) := gentry_machine_Run @l_machine_From K m m_1 m_2 m_3 m_4 m_5 w

def S_machine_Run (l_machine_Run : {R : Type} → Int → Int → Int → Int → (List Int) → (List Int) → (List Int) → (Int → (List Int) → Option R) → Option R) : Sum := ⟨[], fun {R} args ob K => match args, ob with
  | [.agg [.v (.int .i64 m), .v (.int .i64 m_1), .v (.int .i64 m_2), .v (.int .i64 m_3), .rd ⟨false, 3, (.int .i64), m_4⟩, .rd ⟨false, 3, (.int .i64), m_5⟩], .rd ⟨false, 3, (.int .i64), w⟩], [] => l_machine_Run m m_1 m_2 m_3 m_4 m_5 w (fun r0 r1 => K (.tup [.own 0, .v (.int .i64 r0)]) [.row ⟨true, 3, (.int .i64), r1⟩])
  | _, _ => none⟩

theorem sound_machine_Run : Sound Try.prog 26 (S_machine_Run @l_machine_Run) := by
  refine fn_sound (cuts := cuts_machine_Run) (fn := Try.f26) (Γ := (T_machine_Run @l_machine_From)) wide right_T_machine_Run Try.func26 fun {R} K r args ob h => ?_
  unfold S_machine_Run at h
  dsimp only at h
  split at h
  · exact ⟨Nat.le_of_ble_eq_true (by kernel_rfl), 0, (entry_machine_Run K _ _ _ _ _ _ _).trans h⟩
  · cases h

theorem call_machine_Run : Callable Try.prog 26 := ⟨_, Try.func26, by kernel_rfl, by kernel_rfl⟩

def T_tutorlaw03_num : FuncId → Option Sum := G0

theorem right_T_tutorlaw03_num : Right Try.prog T_tutorlaw03_num := right_G0

abbrev cuts_tutorlaw03_num : Cuts := []

theorem gentry_tutorlaw03_num {R : Type} (K : AV → List O → Option R) (e : Int) :
    fnRun Try.prog T_tutorlaw03_num cuts_tutorlaw03_num Try.f20 0 [.v (.int .i64 e)] [] K =
    (fun (e : Int) (K0 : Int → Option R) =>
    K0 e) e (fun r0 => K (.v (.int .i64 r0)) []) := by kernel_rfl

theorem entry_tutorlaw03_num {R : Type} (K : AV → List O → Option R) (e : Int) :
    fnRun Try.prog T_tutorlaw03_num cuts_tutorlaw03_num Try.f20 0 [.v (.int .i64 e)] [] K =
    l_tutorlaw03_num e (fun r0 => K (.v (.int .i64 r0)) []) := gentry_tutorlaw03_num K e

def S_tutorlaw03_num (l_tutorlaw03_num : {R : Type} → Int → (Int → Option R) → Option R) : Sum := ⟨[], fun {R} args ob K => match args, ob with
  | [.v (.int .i64 e)], [] => l_tutorlaw03_num e (fun r0 => K (.v (.int .i64 r0)) [])
  | _, _ => none⟩

theorem sound_tutorlaw03_num : Sound Try.prog 20 (S_tutorlaw03_num @l_tutorlaw03_num) := by
  refine fn_sound (cuts := cuts_tutorlaw03_num) (fn := Try.f20) (Γ := T_tutorlaw03_num) wide right_T_tutorlaw03_num Try.func20 fun {R} K r args ob h => ?_
  unfold S_tutorlaw03_num at h
  dsimp only at h
  split at h
  · exact ⟨Nat.le_of_ble_eq_true (by kernel_rfl), 0, (entry_tutorlaw03_num K _).trans h⟩
  · cases h

theorem call_tutorlaw03_num : Callable Try.prog 20 := ⟨_, Try.func20, by kernel_rfl, by kernel_rfl⟩

def T_tutorref01_Same : FuncId → Option Sum := G0

theorem right_T_tutorref01_Same : Right Try.prog T_tutorref01_Same := right_G0

abbrev cuts_tutorref01_Same : Cuts := [(4, [0, 1, 5])]

theorem gstep_tutorref01_Same_4 {R : Type} (g : List Item → St → Option R) (K : AV → List O → Option R) (a : List Int) (b : List Int) (i : Int) :
    runSeg Try.prog T_tutorref01_Same cuts_tutorref01_Same 0 g (finish Try.prog Try.f24 0 K) (at' Try.f24 4) ⟨fr0 26 [(0, .rd ⟨false, 3, (.int .i64), a⟩), (1, .rd ⟨false, 3, (.int .i64), b⟩), (5, .v (.int .i64 i))], []⟩ =
    (fun (g24_4 : (List Int) → (List Int) → Int → Option R) (K0 : Bool → Option R) (a : List Int) (b : List Int) (i : Int) =>
    bi (decide (i < (a.length : Int)))
     (bi (decide (0 ≤ i ∧ i < ((a.length : Nat) : Int)))
      (bi (decide (0 ≤ i ∧ i < ((b.length : Nat) : Int)))
       (bi ((a.getD i.toNat 0) != (b.getD i.toNat 0))
        (K0 false)
        (g24_4 a b (IntKind.i64.wrap (i + 1))))
       none)
      none)
     (K0 true)) (fun a b i => g (at' Try.f24 4) ⟨fr0 26 [(0, .rd ⟨false, 3, (.int .i64), a⟩), (1, .rd ⟨false, 3, (.int .i64), b⟩), (5, .v (.int .i64 i))], []⟩) (fun r0 => K (.v (.bool r0)) []) a b i := by kernel_rfl

theorem step_tutorref01_Same_4 {R : Type} (g : List Item → St → Option R) (K : AV → List O → Option R) (a : List Int) (b : List Int) (i : Int) :
    runSeg Try.prog T_tutorref01_Same cuts_tutorref01_Same 0 g (finish Try.prog Try.f24 0 K) (at' Try.f24 4) ⟨fr0 26 [(0, .rd ⟨false, 3, (.int .i64), a⟩), (1, .rd ⟨false, 3, (.int .i64), b⟩), (5, .v (.int .i64 i))], []⟩ =
    s_tutorref01_Same_4 (fun a b i => g (at' Try.f24 4) ⟨fr0 26 [(0, .rd ⟨false, 3, (.int .i64), a⟩), (1, .rd ⟨false, 3, (.int .i64), b⟩), (5, .v (.int .i64 i))], []⟩) (fun r0 => K (.v (.bool r0)) []) a b i := gstep_tutorref01_Same_4 g K a b i

theorem gentry_tutorref01_Same {R : Type} (fuel : Nat) (K : AV → List O → Option R) (a : List Int) (b : List Int) :
    fnRun Try.prog T_tutorref01_Same cuts_tutorref01_Same Try.f24 fuel [.rd ⟨false, 3, (.int .i64), a⟩, .rd ⟨false, 3, (.int .i64), b⟩] [] K =
    (fun (g24_4 : (List Int) → (List Int) → Int → Option R) (K0 : Bool → Option R) (a : List Int) (b : List Int) =>
    bi ((a.length : Int) != (b.length : Int))
     (K0 false)
     (g24_4 a b 0)) (fun a b i => (runO Try.prog T_tutorref01_Same cuts_tutorref01_Same 0 (finish Try.prog Try.f24 0 K) fuel) (at' Try.f24 4) ⟨fr0 26 [(0, .rd ⟨false, 3, (.int .i64), a⟩), (1, .rd ⟨false, 3, (.int .i64), b⟩), (5, .v (.int .i64 i))], []⟩) (fun r0 => K (.v (.bool r0)) []) a b := by kernel_rfl

theorem entry_tutorref01_Same {R : Type} (fuel : Nat) (K : AV → List O → Option R) (a : List Int) (b : List Int) :
    fnRun Try.prog T_tutorref01_Same cuts_tutorref01_Same Try.f24 fuel [.rd ⟨false, 3, (.int .i64), a⟩, .rd ⟨false, 3, (.int .i64), b⟩] [] K =
    e_tutorref01_Same (fun a b i => (runO Try.prog T_tutorref01_Same cuts_tutorref01_Same 0 (finish Try.prog Try.f24 0 K) fuel) (at' Try.f24 4) ⟨fr0 26 [(0, .rd ⟨false, 3, (.int .i64), a⟩), (1, .rd ⟨false, 3, (.int .i64), b⟩), (5, .v (.int .i64 i))], []⟩) (fun r0 => K (.v (.bool r0)) []) a b := gentry_tutorref01_Same fuel K a b

theorem runs_tutorref01_Same {R : Type} (K : AV → List O → Option R) : ∀ fuel : Nat,
    (fun a b i => (runO Try.prog T_tutorref01_Same cuts_tutorref01_Same 0 (finish Try.prog Try.f24 0 K) fuel) (at' Try.f24 4) ⟨fr0 26 [(0, .rd ⟨false, 3, (.int .i64), a⟩), (1, .rd ⟨false, 3, (.int .i64), b⟩), (5, .v (.int .i64 i))], []⟩) = (run_tutorref01_Same (fun r0 => K (.v (.bool r0)) []) fuel)
  | 0 => rfl
  | fuel + 1 => by
    have ih := runs_tutorref01_Same K fuel
    funext a b i
    refine (step_tutorref01_Same_4 _ K a b i).trans ?_
    rw [ih]
    rfl

def S_tutorref01_Same (l_tutorref01_Same : {R : Type} → (List Int) → (List Int) → (Bool → Option R) → Option R) : Sum := ⟨[], fun {R} args ob K => match args, ob with
  | [.rd ⟨false, 3, (.int .i64), a⟩, .rd ⟨false, 3, (.int .i64), b⟩], [] => l_tutorref01_Same a b (fun r0 => K (.v (.bool r0)) [])
  | _, _ => none⟩

theorem sound_tutorref01_Same : Sound Try.prog 24 (S_tutorref01_Same @l_tutorref01_Same) := by
  refine fn_sound (cuts := cuts_tutorref01_Same) (fn := Try.f24) (Γ := T_tutorref01_Same) wide right_T_tutorref01_Same Try.func24 fun {R} K r args ob h => ?_
  unfold S_tutorref01_Same at h
  dsimp only at h
  split at h
  · obtain ⟨n, hn⟩ := ok_tutorref01_Same _ _ _ h
    refine ⟨Nat.le_of_ble_eq_true (by kernel_rfl), n, (entry_tutorref01_Same n K _ _).trans ?_⟩
    rw [(runs_tutorref01_Same K n)]
    exact hn
  · cases h

theorem call_tutorref01_Same : Callable Try.prog 24 := ⟨_, Try.func24, by kernel_rfl, by kernel_rfl⟩

def T_tutorlaw03_live (l_tutorlaw03_num : {R : Type} → Int → (Int → Option R) → Option R) (l_tutorref01_Same : {R : Type} → (List Int) → (List Int) → (Bool → Option R) → Option R) (l_machine_Check : {R : Type} → Int → Int → Int → Int → (List Int) → (List Int) → (Int → Int → Option R) → Option R) (l_machine_Run : {R : Type} → Int → Int → Int → Int → (List Int) → (List Int) → (List Int) → (Int → (List Int) → Option R) → Option R) : FuncId → Option Sum := (addS (addS (addS (addS G0 20 (S_tutorlaw03_num @l_tutorlaw03_num)) 24 (S_tutorref01_Same @l_tutorref01_Same)) 18 (S_machine_Check @l_machine_Check)) 26 (S_machine_Run @l_machine_Run))

theorem right_T_tutorlaw03_live : Right Try.prog (T_tutorlaw03_live @l_tutorlaw03_num @l_tutorref01_Same @l_machine_Check @l_machine_Run) := (right_add (right_add (right_add (right_add right_G0 call_tutorlaw03_num sound_tutorlaw03_num) call_tutorref01_Same sound_tutorref01_Same) call_machine_Check sound_machine_Check) call_machine_Run sound_machine_Run)

abbrev cuts_tutorlaw03_live : Cuts := []

theorem gentry_tutorlaw03_live (l_tutorlaw03_num : {R : Type} → Int → (Int → Option R) → Option R) (l_tutorref01_Same : {R : Type} → (List Int) → (List Int) → (Bool → Option R) → Option R) (l_machine_Check : {R : Type} → Int → Int → Int → Int → (List Int) → (List Int) → (Int → Int → Option R) → Option R) (l_machine_Run : {R : Type} → Int → Int → Int → Int → (List Int) → (List Int) → (List Int) → (Int → (List Int) → Option R) → Option R) {R : Type} (K : AV → List O → Option R)  :
    fnRun Try.prog (T_tutorlaw03_live @l_tutorlaw03_num @l_tutorref01_Same @l_machine_Check @l_machine_Run) cuts_tutorlaw03_live Try.f16 0 [] [] K =
    (fun  (K0 : Bool → Option R) =>
    l_machine_Run 1 1 2 2 [1, 0] [0, 1] [0]
     (fun r1 r2 =>
      l_machine_Run 2 1 2 2 [1, 0] [0, 1] [0, 0, 0]
       (fun r3 r4 =>
        l_machine_Check 0 0 0 0 ([] : List Int) ([] : List Int)
         (fun r5 r6 =>
          l_tutorlaw03_num r1
           (fun r7 =>
            l_tutorlaw03_num r3
             (fun r8 =>
              bi ((IntKind.i64.wrap (r7 + r8)) == 0)
               (l_tutorref01_Same r2 [1]
                (fun r9 =>
                 bi r9
                  (l_tutorref01_Same r4 [0, 1, 0]
                   (fun r10 =>
                    bi r10
                     (l_tutorlaw03_num r6
                      (fun r11 =>
                       K0 (r11 == 30)))
                     (K0 false)))
                  (K0 false)))
               (K0 false)))))))  (fun r0 => K (.v (.bool r0)) []) := by kernel_rfl

theorem entry_tutorlaw03_live {R : Type} (K : AV → List O → Option R)  :
    fnRun Try.prog (T_tutorlaw03_live @l_tutorlaw03_num @l_tutorref01_Same @l_machine_Check @l_machine_Run) cuts_tutorlaw03_live Try.f16 0 [] [] K =
    l_tutorlaw03_live  (fun r0 => K (.v (.bool r0)) []) := gentry_tutorlaw03_live @l_tutorlaw03_num @l_tutorref01_Same @l_machine_Check @l_machine_Run K 

def S_tutorlaw03_live (l_tutorlaw03_live : {R : Type} → (Bool → Option R) → Option R) : Sum := ⟨[], fun {R} args ob K => match args, ob with
  | [], [] => l_tutorlaw03_live  (fun r0 => K (.v (.bool r0)) [])
  | _, _ => none⟩

theorem sound_tutorlaw03_live : Sound Try.prog 16 (S_tutorlaw03_live @l_tutorlaw03_live) := by
  refine fn_sound (cuts := cuts_tutorlaw03_live) (fn := Try.f16) (Γ := (T_tutorlaw03_live @l_tutorlaw03_num @l_tutorref01_Same @l_machine_Check @l_machine_Run)) wide right_T_tutorlaw03_live Try.func16 fun {R} K r args ob h => ?_
  unfold S_tutorlaw03_live at h
  dsimp only at h
  split at h
  · exact ⟨Nat.le_of_ble_eq_true (by kernel_rfl), 0, (entry_tutorlaw03_live K).trans h⟩
  · cases h

theorem call_tutorlaw03_live : Callable Try.prog 16 := ⟨_, Try.func16, by kernel_rfl, by kernel_rfl⟩

def T_tutorref03_Copy : FuncId → Option Sum := G0

theorem right_T_tutorref03_Copy : Right Try.prog T_tutorref03_Copy := right_G0

abbrev cuts_tutorref03_Copy : Cuts := []

theorem gentry_tutorref03_Copy {R : Type} (K : AV → List O → Option R) (m : Int) (m_1 : Int) (m_2 : Int) (m_3 : Int) (m_4 : List Int) (m_5 : List Int) :
    fnRun Try.prog T_tutorref03_Copy cuts_tutorref03_Copy Try.f17 0 [.agg [.v (.int .i64 m), .v (.int .i64 m_1), .v (.int .i64 m_2), .v (.int .i64 m_3), .rd ⟨false, 3, (.int .i64), m_4⟩, .rd ⟨false, 3, (.int .i64), m_5⟩]] [] K =
    (fun (m : Int) (m_1 : Int) (m_2 : Int) (m_3 : Int) (m_4 : List Int) (m_5 : List Int) (K0 : Int → Int → Int → Int → (List Int) → (List Int) → Option R) =>
    bi (decide ((([] : List Int).length + m_4.length) * 8 ≤ lim))
     (bi (decide ((([] : List Int).length + m_5.length) * 8 ≤ lim))
      (K0 m m_1 m_2 m_3 (([] : List Int) ++ m_4) (([] : List Int) ++ m_5))
      none)
     none) m m_1 m_2 m_3 m_4 m_5 (fun r0 r1 r2 r3 r4 r5 => K (.agg [.v (.int .i64 r0), .v (.int .i64 r1), .v (.int .i64 r2), .v (.int .i64 r3), .own 0, .own 1]) [.row ⟨true, 3, (.int .i64), r4⟩, .row ⟨true, 3, (.int .i64), r5⟩]) := by kernel_rfl

theorem entry_tutorref03_Copy {R : Type} (K : AV → List O → Option R) (m : Int) (m_1 : Int) (m_2 : Int) (m_3 : Int) (m_4 : List Int) (m_5 : List Int) :
    fnRun Try.prog T_tutorref03_Copy cuts_tutorref03_Copy Try.f17 0 [.agg [.v (.int .i64 m), .v (.int .i64 m_1), .v (.int .i64 m_2), .v (.int .i64 m_3), .rd ⟨false, 3, (.int .i64), m_4⟩, .rd ⟨false, 3, (.int .i64), m_5⟩]] [] K =
    l_tutorref03_Copy m m_1 m_2 m_3 m_4 m_5 (fun r0 r1 r2 r3 r4 r5 => K (.agg [.v (.int .i64 r0), .v (.int .i64 r1), .v (.int .i64 r2), .v (.int .i64 r3), .own 0, .own 1]) [.row ⟨true, 3, (.int .i64), r4⟩, .row ⟨true, 3, (.int .i64), r5⟩]) := gentry_tutorref03_Copy K m m_1 m_2 m_3 m_4 m_5

def S_tutorref03_Copy (l_tutorref03_Copy : {R : Type} → Int → Int → Int → Int → (List Int) → (List Int) → (Int → Int → Int → Int → (List Int) → (List Int) → Option R) → Option R) : Sum := ⟨[], fun {R} args ob K => match args, ob with
  | [.agg [.v (.int .i64 m), .v (.int .i64 m_1), .v (.int .i64 m_2), .v (.int .i64 m_3), .rd ⟨false, 3, (.int .i64), m_4⟩, .rd ⟨false, 3, (.int .i64), m_5⟩]], [] => l_tutorref03_Copy m m_1 m_2 m_3 m_4 m_5 (fun r0 r1 r2 r3 r4 r5 => K (.agg [.v (.int .i64 r0), .v (.int .i64 r1), .v (.int .i64 r2), .v (.int .i64 r3), .own 0, .own 1]) [.row ⟨true, 3, (.int .i64), r4⟩, .row ⟨true, 3, (.int .i64), r5⟩])
  | _, _ => none⟩

theorem sound_tutorref03_Copy : Sound Try.prog 17 (S_tutorref03_Copy @l_tutorref03_Copy) := by
  refine fn_sound (cuts := cuts_tutorref03_Copy) (fn := Try.f17) (Γ := T_tutorref03_Copy) wide right_T_tutorref03_Copy Try.func17 fun {R} K r args ob h => ?_
  unfold S_tutorref03_Copy at h
  dsimp only at h
  split at h
  · exact ⟨Nat.le_of_ble_eq_true (by kernel_rfl), 0, (entry_tutorref03_Copy K _ _ _ _ _ _).trans h⟩
  · cases h

theorem call_tutorref03_Copy : Callable Try.prog 17 := ⟨_, Try.func17, by kernel_rfl, by kernel_rfl⟩

def T_tutorref01_Apart : FuncId → Option Sum := G0

theorem right_T_tutorref01_Apart : Right Try.prog T_tutorref01_Apart := right_G0

abbrev cuts_tutorref01_Apart : Cuts := [(2, [0, 3]), (5, [0, 3, 4]), (9, [0, 5]), (13, [0, 5, 6, 7]), (17, [0, 8]), (20, [0, 8, 9])]

theorem gstep_tutorref01_Apart_2 {R : Type} (g : List Item → St → Option R) (K : AV → List O → Option R) (i : Int) (o0 : List (List Int)) :
    runSeg Try.prog T_tutorref01_Apart cuts_tutorref01_Apart 1 g (finish Try.prog Try.f27 1 K) (at' Try.f27 2) ⟨fr0 77 [(0, .nst 0), (3, .v (.int .i64 i))], [.nst ⟨false, 22, (.sl 3 (.int .i64)), o0⟩]⟩ =
    (fun (g27_2 : Int → (List (List Int)) → Option R) (g27_5 : Int → Int → (List (List Int)) → Option R) (g27_9 : Int → (List (List Int)) → Option R) (g27_13 : Int → Nat → Int → (List (List Int)) → Option R) (g27_17 : Int → (List (List Int)) → Option R) (g27_13b : Int → Int → (List (List Int)) → Nat → Nat → Option R) (g27_20 : Int → Int → (List (List Int)) → Option R) (K0 : Bool → (List (List Int)) → Option R) (i : Int) (o0 : List (List Int)) =>
    bi (decide (i < (o0.length : Int)))
     (g27_5 i 0 o0)
     (g27_9 0 o0)) (fun i o0 => g (at' Try.f27 2) ⟨fr0 77 [(0, .nst 0), (3, .v (.int .i64 i))], [.nst ⟨false, 22, (.sl 3 (.int .i64)), o0⟩]⟩) (fun i k o0 => g (at' Try.f27 5) ⟨fr0 77 [(0, .nst 0), (3, .v (.int .i64 i)), (4, .v (.int .i64 k))], [.nst ⟨false, 22, (.sl 3 (.int .i64)), o0⟩]⟩) (fun i o0 => g (at' Try.f27 9) ⟨fr0 77 [(0, .nst 0), (5, .v (.int .i64 i))], [.nst ⟨false, 22, (.sl 3 (.int .i64)), o0⟩]⟩) (fun i x k o0 => g (at' Try.f27 13) ⟨fr0 77 [(0, .nst 0), (5, .v (.int .i64 i)), (6, .inn 0 x), (7, .v (.int .i64 k))], [.nst ⟨false, 22, (.sl 3 (.int .i64)), o0⟩]⟩) (fun i o0 => g (at' Try.f27 17) ⟨fr0 77 [(0, .nst 0), (8, .v (.int .i64 i))], [.nst ⟨false, 22, (.sl 3 (.int .i64)), o0⟩]⟩) (fun i k o0 o1 o1_1 => g (at' Try.f27 13) ⟨fr0 77 [(0, .nst 0), (5, .v (.int .i64 i)), (6, .grn 1), (7, .v (.int .i64 k))], [.nst ⟨false, 22, (.sl 3 (.int .i64)), o0⟩, .grn 0 o1 3 1 o1_1]⟩) (fun i k o0 => g (at' Try.f27 20) ⟨fr0 77 [(0, .nst 0), (8, .v (.int .i64 i)), (9, .v (.int .i64 k))], [.nst ⟨false, 22, (.sl 3 (.int .i64)), o0⟩]⟩) (fun r0 r1 => K (.v (.bool r0)) [.nst ⟨false, 22, (.sl 3 (.int .i64)), r1⟩]) i o0 := by kernel_rfl

theorem step_tutorref01_Apart_2 {R : Type} (g : List Item → St → Option R) (K : AV → List O → Option R) (i : Int) (o0 : List (List Int)) :
    runSeg Try.prog T_tutorref01_Apart cuts_tutorref01_Apart 1 g (finish Try.prog Try.f27 1 K) (at' Try.f27 2) ⟨fr0 77 [(0, .nst 0), (3, .v (.int .i64 i))], [.nst ⟨false, 22, (.sl 3 (.int .i64)), o0⟩]⟩ =
    s_tutorref01_Apart_2 (fun i o0 => g (at' Try.f27 2) ⟨fr0 77 [(0, .nst 0), (3, .v (.int .i64 i))], [.nst ⟨false, 22, (.sl 3 (.int .i64)), o0⟩]⟩) (fun i k o0 => g (at' Try.f27 5) ⟨fr0 77 [(0, .nst 0), (3, .v (.int .i64 i)), (4, .v (.int .i64 k))], [.nst ⟨false, 22, (.sl 3 (.int .i64)), o0⟩]⟩) (fun i o0 => g (at' Try.f27 9) ⟨fr0 77 [(0, .nst 0), (5, .v (.int .i64 i))], [.nst ⟨false, 22, (.sl 3 (.int .i64)), o0⟩]⟩) (fun i x k o0 => g (at' Try.f27 13) ⟨fr0 77 [(0, .nst 0), (5, .v (.int .i64 i)), (6, .inn 0 x), (7, .v (.int .i64 k))], [.nst ⟨false, 22, (.sl 3 (.int .i64)), o0⟩]⟩) (fun i o0 => g (at' Try.f27 17) ⟨fr0 77 [(0, .nst 0), (8, .v (.int .i64 i))], [.nst ⟨false, 22, (.sl 3 (.int .i64)), o0⟩]⟩) (fun i k o0 o1 o1_1 => g (at' Try.f27 13) ⟨fr0 77 [(0, .nst 0), (5, .v (.int .i64 i)), (6, .grn 1), (7, .v (.int .i64 k))], [.nst ⟨false, 22, (.sl 3 (.int .i64)), o0⟩, .grn 0 o1 3 1 o1_1]⟩) (fun i k o0 => g (at' Try.f27 20) ⟨fr0 77 [(0, .nst 0), (8, .v (.int .i64 i)), (9, .v (.int .i64 k))], [.nst ⟨false, 22, (.sl 3 (.int .i64)), o0⟩]⟩) (fun r0 r1 => K (.v (.bool r0)) [.nst ⟨false, 22, (.sl 3 (.int .i64)), r1⟩]) i o0 := gstep_tutorref01_Apart_2 g K i o0

theorem gstep_tutorref01_Apart_5 {R : Type} (g : List Item → St → Option R) (K : AV → List O → Option R) (i : Int) (k : Int) (o0 : List (List Int)) :
    runSeg Try.prog T_tutorref01_Apart cuts_tutorref01_Apart 1 g (finish Try.prog Try.f27 1 K) (at' Try.f27 5) ⟨fr0 77 [(0, .nst 0), (3, .v (.int .i64 i)), (4, .v (.int .i64 k))], [.nst ⟨false, 22, (.sl 3 (.int .i64)), o0⟩]⟩ =
    (fun (g27_2 : Int → (List (List Int)) → Option R) (g27_5 : Int → Int → (List (List Int)) → Option R) (g27_9 : Int → (List (List Int)) → Option R) (g27_13 : Int → Nat → Int → (List (List Int)) → Option R) (g27_17 : Int → (List (List Int)) → Option R) (g27_13b : Int → Int → (List (List Int)) → Nat → Nat → Option R) (g27_20 : Int → Int → (List (List Int)) → Option R) (K0 : Bool → (List (List Int)) → Option R) (i : Int) (k : Int) (o0 : List (List Int)) =>
    bi (decide (0 ≤ i ∧ i < ((o0.length : Nat) : Int)))
     (bi (decide (k < ((o0.getD i.toNat []).length : Int)))
      (bi (decide (0 ≤ i ∧ i < ((o0.length : Nat) : Int)))
       (bi (decide (0 ≤ k ∧ k < (((o0.getD i.toNat []).length : Nat) : Int)))
        (g27_5 i (IntKind.i64.wrap (k + 1)) (o0.set i.toNat ((o0.getD i.toNat []).set k.toNat (IntKind.i64.wrap ((-1000) - i)))))
        none)
       none)
      (g27_2 (IntKind.i64.wrap (i + 1)) o0))
     none) (fun i o0 => g (at' Try.f27 2) ⟨fr0 77 [(0, .nst 0), (3, .v (.int .i64 i))], [.nst ⟨false, 22, (.sl 3 (.int .i64)), o0⟩]⟩) (fun i k o0 => g (at' Try.f27 5) ⟨fr0 77 [(0, .nst 0), (3, .v (.int .i64 i)), (4, .v (.int .i64 k))], [.nst ⟨false, 22, (.sl 3 (.int .i64)), o0⟩]⟩) (fun i o0 => g (at' Try.f27 9) ⟨fr0 77 [(0, .nst 0), (5, .v (.int .i64 i))], [.nst ⟨false, 22, (.sl 3 (.int .i64)), o0⟩]⟩) (fun i x k o0 => g (at' Try.f27 13) ⟨fr0 77 [(0, .nst 0), (5, .v (.int .i64 i)), (6, .inn 0 x), (7, .v (.int .i64 k))], [.nst ⟨false, 22, (.sl 3 (.int .i64)), o0⟩]⟩) (fun i o0 => g (at' Try.f27 17) ⟨fr0 77 [(0, .nst 0), (8, .v (.int .i64 i))], [.nst ⟨false, 22, (.sl 3 (.int .i64)), o0⟩]⟩) (fun i k o0 o1 o1_1 => g (at' Try.f27 13) ⟨fr0 77 [(0, .nst 0), (5, .v (.int .i64 i)), (6, .grn 1), (7, .v (.int .i64 k))], [.nst ⟨false, 22, (.sl 3 (.int .i64)), o0⟩, .grn 0 o1 3 1 o1_1]⟩) (fun i k o0 => g (at' Try.f27 20) ⟨fr0 77 [(0, .nst 0), (8, .v (.int .i64 i)), (9, .v (.int .i64 k))], [.nst ⟨false, 22, (.sl 3 (.int .i64)), o0⟩]⟩) (fun r0 r1 => K (.v (.bool r0)) [.nst ⟨false, 22, (.sl 3 (.int .i64)), r1⟩]) i k o0 := by kernel_rfl

theorem step_tutorref01_Apart_5 {R : Type} (g : List Item → St → Option R) (K : AV → List O → Option R) (i : Int) (k : Int) (o0 : List (List Int)) :
    runSeg Try.prog T_tutorref01_Apart cuts_tutorref01_Apart 1 g (finish Try.prog Try.f27 1 K) (at' Try.f27 5) ⟨fr0 77 [(0, .nst 0), (3, .v (.int .i64 i)), (4, .v (.int .i64 k))], [.nst ⟨false, 22, (.sl 3 (.int .i64)), o0⟩]⟩ =
    s_tutorref01_Apart_5 (fun i o0 => g (at' Try.f27 2) ⟨fr0 77 [(0, .nst 0), (3, .v (.int .i64 i))], [.nst ⟨false, 22, (.sl 3 (.int .i64)), o0⟩]⟩) (fun i k o0 => g (at' Try.f27 5) ⟨fr0 77 [(0, .nst 0), (3, .v (.int .i64 i)), (4, .v (.int .i64 k))], [.nst ⟨false, 22, (.sl 3 (.int .i64)), o0⟩]⟩) (fun i o0 => g (at' Try.f27 9) ⟨fr0 77 [(0, .nst 0), (5, .v (.int .i64 i))], [.nst ⟨false, 22, (.sl 3 (.int .i64)), o0⟩]⟩) (fun i x k o0 => g (at' Try.f27 13) ⟨fr0 77 [(0, .nst 0), (5, .v (.int .i64 i)), (6, .inn 0 x), (7, .v (.int .i64 k))], [.nst ⟨false, 22, (.sl 3 (.int .i64)), o0⟩]⟩) (fun i o0 => g (at' Try.f27 17) ⟨fr0 77 [(0, .nst 0), (8, .v (.int .i64 i))], [.nst ⟨false, 22, (.sl 3 (.int .i64)), o0⟩]⟩) (fun i k o0 o1 o1_1 => g (at' Try.f27 13) ⟨fr0 77 [(0, .nst 0), (5, .v (.int .i64 i)), (6, .grn 1), (7, .v (.int .i64 k))], [.nst ⟨false, 22, (.sl 3 (.int .i64)), o0⟩, .grn 0 o1 3 1 o1_1]⟩) (fun i k o0 => g (at' Try.f27 20) ⟨fr0 77 [(0, .nst 0), (8, .v (.int .i64 i)), (9, .v (.int .i64 k))], [.nst ⟨false, 22, (.sl 3 (.int .i64)), o0⟩]⟩) (fun r0 r1 => K (.v (.bool r0)) [.nst ⟨false, 22, (.sl 3 (.int .i64)), r1⟩]) i k o0 := gstep_tutorref01_Apart_5 g K i k o0

theorem gstep_tutorref01_Apart_9 {R : Type} (g : List Item → St → Option R) (K : AV → List O → Option R) (i : Int) (o0 : List (List Int)) :
    runSeg Try.prog T_tutorref01_Apart cuts_tutorref01_Apart 1 g (finish Try.prog Try.f27 1 K) (at' Try.f27 9) ⟨fr0 77 [(0, .nst 0), (5, .v (.int .i64 i))], [.nst ⟨false, 22, (.sl 3 (.int .i64)), o0⟩]⟩ =
    (fun (g27_2 : Int → (List (List Int)) → Option R) (g27_5 : Int → Int → (List (List Int)) → Option R) (g27_9 : Int → (List (List Int)) → Option R) (g27_13 : Int → Nat → Int → (List (List Int)) → Option R) (g27_17 : Int → (List (List Int)) → Option R) (g27_13b : Int → Int → (List (List Int)) → Nat → Nat → Option R) (g27_20 : Int → Int → (List (List Int)) → Option R) (K0 : Bool → (List (List Int)) → Option R) (i : Int) (o0 : List (List Int)) =>
    bi (decide (i < (o0.length : Int)))
     (bi (decide (0 ≤ i ∧ i < ((o0.length : Nat) : Int)))
      (g27_13 i i.toNat 0 o0)
      none)
     (g27_17 0 o0)) (fun i o0 => g (at' Try.f27 2) ⟨fr0 77 [(0, .nst 0), (3, .v (.int .i64 i))], [.nst ⟨false, 22, (.sl 3 (.int .i64)), o0⟩]⟩) (fun i k o0 => g (at' Try.f27 5) ⟨fr0 77 [(0, .nst 0), (3, .v (.int .i64 i)), (4, .v (.int .i64 k))], [.nst ⟨false, 22, (.sl 3 (.int .i64)), o0⟩]⟩) (fun i o0 => g (at' Try.f27 9) ⟨fr0 77 [(0, .nst 0), (5, .v (.int .i64 i))], [.nst ⟨false, 22, (.sl 3 (.int .i64)), o0⟩]⟩) (fun i x k o0 => g (at' Try.f27 13) ⟨fr0 77 [(0, .nst 0), (5, .v (.int .i64 i)), (6, .inn 0 x), (7, .v (.int .i64 k))], [.nst ⟨false, 22, (.sl 3 (.int .i64)), o0⟩]⟩) (fun i o0 => g (at' Try.f27 17) ⟨fr0 77 [(0, .nst 0), (8, .v (.int .i64 i))], [.nst ⟨false, 22, (.sl 3 (.int .i64)), o0⟩]⟩) (fun i k o0 o1 o1_1 => g (at' Try.f27 13) ⟨fr0 77 [(0, .nst 0), (5, .v (.int .i64 i)), (6, .grn 1), (7, .v (.int .i64 k))], [.nst ⟨false, 22, (.sl 3 (.int .i64)), o0⟩, .grn 0 o1 3 1 o1_1]⟩) (fun i k o0 => g (at' Try.f27 20) ⟨fr0 77 [(0, .nst 0), (8, .v (.int .i64 i)), (9, .v (.int .i64 k))], [.nst ⟨false, 22, (.sl 3 (.int .i64)), o0⟩]⟩) (fun r0 r1 => K (.v (.bool r0)) [.nst ⟨false, 22, (.sl 3 (.int .i64)), r1⟩]) i o0 := by kernel_rfl

theorem step_tutorref01_Apart_9 {R : Type} (g : List Item → St → Option R) (K : AV → List O → Option R) (i : Int) (o0 : List (List Int)) :
    runSeg Try.prog T_tutorref01_Apart cuts_tutorref01_Apart 1 g (finish Try.prog Try.f27 1 K) (at' Try.f27 9) ⟨fr0 77 [(0, .nst 0), (5, .v (.int .i64 i))], [.nst ⟨false, 22, (.sl 3 (.int .i64)), o0⟩]⟩ =
    s_tutorref01_Apart_9 (fun i o0 => g (at' Try.f27 2) ⟨fr0 77 [(0, .nst 0), (3, .v (.int .i64 i))], [.nst ⟨false, 22, (.sl 3 (.int .i64)), o0⟩]⟩) (fun i k o0 => g (at' Try.f27 5) ⟨fr0 77 [(0, .nst 0), (3, .v (.int .i64 i)), (4, .v (.int .i64 k))], [.nst ⟨false, 22, (.sl 3 (.int .i64)), o0⟩]⟩) (fun i o0 => g (at' Try.f27 9) ⟨fr0 77 [(0, .nst 0), (5, .v (.int .i64 i))], [.nst ⟨false, 22, (.sl 3 (.int .i64)), o0⟩]⟩) (fun i x k o0 => g (at' Try.f27 13) ⟨fr0 77 [(0, .nst 0), (5, .v (.int .i64 i)), (6, .inn 0 x), (7, .v (.int .i64 k))], [.nst ⟨false, 22, (.sl 3 (.int .i64)), o0⟩]⟩) (fun i o0 => g (at' Try.f27 17) ⟨fr0 77 [(0, .nst 0), (8, .v (.int .i64 i))], [.nst ⟨false, 22, (.sl 3 (.int .i64)), o0⟩]⟩) (fun i k o0 o1 o1_1 => g (at' Try.f27 13) ⟨fr0 77 [(0, .nst 0), (5, .v (.int .i64 i)), (6, .grn 1), (7, .v (.int .i64 k))], [.nst ⟨false, 22, (.sl 3 (.int .i64)), o0⟩, .grn 0 o1 3 1 o1_1]⟩) (fun i k o0 => g (at' Try.f27 20) ⟨fr0 77 [(0, .nst 0), (8, .v (.int .i64 i)), (9, .v (.int .i64 k))], [.nst ⟨false, 22, (.sl 3 (.int .i64)), o0⟩]⟩) (fun r0 r1 => K (.v (.bool r0)) [.nst ⟨false, 22, (.sl 3 (.int .i64)), r1⟩]) i o0 := gstep_tutorref01_Apart_9 g K i o0

theorem gstep_tutorref01_Apart_13a {R : Type} (g : List Item → St → Option R) (K : AV → List O → Option R) (i : Int) (x : Nat) (k : Int) (o0 : List (List Int)) :
    runSeg Try.prog T_tutorref01_Apart cuts_tutorref01_Apart 1 g (finish Try.prog Try.f27 1 K) (at' Try.f27 13) ⟨fr0 77 [(0, .nst 0), (5, .v (.int .i64 i)), (6, .inn 0 x), (7, .v (.int .i64 k))], [.nst ⟨false, 22, (.sl 3 (.int .i64)), o0⟩]⟩ =
    (fun (g27_2 : Int → (List (List Int)) → Option R) (g27_5 : Int → Int → (List (List Int)) → Option R) (g27_9 : Int → (List (List Int)) → Option R) (g27_13 : Int → Nat → Int → (List (List Int)) → Option R) (g27_17 : Int → (List (List Int)) → Option R) (g27_13b : Int → Int → (List (List Int)) → Nat → Nat → Option R) (g27_20 : Int → Int → (List (List Int)) → Option R) (K0 : Bool → (List (List Int)) → Option R) (i : Int) (x : Nat) (k : Int) (o0 : List (List Int)) =>
    bi (decide (k < 6))
     (bi (decide (((o0.getD x []).length + [IntKind.i64.wrap ((-5000) - i)].length) * 8 ≤ lim))
      (g27_13b i (IntKind.i64.wrap (k + 1)) o0 x ((o0.getD x []).length + [IntKind.i64.wrap ((-5000) - i)].length))
      none)
     (g27_9 (IntKind.i64.wrap (i + 1)) o0)) (fun i o0 => g (at' Try.f27 2) ⟨fr0 77 [(0, .nst 0), (3, .v (.int .i64 i))], [.nst ⟨false, 22, (.sl 3 (.int .i64)), o0⟩]⟩) (fun i k o0 => g (at' Try.f27 5) ⟨fr0 77 [(0, .nst 0), (3, .v (.int .i64 i)), (4, .v (.int .i64 k))], [.nst ⟨false, 22, (.sl 3 (.int .i64)), o0⟩]⟩) (fun i o0 => g (at' Try.f27 9) ⟨fr0 77 [(0, .nst 0), (5, .v (.int .i64 i))], [.nst ⟨false, 22, (.sl 3 (.int .i64)), o0⟩]⟩) (fun i x k o0 => g (at' Try.f27 13) ⟨fr0 77 [(0, .nst 0), (5, .v (.int .i64 i)), (6, .inn 0 x), (7, .v (.int .i64 k))], [.nst ⟨false, 22, (.sl 3 (.int .i64)), o0⟩]⟩) (fun i o0 => g (at' Try.f27 17) ⟨fr0 77 [(0, .nst 0), (8, .v (.int .i64 i))], [.nst ⟨false, 22, (.sl 3 (.int .i64)), o0⟩]⟩) (fun i k o0 o1 o1_1 => g (at' Try.f27 13) ⟨fr0 77 [(0, .nst 0), (5, .v (.int .i64 i)), (6, .grn 1), (7, .v (.int .i64 k))], [.nst ⟨false, 22, (.sl 3 (.int .i64)), o0⟩, .grn 0 o1 3 1 o1_1]⟩) (fun i k o0 => g (at' Try.f27 20) ⟨fr0 77 [(0, .nst 0), (8, .v (.int .i64 i)), (9, .v (.int .i64 k))], [.nst ⟨false, 22, (.sl 3 (.int .i64)), o0⟩]⟩) (fun r0 r1 => K (.v (.bool r0)) [.nst ⟨false, 22, (.sl 3 (.int .i64)), r1⟩]) i x k o0 := by kernel_rfl

theorem step_tutorref01_Apart_13a {R : Type} (g : List Item → St → Option R) (K : AV → List O → Option R) (i : Int) (x : Nat) (k : Int) (o0 : List (List Int)) :
    runSeg Try.prog T_tutorref01_Apart cuts_tutorref01_Apart 1 g (finish Try.prog Try.f27 1 K) (at' Try.f27 13) ⟨fr0 77 [(0, .nst 0), (5, .v (.int .i64 i)), (6, .inn 0 x), (7, .v (.int .i64 k))], [.nst ⟨false, 22, (.sl 3 (.int .i64)), o0⟩]⟩ =
    s_tutorref01_Apart_13a (fun i o0 => g (at' Try.f27 2) ⟨fr0 77 [(0, .nst 0), (3, .v (.int .i64 i))], [.nst ⟨false, 22, (.sl 3 (.int .i64)), o0⟩]⟩) (fun i k o0 => g (at' Try.f27 5) ⟨fr0 77 [(0, .nst 0), (3, .v (.int .i64 i)), (4, .v (.int .i64 k))], [.nst ⟨false, 22, (.sl 3 (.int .i64)), o0⟩]⟩) (fun i o0 => g (at' Try.f27 9) ⟨fr0 77 [(0, .nst 0), (5, .v (.int .i64 i))], [.nst ⟨false, 22, (.sl 3 (.int .i64)), o0⟩]⟩) (fun i x k o0 => g (at' Try.f27 13) ⟨fr0 77 [(0, .nst 0), (5, .v (.int .i64 i)), (6, .inn 0 x), (7, .v (.int .i64 k))], [.nst ⟨false, 22, (.sl 3 (.int .i64)), o0⟩]⟩) (fun i o0 => g (at' Try.f27 17) ⟨fr0 77 [(0, .nst 0), (8, .v (.int .i64 i))], [.nst ⟨false, 22, (.sl 3 (.int .i64)), o0⟩]⟩) (fun i k o0 o1 o1_1 => g (at' Try.f27 13) ⟨fr0 77 [(0, .nst 0), (5, .v (.int .i64 i)), (6, .grn 1), (7, .v (.int .i64 k))], [.nst ⟨false, 22, (.sl 3 (.int .i64)), o0⟩, .grn 0 o1 3 1 o1_1]⟩) (fun i k o0 => g (at' Try.f27 20) ⟨fr0 77 [(0, .nst 0), (8, .v (.int .i64 i)), (9, .v (.int .i64 k))], [.nst ⟨false, 22, (.sl 3 (.int .i64)), o0⟩]⟩) (fun r0 r1 => K (.v (.bool r0)) [.nst ⟨false, 22, (.sl 3 (.int .i64)), r1⟩]) i x k o0 := gstep_tutorref01_Apart_13a g K i x k o0

theorem gstep_tutorref01_Apart_17 {R : Type} (g : List Item → St → Option R) (K : AV → List O → Option R) (i : Int) (o0 : List (List Int)) :
    runSeg Try.prog T_tutorref01_Apart cuts_tutorref01_Apart 1 g (finish Try.prog Try.f27 1 K) (at' Try.f27 17) ⟨fr0 77 [(0, .nst 0), (8, .v (.int .i64 i))], [.nst ⟨false, 22, (.sl 3 (.int .i64)), o0⟩]⟩ =
    (fun (g27_2 : Int → (List (List Int)) → Option R) (g27_5 : Int → Int → (List (List Int)) → Option R) (g27_9 : Int → (List (List Int)) → Option R) (g27_13 : Int → Nat → Int → (List (List Int)) → Option R) (g27_17 : Int → (List (List Int)) → Option R) (g27_13b : Int → Int → (List (List Int)) → Nat → Nat → Option R) (g27_20 : Int → Int → (List (List Int)) → Option R) (K0 : Bool → (List (List Int)) → Option R) (i : Int) (o0 : List (List Int)) =>
    bi (decide (i < (o0.length : Int)))
     (g27_20 i 0 o0)
     (K0 true o0)) (fun i o0 => g (at' Try.f27 2) ⟨fr0 77 [(0, .nst 0), (3, .v (.int .i64 i))], [.nst ⟨false, 22, (.sl 3 (.int .i64)), o0⟩]⟩) (fun i k o0 => g (at' Try.f27 5) ⟨fr0 77 [(0, .nst 0), (3, .v (.int .i64 i)), (4, .v (.int .i64 k))], [.nst ⟨false, 22, (.sl 3 (.int .i64)), o0⟩]⟩) (fun i o0 => g (at' Try.f27 9) ⟨fr0 77 [(0, .nst 0), (5, .v (.int .i64 i))], [.nst ⟨false, 22, (.sl 3 (.int .i64)), o0⟩]⟩) (fun i x k o0 => g (at' Try.f27 13) ⟨fr0 77 [(0, .nst 0), (5, .v (.int .i64 i)), (6, .inn 0 x), (7, .v (.int .i64 k))], [.nst ⟨false, 22, (.sl 3 (.int .i64)), o0⟩]⟩) (fun i o0 => g (at' Try.f27 17) ⟨fr0 77 [(0, .nst 0), (8, .v (.int .i64 i))], [.nst ⟨false, 22, (.sl 3 (.int .i64)), o0⟩]⟩) (fun i k o0 o1 o1_1 => g (at' Try.f27 13) ⟨fr0 77 [(0, .nst 0), (5, .v (.int .i64 i)), (6, .grn 1), (7, .v (.int .i64 k))], [.nst ⟨false, 22, (.sl 3 (.int .i64)), o0⟩, .grn 0 o1 3 1 o1_1]⟩) (fun i k o0 => g (at' Try.f27 20) ⟨fr0 77 [(0, .nst 0), (8, .v (.int .i64 i)), (9, .v (.int .i64 k))], [.nst ⟨false, 22, (.sl 3 (.int .i64)), o0⟩]⟩) (fun r0 r1 => K (.v (.bool r0)) [.nst ⟨false, 22, (.sl 3 (.int .i64)), r1⟩]) i o0 := by kernel_rfl

theorem step_tutorref01_Apart_17 {R : Type} (g : List Item → St → Option R) (K : AV → List O → Option R) (i : Int) (o0 : List (List Int)) :
    runSeg Try.prog T_tutorref01_Apart cuts_tutorref01_Apart 1 g (finish Try.prog Try.f27 1 K) (at' Try.f27 17) ⟨fr0 77 [(0, .nst 0), (8, .v (.int .i64 i))], [.nst ⟨false, 22, (.sl 3 (.int .i64)), o0⟩]⟩ =
    s_tutorref01_Apart_17 (fun i o0 => g (at' Try.f27 2) ⟨fr0 77 [(0, .nst 0), (3, .v (.int .i64 i))], [.nst ⟨false, 22, (.sl 3 (.int .i64)), o0⟩]⟩) (fun i k o0 => g (at' Try.f27 5) ⟨fr0 77 [(0, .nst 0), (3, .v (.int .i64 i)), (4, .v (.int .i64 k))], [.nst ⟨false, 22, (.sl 3 (.int .i64)), o0⟩]⟩) (fun i o0 => g (at' Try.f27 9) ⟨fr0 77 [(0, .nst 0), (5, .v (.int .i64 i))], [.nst ⟨false, 22, (.sl 3 (.int .i64)), o0⟩]⟩) (fun i x k o0 => g (at' Try.f27 13) ⟨fr0 77 [(0, .nst 0), (5, .v (.int .i64 i)), (6, .inn 0 x), (7, .v (.int .i64 k))], [.nst ⟨false, 22, (.sl 3 (.int .i64)), o0⟩]⟩) (fun i o0 => g (at' Try.f27 17) ⟨fr0 77 [(0, .nst 0), (8, .v (.int .i64 i))], [.nst ⟨false, 22, (.sl 3 (.int .i64)), o0⟩]⟩) (fun i k o0 o1 o1_1 => g (at' Try.f27 13) ⟨fr0 77 [(0, .nst 0), (5, .v (.int .i64 i)), (6, .grn 1), (7, .v (.int .i64 k))], [.nst ⟨false, 22, (.sl 3 (.int .i64)), o0⟩, .grn 0 o1 3 1 o1_1]⟩) (fun i k o0 => g (at' Try.f27 20) ⟨fr0 77 [(0, .nst 0), (8, .v (.int .i64 i)), (9, .v (.int .i64 k))], [.nst ⟨false, 22, (.sl 3 (.int .i64)), o0⟩]⟩) (fun r0 r1 => K (.v (.bool r0)) [.nst ⟨false, 22, (.sl 3 (.int .i64)), r1⟩]) i o0 := gstep_tutorref01_Apart_17 g K i o0

theorem gstep_tutorref01_Apart_13b {R : Type} (g : List Item → St → Option R) (K : AV → List O → Option R) (i : Int) (k : Int) (o0 : List (List Int)) (o1 : Nat) (o1_1 : Nat) :
    runSeg Try.prog T_tutorref01_Apart cuts_tutorref01_Apart 1 g (finish Try.prog Try.f27 1 K) (at' Try.f27 13) ⟨fr0 77 [(0, .nst 0), (5, .v (.int .i64 i)), (6, .grn 1), (7, .v (.int .i64 k))], [.nst ⟨false, 22, (.sl 3 (.int .i64)), o0⟩, .grn 0 o1 3 1 o1_1]⟩ =
    (fun (g27_2 : Int → (List (List Int)) → Option R) (g27_5 : Int → Int → (List (List Int)) → Option R) (g27_9 : Int → (List (List Int)) → Option R) (g27_13 : Int → Nat → Int → (List (List Int)) → Option R) (g27_17 : Int → (List (List Int)) → Option R) (g27_13b : Int → Int → (List (List Int)) → Nat → Nat → Option R) (g27_20 : Int → Int → (List (List Int)) → Option R) (K0 : Bool → (List (List Int)) → Option R) (i : Int) (k : Int) (o0 : List (List Int)) (o1 : Nat) (o1_1 : Nat) =>
    bi (decide (k < 6))
     (bi (decide ((o1_1 + [IntKind.i64.wrap ((-5000) - i)].length) * 8 ≤ lim))
      (g27_13b i (IntKind.i64.wrap (k + 1)) o0 o1 (o1_1 + [IntKind.i64.wrap ((-5000) - i)].length))
      none)
     (g27_9 (IntKind.i64.wrap (i + 1)) o0)) (fun i o0 => g (at' Try.f27 2) ⟨fr0 77 [(0, .nst 0), (3, .v (.int .i64 i))], [.nst ⟨false, 22, (.sl 3 (.int .i64)), o0⟩]⟩) (fun i k o0 => g (at' Try.f27 5) ⟨fr0 77 [(0, .nst 0), (3, .v (.int .i64 i)), (4, .v (.int .i64 k))], [.nst ⟨false, 22, (.sl 3 (.int .i64)), o0⟩]⟩) (fun i o0 => g (at' Try.f27 9) ⟨fr0 77 [(0, .nst 0), (5, .v (.int .i64 i))], [.nst ⟨false, 22, (.sl 3 (.int .i64)), o0⟩]⟩) (fun i x k o0 => g (at' Try.f27 13) ⟨fr0 77 [(0, .nst 0), (5, .v (.int .i64 i)), (6, .inn 0 x), (7, .v (.int .i64 k))], [.nst ⟨false, 22, (.sl 3 (.int .i64)), o0⟩]⟩) (fun i o0 => g (at' Try.f27 17) ⟨fr0 77 [(0, .nst 0), (8, .v (.int .i64 i))], [.nst ⟨false, 22, (.sl 3 (.int .i64)), o0⟩]⟩) (fun i k o0 o1 o1_1 => g (at' Try.f27 13) ⟨fr0 77 [(0, .nst 0), (5, .v (.int .i64 i)), (6, .grn 1), (7, .v (.int .i64 k))], [.nst ⟨false, 22, (.sl 3 (.int .i64)), o0⟩, .grn 0 o1 3 1 o1_1]⟩) (fun i k o0 => g (at' Try.f27 20) ⟨fr0 77 [(0, .nst 0), (8, .v (.int .i64 i)), (9, .v (.int .i64 k))], [.nst ⟨false, 22, (.sl 3 (.int .i64)), o0⟩]⟩) (fun r0 r1 => K (.v (.bool r0)) [.nst ⟨false, 22, (.sl 3 (.int .i64)), r1⟩]) i k o0 o1 o1_1 := by kernel_rfl

theorem step_tutorref01_Apart_13b {R : Type} (g : List Item → St → Option R) (K : AV → List O → Option R) (i : Int) (k : Int) (o0 : List (List Int)) (o1 : Nat) (o1_1 : Nat) :
    runSeg Try.prog T_tutorref01_Apart cuts_tutorref01_Apart 1 g (finish Try.prog Try.f27 1 K) (at' Try.f27 13) ⟨fr0 77 [(0, .nst 0), (5, .v (.int .i64 i)), (6, .grn 1), (7, .v (.int .i64 k))], [.nst ⟨false, 22, (.sl 3 (.int .i64)), o0⟩, .grn 0 o1 3 1 o1_1]⟩ =
    s_tutorref01_Apart_13b (fun i o0 => g (at' Try.f27 2) ⟨fr0 77 [(0, .nst 0), (3, .v (.int .i64 i))], [.nst ⟨false, 22, (.sl 3 (.int .i64)), o0⟩]⟩) (fun i k o0 => g (at' Try.f27 5) ⟨fr0 77 [(0, .nst 0), (3, .v (.int .i64 i)), (4, .v (.int .i64 k))], [.nst ⟨false, 22, (.sl 3 (.int .i64)), o0⟩]⟩) (fun i o0 => g (at' Try.f27 9) ⟨fr0 77 [(0, .nst 0), (5, .v (.int .i64 i))], [.nst ⟨false, 22, (.sl 3 (.int .i64)), o0⟩]⟩) (fun i x k o0 => g (at' Try.f27 13) ⟨fr0 77 [(0, .nst 0), (5, .v (.int .i64 i)), (6, .inn 0 x), (7, .v (.int .i64 k))], [.nst ⟨false, 22, (.sl 3 (.int .i64)), o0⟩]⟩) (fun i o0 => g (at' Try.f27 17) ⟨fr0 77 [(0, .nst 0), (8, .v (.int .i64 i))], [.nst ⟨false, 22, (.sl 3 (.int .i64)), o0⟩]⟩) (fun i k o0 o1 o1_1 => g (at' Try.f27 13) ⟨fr0 77 [(0, .nst 0), (5, .v (.int .i64 i)), (6, .grn 1), (7, .v (.int .i64 k))], [.nst ⟨false, 22, (.sl 3 (.int .i64)), o0⟩, .grn 0 o1 3 1 o1_1]⟩) (fun i k o0 => g (at' Try.f27 20) ⟨fr0 77 [(0, .nst 0), (8, .v (.int .i64 i)), (9, .v (.int .i64 k))], [.nst ⟨false, 22, (.sl 3 (.int .i64)), o0⟩]⟩) (fun r0 r1 => K (.v (.bool r0)) [.nst ⟨false, 22, (.sl 3 (.int .i64)), r1⟩]) i k o0 o1 o1_1 := gstep_tutorref01_Apart_13b g K i k o0 o1 o1_1

theorem gstep_tutorref01_Apart_20 {R : Type} (g : List Item → St → Option R) (K : AV → List O → Option R) (i : Int) (k : Int) (o0 : List (List Int)) :
    runSeg Try.prog T_tutorref01_Apart cuts_tutorref01_Apart 1 g (finish Try.prog Try.f27 1 K) (at' Try.f27 20) ⟨fr0 77 [(0, .nst 0), (8, .v (.int .i64 i)), (9, .v (.int .i64 k))], [.nst ⟨false, 22, (.sl 3 (.int .i64)), o0⟩]⟩ =
    (fun (g27_2 : Int → (List (List Int)) → Option R) (g27_5 : Int → Int → (List (List Int)) → Option R) (g27_9 : Int → (List (List Int)) → Option R) (g27_13 : Int → Nat → Int → (List (List Int)) → Option R) (g27_17 : Int → (List (List Int)) → Option R) (g27_13b : Int → Int → (List (List Int)) → Nat → Nat → Option R) (g27_20 : Int → Int → (List (List Int)) → Option R) (K0 : Bool → (List (List Int)) → Option R) (i : Int) (k : Int) (o0 : List (List Int)) =>
    bi (decide (0 ≤ i ∧ i < ((o0.length : Nat) : Int)))
     (bi (decide (k < ((o0.getD i.toNat []).length : Int)))
      (bi (decide (0 ≤ i ∧ i < ((o0.length : Nat) : Int)))
       (bi (decide (0 ≤ k ∧ k < (((o0.getD i.toNat []).length : Nat) : Int)))
        (bi (((o0.getD i.toNat []).getD k.toNat 0) != (IntKind.i64.wrap ((-1000) - i)))
         (K0 false o0)
         (g27_20 i (IntKind.i64.wrap (k + 1)) o0))
        none)
       none)
      (g27_17 (IntKind.i64.wrap (i + 1)) o0))
     none) (fun i o0 => g (at' Try.f27 2) ⟨fr0 77 [(0, .nst 0), (3, .v (.int .i64 i))], [.nst ⟨false, 22, (.sl 3 (.int .i64)), o0⟩]⟩) (fun i k o0 => g (at' Try.f27 5) ⟨fr0 77 [(0, .nst 0), (3, .v (.int .i64 i)), (4, .v (.int .i64 k))], [.nst ⟨false, 22, (.sl 3 (.int .i64)), o0⟩]⟩) (fun i o0 => g (at' Try.f27 9) ⟨fr0 77 [(0, .nst 0), (5, .v (.int .i64 i))], [.nst ⟨false, 22, (.sl 3 (.int .i64)), o0⟩]⟩) (fun i x k o0 => g (at' Try.f27 13) ⟨fr0 77 [(0, .nst 0), (5, .v (.int .i64 i)), (6, .inn 0 x), (7, .v (.int .i64 k))], [.nst ⟨false, 22, (.sl 3 (.int .i64)), o0⟩]⟩) (fun i o0 => g (at' Try.f27 17) ⟨fr0 77 [(0, .nst 0), (8, .v (.int .i64 i))], [.nst ⟨false, 22, (.sl 3 (.int .i64)), o0⟩]⟩) (fun i k o0 o1 o1_1 => g (at' Try.f27 13) ⟨fr0 77 [(0, .nst 0), (5, .v (.int .i64 i)), (6, .grn 1), (7, .v (.int .i64 k))], [.nst ⟨false, 22, (.sl 3 (.int .i64)), o0⟩, .grn 0 o1 3 1 o1_1]⟩) (fun i k o0 => g (at' Try.f27 20) ⟨fr0 77 [(0, .nst 0), (8, .v (.int .i64 i)), (9, .v (.int .i64 k))], [.nst ⟨false, 22, (.sl 3 (.int .i64)), o0⟩]⟩) (fun r0 r1 => K (.v (.bool r0)) [.nst ⟨false, 22, (.sl 3 (.int .i64)), r1⟩]) i k o0 := by kernel_rfl

theorem step_tutorref01_Apart_20 {R : Type} (g : List Item → St → Option R) (K : AV → List O → Option R) (i : Int) (k : Int) (o0 : List (List Int)) :
    runSeg Try.prog T_tutorref01_Apart cuts_tutorref01_Apart 1 g (finish Try.prog Try.f27 1 K) (at' Try.f27 20) ⟨fr0 77 [(0, .nst 0), (8, .v (.int .i64 i)), (9, .v (.int .i64 k))], [.nst ⟨false, 22, (.sl 3 (.int .i64)), o0⟩]⟩ =
    s_tutorref01_Apart_20 (fun i o0 => g (at' Try.f27 2) ⟨fr0 77 [(0, .nst 0), (3, .v (.int .i64 i))], [.nst ⟨false, 22, (.sl 3 (.int .i64)), o0⟩]⟩) (fun i k o0 => g (at' Try.f27 5) ⟨fr0 77 [(0, .nst 0), (3, .v (.int .i64 i)), (4, .v (.int .i64 k))], [.nst ⟨false, 22, (.sl 3 (.int .i64)), o0⟩]⟩) (fun i o0 => g (at' Try.f27 9) ⟨fr0 77 [(0, .nst 0), (5, .v (.int .i64 i))], [.nst ⟨false, 22, (.sl 3 (.int .i64)), o0⟩]⟩) (fun i x k o0 => g (at' Try.f27 13) ⟨fr0 77 [(0, .nst 0), (5, .v (.int .i64 i)), (6, .inn 0 x), (7, .v (.int .i64 k))], [.nst ⟨false, 22, (.sl 3 (.int .i64)), o0⟩]⟩) (fun i o0 => g (at' Try.f27 17) ⟨fr0 77 [(0, .nst 0), (8, .v (.int .i64 i))], [.nst ⟨false, 22, (.sl 3 (.int .i64)), o0⟩]⟩) (fun i k o0 o1 o1_1 => g (at' Try.f27 13) ⟨fr0 77 [(0, .nst 0), (5, .v (.int .i64 i)), (6, .grn 1), (7, .v (.int .i64 k))], [.nst ⟨false, 22, (.sl 3 (.int .i64)), o0⟩, .grn 0 o1 3 1 o1_1]⟩) (fun i k o0 => g (at' Try.f27 20) ⟨fr0 77 [(0, .nst 0), (8, .v (.int .i64 i)), (9, .v (.int .i64 k))], [.nst ⟨false, 22, (.sl 3 (.int .i64)), o0⟩]⟩) (fun r0 r1 => K (.v (.bool r0)) [.nst ⟨false, 22, (.sl 3 (.int .i64)), r1⟩]) i k o0 := gstep_tutorref01_Apart_20 g K i k o0

theorem gentry_tutorref01_Apart {R : Type} (fuel : Nat) (K : AV → List O → Option R) (o0 : List (List Int)) :
    fnRun Try.prog T_tutorref01_Apart cuts_tutorref01_Apart Try.f27 fuel [.nst 0] [.nst ⟨false, 22, (.sl 3 (.int .i64)), o0⟩] K =
    (fun (g27_2 : Int → (List (List Int)) → Option R) (g27_5 : Int → Int → (List (List Int)) → Option R) (g27_9 : Int → (List (List Int)) → Option R) (g27_13 : Int → Nat → Int → (List (List Int)) → Option R) (g27_17 : Int → (List (List Int)) → Option R) (g27_13b : Int → Int → (List (List Int)) → Nat → Nat → Option R) (g27_20 : Int → Int → (List (List Int)) → Option R) (K0 : Bool → (List (List Int)) → Option R) (o0 : List (List Int)) =>
    g27_2 0 o0) (fun i o0 => (runO Try.prog T_tutorref01_Apart cuts_tutorref01_Apart 1 (finish Try.prog Try.f27 1 K) fuel) (at' Try.f27 2) ⟨fr0 77 [(0, .nst 0), (3, .v (.int .i64 i))], [.nst ⟨false, 22, (.sl 3 (.int .i64)), o0⟩]⟩) (fun i k o0 => (runO Try.prog T_tutorref01_Apart cuts_tutorref01_Apart 1 (finish Try.prog Try.f27 1 K) fuel) (at' Try.f27 5) ⟨fr0 77 [(0, .nst 0), (3, .v (.int .i64 i)), (4, .v (.int .i64 k))], [.nst ⟨false, 22, (.sl 3 (.int .i64)), o0⟩]⟩) (fun i o0 => (runO Try.prog T_tutorref01_Apart cuts_tutorref01_Apart 1 (finish Try.prog Try.f27 1 K) fuel) (at' Try.f27 9) ⟨fr0 77 [(0, .nst 0), (5, .v (.int .i64 i))], [.nst ⟨false, 22, (.sl 3 (.int .i64)), o0⟩]⟩) (fun i x k o0 => (runO Try.prog T_tutorref01_Apart cuts_tutorref01_Apart 1 (finish Try.prog Try.f27 1 K) fuel) (at' Try.f27 13) ⟨fr0 77 [(0, .nst 0), (5, .v (.int .i64 i)), (6, .inn 0 x), (7, .v (.int .i64 k))], [.nst ⟨false, 22, (.sl 3 (.int .i64)), o0⟩]⟩) (fun i o0 => (runO Try.prog T_tutorref01_Apart cuts_tutorref01_Apart 1 (finish Try.prog Try.f27 1 K) fuel) (at' Try.f27 17) ⟨fr0 77 [(0, .nst 0), (8, .v (.int .i64 i))], [.nst ⟨false, 22, (.sl 3 (.int .i64)), o0⟩]⟩) (fun i k o0 o1 o1_1 => (runO Try.prog T_tutorref01_Apart cuts_tutorref01_Apart 1 (finish Try.prog Try.f27 1 K) fuel) (at' Try.f27 13) ⟨fr0 77 [(0, .nst 0), (5, .v (.int .i64 i)), (6, .grn 1), (7, .v (.int .i64 k))], [.nst ⟨false, 22, (.sl 3 (.int .i64)), o0⟩, .grn 0 o1 3 1 o1_1]⟩) (fun i k o0 => (runO Try.prog T_tutorref01_Apart cuts_tutorref01_Apart 1 (finish Try.prog Try.f27 1 K) fuel) (at' Try.f27 20) ⟨fr0 77 [(0, .nst 0), (8, .v (.int .i64 i)), (9, .v (.int .i64 k))], [.nst ⟨false, 22, (.sl 3 (.int .i64)), o0⟩]⟩) (fun r0 r1 => K (.v (.bool r0)) [.nst ⟨false, 22, (.sl 3 (.int .i64)), r1⟩]) o0 := by kernel_rfl

theorem entry_tutorref01_Apart {R : Type} (fuel : Nat) (K : AV → List O → Option R) (o0 : List (List Int)) :
    fnRun Try.prog T_tutorref01_Apart cuts_tutorref01_Apart Try.f27 fuel [.nst 0] [.nst ⟨false, 22, (.sl 3 (.int .i64)), o0⟩] K =
    e_tutorref01_Apart (fun i o0 => (runO Try.prog T_tutorref01_Apart cuts_tutorref01_Apart 1 (finish Try.prog Try.f27 1 K) fuel) (at' Try.f27 2) ⟨fr0 77 [(0, .nst 0), (3, .v (.int .i64 i))], [.nst ⟨false, 22, (.sl 3 (.int .i64)), o0⟩]⟩) (fun i k o0 => (runO Try.prog T_tutorref01_Apart cuts_tutorref01_Apart 1 (finish Try.prog Try.f27 1 K) fuel) (at' Try.f27 5) ⟨fr0 77 [(0, .nst 0), (3, .v (.int .i64 i)), (4, .v (.int .i64 k))], [.nst ⟨false, 22, (.sl 3 (.int .i64)), o0⟩]⟩) (fun i o0 => (runO Try.prog T_tutorref01_Apart cuts_tutorref01_Apart 1 (finish Try.prog Try.f27 1 K) fuel) (at' Try.f27 9) ⟨fr0 77 [(0, .nst 0), (5, .v (.int .i64 i))], [.nst ⟨false, 22, (.sl 3 (.int .i64)), o0⟩]⟩) (fun i x k o0 => (runO Try.prog T_tutorref01_Apart cuts_tutorref01_Apart 1 (finish Try.prog Try.f27 1 K) fuel) (at' Try.f27 13) ⟨fr0 77 [(0, .nst 0), (5, .v (.int .i64 i)), (6, .inn 0 x), (7, .v (.int .i64 k))], [.nst ⟨false, 22, (.sl 3 (.int .i64)), o0⟩]⟩) (fun i o0 => (runO Try.prog T_tutorref01_Apart cuts_tutorref01_Apart 1 (finish Try.prog Try.f27 1 K) fuel) (at' Try.f27 17) ⟨fr0 77 [(0, .nst 0), (8, .v (.int .i64 i))], [.nst ⟨false, 22, (.sl 3 (.int .i64)), o0⟩]⟩) (fun i k o0 o1 o1_1 => (runO Try.prog T_tutorref01_Apart cuts_tutorref01_Apart 1 (finish Try.prog Try.f27 1 K) fuel) (at' Try.f27 13) ⟨fr0 77 [(0, .nst 0), (5, .v (.int .i64 i)), (6, .grn 1), (7, .v (.int .i64 k))], [.nst ⟨false, 22, (.sl 3 (.int .i64)), o0⟩, .grn 0 o1 3 1 o1_1]⟩) (fun i k o0 => (runO Try.prog T_tutorref01_Apart cuts_tutorref01_Apart 1 (finish Try.prog Try.f27 1 K) fuel) (at' Try.f27 20) ⟨fr0 77 [(0, .nst 0), (8, .v (.int .i64 i)), (9, .v (.int .i64 k))], [.nst ⟨false, 22, (.sl 3 (.int .i64)), o0⟩]⟩) (fun r0 r1 => K (.v (.bool r0)) [.nst ⟨false, 22, (.sl 3 (.int .i64)), r1⟩]) o0 := gentry_tutorref01_Apart fuel K o0

theorem runs_tutorref01_Apart {R : Type} (K : AV → List O → Option R) : ∀ fuel : Nat,
    (fun i o0 => (runO Try.prog T_tutorref01_Apart cuts_tutorref01_Apart 1 (finish Try.prog Try.f27 1 K) fuel) (at' Try.f27 2) ⟨fr0 77 [(0, .nst 0), (3, .v (.int .i64 i))], [.nst ⟨false, 22, (.sl 3 (.int .i64)), o0⟩]⟩) = (run_tutorref01_Apart (fun r0 r1 => K (.v (.bool r0)) [.nst ⟨false, 22, (.sl 3 (.int .i64)), r1⟩]) fuel).1 ∧
    (fun i k o0 => (runO Try.prog T_tutorref01_Apart cuts_tutorref01_Apart 1 (finish Try.prog Try.f27 1 K) fuel) (at' Try.f27 5) ⟨fr0 77 [(0, .nst 0), (3, .v (.int .i64 i)), (4, .v (.int .i64 k))], [.nst ⟨false, 22, (.sl 3 (.int .i64)), o0⟩]⟩) = (run_tutorref01_Apart (fun r0 r1 => K (.v (.bool r0)) [.nst ⟨false, 22, (.sl 3 (.int .i64)), r1⟩]) fuel).2.1 ∧
    (fun i o0 => (runO Try.prog T_tutorref01_Apart cuts_tutorref01_Apart 1 (finish Try.prog Try.f27 1 K) fuel) (at' Try.f27 9) ⟨fr0 77 [(0, .nst 0), (5, .v (.int .i64 i))], [.nst ⟨false, 22, (.sl 3 (.int .i64)), o0⟩]⟩) = (run_tutorref01_Apart (fun r0 r1 => K (.v (.bool r0)) [.nst ⟨false, 22, (.sl 3 (.int .i64)), r1⟩]) fuel).2.2.1 ∧
    (fun i x k o0 => (runO Try.prog T_tutorref01_Apart cuts_tutorref01_Apart 1 (finish Try.prog Try.f27 1 K) fuel) (at' Try.f27 13) ⟨fr0 77 [(0, .nst 0), (5, .v (.int .i64 i)), (6, .inn 0 x), (7, .v (.int .i64 k))], [.nst ⟨false, 22, (.sl 3 (.int .i64)), o0⟩]⟩) = (run_tutorref01_Apart (fun r0 r1 => K (.v (.bool r0)) [.nst ⟨false, 22, (.sl 3 (.int .i64)), r1⟩]) fuel).2.2.2.1 ∧
    (fun i o0 => (runO Try.prog T_tutorref01_Apart cuts_tutorref01_Apart 1 (finish Try.prog Try.f27 1 K) fuel) (at' Try.f27 17) ⟨fr0 77 [(0, .nst 0), (8, .v (.int .i64 i))], [.nst ⟨false, 22, (.sl 3 (.int .i64)), o0⟩]⟩) = (run_tutorref01_Apart (fun r0 r1 => K (.v (.bool r0)) [.nst ⟨false, 22, (.sl 3 (.int .i64)), r1⟩]) fuel).2.2.2.2.1 ∧
    (fun i k o0 o1 o1_1 => (runO Try.prog T_tutorref01_Apart cuts_tutorref01_Apart 1 (finish Try.prog Try.f27 1 K) fuel) (at' Try.f27 13) ⟨fr0 77 [(0, .nst 0), (5, .v (.int .i64 i)), (6, .grn 1), (7, .v (.int .i64 k))], [.nst ⟨false, 22, (.sl 3 (.int .i64)), o0⟩, .grn 0 o1 3 1 o1_1]⟩) = (run_tutorref01_Apart (fun r0 r1 => K (.v (.bool r0)) [.nst ⟨false, 22, (.sl 3 (.int .i64)), r1⟩]) fuel).2.2.2.2.2.1 ∧
    (fun i k o0 => (runO Try.prog T_tutorref01_Apart cuts_tutorref01_Apart 1 (finish Try.prog Try.f27 1 K) fuel) (at' Try.f27 20) ⟨fr0 77 [(0, .nst 0), (8, .v (.int .i64 i)), (9, .v (.int .i64 k))], [.nst ⟨false, 22, (.sl 3 (.int .i64)), o0⟩]⟩) = (run_tutorref01_Apart (fun r0 r1 => K (.v (.bool r0)) [.nst ⟨false, 22, (.sl 3 (.int .i64)), r1⟩]) fuel).2.2.2.2.2.2
  | 0 => ⟨rfl, rfl, rfl, rfl, rfl, rfl, rfl⟩
  | fuel + 1 => by
    have ih := runs_tutorref01_Apart K fuel
    refine ⟨?_, ?_, ?_, ?_, ?_, ?_, ?_⟩
    · funext i o0
      refine (step_tutorref01_Apart_2 _ K i o0).trans ?_
      rw [ih.1, ih.2.1, ih.2.2.1, ih.2.2.2.1, ih.2.2.2.2.1, ih.2.2.2.2.2.1, ih.2.2.2.2.2.2]
      rfl
    · funext i k o0
      refine (step_tutorref01_Apart_5 _ K i k o0).trans ?_
      rw [ih.1, ih.2.1, ih.2.2.1, ih.2.2.2.1, ih.2.2.2.2.1, ih.2.2.2.2.2.1, ih.2.2.2.2.2.2]
      rfl
    · funext i o0
      refine (step_tutorref01_Apart_9 _ K i o0).trans ?_
      rw [ih.1, ih.2.1, ih.2.2.1, ih.2.2.2.1, ih.2.2.2.2.1, ih.2.2.2.2.2.1, ih.2.2.2.2.2.2]
      rfl
    · funext i x k o0
      refine (step_tutorref01_Apart_13a _ K i x k o0).trans ?_
      rw [ih.1, ih.2.1, ih.2.2.1, ih.2.2.2.1, ih.2.2.2.2.1, ih.2.2.2.2.2.1, ih.2.2.2.2.2.2]
      rfl
    · funext i o0
      refine (step_tutorref01_Apart_17 _ K i o0).trans ?_
      rw [ih.1, ih.2.1, ih.2.2.1, ih.2.2.2.1, ih.2.2.2.2.1, ih.2.2.2.2.2.1, ih.2.2.2.2.2.2]
      rfl
    · funext i k o0 o1 o1_1
      refine (step_tutorref01_Apart_13b _ K i k o0 o1 o1_1).trans ?_
      rw [ih.1, ih.2.1, ih.2.2.1, ih.2.2.2.1, ih.2.2.2.2.1, ih.2.2.2.2.2.1, ih.2.2.2.2.2.2]
      rfl
    · funext i k o0
      refine (step_tutorref01_Apart_20 _ K i k o0).trans ?_
      rw [ih.1, ih.2.1, ih.2.2.1, ih.2.2.2.1, ih.2.2.2.2.1, ih.2.2.2.2.2.1, ih.2.2.2.2.2.2]
      rfl

def S_tutorref01_Apart (l_tutorref01_Apart : {R : Type} → (List (List Int)) → (Bool → (List (List Int)) → Option R) → Option R) : Sum := ⟨[0], fun {R} args ob K => match args, ob with
  | [.nst 0], [.nst ⟨false, 22, (.sl 3 (.int .i64)), o0⟩] => l_tutorref01_Apart o0 (fun r0 r1 => K (.v (.bool r0)) [.nst ⟨false, 22, (.sl 3 (.int .i64)), r1⟩])
  | _, _ => none⟩

theorem sound_tutorref01_Apart : Sound Try.prog 27 (S_tutorref01_Apart @l_tutorref01_Apart) := by
  refine fn_sound (cuts := cuts_tutorref01_Apart) (fn := Try.f27) (Γ := T_tutorref01_Apart) wide right_T_tutorref01_Apart Try.func27 fun {R} K r args ob h => ?_
  unfold S_tutorref01_Apart at h
  dsimp only at h
  split at h
  · obtain ⟨n, hn⟩ := ok_tutorref01_Apart _ _ h
    refine ⟨Nat.le_of_ble_eq_true (by kernel_rfl), n, (entry_tutorref01_Apart n K _).trans ?_⟩
    rw [(runs_tutorref01_Apart K n).1, (runs_tutorref01_Apart K n).2.1, (runs_tutorref01_Apart K n).2.2.1, (runs_tutorref01_Apart K n).2.2.2.1, (runs_tutorref01_Apart K n).2.2.2.2.1, (runs_tutorref01_Apart K n).2.2.2.2.2.1, (runs_tutorref01_Apart K n).2.2.2.2.2.2]
    exact hn
  · cases h

theorem call_tutorref01_Apart : Callable Try.prog 27 := ⟨_, Try.func27, by kernel_rfl, by kernel_rfl⟩

def T_tutorref03_Same (l_tutorref01_Same : {R : Type} → (List Int) → (List Int) → (Bool → Option R) → Option R) : FuncId → Option Sum := (addS G0 24 (S_tutorref01_Same @l_tutorref01_Same))

theorem right_T_tutorref03_Same : Right Try.prog (T_tutorref03_Same @l_tutorref01_Same) := (right_add right_G0 call_tutorref01_Same sound_tutorref01_Same)

abbrev cuts_tutorref03_Same : Cuts := []

theorem gentry_tutorref03_Same (l_tutorref01_Same : {R : Type} → (List Int) → (List Int) → (Bool → Option R) → Option R) {R : Type} (K : AV → List O → Option R) (a : Int) (a_1 : Int) (a_2 : Int) (a_3 : Int) (a_4 : List Int) (a_5 : List Int) (b : Int) (b_1 : Int) (b_2 : Int) (b_3 : Int) (b_4 : List Int) (b_5 : List Int) :
    fnRun Try.prog (T_tutorref03_Same @l_tutorref01_Same) cuts_tutorref03_Same Try.f21 0 [.agg [.v (.int .i64 a), .v (.int .i64 a_1), .v (.int .i64 a_2), .v (.int .i64 a_3), .rd ⟨false, 3, (.int .i64), a_4⟩, .rd ⟨false, 3, (.int .i64), a_5⟩], .agg [.v (.int .i64 b), .v (.int .i64 b_1), .v (.int .i64 b_2), .v (.int .i64 b_3), .rd ⟨false, 3, (.int .i64), b_4⟩, .rd ⟨false, 3, (.int .i64), b_5⟩]] [] K =
    (fun (a : Int) (a_1 : Int) (a_2 : Int) (a_3 : Int) (a_4 : List Int) (a_5 : List Int) (b : Int) (b_1 : Int) (b_2 : Int) (b_3 : Int) (b_4 : List Int) (b_5 : List Int) (K0 : Bool → Option R) =>
    bi (a == b)
     (bi (a_1 == b_1)
      (bi (a_2 == b_2)
       (bi (a_3 == b_3)
        (l_tutorref01_Same a_4 b_4
         (fun r1 =>
          bi r1
           (l_tutorref01_Same a_5 b_5
            (fun r2 =>
             K0 r2))
           (K0 false)))
        (K0 false))
       (K0 false))
      (K0 false))
     (K0 false)) a a_1 a_2 a_3 a_4 a_5 b b_1 b_2 b_3 b_4 b_5 (fun r0 => K (.v (.bool r0)) []) := by kernel_rfl

theorem entry_tutorref03_Same {R : Type} (K : AV → List O → Option R) (a : Int) (a_1 : Int) (a_2 : Int) (a_3 : Int) (a_4 : List Int) (a_5 : List Int) (b : Int) (b_1 : Int) (b_2 : Int) (b_3 : Int) (b_4 : List Int) (b_5 : List Int) :
    fnRun Try.prog (T_tutorref03_Same @l_tutorref01_Same) cuts_tutorref03_Same Try.f21 0 [.agg [.v (.int .i64 a), .v (.int .i64 a_1), .v (.int .i64 a_2), .v (.int .i64 a_3), .rd ⟨false, 3, (.int .i64), a_4⟩, .rd ⟨false, 3, (.int .i64), a_5⟩], .agg [.v (.int .i64 b), .v (.int .i64 b_1), .v (.int .i64 b_2), .v (.int .i64 b_3), .rd ⟨false, 3, (.int .i64), b_4⟩, .rd ⟨false, 3, (.int .i64), b_5⟩]] [] K =
    l_tutorref03_Same a a_1 a_2 a_3 a_4 a_5 b b_1 b_2 b_3 b_4 b_5 (fun r0 => K (.v (.bool r0)) []) := gentry_tutorref03_Same @l_tutorref01_Same K a a_1 a_2 a_3 a_4 a_5 b b_1 b_2 b_3 b_4 b_5

def S_tutorref03_Same (l_tutorref03_Same : {R : Type} → Int → Int → Int → Int → (List Int) → (List Int) → Int → Int → Int → Int → (List Int) → (List Int) → (Bool → Option R) → Option R) : Sum := ⟨[], fun {R} args ob K => match args, ob with
  | [.agg [.v (.int .i64 a), .v (.int .i64 a_1), .v (.int .i64 a_2), .v (.int .i64 a_3), .rd ⟨false, 3, (.int .i64), a_4⟩, .rd ⟨false, 3, (.int .i64), a_5⟩], .agg [.v (.int .i64 b), .v (.int .i64 b_1), .v (.int .i64 b_2), .v (.int .i64 b_3), .rd ⟨false, 3, (.int .i64), b_4⟩, .rd ⟨false, 3, (.int .i64), b_5⟩]], [] => l_tutorref03_Same a a_1 a_2 a_3 a_4 a_5 b b_1 b_2 b_3 b_4 b_5 (fun r0 => K (.v (.bool r0)) [])
  | _, _ => none⟩

theorem sound_tutorref03_Same : Sound Try.prog 21 (S_tutorref03_Same @l_tutorref03_Same) := by
  refine fn_sound (cuts := cuts_tutorref03_Same) (fn := Try.f21) (Γ := (T_tutorref03_Same @l_tutorref01_Same)) wide right_T_tutorref03_Same Try.func21 fun {R} K r args ob h => ?_
  unfold S_tutorref03_Same at h
  dsimp only at h
  split at h
  · exact ⟨Nat.le_of_ble_eq_true (by kernel_rfl), 0, (entry_tutorref03_Same K _ _ _ _ _ _ _ _ _ _ _ _).trans h⟩
  · cases h

theorem call_tutorref03_Same : Callable Try.prog 21 := ⟨_, Try.func21, by kernel_rfl, by kernel_rfl⟩

def T_tutorlaw03_MachineOwn (l_tutorlaw03_live : {R : Type} → (Bool → Option R) → Option R) (l_tutorref03_Same : {R : Type} → Int → Int → Int → Int → (List Int) → (List Int) → Int → Int → Int → Int → (List Int) → (List Int) → (Bool → Option R) → Option R) (l_tutorref01_Apart : {R : Type} → (List (List Int)) → (Bool → (List (List Int)) → Option R) → Option R) (l_machine_From : {R : Type} → Int → Int → Int → Int → (List Int) → (List Int) → Int → (List Int) → (Int → Int → (List Int) → Option R) → Option R) (l_machine_Run : {R : Type} → Int → Int → Int → Int → (List Int) → (List Int) → (List Int) → (Int → (List Int) → Option R) → Option R) (l_tutorref03_Copy : {R : Type} → Int → Int → Int → Int → (List Int) → (List Int) → (Int → Int → Int → Int → (List Int) → (List Int) → Option R) → Option R) (l_tutorref03_Big : {R : Type} → Int → Int → Int → Int → (List Int) → (List Int) → Int → (Bool → Option R) → Option R) : FuncId → Option Sum := (addS (addS (addS (addS (addS (addS (addS G0 16 (S_tutorlaw03_live @l_tutorlaw03_live)) 21 (S_tutorref03_Same @l_tutorref03_Same)) 27 (S_tutorref01_Apart @l_tutorref01_Apart)) 22 (S_machine_From @l_machine_From)) 26 (S_machine_Run @l_machine_Run)) 17 (S_tutorref03_Copy @l_tutorref03_Copy)) 15 (S_tutorref03_Big @l_tutorref03_Big))

theorem right_T_tutorlaw03_MachineOwn : Right Try.prog (T_tutorlaw03_MachineOwn @l_tutorlaw03_live @l_tutorref03_Same @l_tutorref01_Apart @l_machine_From @l_machine_Run @l_tutorref03_Copy @l_tutorref03_Big) := (right_add (right_add (right_add (right_add (right_add (right_add (right_add right_G0 call_tutorlaw03_live sound_tutorlaw03_live) call_tutorref03_Same sound_tutorref03_Same) call_tutorref01_Apart sound_tutorref01_Apart) call_machine_From sound_machine_From) call_machine_Run sound_machine_Run) call_tutorref03_Copy sound_tutorref03_Copy) call_tutorref03_Big sound_tutorref03_Big)

abbrev cuts_tutorlaw03_MachineOwn : Cuts := []

theorem gentry_tutorlaw03_MachineOwn (l_tutorlaw03_live : {R : Type} → (Bool → Option R) → Option R) (l_tutorref03_Same : {R : Type} → Int → Int → Int → Int → (List Int) → (List Int) → Int → Int → Int → Int → (List Int) → (List Int) → (Bool → Option R) → Option R) (l_tutorref01_Apart : {R : Type} → (List (List Int)) → (Bool → (List (List Int)) → Option R) → Option R) (l_machine_From : {R : Type} → Int → Int → Int → Int → (List Int) → (List Int) → Int → (List Int) → (Int → Int → (List Int) → Option R) → Option R) (l_machine_Run : {R : Type} → Int → Int → Int → Int → (List Int) → (List Int) → (List Int) → (Int → (List Int) → Option R) → Option R) (l_tutorref03_Copy : {R : Type} → Int → Int → Int → Int → (List Int) → (List Int) → (Int → Int → Int → Int → (List Int) → (List Int) → Option R) → Option R) (l_tutorref03_Big : {R : Type} → Int → Int → Int → Int → (List Int) → (List Int) → Int → (Bool → Option R) → Option R) {R : Type} (K : AV → List O → Option R) (m : Int) (m_1 : Int) (m_2 : Int) (m_3 : Int) (m_4 : List Int) (m_5 : List Int) (w : List Int) :
    fnRun Try.prog (T_tutorlaw03_MachineOwn @l_tutorlaw03_live @l_tutorref03_Same @l_tutorref01_Apart @l_machine_From @l_machine_Run @l_tutorref03_Copy @l_tutorref03_Big) cuts_tutorlaw03_MachineOwn Try.f6 0 [.agg [.v (.int .i64 m), .v (.int .i64 m_1), .v (.int .i64 m_2), .v (.int .i64 m_3), .rd ⟨false, 3, (.int .i64), m_4⟩, .rd ⟨false, 3, (.int .i64), m_5⟩], .rd ⟨false, 3, (.int .i64), w⟩] [] K =
    (fun (m : Int) (m_1 : Int) (m_2 : Int) (m_3 : Int) (m_4 : List Int) (m_5 : List Int) (w : List Int) (K0 : Bool → Option R) =>
    l_tutorref03_Big m m_1 m_2 m_3 m_4 m_5 1099511627776
     (fun r1 =>
      bi r1
       (l_tutorlaw03_live
        (fun r2 =>
         K0 r2))
       (bi (decide ((w.length : Int) > 2000))
        (l_tutorlaw03_live
         (fun r3 =>
          K0 r3))
        (l_tutorref03_Copy m m_1 m_2 m_3 m_4 m_5
         (fun r4 r5 r6 r7 r8 r9 =>
          l_machine_Run r4 r5 r6 r7 r8 r9 w
           (fun r10 r11 =>
            l_machine_From r4 r5 r6 r7 r8 r9 0 w
             (fun r12 r13 r14 =>
              l_tutorref01_Apart [r11, r14]
               (fun r15 r16 =>
                bi (!r15)
                 (K0 false)
                 (l_tutorref03_Same r4 r5 r6 r7 r8 r9 m m_1 m_2 m_3 m_4 m_5
                  (fun r17 =>
                   bi r17
                    (l_tutorlaw03_live
                     (fun r18 =>
                      K0 r18))
                    (K0 false))))))))))) m m_1 m_2 m_3 m_4 m_5 w (fun r0 => K (.v (.bool r0)) []) := by kernel_rfl

theorem entry_tutorlaw03_MachineOwn {R : Type} (K : AV → List O → Option R) (m : Int) (m_1 : Int) (m_2 : Int) (m_3 : Int) (m_4 : List Int) (m_5 : List Int) (w : List Int) :
    fnRun Try.prog (T_tutorlaw03_MachineOwn @l_tutorlaw03_live @l_tutorref03_Same @l_tutorref01_Apart @l_machine_From @l_machine_Run @l_tutorref03_Copy @l_tutorref03_Big) cuts_tutorlaw03_MachineOwn Try.f6 0 [.agg [.v (.int .i64 m), .v (.int .i64 m_1), .v (.int .i64 m_2), .v (.int .i64 m_3), .rd ⟨false, 3, (.int .i64), m_4⟩, .rd ⟨false, 3, (.int .i64), m_5⟩], .rd ⟨false, 3, (.int .i64), w⟩] [] K =
    l_tutorlaw03_MachineOwn m m_1 m_2 m_3 m_4 m_5 w (fun r0 => K (.v (.bool r0)) []) := gentry_tutorlaw03_MachineOwn @l_tutorlaw03_live @l_tutorref03_Same @l_tutorref01_Apart @l_machine_From @l_machine_Run @l_tutorref03_Copy @l_tutorref03_Big K m m_1 m_2 m_3 m_4 m_5 w

def S_tutorlaw03_MachineOwn (l_tutorlaw03_MachineOwn : {R : Type} → Int → Int → Int → Int → (List Int) → (List Int) → (List Int) → (Bool → Option R) → Option R) : Sum := ⟨[], fun {R} args ob K => match args, ob with
  | [.agg [.v (.int .i64 m), .v (.int .i64 m_1), .v (.int .i64 m_2), .v (.int .i64 m_3), .rd ⟨false, 3, (.int .i64), m_4⟩, .rd ⟨false, 3, (.int .i64), m_5⟩], .rd ⟨false, 3, (.int .i64), w⟩], [] => l_tutorlaw03_MachineOwn m m_1 m_2 m_3 m_4 m_5 w (fun r0 => K (.v (.bool r0)) [])
  | _, _ => none⟩

theorem sound_tutorlaw03_MachineOwn : Sound Try.prog 6 (S_tutorlaw03_MachineOwn @l_tutorlaw03_MachineOwn) := by
  refine fn_sound (cuts := cuts_tutorlaw03_MachineOwn) (fn := Try.f6) (Γ := (T_tutorlaw03_MachineOwn @l_tutorlaw03_live @l_tutorref03_Same @l_tutorref01_Apart @l_machine_From @l_machine_Run @l_tutorref03_Copy @l_tutorref03_Big)) wide right_T_tutorlaw03_MachineOwn Try.func6 fun {R} K r args ob h => ?_
  unfold S_tutorlaw03_MachineOwn at h
  dsimp only at h
  split at h
  · exact ⟨Nat.le_of_ble_eq_true (by kernel_rfl), 0, (entry_tutorlaw03_MachineOwn K _ _ _ _ _ _ _).trans h⟩
  · cases h

theorem call_tutorlaw03_MachineOwn : Callable Try.prog 6 := ⟨_, Try.func6, by kernel_rfl, by kernel_rfl⟩

end
end Go.Ev
