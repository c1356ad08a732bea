/- Each function of the program is its tree. -/
import Derived.Test.YtfbdgjepflokpaaProg
import Derived.Test.YtfbdgjepflokpaaEvFn
import Derived.Test.YtfbdgjepflokpaaDifferEqualPure
namespace Go.Ev
open Go.Proofs
noncomputable section
set_option linter.unusedVariables false
set_option linter.unusedSimpArgs false
set_option maxRecDepth 100000
set_option maxHeartbeats 4000000

theorem wide : Tables.follows Try.prog.toTables .mixedOrders = true := by kernel_rfl

def G0 : FuncId → Option Sum := fun _ => none
theorem right_G0 : Right Try.prog G0 := fun f S h => by cases h

def T_tutorref03_Big : FuncId → Option Sum := G0

theorem right_T_tutorref03_Big : Right Try.prog T_tutorref03_Big := right_G0

abbrev cuts_tutorref03_Big : Cuts := []

theorem gentry_tutorref03_Big {R : Type} (K : AV → List O → Option R) (m : Int) (m_1 : Int) (m_2 : Int) (m_3 : Int) (m_4 : List Int) (m_5 : List Int) (states : Int) :
    fnRun Try.prog T_tutorref03_Big cuts_tutorref03_Big Try.f8 0 [.agg [.v (.int .i64 m), .v (.int .i64 m_1), .v (.int .i64 m_2), .v (.int .i64 m_3), .rd ⟨false, 3, (.int .i64), m_4⟩, .rd ⟨false, 3, (.int .i64), m_5⟩], .v (.int .i64 states)] [] K =
    (fun (m : Int) (m_1 : Int) (m_2 : Int) (m_3 : Int) (m_4 : List Int) (m_5 : List Int) (states : Int) (K0 : Bool → Option R) =>
    bi (decide (m_3 > states))
     (K0 true)
     (bi (decide ((m_4.length : Int) > 70000))
      (K0 true)
      (K0 (decide ((m_5.length : Int) > 70000))))) m m_1 m_2 m_3 m_4 m_5 states (fun r0 => K (.v (.bool r0)) []) := by kernel_rfl

theorem entry_tutorref03_Big {R : Type} (K : AV → List O → Option R) (m : Int) (m_1 : Int) (m_2 : Int) (m_3 : Int) (m_4 : List Int) (m_5 : List Int) (states : Int) :
    fnRun Try.prog T_tutorref03_Big cuts_tutorref03_Big Try.f8 0 [.agg [.v (.int .i64 m), .v (.int .i64 m_1), .v (.int .i64 m_2), .v (.int .i64 m_3), .rd ⟨false, 3, (.int .i64), m_4⟩, .rd ⟨false, 3, (.int .i64), m_5⟩], .v (.int .i64 states)] [] K =
    l_tutorref03_Big m m_1 m_2 m_3 m_4 m_5 states (fun r0 => K (.v (.bool r0)) []) := gentry_tutorref03_Big K m m_1 m_2 m_3 m_4 m_5 states

def S_tutorref03_Big (l_tutorref03_Big : {R : Type} → Int → Int → Int → Int → (List Int) → (List Int) → Int → (Bool → Option R) → Option R) : Sum := ⟨[], fun {R} args ob K => match args, ob with
  | [.agg [.v (.int .i64 m), .v (.int .i64 m_1), .v (.int .i64 m_2), .v (.int .i64 m_3), .rd ⟨false, 3, (.int .i64), m_4⟩, .rd ⟨false, 3, (.int .i64), m_5⟩], .v (.int .i64 states)], [] => l_tutorref03_Big m m_1 m_2 m_3 m_4 m_5 states (fun r0 => K (.v (.bool r0)) [])
  | _, _ => none⟩

theorem sound_tutorref03_Big : Sound Try.prog 8 (S_tutorref03_Big @l_tutorref03_Big) := by
  refine fn_sound (cuts := cuts_tutorref03_Big) (fn := Try.f8) (Γ := T_tutorref03_Big) wide right_T_tutorref03_Big Try.func8 fun {R} K r args ob h => ?_
  unfold S_tutorref03_Big at h
  dsimp only at h
  split at h
  · exact ⟨Nat.le_of_ble_eq_true (by kernel_rfl), 0, (entry_tutorref03_Big K _ _ _ _ _ _ _).trans h⟩
  · cases h

theorem call_tutorref03_Big : Callable Try.prog 8 := ⟨_, Try.func8, by kernel_rfl, by kernel_rfl⟩

def T_machine_says : FuncId → Option Sum := G0

theorem right_T_machine_says : Right Try.prog T_machine_says := right_G0

abbrev cuts_machine_says : Cuts := []

theorem gentry_machine_says {R : Type} (K : AV → List O → Option R) (m : Int) (m_1 : Int) (m_2 : Int) (m_3 : Int) (m_4 : List Int) (m_5 : List Int) :
    fnRun Try.prog T_machine_says cuts_machine_says Try.f55 0 [.agg [.v (.int .i64 m), .v (.int .i64 m_1), .v (.int .i64 m_2), .v (.int .i64 m_3), .rd ⟨false, 3, (.int .i64), m_4⟩, .rd ⟨false, 3, (.int .i64), m_5⟩]] [] K =
    (fun (m : Int) (m_1 : Int) (m_2 : Int) (m_3 : Int) (m_4 : List Int) (m_5 : List Int) (K0 : Int → Option R) =>
    bi (m == 1)
     (K0 m_3)
     (K0 (IntKind.i64.wrap (m_3 * m_1)))) m m_1 m_2 m_3 m_4 m_5 (fun r0 => K (.v (.int .i64 r0)) []) := by kernel_rfl

theorem entry_machine_says {R : Type} (K : AV → List O → Option R) (m : Int) (m_1 : Int) (m_2 : Int) (m_3 : Int) (m_4 : List Int) (m_5 : List Int) :
    fnRun Try.prog T_machine_says cuts_machine_says Try.f55 0 [.agg [.v (.int .i64 m), .v (.int .i64 m_1), .v (.int .i64 m_2), .v (.int .i64 m_3), .rd ⟨false, 3, (.int .i64), m_4⟩, .rd ⟨false, 3, (.int .i64), m_5⟩]] [] K =
    l_machine_says m m_1 m_2 m_3 m_4 m_5 (fun r0 => K (.v (.int .i64 r0)) []) := gentry_machine_says K m m_1 m_2 m_3 m_4 m_5

def S_machine_says (l_machine_says : {R : Type} → Int → Int → Int → Int → (List Int) → (List Int) → (Int → Option R) → Option R) : Sum := ⟨[], fun {R} args ob K => match args, ob with
  | [.agg [.v (.int .i64 m), .v (.int .i64 m_1), .v (.int .i64 m_2), .v (.int .i64 m_3), .rd ⟨false, 3, (.int .i64), m_4⟩, .rd ⟨false, 3, (.int .i64), m_5⟩]], [] => l_machine_says m m_1 m_2 m_3 m_4 m_5 (fun r0 => K (.v (.int .i64 r0)) [])
  | _, _ => none⟩

theorem sound_machine_says : Sound Try.prog 55 (S_machine_says @l_machine_says) := by
  refine fn_sound (cuts := cuts_machine_says) (fn := Try.f55) (Γ := T_machine_says) wide right_T_machine_says Try.func55 fun {R} K r args ob h => ?_
  unfold S_machine_says at h
  dsimp only at h
  split at h
  · exact ⟨Nat.le_of_ble_eq_true (by kernel_rfl), 0, (entry_machine_says K _ _ _ _ _ _).trans h⟩
  · cases h

theorem call_machine_says : Callable Try.prog 55 := ⟨_, Try.func55, by kernel_rfl, by kernel_rfl⟩

def T_machine_head (l_machine_says : {R : Type} → Int → Int → Int → Int → (List Int) → (List Int) → (Int → Option R) → Option R) : FuncId → Option Sum := (addS G0 55 (S_machine_says @l_machine_says))

theorem right_T_machine_head : Right Try.prog (T_machine_head @l_machine_says) := (right_add right_G0 call_machine_says sound_machine_says)

abbrev cuts_machine_head : Cuts := []

theorem gentry_machine_head (l_machine_says : {R : Type} → Int → Int → Int → Int → (List Int) → (List Int) → (Int → Option R) → Option R) {R : Type} (K : AV → List O → Option R) (m : Int) (m_1 : Int) (m_2 : Int) (m_3 : Int) (m_4 : List Int) (m_5 : List Int) :
    fnRun Try.prog (T_machine_head @l_machine_says) cuts_machine_head Try.f44 0 [.agg [.v (.int .i64 m), .v (.int .i64 m_1), .v (.int .i64 m_2), .v (.int .i64 m_3), .rd ⟨false, 3, (.int .i64), m_4⟩, .rd ⟨false, 3, (.int .i64), m_5⟩]] [] K =
    (fun (m : Int) (m_1 : Int) (m_2 : Int) (m_3 : Int) (m_4 : List Int) (m_5 : List Int) (K0 : Int → Option R) =>
    bi (m != 1)
     (bi (m != 2)
      (K0 30)
      (bi (decide (m_1 < 1))
       (K0 1)
       (bi (decide (m_1 > 64))
        (K0 1)
        (bi (m == 1)
         (bi (m_2 != 2)
          (K0 33)
          (bi (decide (m_2 < 1))
           (K0 33)
           (bi (decide (m_2 > 64))
            (K0 33)
            (bi (decide (m_3 < 1))
             (K0 3)
             (bi (decide (m_3 > 1024))
              (K0 3)
              (bi ((m_4.length : Int) != (IntKind.i64.wrap (m_3 * m_1)))
               (K0 31)
               (l_machine_says m m_1 m_2 m_3 m_4 m_5
                (fun r1 =>
                 bi ((m_5.length : Int) != r1)
                  (K0 31)
                  (K0 0)))))))))
         (bi (decide (m_2 < 1))
          (K0 33)
          (bi (decide (m_2 > 64))
           (K0 33)
           (bi (decide (m_3 < 1))
            (K0 3)
            (bi (decide (m_3 > 1024))
             (K0 3)
             (bi ((m_4.length : Int) != (IntKind.i64.wrap (m_3 * m_1)))
              (K0 31)
              (l_machine_says m m_1 m_2 m_3 m_4 m_5
               (fun r2 =>
                bi ((m_5.length : Int) != r2)
                 (K0 31)
                 (K0 0))))))))))))
     (bi (decide (m_1 < 1))
      (K0 1)
      (bi (decide (m_1 > 64))
       (K0 1)
       (bi (m == 1)
        (bi (m_2 != 2)
         (K0 33)
         (bi (decide (m_2 < 1))
          (K0 33)
          (bi (decide (m_2 > 64))
           (K0 33)
           (bi (decide (m_3 < 1))
            (K0 3)
            (bi (decide (m_3 > 1024))
             (K0 3)
             (bi ((m_4.length : Int) != (IntKind.i64.wrap (m_3 * m_1)))
              (K0 31)
              (l_machine_says m m_1 m_2 m_3 m_4 m_5
               (fun r3 =>
                bi ((m_5.length : Int) != r3)
                 (K0 31)
                 (K0 0)))))))))
        (bi (decide (m_2 < 1))
         (K0 33)
         (bi (decide (m_2 > 64))
          (K0 33)
          (bi (decide (m_3 < 1))
           (K0 3)
           (bi (decide (m_3 > 1024))
            (K0 3)
            (bi ((m_4.length : Int) != (IntKind.i64.wrap (m_3 * m_1)))
             (K0 31)
             (l_machine_says m m_1 m_2 m_3 m_4 m_5
              (fun r4 =>
               bi ((m_5.length : Int) != r4)
                (K0 31)
                (K0 0)))))))))))) m m_1 m_2 m_3 m_4 m_5 (fun r0 => K (.v (.int .i64 r0)) []) := by kernel_rfl

theorem entry_machine_head {R : Type} (K : AV → List O → Option R) (m : Int) (m_1 : Int) (m_2 : Int) (m_3 : Int) (m_4 : List Int) (m_5 : List Int) :
    fnRun Try.prog (T_machine_head @l_machine_says) cuts_machine_head Try.f44 0 [.agg [.v (.int .i64 m), .v (.int .i64 m_1), .v (.int .i64 m_2), .v (.int .i64 m_3), .rd ⟨false, 3, (.int .i64), m_4⟩, .rd ⟨false, 3, (.int .i64), m_5⟩]] [] K =
    l_machine_head m m_1 m_2 m_3 m_4 m_5 (fun r0 => K (.v (.int .i64 r0)) []) := gentry_machine_head @l_machine_says K m m_1 m_2 m_3 m_4 m_5

def S_machine_head (l_machine_head : {R : Type} → Int → Int → Int → Int → (List Int) → (List Int) → (Int → Option R) → Option R) : Sum := ⟨[], fun {R} args ob K => match args, ob with
  | [.agg [.v (.int .i64 m), .v (.int .i64 m_1), .v (.int .i64 m_2), .v (.int .i64 m_3), .rd ⟨false, 3, (.int .i64), m_4⟩, .rd ⟨false, 3, (.int .i64), m_5⟩]], [] => l_machine_head m m_1 m_2 m_3 m_4 m_5 (fun r0 => K (.v (.int .i64 r0)) [])
  | _, _ => none⟩

theorem sound_machine_head : Sound Try.prog 44 (S_machine_head @l_machine_head) := by
  refine fn_sound (cuts := cuts_machine_head) (fn := Try.f44) (Γ := (T_machine_head @l_machine_says)) wide right_T_machine_head Try.func44 fun {R} K r args ob h => ?_
  unfold S_machine_head at h
  dsimp only at h
  split at h
  · exact ⟨Nat.le_of_ble_eq_true (by kernel_rfl), 0, (entry_machine_head K _ _ _ _ _ _).trans h⟩
  · cases h

theorem call_machine_head : Callable Try.prog 44 := ⟨_, Try.func44, by kernel_rfl, by kernel_rfl⟩

def T_machine_beyond : FuncId → Option Sum := G0

theorem right_T_machine_beyond : Right Try.prog T_machine_beyond := right_G0

abbrev cuts_machine_beyond : Cuts := [(2, [0, 1, 7, 8])]

theorem gstep_machine_beyond_2 {R : Type} (g : List Item → St → Option R) (K : AV → List O → Option R) (l : List Int) (n : Int) (x7 : Int) (x8 : Int) :
    runSeg Try.prog T_machine_beyond cuts_machine_beyond 0 g (finish Try.prog Try.f45 0 K) (at' Try.f45 2) ⟨fr0 21 [(0, .rd ⟨false, 3, (.int .i64), l⟩), (1, .v (.int .i64 n)), (7, .v (.int .i64 x7)), (8, .v (.int .i64 x8))], []⟩ =
    (fun (g45_2 : (List Int) → Int → Int → Int → Option R) (K0 : Int → Option R) (l : List Int) (n : Int) (x7 : Int) (x8 : Int) =>
    bi (decide (x8 < x7))
     (bi (decide (0 ≤ x8 ∧ x8 < ((l.length : Nat) : Int)))
      (bi (decide ((IntKind.u64.wrap (l.getD x8.toNat 0)) ≥ (IntKind.u64.wrap n)))
       (K0 x8)
       (g45_2 l n x7 (IntKind.i64.wrap (x8 + 1))))
      none)
     (K0 (-1))) (fun l n x7 x8 => g (at' Try.f45 2) ⟨fr0 21 [(0, .rd ⟨false, 3, (.int .i64), l⟩), (1, .v (.int .i64 n)), (7, .v (.int .i64 x7)), (8, .v (.int .i64 x8))], []⟩) (fun r0 => K (.v (.int .i64 r0)) []) l n x7 x8 := by kernel_rfl

theorem step_machine_beyond_2 {R : Type} (g : List Item → St → Option R) (K : AV → List O → Option R) (l : List Int) (n : Int) (x7 : Int) (x8 : Int) :
    runSeg Try.prog T_machine_beyond cuts_machine_beyond 0 g (finish Try.prog Try.f45 0 K) (at' Try.f45 2) ⟨fr0 21 [(0, .rd ⟨false, 3, (.int .i64), l⟩), (1, .v (.int .i64 n)), (7, .v (.int .i64 x7)), (8, .v (.int .i64 x8))], []⟩ =
    s_machine_beyond_2 (fun l n x7 x8 => g (at' Try.f45 2) ⟨fr0 21 [(0, .rd ⟨false, 3, (.int .i64), l⟩), (1, .v (.int .i64 n)), (7, .v (.int .i64 x7)), (8, .v (.int .i64 x8))], []⟩) (fun r0 => K (.v (.int .i64 r0)) []) l n x7 x8 := gstep_machine_beyond_2 g K l n x7 x8

theorem gentry_machine_beyond {R : Type} (fuel : Nat) (K : AV → List O → Option R) (l : List Int) (n : Int) :
    fnRun Try.prog T_machine_beyond cuts_machine_beyond Try.f45 fuel [.rd ⟨false, 3, (.int .i64), l⟩, .v (.int .i64 n)] [] K =
    (fun (g45_2 : (List Int) → Int → Int → Int → Option R) (K0 : Int → Option R) (l : List Int) (n : Int) =>
    g45_2 l n (l.length : Int) 0) (fun l n x7 x8 => (runO Try.prog T_machine_beyond cuts_machine_beyond 0 (finish Try.prog Try.f45 0 K) fuel) (at' Try.f45 2) ⟨fr0 21 [(0, .rd ⟨false, 3, (.int .i64), l⟩), (1, .v (.int .i64 n)), (7, .v (.int .i64 x7)), (8, .v (.int .i64 x8))], []⟩) (fun r0 => K (.v (.int .i64 r0)) []) l n := by kernel_rfl

theorem entry_machine_beyond {R : Type} (fuel : Nat) (K : AV → List O → Option R) (l : List Int) (n : Int) :
    fnRun Try.prog T_machine_beyond cuts_machine_beyond Try.f45 fuel [.rd ⟨false, 3, (.int .i64), l⟩, .v (.int .i64 n)] [] K =
    e_machine_beyond (fun l n x7 x8 => (runO Try.prog T_machine_beyond cuts_machine_beyond 0 (finish Try.prog Try.f45 0 K) fuel) (at' Try.f45 2) ⟨fr0 21 [(0, .rd ⟨false, 3, (.int .i64), l⟩), (1, .v (.int .i64 n)), (7, .v (.int .i64 x7)), (8, .v (.int .i64 x8))], []⟩) (fun r0 => K (.v (.int .i64 r0)) []) l n := gentry_machine_beyond fuel K l n

theorem runs_machine_beyond {R : Type} (K : AV → List O → Option R) : ∀ fuel : Nat,
    (fun l n x7 x8 => (runO Try.prog T_machine_beyond cuts_machine_beyond 0 (finish Try.prog Try.f45 0 K) fuel) (at' Try.f45 2) ⟨fr0 21 [(0, .rd ⟨false, 3, (.int .i64), l⟩), (1, .v (.int .i64 n)), (7, .v (.int .i64 x7)), (8, .v (.int .i64 x8))], []⟩) = (run_machine_beyond (fun r0 => K (.v (.int .i64 r0)) []) fuel)
  | 0 => rfl
  | fuel + 1 => by
    have ih := runs_machine_beyond K fuel
    funext l n x7 x8
    refine (step_machine_beyond_2 _ K l n x7 x8).trans ?_
    rw [ih]
    rfl

def S_machine_beyond (l_machine_beyond : {R : Type} → (List Int) → Int → (Int → Option R) → Option R) : Sum := ⟨[], fun {R} args ob K => match args, ob with
  | [.rd ⟨false, 3, (.int .i64), l⟩, .v (.int .i64 n)], [] => l_machine_beyond l n (fun r0 => K (.v (.int .i64 r0)) [])
  | _, _ => none⟩

theorem sound_machine_beyond : Sound Try.prog 45 (S_machine_beyond @l_machine_beyond) := by
  refine fn_sound (cuts := cuts_machine_beyond) (fn := Try.f45) (Γ := T_machine_beyond) wide right_T_machine_beyond Try.func45 fun {R} K r args ob h => ?_
  unfold S_machine_beyond at h
  dsimp only at h
  split at h
  · obtain ⟨n, hn⟩ := ok_machine_beyond _ _ _ h
    refine ⟨Nat.le_of_ble_eq_true (by kernel_rfl), n, (entry_machine_beyond n K _ _).trans ?_⟩
    rw [(runs_machine_beyond K n)]
    exact hn
  · cases h

theorem call_machine_beyond : Callable Try.prog 45 := ⟨_, Try.func45, by kernel_rfl, by kernel_rfl⟩

def T_machine_Check (l_machine_beyond : {R : Type} → (List Int) → Int → (Int → Option R) → Option R) (l_machine_head : {R : Type} → Int → Int → Int → Int → (List Int) → (List Int) → (Int → Option R) → Option R) : FuncId → Option Sum := (addS (addS G0 45 (S_machine_beyond @l_machine_beyond)) 44 (S_machine_head @l_machine_head))

theorem right_T_machine_Check : Right Try.prog (T_machine_Check @l_machine_beyond @l_machine_head) := (right_add (right_add right_G0 call_machine_beyond sound_machine_beyond) call_machine_head sound_machine_head)

abbrev cuts_machine_Check : Cuts := []

theorem gentry_machine_Check (l_machine_beyond : {R : Type} → (List Int) → Int → (Int → Option R) → Option R) (l_machine_head : {R : Type} → Int → Int → Int → Int → (List Int) → (List Int) → (Int → Option R) → Option R) {R : Type} (K : AV → List O → Option R) (m : Int) (m_1 : Int) (m_2 : Int) (m_3 : Int) (m_4 : List Int) (m_5 : List Int) :
    fnRun Try.prog (T_machine_Check @l_machine_beyond @l_machine_head) cuts_machine_Check Try.f31 0 [.agg [.v (.int .i64 m), .v (.int .i64 m_1), .v (.int .i64 m_2), .v (.int .i64 m_3), .rd ⟨false, 3, (.int .i64), m_4⟩, .rd ⟨false, 3, (.int .i64), m_5⟩]] [] K =
    (fun (m : Int) (m_1 : Int) (m_2 : Int) (m_3 : Int) (m_4 : List Int) (m_5 : List Int) (K0 : Int → Int → Option R) =>
    l_machine_head m m_1 m_2 m_3 m_4 m_5
     (fun r1 =>
      bi (r1 != 0)
       (K0 0 r1)
       (l_machine_beyond m_4 m_3
        (fun r2 =>
         bi (decide (r2 ≥ 0))
          (K0 r2 32)
          (l_machine_beyond m_5 m_2
           (fun r3 =>
            bi (decide (r3 ≥ 0))
             (K0 r3 33)
             (K0 0 0))))))) m m_1 m_2 m_3 m_4 m_5 (fun r0 r1 => K (.tup [.v (.int .i64 r0), .v (.int .i64 r1)]) []) := by kernel_rfl

theorem entry_machine_Check {R : Type} (K : AV → List O → Option R) (m : Int) (m_1 : Int) (m_2 : Int) (m_3 : Int) (m_4 : List Int) (m_5 : List Int) :
    fnRun Try.prog (T_machine_Check @l_machine_beyond @l_machine_head) cuts_machine_Check Try.f31 0 [.agg [.v (.int .i64 m), .v (.int .i64 m_1), .v (.int .i64 m_2), .v (.int .i64 m_3), .rd ⟨false, 3, (.int .i64), m_4⟩, .rd ⟨false, 3, (.int .i64), m_5⟩]] [] K =
    l_machine_Check m m_1 m_2 m_3 m_4 m_5 (fun r0 r1 => K (.tup [.v (.int .i64 r0), .v (.int .i64 r1)]) []) := gentry_machine_Check @l_machine_beyond @l_machine_head K m m_1 m_2 m_3 m_4 m_5

def S_machine_Check (l_machine_Check : {R : Type} → Int → Int → Int → Int → (List Int) → (List Int) → (Int → Int → Option R) → Option R) : Sum := ⟨[], fun {R} args ob K => match args, ob with
  | [.agg [.v (.int .i64 m), .v (.int .i64 m_1), .v (.int .i64 m_2), .v (.int .i64 m_3), .rd ⟨false, 3, (.int .i64), m_4⟩, .rd ⟨false, 3, (.int .i64), m_5⟩]], [] => l_machine_Check m m_1 m_2 m_3 m_4 m_5 (fun r0 r1 => K (.tup [.v (.int .i64 r0), .v (.int .i64 r1)]) [])
  | _, _ => none⟩

theorem sound_machine_Check : Sound Try.prog 31 (S_machine_Check @l_machine_Check) := by
  refine fn_sound (cuts := cuts_machine_Check) (fn := Try.f31) (Γ := (T_machine_Check @l_machine_beyond @l_machine_head)) wide right_T_machine_Check Try.func31 fun {R} K r args ob h => ?_
  unfold S_machine_Check at h
  dsimp only at h
  split at h
  · exact ⟨Nat.le_of_ble_eq_true (by kernel_rfl), 0, (entry_machine_Check K _ _ _ _ _ _).trans h⟩
  · cases h

theorem call_machine_Check : Callable Try.prog 31 := ⟨_, Try.func31, by kernel_rfl, by kernel_rfl⟩

def T_differ_fit (l_machine_Check : {R : Type} → Int → Int → Int → Int → (List Int) → (List Int) → (Int → Int → Option R) → Option R) : FuncId → Option Sum := (addS G0 31 (S_machine_Check @l_machine_Check))

theorem right_T_differ_fit : Right Try.prog (T_differ_fit @l_machine_Check) := (right_add right_G0 call_machine_Check sound_machine_Check)

abbrev cuts_differ_fit : Cuts := [(2, [2, 3, 11, 12, 13])]

theorem gstep_differ_fit_2 (l_machine_Check : {R : Type} → Int → Int → Int → Int → (List Int) → (List Int) → (Int → Int → Option R) → Option R) {R : Type} (g : List Item → St → Option R) (K : AV → List O → Option R) (x12 : Int) (x13 : Int) (o0 : Int) (o0_1 : Int) (o0_2 : Int) (o0_3 : Int) (o0_4 : List Int) (o0_5 : List Int) (o1 : Int) (o1_1 : Int) (o1_2 : Int) (o1_3 : Int) (o1_4 : List Int) (o1_5 : List Int) (o2 : List (Int × (Int × (Int × (Int × (List Int × List Int)))))) :
    runSeg Try.prog (T_differ_fit @l_machine_Check) cuts_differ_fit 0 g (finish Try.prog Try.f27 0 K) (at' Try.f27 2) ⟨fr0 44 [(2, .ptr 0 0), (3, .ptr 1 0), (11, .own 2), (12, .v (.int .i64 x12)), (13, .v (.int .i64 x13))], [.box 24 [.v (.int .i64 o0), .v (.int .i64 o0_1), .v (.int .i64 o0_2), .v (.int .i64 o0_3), .rd ⟨false, 3, (.int .i64), o0_4⟩, .rd ⟨false, 3, (.int .i64), o0_5⟩], .box 24 [.v (.int .i64 o1), .v (.int .i64 o1_1), .v (.int .i64 o1_2), .v (.int .i64 o1_3), .rd ⟨false, 3, (.int .i64), o1_4⟩, .rd ⟨false, 3, (.int .i64), o1_5⟩], .row ⟨false, 24, (.pr (.int .i64) (.pr (.int .i64) (.pr (.int .i64) (.pr (.int .i64) (.pr (.sl 3 (.int .i64)) (.sl 3 (.int .i64))))))), o2⟩]⟩ =
    (fun (g27_2 : Int → Int → Int → Int → Int → Int → (List Int) → (List Int) → Int → Int → Int → Int → (List Int) → (List Int) → (List (Int × (Int × (Int × (Int × (List Int × List Int)))))) → Option R) (K0 : Int → Option R) (x12 : Int) (x13 : Int) (o0 : Int) (o0_1 : Int) (o0_2 : Int) (o0_3 : Int) (o0_4 : List Int) (o0_5 : List Int) (o1 : Int) (o1_1 : Int) (o1_2 : Int) (o1_3 : Int) (o1_4 : List Int) (o1_5 : List Int) (o2 : List (Int × (Int × (Int × (Int × (List Int × List Int)))))) =>
    bi (decide (x13 < x12))
     (bi (decide (0 ≤ x13 ∧ x13 < ((o2.length : Nat) : Int)))
      (l_machine_Check ((o2.getD x13.toNat (0, (0, (0, (0, ([], [])))))).1) (((o2.getD x13.toNat (0, (0, (0, (0, ([], [])))))).2).1) ((((o2.getD x13.toNat (0, (0, (0, (0, ([], [])))))).2).2).1) (((((o2.getD x13.toNat (0, (0, (0, (0, ([], [])))))).2).2).2).1) ((((((o2.getD x13.toNat (0, (0, (0, (0, ([], [])))))).2).2).2).2).1) ((((((o2.getD x13.toNat (0, (0, (0, (0, ([], [])))))).2).2).2).2).2)
       (fun r1 r2 =>
        bi (r2 != 0)
         (K0 r2)
         (g27_2 x12 (IntKind.i64.wrap (x13 + 1)) o0 o0_1 o0_2 o0_3 o0_4 o0_5 o1 o1_1 o1_2 o1_3 o1_4 o1_5 o2)))
      none)
     (bi (o0 != o1)
      (K0 30)
      (bi (o0_1 != o1_1)
       (K0 1)
       (bi (o0_2 != o1_2)
        (K0 33)
        (K0 0))))) (fun x12 x13 o0 o0_1 o0_2 o0_3 o0_4 o0_5 o1 o1_1 o1_2 o1_3 o1_4 o1_5 o2 => g (at' Try.f27 2) ⟨fr0 44 [(2, .ptr 0 0), (3, .ptr 1 0), (11, .own 2), (12, .v (.int .i64 x12)), (13, .v (.int .i64 x13))], [.box 24 [.v (.int .i64 o0), .v (.int .i64 o0_1), .v (.int .i64 o0_2), .v (.int .i64 o0_3), .rd ⟨false, 3, (.int .i64), o0_4⟩, .rd ⟨false, 3, (.int .i64), o0_5⟩], .box 24 [.v (.int .i64 o1), .v (.int .i64 o1_1), .v (.int .i64 o1_2), .v (.int .i64 o1_3), .rd ⟨false, 3, (.int .i64), o1_4⟩, .rd ⟨false, 3, (.int .i64), o1_5⟩], .row ⟨false, 24, (.pr (.int .i64) (.pr (.int .i64) (.pr (.int .i64) (.pr (.int .i64) (.pr (.sl 3 (.int .i64)) (.sl 3 (.int .i64))))))), o2⟩]⟩) (fun r0 => K (.v (.int .i64 r0)) []) x12 x13 o0 o0_1 o0_2 o0_3 o0_4 o0_5 o1 o1_1 o1_2 o1_3 o1_4 o1_5 o2 := by kernel_rfl

theorem step_differ_fit_2 {R : Type} (g : List Item → St → Option R) (K : AV → List O → Option R) (x12 : Int) (x13 : Int) (o0 : Int) (o0_1 : Int) (o0_2 : Int) (o0_3 : Int) (o0_4 : List Int) (o0_5 : List Int) (o1 : Int) (o1_1 : Int) (o1_2 : Int) (o1_3 : Int) (o1_4 : List Int) (o1_5 : List Int) (o2 : List (Int × (Int × (Int × (Int × (List Int × List Int)))))) :
    runSeg Try.prog (T_differ_fit @l_machine_Check) cuts_differ_fit 0 g (finish Try.prog Try.f27 0 K) (at' Try.f27 2) ⟨fr0 44 [(2, .ptr 0 0), (3, .ptr 1 0), (11, .own 2), (12, .v (.int .i64 x12)), (13, .v (.int .i64 x13))], [.box 24 [.v (.int .i64 o0), .v (.int .i64 o0_1), .v (.int .i64 o0_2), .v (.int .i64 o0_3), .rd ⟨false, 3, (.int .i64), o0_4⟩, .rd ⟨false, 3, (.int .i64), o0_5⟩], .box 24 [.v (.int .i64 o1), .v (.int .i64 o1_1), .v (.int .i64 o1_2), .v (.int .i64 o1_3), .rd ⟨false, 3, (.int .i64), o1_4⟩, .rd ⟨false, 3, (.int .i64), o1_5⟩], .row ⟨false, 24, (.pr (.int .i64) (.pr (.int .i64) (.pr (.int .i64) (.pr (.int .i64) (.pr (.sl 3 (.int .i64)) (.sl 3 (.int .i64))))))), o2⟩]⟩ =
    s_differ_fit_2 (fun x12 x13 o0 o0_1 o0_2 o0_3 o0_4 o0_5 o1 o1_1 o1_2 o1_3 o1_4 o1_5 o2 => g (at' Try.f27 2) ⟨fr0 44 [(2, .ptr 0 0), (3, .ptr 1 0), (11, .own 2), (12, .v (.int .i64 x12)), (13, .v (.int .i64 x13))], [.box 24 [.v (.int .i64 o0), .v (.int .i64 o0_1), .v (.int .i64 o0_2), .v (.int .i64 o0_3), .rd ⟨false, 3, (.int .i64), o0_4⟩, .rd ⟨false, 3, (.int .i64), o0_5⟩], .box 24 [.v (.int .i64 o1), .v (.int .i64 o1_1), .v (.int .i64 o1_2), .v (.int .i64 o1_3), .rd ⟨false, 3, (.int .i64), o1_4⟩, .rd ⟨false, 3, (.int .i64), o1_5⟩], .row ⟨false, 24, (.pr (.int .i64) (.pr (.int .i64) (.pr (.int .i64) (.pr (.int .i64) (.pr (.sl 3 (.int .i64)) (.sl 3 (.int .i64))))))), o2⟩]⟩) (fun r0 => K (.v (.int .i64 r0)) []) x12 x13 o0 o0_1 o0_2 o0_3 o0_4 o0_5 o1 o1_1 o1_2 o1_3 o1_4 o1_5 o2 := gstep_differ_fit_2 @l_machine_Check g K x12 x13 o0 o0_1 o0_2 o0_3 o0_4 o0_5 o1 o1_1 o1_2 o1_3 o1_4 o1_5 o2

theorem gentry_differ_fit (l_machine_Check : {R : Type} → Int → Int → Int → Int → (List Int) → (List Int) → (Int → Int → Option R) → Option R) {R : Type} (fuel : Nat) (K : AV → List O → Option R) (a : Int) (a_1 : Int) (a_2 : Int) (a_3 : Int) (a_4 : List Int) (a_5 : List Int) (b : Int) (b_1 : Int) (b_2 : Int) (b_3 : Int) (b_4 : List Int) (b_5 : List Int) :
    fnRun Try.prog (T_differ_fit @l_machine_Check) cuts_differ_fit Try.f27 fuel [.agg [.v (.int .i64 a), .v (.int .i64 a_1), .v (.int .i64 a_2), .v (.int .i64 a_3), .rd ⟨false, 3, (.int .i64), a_4⟩, .rd ⟨false, 3, (.int .i64), a_5⟩], .agg [.v (.int .i64 b), .v (.int .i64 b_1), .v (.int .i64 b_2), .v (.int .i64 b_3), .rd ⟨false, 3, (.int .i64), b_4⟩, .rd ⟨false, 3, (.int .i64), b_5⟩]] [] K =
    (fun (g27_2 : Int → Int → Int → Int → Int → Int → (List Int) → (List Int) → Int → Int → Int → Int → (List Int) → (List Int) → (List (Int × (Int × (Int × (Int × (List Int × List Int)))))) → Option R) (K0 : Int → Option R) (a : Int) (a_1 : Int) (a_2 : Int) (a_3 : Int) (a_4 : List Int) (a_5 : List Int) (b : Int) (b_1 : Int) (b_2 : Int) (b_3 : Int) (b_4 : List Int) (b_5 : List Int) =>
    g27_2 ([(a, (a_1, (a_2, (a_3, (a_4, a_5))))), (b, (b_1, (b_2, (b_3, (b_4, b_5)))))].length : Int) 0 a a_1 a_2 a_3 a_4 a_5 b b_1 b_2 b_3 b_4 b_5 [(a, (a_1, (a_2, (a_3, (a_4, a_5))))), (b, (b_1, (b_2, (b_3, (b_4, b_5)))))]) (fun x12 x13 o0 o0_1 o0_2 o0_3 o0_4 o0_5 o1 o1_1 o1_2 o1_3 o1_4 o1_5 o2 => (runO Try.prog (T_differ_fit @l_machine_Check) cuts_differ_fit 0 (finish Try.prog Try.f27 0 K) fuel) (at' Try.f27 2) ⟨fr0 44 [(2, .ptr 0 0), (3, .ptr 1 0), (11, .own 2), (12, .v (.int .i64 x12)), (13, .v (.int .i64 x13))], [.box 24 [.v (.int .i64 o0), .v (.int .i64 o0_1), .v (.int .i64 o0_2), .v (.int .i64 o0_3), .rd ⟨false, 3, (.int .i64), o0_4⟩, .rd ⟨false, 3, (.int .i64), o0_5⟩], .box 24 [.v (.int .i64 o1), .v (.int .i64 o1_1), .v (.int .i64 o1_2), .v (.int .i64 o1_3), .rd ⟨false, 3, (.int .i64), o1_4⟩, .rd ⟨false, 3, (.int .i64), o1_5⟩], .row ⟨false, 24, (.pr (.int .i64) (.pr (.int .i64) (.pr (.int .i64) (.pr (.int .i64) (.pr (.sl 3 (.int .i64)) (.sl 3 (.int .i64))))))), o2⟩]⟩) (fun r0 => K (.v (.int .i64 r0)) []) a a_1 a_2 a_3 a_4 a_5 b b_1 b_2 b_3 b_4 b_5 := by kernel_rfl

theorem entry_differ_fit {R : Type} (fuel : Nat) (K : AV → List O → Option R) (a : Int) (a_1 : Int) (a_2 : Int) (a_3 : Int) (a_4 : List Int) (a_5 : List Int) (b : Int) (b_1 : Int) (b_2 : Int) (b_3 : Int) (b_4 : List Int) (b_5 : List Int) :
    fnRun Try.prog (T_differ_fit @l_machine_Check) cuts_differ_fit Try.f27 fuel [.agg [.v (.int .i64 a), .v (.int .i64 a_1), .v (.int .i64 a_2), .v (.int .i64 a_3), .rd ⟨false, 3, (.int .i64), a_4⟩, .rd ⟨false, 3, (.int .i64), a_5⟩], .agg [.v (.int .i64 b), .v (.int .i64 b_1), .v (.int .i64 b_2), .v (.int .i64 b_3), .rd ⟨false, 3, (.int .i64), b_4⟩, .rd ⟨false, 3, (.int .i64), b_5⟩]] [] K =
    e_differ_fit (fun x12 x13 o0 o0_1 o0_2 o0_3 o0_4 o0_5 o1 o1_1 o1_2 o1_3 o1_4 o1_5 o2 => (runO Try.prog (T_differ_fit @l_machine_Check) cuts_differ_fit 0 (finish Try.prog Try.f27 0 K) fuel) (at' Try.f27 2) ⟨fr0 44 [(2, .ptr 0 0), (3, .ptr 1 0), (11, .own 2), (12, .v (.int .i64 x12)), (13, .v (.int .i64 x13))], [.box 24 [.v (.int .i64 o0), .v (.int .i64 o0_1), .v (.int .i64 o0_2), .v (.int .i64 o0_3), .rd ⟨false, 3, (.int .i64), o0_4⟩, .rd ⟨false, 3, (.int .i64), o0_5⟩], .box 24 [.v (.int .i64 o1), .v (.int .i64 o1_1), .v (.int .i64 o1_2), .v (.int .i64 o1_3), .rd ⟨false, 3, (.int .i64), o1_4⟩, .rd ⟨false, 3, (.int .i64), o1_5⟩], .row ⟨false, 24, (.pr (.int .i64) (.pr (.int .i64) (.pr (.int .i64) (.pr (.int .i64) (.pr (.sl 3 (.int .i64)) (.sl 3 (.int .i64))))))), o2⟩]⟩) (fun r0 => K (.v (.int .i64 r0)) []) a a_1 a_2 a_3 a_4 a_5 b b_1 b_2 b_3 b_4 b_5 := gentry_differ_fit @l_machine_Check fuel K a a_1 a_2 a_3 a_4 a_5 b b_1 b_2 b_3 b_4 b_5

theorem runs_differ_fit {R : Type} (K : AV → List O → Option R) : ∀ fuel : Nat,
    (fun x12 x13 o0 o0_1 o0_2 o0_3 o0_4 o0_5 o1 o1_1 o1_2 o1_3 o1_4 o1_5 o2 => (runO Try.prog (T_differ_fit @l_machine_Check) cuts_differ_fit 0 (finish Try.prog Try.f27 0 K) fuel) (at' Try.f27 2) ⟨fr0 44 [(2, .ptr 0 0), (3, .ptr 1 0), (11, .own 2), (12, .v (.int .i64 x12)), (13, .v (.int .i64 x13))], [.box 24 [.v (.int .i64 o0), .v (.int .i64 o0_1), .v (.int .i64 o0_2), .v (.int .i64 o0_3), .rd ⟨false, 3, (.int .i64), o0_4⟩, .rd ⟨false, 3, (.int .i64), o0_5⟩], .box 24 [.v (.int .i64 o1), .v (.int .i64 o1_1), .v (.int .i64 o1_2), .v (.int .i64 o1_3), .rd ⟨false, 3, (.int .i64), o1_4⟩, .rd ⟨false, 3, (.int .i64), o1_5⟩], .row ⟨false, 24, (.pr (.int .i64) (.pr (.int .i64) (.pr (.int .i64) (.pr (.int .i64) (.pr (.sl 3 (.int .i64)) (.sl 3 (.int .i64))))))), o2⟩]⟩) = (run_differ_fit (fun r0 => K (.v (.int .i64 r0)) []) fuel)
  | 0 => rfl
  | fuel + 1 => by
    have ih := runs_differ_fit K fuel
    funext x12 x13 o0 o0_1 o0_2 o0_3 o0_4 o0_5 o1 o1_1 o1_2 o1_3 o1_4 o1_5 o2
    refine (step_differ_fit_2 _ K x12 x13 o0 o0_1 o0_2 o0_3 o0_4 o0_5 o1 o1_1 o1_2 o1_3 o1_4 o1_5 o2).trans ?_
    rw [ih]
    rfl

def S_differ_fit (l_differ_fit : {R : Type} → Int → Int → Int → Int → (List Int) → (List Int) → Int → Int → Int → Int → (List Int) → (List Int) → (Int → Option R) → Option R) : Sum := ⟨[], fun {R} args ob K => match args, ob with
  | [.agg [.v (.int .i64 a), .v (.int .i64 a_1), .v (.int .i64 a_2), .v (.int .i64 a_3), .rd ⟨false, 3, (.int .i64), a_4⟩, .rd ⟨false, 3, (.int .i64), a_5⟩], .agg [.v (.int .i64 b), .v (.int .i64 b_1), .v (.int .i64 b_2), .v (.int .i64 b_3), .rd ⟨false, 3, (.int .i64), b_4⟩, .rd ⟨false, 3, (.int .i64), b_5⟩]], [] => l_differ_fit a a_1 a_2 a_3 a_4 a_5 b b_1 b_2 b_3 b_4 b_5 (fun r0 => K (.v (.int .i64 r0)) [])
  | _, _ => none⟩

theorem sound_differ_fit : Sound Try.prog 27 (S_differ_fit @l_differ_fit) := by
  refine fn_sound (cuts := cuts_differ_fit) (fn := Try.f27) (Γ := (T_differ_fit @l_machine_Check)) wide right_T_differ_fit Try.func27 fun {R} K r args ob h => ?_
  unfold S_differ_fit at h
  dsimp only at h
  split at h
  · obtain ⟨n, hn⟩ := ok_differ_fit _ _ _ _ _ _ _ _ _ _ _ _ _ h
    refine ⟨Nat.le_of_ble_eq_true (by kernel_rfl), n, (entry_differ_fit n K _ _ _ _ _ _ _ _ _ _ _ _).trans ?_⟩
    rw [(runs_differ_fit K n)]
    exact hn
  · cases h

theorem call_differ_fit : Callable Try.prog 27 := ⟨_, Try.func27, by kernel_rfl, by kernel_rfl⟩

def T_slices_Reverse_int_int : FuncId → Option Sum := G0

theorem right_T_slices_Reverse_int_int : Right Try.prog T_slices_Reverse_int_int := right_G0

abbrev cuts_slices_Reverse_int_int : Cuts := [(1, [0, 2, 3])]

theorem gstep_slices_Reverse_int_int_1 {R : Type} (g : List Item → St → Option R) (K : AV → List O → Option R) (i : Int) (j : Int) (o0 : List Int) :
    runSeg Try.prog T_slices_Reverse_int_int cuts_slices_Reverse_int_int 1 g (finish Try.prog Try.f54 1 K) (at' Try.f54 1) ⟨fr0 28 [(0, .own 0), (2, .v (.int .i64 i)), (3, .v (.int .i64 j))], [.row ⟨false, 3, (.int .i64), o0⟩]⟩ =
    (fun (g54_1 : Int → Int → (List Int) → Option R) (K0 : (List Int) → Option R) (i : Int) (j : Int) (o0 : List Int) =>
    bi (decide (i < j))
     (bi (decide (0 ≤ j ∧ j < ((o0.length : Nat) : Int)))
      (bi (decide (0 ≤ i ∧ i < ((o0.length : Nat) : Int)))
       (bi (decide (0 ≤ i ∧ i < ((o0.length : Nat) : Int)))
        (bi (decide (0 ≤ j ∧ j < (((o0.set i.toNat (o0.getD j.toNat 0)).length : Nat) : Int)))
         (g54_1 (IntKind.i64.wrap (i + 1)) (IntKind.i64.wrap (j - 1)) ((o0.set i.toNat (o0.getD j.toNat 0)).set j.toNat (o0.getD i.toNat 0)))
         none)
        none)
       none)
      none)
     (K0 o0)) (fun i j o0 => g (at' Try.f54 1) ⟨fr0 28 [(0, .own 0), (2, .v (.int .i64 i)), (3, .v (.int .i64 j))], [.row ⟨false, 3, (.int .i64), o0⟩]⟩) (fun r0 => K (.tup []) [.row ⟨false, 3, (.int .i64), r0⟩]) i j o0 := by kernel_rfl

theorem step_slices_Reverse_int_int_1 {R : Type} (g : List Item → St → Option R) (K : AV → List O → Option R) (i : Int) (j : Int) (o0 : List Int) :
    runSeg Try.prog T_slices_Reverse_int_int cuts_slices_Reverse_int_int 1 g (finish Try.prog Try.f54 1 K) (at' Try.f54 1) ⟨fr0 28 [(0, .own 0), (2, .v (.int .i64 i)), (3, .v (.int .i64 j))], [.row ⟨false, 3, (.int .i64), o0⟩]⟩ =
    s_slices_Reverse_int_int_1 (fun i j o0 => g (at' Try.f54 1) ⟨fr0 28 [(0, .own 0), (2, .v (.int .i64 i)), (3, .v (.int .i64 j))], [.row ⟨false, 3, (.int .i64), o0⟩]⟩) (fun r0 => K (.tup []) [.row ⟨false, 3, (.int .i64), r0⟩]) i j o0 := gstep_slices_Reverse_int_int_1 g K i j o0

theorem gentry_slices_Reverse_int_int {R : Type} (fuel : Nat) (K : AV → List O → Option R) (o0 : List Int) :
    fnRun Try.prog T_slices_Reverse_int_int cuts_slices_Reverse_int_int Try.f54 fuel [.own 0] [.row ⟨false, 3, (.int .i64), o0⟩] K =
    (fun (g54_1 : Int → Int → (List Int) → Option R) (K0 : (List Int) → Option R) (o0 : List Int) =>
    g54_1 0 (IntKind.i64.wrap ((o0.length : Int) - 1)) o0) (fun i j o0 => (runO Try.prog T_slices_Reverse_int_int cuts_slices_Reverse_int_int 1 (finish Try.prog Try.f54 1 K) fuel) (at' Try.f54 1) ⟨fr0 28 [(0, .own 0), (2, .v (.int .i64 i)), (3, .v (.int .i64 j))], [.row ⟨false, 3, (.int .i64), o0⟩]⟩) (fun r0 => K (.tup []) [.row ⟨false, 3, (.int .i64), r0⟩]) o0 := by kernel_rfl

theorem entry_slices_Reverse_int_int {R : Type} (fuel : Nat) (K : AV → List O → Option R) (o0 : List Int) :
    fnRun Try.prog T_slices_Reverse_int_int cuts_slices_Reverse_int_int Try.f54 fuel [.own 0] [.row ⟨false, 3, (.int .i64), o0⟩] K =
    e_slices_Reverse_int_int (fun i j o0 => (runO Try.prog T_slices_Reverse_int_int cuts_slices_Reverse_int_int 1 (finish Try.prog Try.f54 1 K) fuel) (at' Try.f54 1) ⟨fr0 28 [(0, .own 0), (2, .v (.int .i64 i)), (3, .v (.int .i64 j))], [.row ⟨false, 3, (.int .i64), o0⟩]⟩) (fun r0 => K (.tup []) [.row ⟨false, 3, (.int .i64), r0⟩]) o0 := gentry_slices_Reverse_int_int fuel K o0

theorem runs_slices_Reverse_int_int {R : Type} (K : AV → List O → Option R) : ∀ fuel : Nat,
    (fun i j o0 => (runO Try.prog T_slices_Reverse_int_int cuts_slices_Reverse_int_int 1 (finish Try.prog Try.f54 1 K) fuel) (at' Try.f54 1) ⟨fr0 28 [(0, .own 0), (2, .v (.int .i64 i)), (3, .v (.int .i64 j))], [.row ⟨false, 3, (.int .i64), o0⟩]⟩) = (run_slices_Reverse_int_int (fun r0 => K (.tup []) [.row ⟨false, 3, (.int .i64), r0⟩]) fuel)
  | 0 => rfl
  | fuel + 1 => by
    have ih := runs_slices_Reverse_int_int K fuel
    funext i j o0
    refine (step_slices_Reverse_int_int_1 _ K i j o0).trans ?_
    rw [ih]
    rfl

def S_slices_Reverse_int_int (l_slices_Reverse_int_int : {R : Type} → (List Int) → ((List Int) → Option R) → Option R) : Sum := ⟨[0], fun {R} args ob K => match args, ob with
  | [.own 0], [.row ⟨false, 3, (.int .i64), o0⟩] => l_slices_Reverse_int_int o0 (fun r0 => K (.tup []) [.row ⟨false, 3, (.int .i64), r0⟩])
  | _, _ => none⟩

theorem sound_slices_Reverse_int_int : Sound Try.prog 54 (S_slices_Reverse_int_int @l_slices_Reverse_int_int) := by
  refine fn_sound (cuts := cuts_slices_Reverse_int_int) (fn := Try.f54) (Γ := T_slices_Reverse_int_int) wide right_T_slices_Reverse_int_int Try.func54 fun {R} K r args ob h => ?_
  unfold S_slices_Reverse_int_int at h
  dsimp only at h
  split at h
  · obtain ⟨n, hn⟩ := ok_slices_Reverse_int_int _ _ h
    refine ⟨Nat.le_of_ble_eq_true (by kernel_rfl), n, (entry_slices_Reverse_int_int n K _).trans ?_⟩
    rw [(runs_slices_Reverse_int_int K n)]
    exact hn
  · cases h

theorem call_slices_Reverse_int_int : Callable Try.prog 54 := ⟨_, Try.func54, by kernel_rfl, by kernel_rfl⟩

def T_differ_back (l_slices_Reverse_int_int : {R : Type} → (List Int) → ((List Int) → Option R) → Option R) : FuncId → Option Sum := (addS G0 54 (S_slices_Reverse_int_int @l_slices_Reverse_int_int))

theorem right_T_differ_back : Right Try.prog (T_differ_back @l_slices_Reverse_int_int) := (right_add right_G0 call_slices_Reverse_int_int sound_slices_Reverse_int_int)

abbrev cuts_differ_back : Cuts := [(2, [0, 4, 5, 7])]

theorem gstep_differ_back_2 (l_slices_Reverse_int_int : {R : Type} → (List Int) → ((List Int) → Option R) → Option R) {R : Type} (g : List Item → St → Option R) (K : AV → List O → Option R) (o0 : List ((Int × Int) × ((Int × Int) × Int))) (o1 : Int) (o1_1 : Int) (o2 : Int) (o2_1 : Int) (o3 : List Int) :
    runSeg Try.prog (T_differ_back @l_slices_Reverse_int_int) cuts_differ_back 1 g (finish Try.prog Try.f41 1 K) (at' Try.f41 2) ⟨fr0 25 [(0, .mp 0), (4, .ptr 1 0), (5, .ptr 2 0), (7, .own 3)], [.map (.pr (.int .i64) (.int .i64)) (.pr (.pr (.int .i64) (.int .i64)) (.int .i64)) o0, .box 61 [.v (.int .i64 o1), .v (.int .i64 o1_1)], .box 61 [.v (.int .i64 o2), .v (.int .i64 o2_1)], .row ⟨true, 3, (.int .i64), o3⟩]⟩ =
    (fun (g41_2 : (List ((Int × Int) × ((Int × Int) × Int))) → Int → Int → Int → Int → (List Int) → Option R) (K0 : (List ((Int × Int) × ((Int × Int) × Int))) → (List Int) → Option R) (o0 : List ((Int × Int) × ((Int × Int) × Int))) (o1 : Int) (o1_1 : Int) (o2 : Int) (o2_1 : Int) (o3 : List Int) =>
    bi (!(eqS (.pr (.int .i64) (.int .i64)) (o2, o2_1) (o1, o1_1)))
     (bi (decide ((o3.length + [(mgetD (.pr (.int .i64) (.int .i64)) (.pr (.pr (.int .i64) (.int .i64)) (.int .i64)) o0 (o2, o2_1)).2].length) * 8 ≤ lim))
      (g41_2 o0 o1 o1_1 (((mgetD (.pr (.int .i64) (.int .i64)) (.pr (.pr (.int .i64) (.int .i64)) (.int .i64)) o0 (o2, o2_1)).1).1) (((mgetD (.pr (.int .i64) (.int .i64)) (.pr (.pr (.int .i64) (.int .i64)) (.int .i64)) o0 (o2, o2_1)).1).2) (o3 ++ [(mgetD (.pr (.int .i64) (.int .i64)) (.pr (.pr (.int .i64) (.int .i64)) (.int .i64)) o0 (o2, o2_1)).2]))
      none)
     (l_slices_Reverse_int_int o3
      (fun r1 =>
       K0 o0 r1))) (fun o0 o1 o1_1 o2 o2_1 o3 => g (at' Try.f41 2) ⟨fr0 25 [(0, .mp 0), (4, .ptr 1 0), (5, .ptr 2 0), (7, .own 3)], [.map (.pr (.int .i64) (.int .i64)) (.pr (.pr (.int .i64) (.int .i64)) (.int .i64)) o0, .box 61 [.v (.int .i64 o1), .v (.int .i64 o1_1)], .box 61 [.v (.int .i64 o2), .v (.int .i64 o2_1)], .row ⟨true, 3, (.int .i64), o3⟩]⟩) (fun r0 r1 => K (.own 1) [.map (.pr (.int .i64) (.int .i64)) (.pr (.pr (.int .i64) (.int .i64)) (.int .i64)) r0, .row ⟨true, 3, (.int .i64), r1⟩]) o0 o1 o1_1 o2 o2_1 o3 := by kernel_rfl

theorem step_differ_back_2 {R : Type} (g : List Item → St → Option R) (K : AV → List O → Option R) (o0 : List ((Int × Int) × ((Int × Int) × Int))) (o1 : Int) (o1_1 : Int) (o2 : Int) (o2_1 : Int) (o3 : List Int) :
    runSeg Try.prog (T_differ_back @l_slices_Reverse_int_int) cuts_differ_back 1 g (finish Try.prog Try.f41 1 K) (at' Try.f41 2) ⟨fr0 25 [(0, .mp 0), (4, .ptr 1 0), (5, .ptr 2 0), (7, .own 3)], [.map (.pr (.int .i64) (.int .i64)) (.pr (.pr (.int .i64) (.int .i64)) (.int .i64)) o0, .box 61 [.v (.int .i64 o1), .v (.int .i64 o1_1)], .box 61 [.v (.int .i64 o2), .v (.int .i64 o2_1)], .row ⟨true, 3, (.int .i64), o3⟩]⟩ =
    s_differ_back_2 (fun o0 o1 o1_1 o2 o2_1 o3 => g (at' Try.f41 2) ⟨fr0 25 [(0, .mp 0), (4, .ptr 1 0), (5, .ptr 2 0), (7, .own 3)], [.map (.pr (.int .i64) (.int .i64)) (.pr (.pr (.int .i64) (.int .i64)) (.int .i64)) o0, .box 61 [.v (.int .i64 o1), .v (.int .i64 o1_1)], .box 61 [.v (.int .i64 o2), .v (.int .i64 o2_1)], .row ⟨true, 3, (.int .i64), o3⟩]⟩) (fun r0 r1 => K (.own 1) [.map (.pr (.int .i64) (.int .i64)) (.pr (.pr (.int .i64) (.int .i64)) (.int .i64)) r0, .row ⟨true, 3, (.int .i64), r1⟩]) o0 o1 o1_1 o2 o2_1 o3 := gstep_differ_back_2 @l_slices_Reverse_int_int g K o0 o1 o1_1 o2 o2_1 o3

theorem gentry_differ_back (l_slices_Reverse_int_int : {R : Type} → (List Int) → ((List Int) → Option R) → Option R) {R : Type} (fuel : Nat) (K : AV → List O → Option R) (start : Int) (start_1 : Int) (p : Int) (p_1 : Int) (o0 : List ((Int × Int) × ((Int × Int) × Int))) :
    fnRun Try.prog (T_differ_back @l_slices_Reverse_int_int) cuts_differ_back Try.f41 fuel [.mp 0, .agg [.v (.int .i64 start), .v (.int .i64 start_1)], .agg [.v (.int .i64 p), .v (.int .i64 p_1)]] [.map (.pr (.int .i64) (.int .i64)) (.pr (.pr (.int .i64) (.int .i64)) (.int .i64)) o0] K =
    (fun (g41_2 : (List ((Int × Int) × ((Int × Int) × Int))) → Int → Int → Int → Int → (List Int) → Option R) (K0 : (List ((Int × Int) × ((Int × Int) × Int))) → (List Int) → Option R) (start : Int) (start_1 : Int) (p : Int) (p_1 : Int) (o0 : List ((Int × Int) × ((Int × Int) × Int))) =>
    g41_2 o0 start start_1 p p_1 ([] : List Int)) (fun o0 o1 o1_1 o2 o2_1 o3 => (runO Try.prog (T_differ_back @l_slices_Reverse_int_int) cuts_differ_back 1 (finish Try.prog Try.f41 1 K) fuel) (at' Try.f41 2) ⟨fr0 25 [(0, .mp 0), (4, .ptr 1 0), (5, .ptr 2 0), (7, .own 3)], [.map (.pr (.int .i64) (.int .i64)) (.pr (.pr (.int .i64) (.int .i64)) (.int .i64)) o0, .box 61 [.v (.int .i64 o1), .v (.int .i64 o1_1)], .box 61 [.v (.int .i64 o2), .v (.int .i64 o2_1)], .row ⟨true, 3, (.int .i64), o3⟩]⟩) (fun r0 r1 => K (.own 1) [.map (.pr (.int .i64) (.int .i64)) (.pr (.pr (.int .i64) (.int .i64)) (.int .i64)) r0, .row ⟨true, 3, (.int .i64), r1⟩]) start start_1 p p_1 o0 := by kernel_rfl

theorem entry_differ_back {R : Type} (fuel : Nat) (K : AV → List O → Option R) (start : Int) (start_1 : Int) (p : Int) (p_1 : Int) (o0 : List ((Int × Int) × ((Int × Int) × Int))) :
    fnRun Try.prog (T_differ_back @l_slices_Reverse_int_int) cuts_differ_back Try.f41 fuel [.mp 0, .agg [.v (.int .i64 start), .v (.int .i64 start_1)], .agg [.v (.int .i64 p), .v (.int .i64 p_1)]] [.map (.pr (.int .i64) (.int .i64)) (.pr (.pr (.int .i64) (.int .i64)) (.int .i64)) o0] K =
    e_differ_back (fun o0 o1 o1_1 o2 o2_1 o3 => (runO Try.prog (T_differ_back @l_slices_Reverse_int_int) cuts_differ_back 1 (finish Try.prog Try.f41 1 K) fuel) (at' Try.f41 2) ⟨fr0 25 [(0, .mp 0), (4, .ptr 1 0), (5, .ptr 2 0), (7, .own 3)], [.map (.pr (.int .i64) (.int .i64)) (.pr (.pr (.int .i64) (.int .i64)) (.int .i64)) o0, .box 61 [.v (.int .i64 o1), .v (.int .i64 o1_1)], .box 61 [.v (.int .i64 o2), .v (.int .i64 o2_1)], .row ⟨true, 3, (.int .i64), o3⟩]⟩) (fun r0 r1 => K (.own 1) [.map (.pr (.int .i64) (.int .i64)) (.pr (.pr (.int .i64) (.int .i64)) (.int .i64)) r0, .row ⟨true, 3, (.int .i64), r1⟩]) start start_1 p p_1 o0 := gentry_differ_back @l_slices_Reverse_int_int fuel K start start_1 p p_1 o0

theorem runs_differ_back {R : Type} (K : AV → List O → Option R) : ∀ fuel : Nat,
    (fun o0 o1 o1_1 o2 o2_1 o3 => (runO Try.prog (T_differ_back @l_slices_Reverse_int_int) cuts_differ_back 1 (finish Try.prog Try.f41 1 K) fuel) (at' Try.f41 2) ⟨fr0 25 [(0, .mp 0), (4, .ptr 1 0), (5, .ptr 2 0), (7, .own 3)], [.map (.pr (.int .i64) (.int .i64)) (.pr (.pr (.int .i64) (.int .i64)) (.int .i64)) o0, .box 61 [.v (.int .i64 o1), .v (.int .i64 o1_1)], .box 61 [.v (.int .i64 o2), .v (.int .i64 o2_1)], .row ⟨true, 3, (.int .i64), o3⟩]⟩) = (run_differ_back (fun r0 r1 => K (.own 1) [.map (.pr (.int .i64) (.int .i64)) (.pr (.pr (.int .i64) (.int .i64)) (.int .i64)) r0, .row ⟨true, 3, (.int .i64), r1⟩]) fuel)
  | 0 => rfl
  | fuel + 1 => by
    have ih := runs_differ_back K fuel
    funext o0 o1 o1_1 o2 o2_1 o3
    refine (step_differ_back_2 _ K o0 o1 o1_1 o2 o2_1 o3).trans ?_
    rw [ih]
    rfl

def S_differ_back (l_differ_back : {R : Type} → Int → Int → Int → Int → (List ((Int × Int) × ((Int × Int) × Int))) → ((List ((Int × Int) × ((Int × Int) × Int))) → (List Int) → Option R) → Option R) : Sum := ⟨[], fun {R} args ob K => match args, ob with
  | [.mp 0, .agg [.v (.int .i64 start), .v (.int .i64 start_1)], .agg [.v (.int .i64 p), .v (.int .i64 p_1)]], [.map (.pr (.int .i64) (.int .i64)) (.pr (.pr (.int .i64) (.int .i64)) (.int .i64)) o0] => l_differ_back start start_1 p p_1 o0 (fun r0 r1 => K (.own 1) [.map (.pr (.int .i64) (.int .i64)) (.pr (.pr (.int .i64) (.int .i64)) (.int .i64)) r0, .row ⟨true, 3, (.int .i64), r1⟩])
  | _, _ => none⟩

theorem sound_differ_back : Sound Try.prog 41 (S_differ_back @l_differ_back) := by
  refine fn_sound (cuts := cuts_differ_back) (fn := Try.f41) (Γ := (T_differ_back @l_slices_Reverse_int_int)) wide right_T_differ_back Try.func41 fun {R} K r args ob h => ?_
  unfold S_differ_back at h
  dsimp only at h
  split at h
  · obtain ⟨n, hn⟩ := ok_differ_back _ _ _ _ _ _ h
    refine ⟨Nat.le_of_ble_eq_true (by kernel_rfl), n, (entry_differ_back n K _ _ _ _ _).trans ?_⟩
    rw [(runs_differ_back K n)]
    exact hn
  · cases h

theorem call_differ_back : Callable Try.prog 41 := ⟨_, Try.func41, by kernel_rfl, by kernel_rfl⟩

def T_differ_search (l_differ_back : {R : Type} → Int → Int → Int → Int → (List ((Int × Int) × ((Int × Int) × Int))) → ((List ((Int × Int) × ((Int × Int) × Int))) → (List Int) → Option R) → Option R) : FuncId → Option Sum := (addS G0 41 (S_differ_back @l_differ_back))

theorem right_T_differ_search : Right Try.prog (T_differ_search @l_differ_back) := (right_add right_G0 call_differ_back sound_differ_back)

abbrev cuts_differ_search : Cuts := [(9, [3, 4, 5, 8, 9, 10, 11, 12]), (13, [3, 4, 5, 8, 9, 10, 11, 12, 13, 55, 56])]

theorem gstep_differ_search_9 (l_differ_back : {R : Type} → Int → Int → Int → Int → (List ((Int × Int) × ((Int × Int) × Int))) → ((List ((Int × Int) × ((Int × Int) × Int))) → (List Int) → Option R) → Option R) {R : Type} (g : List Item → St → Option R) (K : AV → List O → Option R) (i : Int) (o0 : Int) (o0_1 : Int) (o0_2 : Int) (o0_3 : Int) (o0_4 : List Int) (o0_5 : List Int) (o1 : Int) (o1_1 : Int) (o1_2 : Int) (o1_3 : Int) (o1_4 : List Int) (o1_5 : List Int) (o2 : Int) (o2_1 : Int) (o3 : List ((Int × Int) × ((Int × Int) × Int))) (o4 : List (Int × Int)) (o5 : Int) (o5_1 : Int) (o6 : List Int) :
    runSeg Try.prog (T_differ_search @l_differ_back) cuts_differ_search 0 g (finish Try.prog Try.f28 0 K) (at' Try.f28 9) ⟨fr0 145 [(3, .ptr 0 0), (4, .ptr 1 0), (5, .ptr 2 0), (8, .mp 3), (9, .own 4), (10, .ptr 5 0), (11, .own 6), (12, .v (.int .i64 i))], [.box 24 [.v (.int .i64 o0), .v (.int .i64 o0_1), .v (.int .i64 o0_2), .v (.int .i64 o0_3), .rd ⟨false, 3, (.int .i64), o0_4⟩, .rd ⟨false, 3, (.int .i64), o0_5⟩], .box 24 [.v (.int .i64 o1), .v (.int .i64 o1_1), .v (.int .i64 o1_2), .v (.int .i64 o1_3), .rd ⟨false, 3, (.int .i64), o1_4⟩, .rd ⟨false, 3, (.int .i64), o1_5⟩], .box 61 [.v (.int .i64 o2), .v (.int .i64 o2_1)], .map (.pr (.int .i64) (.int .i64)) (.pr (.pr (.int .i64) (.int .i64)) (.int .i64)) o3, .row ⟨true, 61, (.pr (.int .i64) (.int .i64)), o4⟩, .box 61 [.v (.int .i64 o5), .v (.int .i64 o5_1)], .row ⟨true, 3, (.int .i64), o6⟩]⟩ =
    (fun (g28_9 : Int → Int → Int → Int → Int → (List Int) → (List Int) → Int → Int → Int → Int → (List Int) → (List Int) → Int → Int → (List ((Int × Int) × ((Int × Int) × Int))) → (List (Int × Int)) → Int → Int → (List Int) → Option R) (g28_13 : Int → Int → Int → Int → Int → Int → Int → (List Int) → (List Int) → Int → Int → Int → Int → (List Int) → (List Int) → Int → Int → (List ((Int × Int) × ((Int × Int) × Int))) → (List (Int × Int)) → Int → Int → (List Int) → Int → Int → Option R) (K0 : Bool → (List Int) → Option R) (i : Int) (o0 : Int) (o0_1 : Int) (o0_2 : Int) (o0_3 : Int) (o0_4 : List Int) (o0_5 : List Int) (o1 : Int) (o1_1 : Int) (o1_2 : Int) (o1_3 : Int) (o1_4 : List Int) (o1_5 : List Int) (o2 : Int) (o2_1 : Int) (o3 : List ((Int × Int) × ((Int × Int) × Int))) (o4 : List (Int × Int)) (o5 : Int) (o5_1 : Int) (o6 : List Int) =>
    bi (i == (o4.length : Int))
     (K0 false ([] : List Int))
     (bi (decide (0 ≤ i ∧ i < ((o4.length : Nat) : Int)))
      (g28_13 i o0_1 0 o0 o0_1 o0_2 o0_3 o0_4 o0_5 o1 o1_1 o1_2 o1_3 o1_4 o1_5 o2 o2_1 o3 o4 o5 o5_1 o6 ((o4.getD i.toNat (0, 0)).1) ((o4.getD i.toNat (0, 0)).2))
      none)) (fun i o0 o0_1 o0_2 o0_3 o0_4 o0_5 o1 o1_1 o1_2 o1_3 o1_4 o1_5 o2 o2_1 o3 o4 o5 o5_1 o6 => g (at' Try.f28 9) ⟨fr0 145 [(3, .ptr 0 0), (4, .ptr 1 0), (5, .ptr 2 0), (8, .mp 3), (9, .own 4), (10, .ptr 5 0), (11, .own 6), (12, .v (.int .i64 i))], [.box 24 [.v (.int .i64 o0), .v (.int .i64 o0_1), .v (.int .i64 o0_2), .v (.int .i64 o0_3), .rd ⟨false, 3, (.int .i64), o0_4⟩, .rd ⟨false, 3, (.int .i64), o0_5⟩], .box 24 [.v (.int .i64 o1), .v (.int .i64 o1_1), .v (.int .i64 o1_2), .v (.int .i64 o1_3), .rd ⟨false, 3, (.int .i64), o1_4⟩, .rd ⟨false, 3, (.int .i64), o1_5⟩], .box 61 [.v (.int .i64 o2), .v (.int .i64 o2_1)], .map (.pr (.int .i64) (.int .i64)) (.pr (.pr (.int .i64) (.int .i64)) (.int .i64)) o3, .row ⟨true, 61, (.pr (.int .i64) (.int .i64)), o4⟩, .box 61 [.v (.int .i64 o5), .v (.int .i64 o5_1)], .row ⟨true, 3, (.int .i64), o6⟩]⟩) (fun i x55 x56 o0 o0_1 o0_2 o0_3 o0_4 o0_5 o1 o1_1 o1_2 o1_3 o1_4 o1_5 o2 o2_1 o3 o4 o5 o5_1 o6 o7 o7_1 => g (at' Try.f28 13) ⟨fr0 145 [(3, .ptr 0 0), (4, .ptr 1 0), (5, .ptr 2 0), (8, .mp 3), (9, .own 4), (10, .ptr 5 0), (11, .own 6), (12, .v (.int .i64 i)), (13, .ptr 7 0), (55, .v (.int .i64 x55)), (56, .v (.int .i64 x56))], [.box 24 [.v (.int .i64 o0), .v (.int .i64 o0_1), .v (.int .i64 o0_2), .v (.int .i64 o0_3), .rd ⟨false, 3, (.int .i64), o0_4⟩, .rd ⟨false, 3, (.int .i64), o0_5⟩], .box 24 [.v (.int .i64 o1), .v (.int .i64 o1_1), .v (.int .i64 o1_2), .v (.int .i64 o1_3), .rd ⟨false, 3, (.int .i64), o1_4⟩, .rd ⟨false, 3, (.int .i64), o1_5⟩], .box 61 [.v (.int .i64 o2), .v (.int .i64 o2_1)], .map (.pr (.int .i64) (.int .i64)) (.pr (.pr (.int .i64) (.int .i64)) (.int .i64)) o3, .row ⟨true, 61, (.pr (.int .i64) (.int .i64)), o4⟩, .box 61 [.v (.int .i64 o5), .v (.int .i64 o5_1)], .row ⟨true, 3, (.int .i64), o6⟩, .box 61 [.v (.int .i64 o7), .v (.int .i64 o7_1)]]⟩) (fun r0 r1 => K (.tup [.own 0, .v (.bool r0)]) [.row ⟨true, 3, (.int .i64), r1⟩]) i o0 o0_1 o0_2 o0_3 o0_4 o0_5 o1 o1_1 o1_2 o1_3 o1_4 o1_5 o2 o2_1 o3 o4 o5 o5_1 o6 := by kernel_rfl

theorem step_differ_search_9 {R : Type} (g : List Item → St → Option R) (K : AV → List O → Option R) (i : Int) (o0 : Int) (o0_1 : Int) (o0_2 : Int) (o0_3 : Int) (o0_4 : List Int) (o0_5 : List Int) (o1 : Int) (o1_1 : Int) (o1_2 : Int) (o1_3 : Int) (o1_4 : List Int) (o1_5 : List Int) (o2 : Int) (o2_1 : Int) (o3 : List ((Int × Int) × ((Int × Int) × Int))) (o4 : List (Int × Int)) (o5 : Int) (o5_1 : Int) (o6 : List Int) :
    runSeg Try.prog (T_differ_search @l_differ_back) cuts_differ_search 0 g (finish Try.prog Try.f28 0 K) (at' Try.f28 9) ⟨fr0 145 [(3, .ptr 0 0), (4, .ptr 1 0), (5, .ptr 2 0), (8, .mp 3), (9, .own 4), (10, .ptr 5 0), (11, .own 6), (12, .v (.int .i64 i))], [.box 24 [.v (.int .i64 o0), .v (.int .i64 o0_1), .v (.int .i64 o0_2), .v (.int .i64 o0_3), .rd ⟨false, 3, (.int .i64), o0_4⟩, .rd ⟨false, 3, (.int .i64), o0_5⟩], .box 24 [.v (.int .i64 o1), .v (.int .i64 o1_1), .v (.int .i64 o1_2), .v (.int .i64 o1_3), .rd ⟨false, 3, (.int .i64), o1_4⟩, .rd ⟨false, 3, (.int .i64), o1_5⟩], .box 61 [.v (.int .i64 o2), .v (.int .i64 o2_1)], .map (.pr (.int .i64) (.int .i64)) (.pr (.pr (.int .i64) (.int .i64)) (.int .i64)) o3, .row ⟨true, 61, (.pr (.int .i64) (.int .i64)), o4⟩, .box 61 [.v (.int .i64 o5), .v (.int .i64 o5_1)], .row ⟨true, 3, (.int .i64), o6⟩]⟩ =
    s_differ_search_9 (fun i o0 o0_1 o0_2 o0_3 o0_4 o0_5 o1 o1_1 o1_2 o1_3 o1_4 o1_5 o2 o2_1 o3 o4 o5 o5_1 o6 => g (at' Try.f28 9) ⟨fr0 145 [(3, .ptr 0 0), (4, .ptr 1 0), (5, .ptr 2 0), (8, .mp 3), (9, .own 4), (10, .ptr 5 0), (11, .own 6), (12, .v (.int .i64 i))], [.box 24 [.v (.int .i64 o0), .v (.int .i64 o0_1), .v (.int .i64 o0_2), .v (.int .i64 o0_3), .rd ⟨false, 3, (.int .i64), o0_4⟩, .rd ⟨false, 3, (.int .i64), o0_5⟩], .box 24 [.v (.int .i64 o1), .v (.int .i64 o1_1), .v (.int .i64 o1_2), .v (.int .i64 o1_3), .rd ⟨false, 3, (.int .i64), o1_4⟩, .rd ⟨false, 3, (.int .i64), o1_5⟩], .box 61 [.v (.int .i64 o2), .v (.int .i64 o2_1)], .map (.pr (.int .i64) (.int .i64)) (.pr (.pr (.int .i64) (.int .i64)) (.int .i64)) o3, .row ⟨true, 61, (.pr (.int .i64) (.int .i64)), o4⟩, .box 61 [.v (.int .i64 o5), .v (.int .i64 o5_1)], .row ⟨true, 3, (.int .i64), o6⟩]⟩) (fun i x55 x56 o0 o0_1 o0_2 o0_3 o0_4 o0_5 o1 o1_1 o1_2 o1_3 o1_4 o1_5 o2 o2_1 o3 o4 o5 o5_1 o6 o7 o7_1 => g (at' Try.f28 13) ⟨fr0 145 [(3, .ptr 0 0), (4, .ptr 1 0), (5, .ptr 2 0), (8, .mp 3), (9, .own 4), (10, .ptr 5 0), (11, .own 6), (12, .v (.int .i64 i)), (13, .ptr 7 0), (55, .v (.int .i64 x55)), (56, .v (.int .i64 x56))], [.box 24 [.v (.int .i64 o0), .v (.int .i64 o0_1), .v (.int .i64 o0_2), .v (.int .i64 o0_3), .rd ⟨false, 3, (.int .i64), o0_4⟩, .rd ⟨false, 3, (.int .i64), o0_5⟩], .box 24 [.v (.int .i64 o1), .v (.int .i64 o1_1), .v (.int .i64 o1_2), .v (.int .i64 o1_3), .rd ⟨false, 3, (.int .i64), o1_4⟩, .rd ⟨false, 3, (.int .i64), o1_5⟩], .box 61 [.v (.int .i64 o2), .v (.int .i64 o2_1)], .map (.pr (.int .i64) (.int .i64)) (.pr (.pr (.int .i64) (.int .i64)) (.int .i64)) o3, .row ⟨true, 61, (.pr (.int .i64) (.int .i64)), o4⟩, .box 61 [.v (.int .i64 o5), .v (.int .i64 o5_1)], .row ⟨true, 3, (.int .i64), o6⟩, .box 61 [.v (.int .i64 o7), .v (.int .i64 o7_1)]]⟩) (fun r0 r1 => K (.tup [.own 0, .v (.bool r0)]) [.row ⟨true, 3, (.int .i64), r1⟩]) i o0 o0_1 o0_2 o0_3 o0_4 o0_5 o1 o1_1 o1_2 o1_3 o1_4 o1_5 o2 o2_1 o3 o4 o5 o5_1 o6 := gstep_differ_search_9 @l_differ_back g K i o0 o0_1 o0_2 o0_3 o0_4 o0_5 o1 o1_1 o1_2 o1_3 o1_4 o1_5 o2 o2_1 o3 o4 o5 o5_1 o6

theorem gstep_differ_search_13 (l_differ_back : {R : Type} → Int → Int → Int → Int → (List ((Int × Int) × ((Int × Int) × Int))) → ((List ((Int × Int) × ((Int × Int) × Int))) → (List Int) → Option R) → Option R) {R : Type} (g : List Item → St → Option R) (K : AV → List O → Option R) (i : Int) (x55 : Int) (x56 : Int) (o0 : Int) (o0_1 : Int) (o0_2 : Int) (o0_3 : Int) (o0_4 : List Int) (o0_5 : List Int) (o1 : Int) (o1_1 : Int) (o1_2 : Int) (o1_3 : Int) (o1_4 : List Int) (o1_5 : List Int) (o2 : Int) (o2_1 : Int) (o3 : List ((Int × Int) × ((Int × Int) × Int))) (o4 : List (Int × Int)) (o5 : Int) (o5_1 : Int) (o6 : List Int) (o7 : Int) (o7_1 : Int) :
    runSeg Try.prog (T_differ_search @l_differ_back) cuts_differ_search 0 g (finish Try.prog Try.f28 0 K) (at' Try.f28 13) ⟨fr0 145 [(3, .ptr 0 0), (4, .ptr 1 0), (5, .ptr 2 0), (8, .mp 3), (9, .own 4), (10, .ptr 5 0), (11, .own 6), (12, .v (.int .i64 i)), (13, .ptr 7 0), (55, .v (.int .i64 x55)), (56, .v (.int .i64 x56))], [.box 24 [.v (.int .i64 o0), .v (.int .i64 o0_1), .v (.int .i64 o0_2), .v (.int .i64 o0_3), .rd ⟨false, 3, (.int .i64), o0_4⟩, .rd ⟨false, 3, (.int .i64), o0_5⟩], .box 24 [.v (.int .i64 o1), .v (.int .i64 o1_1), .v (.int .i64 o1_2), .v (.int .i64 o1_3), .rd ⟨false, 3, (.int .i64), o1_4⟩, .rd ⟨false, 3, (.int .i64), o1_5⟩], .box 61 [.v (.int .i64 o2), .v (.int .i64 o2_1)], .map (.pr (.int .i64) (.int .i64)) (.pr (.pr (.int .i64) (.int .i64)) (.int .i64)) o3, .row ⟨true, 61, (.pr (.int .i64) (.int .i64)), o4⟩, .box 61 [.v (.int .i64 o5), .v (.int .i64 o5_1)], .row ⟨true, 3, (.int .i64), o6⟩, .box 61 [.v (.int .i64 o7), .v (.int .i64 o7_1)]]⟩ =
    (fun (g28_9 : Int → Int → Int → Int → Int → (List Int) → (List Int) → Int → Int → Int → Int → (List Int) → (List Int) → Int → Int → (List ((Int × Int) × ((Int × Int) × Int))) → (List (Int × Int)) → Int → Int → (List Int) → Option R) (g28_13 : Int → Int → Int → Int → Int → Int → Int → (List Int) → (List Int) → Int → Int → Int → Int → (List Int) → (List Int) → Int → Int → (List ((Int × Int) × ((Int × Int) × Int))) → (List (Int × Int)) → Int → Int → (List Int) → Int → Int → Option R) (K0 : Bool → (List Int) → Option R) (i : Int) (x55 : Int) (x56 : Int) (o0 : Int) (o0_1 : Int) (o0_2 : Int) (o0_3 : Int) (o0_4 : List Int) (o0_5 : List Int) (o1 : Int) (o1_1 : Int) (o1_2 : Int) (o1_3 : Int) (o1_4 : List Int) (o1_5 : List Int) (o2 : Int) (o2_1 : Int) (o3 : List ((Int × Int) × ((Int × Int) × Int))) (o4 : List (Int × Int)) (o5 : Int) (o5_1 : Int) (o6 : List Int) (o7 : Int) (o7_1 : Int) =>
    bi (decide (x56 < x55))
     (bi (decide (0 ≤ (IntKind.i64.wrap ((IntKind.i64.wrap (o7 * o0_1)) + x56)) ∧ (IntKind.i64.wrap ((IntKind.i64.wrap (o7 * o0_1)) + x56)) < ((o0_4.length : Nat) : Int)))
      (bi (decide (0 ≤ (IntKind.i64.wrap ((IntKind.i64.wrap (o7_1 * o1_1)) + x56)) ∧ (IntKind.i64.wrap ((IntKind.i64.wrap (o7_1 * o1_1)) + x56)) < ((o1_4.length : Nat) : Int)))
       (both
        (bi (o0 == 2)
         (bi (decide (0 ≤ (IntKind.i64.wrap ((IntKind.i64.wrap (o7 * o0_1)) + x56)) ∧ (IntKind.i64.wrap ((IntKind.i64.wrap (o7 * o0_1)) + x56)) < ((o0_5.length : Nat) : Int)))
          (bi (decide (0 ≤ (IntKind.i64.wrap ((IntKind.i64.wrap (o7_1 * o1_1)) + x56)) ∧ (IntKind.i64.wrap ((IntKind.i64.wrap (o7_1 * o1_1)) + x56)) < ((o1_5.length : Nat) : Int)))
           (bi ((o0_5.getD ((IntKind.i64.wrap ((IntKind.i64.wrap (o7 * o0_1)) + x56)).toNat) 0) != (o1_5.getD ((IntKind.i64.wrap ((IntKind.i64.wrap (o7_1 * o1_1)) + x56)).toNat) 0))
            (l_differ_back o2 o2_1 o7 o7_1 o3
             (fun r1 r2 =>
              bi (decide ((r2.length + [x56].length) * 8 ≤ lim))
               (K0 true (r2 ++ [x56]))
               none))
            (bi (mhas (.pr (.int .i64) (.int .i64)) (.pr (.pr (.int .i64) (.int .i64)) (.int .i64)) o3 (o0_4.getD ((IntKind.i64.wrap ((IntKind.i64.wrap (o7 * o0_1)) + x56)).toNat) 0, o1_4.getD ((IntKind.i64.wrap ((IntKind.i64.wrap (o7_1 * o1_1)) + x56)).toNat) 0))
             (g28_13 i x55 (IntKind.i64.wrap (x56 + 1)) o0 o0_1 o0_2 o0_3 o0_4 o0_5 o1 o1_1 o1_2 o1_3 o1_4 o1_5 o2 o2_1 o3 o4 o5 o5_1 o6 o7 o7_1)
             (bi (decide ((o4.length + [(o0_4.getD ((IntKind.i64.wrap ((IntKind.i64.wrap (o7 * o0_1)) + x56)).toNat) 0, o1_4.getD ((IntKind.i64.wrap ((IntKind.i64.wrap (o7_1 * o1_1)) + x56)).toNat) 0)].length) * 16 ≤ lim))
              (bi (o0 == 1)
               (bi (decide (0 ≤ (o0_4.getD ((IntKind.i64.wrap ((IntKind.i64.wrap (o7 * o0_1)) + x56)).toNat) 0) ∧ (o0_4.getD ((IntKind.i64.wrap ((IntKind.i64.wrap (o7 * o0_1)) + x56)).toNat) 0) < ((o0_5.length : Nat) : Int)))
                (bi (decide (0 ≤ (o1_4.getD ((IntKind.i64.wrap ((IntKind.i64.wrap (o7_1 * o1_1)) + x56)).toNat) 0) ∧ (o1_4.getD ((IntKind.i64.wrap ((IntKind.i64.wrap (o7_1 * o1_1)) + x56)).toNat) 0) < ((o1_5.length : Nat) : Int)))
                 (bi ((o0_5.getD ((o0_4.getD ((IntKind.i64.wrap ((IntKind.i64.wrap (o7 * o0_1)) + x56)).toNat) 0).toNat) 0) != (o1_5.getD ((o1_4.getD ((IntKind.i64.wrap ((IntKind.i64.wrap (o7_1 * o1_1)) + x56)).toNat) 0).toNat) 0))
                  (l_differ_back o2 o2_1 (o0_4.getD ((IntKind.i64.wrap ((IntKind.i64.wrap (o7 * o0_1)) + x56)).toNat) 0) (o1_4.getD ((IntKind.i64.wrap ((IntKind.i64.wrap (o7_1 * o1_1)) + x56)).toNat) 0) (mput (.pr (.int .i64) (.int .i64)) (.pr (.pr (.int .i64) (.int .i64)) (.int .i64)) (o0_4.getD ((IntKind.i64.wrap ((IntKind.i64.wrap (o7 * o0_1)) + x56)).toNat) 0, o1_4.getD ((IntKind.i64.wrap ((IntKind.i64.wrap (o7_1 * o1_1)) + x56)).toNat) 0) ((o7, o7_1), x56) o3)
                   (fun r3 r4 =>
                    bi (decide ((r4.length + o6.length) * 8 ≤ lim))
                     (K0 true (r4 ++ o6))
                     none))
                  (g28_13 i x55 (IntKind.i64.wrap (x56 + 1)) o0 o0_1 o0_2 o0_3 o0_4 o0_5 o1 o1_1 o1_2 o1_3 o1_4 o1_5 o2 o2_1 (mput (.pr (.int .i64) (.int .i64)) (.pr (.pr (.int .i64) (.int .i64)) (.int .i64)) (o0_4.getD ((IntKind.i64.wrap ((IntKind.i64.wrap (o7 * o0_1)) + x56)).toNat) 0, o1_4.getD ((IntKind.i64.wrap ((IntKind.i64.wrap (o7_1 * o1_1)) + x56)).toNat) 0) ((o7, o7_1), x56) o3) (o4 ++ [(o0_4.getD ((IntKind.i64.wrap ((IntKind.i64.wrap (o7 * o0_1)) + x56)).toNat) 0, o1_4.getD ((IntKind.i64.wrap ((IntKind.i64.wrap (o7_1 * o1_1)) + x56)).toNat) 0)]) o5 o5_1 o6 o7 o7_1))
                 none)
                none)
               (g28_13 i x55 (IntKind.i64.wrap (x56 + 1)) o0 o0_1 o0_2 o0_3 o0_4 o0_5 o1 o1_1 o1_2 o1_3 o1_4 o1_5 o2 o2_1 (mput (.pr (.int .i64) (.int .i64)) (.pr (.pr (.int .i64) (.int .i64)) (.int .i64)) (o0_4.getD ((IntKind.i64.wrap ((IntKind.i64.wrap (o7 * o0_1)) + x56)).toNat) 0, o1_4.getD ((IntKind.i64.wrap ((IntKind.i64.wrap (o7_1 * o1_1)) + x56)).toNat) 0) ((o7, o7_1), x56) o3) (o4 ++ [(o0_4.getD ((IntKind.i64.wrap ((IntKind.i64.wrap (o7 * o0_1)) + x56)).toNat) 0, o1_4.getD ((IntKind.i64.wrap ((IntKind.i64.wrap (o7_1 * o1_1)) + x56)).toNat) 0)]) o5 o5_1 o6 o7 o7_1))
              none)))
           none)
          none)
         (bi (mhas (.pr (.int .i64) (.int .i64)) (.pr (.pr (.int .i64) (.int .i64)) (.int .i64)) o3 (o0_4.getD ((IntKind.i64.wrap ((IntKind.i64.wrap (o7 * o0_1)) + x56)).toNat) 0, o1_4.getD ((IntKind.i64.wrap ((IntKind.i64.wrap (o7_1 * o1_1)) + x56)).toNat) 0))
          (g28_13 i x55 (IntKind.i64.wrap (x56 + 1)) o0 o0_1 o0_2 o0_3 o0_4 o0_5 o1 o1_1 o1_2 o1_3 o1_4 o1_5 o2 o2_1 o3 o4 o5 o5_1 o6 o7 o7_1)
          (bi (decide ((o4.length + [(o0_4.getD ((IntKind.i64.wrap ((IntKind.i64.wrap (o7 * o0_1)) + x56)).toNat) 0, o1_4.getD ((IntKind.i64.wrap ((IntKind.i64.wrap (o7_1 * o1_1)) + x56)).toNat) 0)].length) * 16 ≤ lim))
           (bi (o0 == 1)
            (bi (decide (0 ≤ (o0_4.getD ((IntKind.i64.wrap ((IntKind.i64.wrap (o7 * o0_1)) + x56)).toNat) 0) ∧ (o0_4.getD ((IntKind.i64.wrap ((IntKind.i64.wrap (o7 * o0_1)) + x56)).toNat) 0) < ((o0_5.length : Nat) : Int)))
             (bi (decide (0 ≤ (o1_4.getD ((IntKind.i64.wrap ((IntKind.i64.wrap (o7_1 * o1_1)) + x56)).toNat) 0) ∧ (o1_4.getD ((IntKind.i64.wrap ((IntKind.i64.wrap (o7_1 * o1_1)) + x56)).toNat) 0) < ((o1_5.length : Nat) : Int)))
              (bi ((o0_5.getD ((o0_4.getD ((IntKind.i64.wrap ((IntKind.i64.wrap (o7 * o0_1)) + x56)).toNat) 0).toNat) 0) != (o1_5.getD ((o1_4.getD ((IntKind.i64.wrap ((IntKind.i64.wrap (o7_1 * o1_1)) + x56)).toNat) 0).toNat) 0))
               (l_differ_back o2 o2_1 (o0_4.getD ((IntKind.i64.wrap ((IntKind.i64.wrap (o7 * o0_1)) + x56)).toNat) 0) (o1_4.getD ((IntKind.i64.wrap ((IntKind.i64.wrap (o7_1 * o1_1)) + x56)).toNat) 0) (mput (.pr (.int .i64) (.int .i64)) (.pr (.pr (.int .i64) (.int .i64)) (.int .i64)) (o0_4.getD ((IntKind.i64.wrap ((IntKind.i64.wrap (o7 * o0_1)) + x56)).toNat) 0, o1_4.getD ((IntKind.i64.wrap ((IntKind.i64.wrap (o7_1 * o1_1)) + x56)).toNat) 0) ((o7, o7_1), x56) o3)
                (fun r5 r6 =>
                 bi (decide ((r6.length + o6.length) * 8 ≤ lim))
                  (K0 true (r6 ++ o6))
                  none))
               (g28_13 i x55 (IntKind.i64.wrap (x56 + 1)) o0 o0_1 o0_2 o0_3 o0_4 o0_5 o1 o1_1 o1_2 o1_3 o1_4 o1_5 o2 o2_1 (mput (.pr (.int .i64) (.int .i64)) (.pr (.pr (.int .i64) (.int .i64)) (.int .i64)) (o0_4.getD ((IntKind.i64.wrap ((IntKind.i64.wrap (o7 * o0_1)) + x56)).toNat) 0, o1_4.getD ((IntKind.i64.wrap ((IntKind.i64.wrap (o7_1 * o1_1)) + x56)).toNat) 0) ((o7, o7_1), x56) o3) (o4 ++ [(o0_4.getD ((IntKind.i64.wrap ((IntKind.i64.wrap (o7 * o0_1)) + x56)).toNat) 0, o1_4.getD ((IntKind.i64.wrap ((IntKind.i64.wrap (o7_1 * o1_1)) + x56)).toNat) 0)]) o5 o5_1 o6 o7 o7_1))
              none)
             none)
            (g28_13 i x55 (IntKind.i64.wrap (x56 + 1)) o0 o0_1 o0_2 o0_3 o0_4 o0_5 o1 o1_1 o1_2 o1_3 o1_4 o1_5 o2 o2_1 (mput (.pr (.int .i64) (.int .i64)) (.pr (.pr (.int .i64) (.int .i64)) (.int .i64)) (o0_4.getD ((IntKind.i64.wrap ((IntKind.i64.wrap (o7 * o0_1)) + x56)).toNat) 0, o1_4.getD ((IntKind.i64.wrap ((IntKind.i64.wrap (o7_1 * o1_1)) + x56)).toNat) 0) ((o7, o7_1), x56) o3) (o4 ++ [(o0_4.getD ((IntKind.i64.wrap ((IntKind.i64.wrap (o7 * o0_1)) + x56)).toNat) 0, o1_4.getD ((IntKind.i64.wrap ((IntKind.i64.wrap (o7_1 * o1_1)) + x56)).toNat) 0)]) o5 o5_1 o6 o7 o7_1))
           none)))
        (bi (o0 == 2)
         (bi (decide (0 ≤ (IntKind.i64.wrap ((IntKind.i64.wrap (o7 * o0_1)) + x56)) ∧ (IntKind.i64.wrap ((IntKind.i64.wrap (o7 * o0_1)) + x56)) < ((o0_5.length : Nat) : Int)))
          (bi (decide (0 ≤ (IntKind.i64.wrap ((IntKind.i64.wrap (o7_1 * o1_1)) + x56)) ∧ (IntKind.i64.wrap ((IntKind.i64.wrap (o7_1 * o1_1)) + x56)) < ((o1_5.length : Nat) : Int)))
           (bi ((o0_5.getD ((IntKind.i64.wrap ((IntKind.i64.wrap (o7 * o0_1)) + x56)).toNat) 0) != (o1_5.getD ((IntKind.i64.wrap ((IntKind.i64.wrap (o7_1 * o1_1)) + x56)).toNat) 0))
            (l_differ_back o2 o2_1 o7 o7_1 o3
             (fun r7 r8 =>
              bi (decide ((r8.length + [x56].length) * 8 ≤ lim))
               (K0 true (r8 ++ [x56]))
               none))
            (bi (mhas (.pr (.int .i64) (.int .i64)) (.pr (.pr (.int .i64) (.int .i64)) (.int .i64)) o3 (o0_4.getD ((IntKind.i64.wrap ((IntKind.i64.wrap (o7 * o0_1)) + x56)).toNat) 0, o1_4.getD ((IntKind.i64.wrap ((IntKind.i64.wrap (o7_1 * o1_1)) + x56)).toNat) 0))
             (g28_13 i x55 (IntKind.i64.wrap (x56 + 1)) o0 o0_1 o0_2 o0_3 o0_4 o0_5 o1 o1_1 o1_2 o1_3 o1_4 o1_5 o2 o2_1 o3 o4 o5 o5_1 o6 o7 o7_1)
             (bi (decide ((o4.length + [(o0_4.getD ((IntKind.i64.wrap ((IntKind.i64.wrap (o7 * o0_1)) + x56)).toNat) 0, o1_4.getD ((IntKind.i64.wrap ((IntKind.i64.wrap (o7_1 * o1_1)) + x56)).toNat) 0)].length) * 16 ≤ lim))
              (bi (o0 == 1)
               (bi (decide (0 ≤ (o0_4.getD ((IntKind.i64.wrap ((IntKind.i64.wrap (o7 * o0_1)) + x56)).toNat) 0) ∧ (o0_4.getD ((IntKind.i64.wrap ((IntKind.i64.wrap (o7 * o0_1)) + x56)).toNat) 0) < ((o0_5.length : Nat) : Int)))
                (bi (decide (0 ≤ (o1_4.getD ((IntKind.i64.wrap ((IntKind.i64.wrap (o7_1 * o1_1)) + x56)).toNat) 0) ∧ (o1_4.getD ((IntKind.i64.wrap ((IntKind.i64.wrap (o7_1 * o1_1)) + x56)).toNat) 0) < ((o1_5.length : Nat) : Int)))
                 (bi ((o0_5.getD ((o0_4.getD ((IntKind.i64.wrap ((IntKind.i64.wrap (o7 * o0_1)) + x56)).toNat) 0).toNat) 0) != (o1_5.getD ((o1_4.getD ((IntKind.i64.wrap ((IntKind.i64.wrap (o7_1 * o1_1)) + x56)).toNat) 0).toNat) 0))
                  (l_differ_back o2 o2_1 (o0_4.getD ((IntKind.i64.wrap ((IntKind.i64.wrap (o7 * o0_1)) + x56)).toNat) 0) (o1_4.getD ((IntKind.i64.wrap ((IntKind.i64.wrap (o7_1 * o1_1)) + x56)).toNat) 0) (mput (.pr (.int .i64) (.int .i64)) (.pr (.pr (.int .i64) (.int .i64)) (.int .i64)) (o0_4.getD ((IntKind.i64.wrap ((IntKind.i64.wrap (o7 * o0_1)) + x56)).toNat) 0, o1_4.getD ((IntKind.i64.wrap ((IntKind.i64.wrap (o7_1 * o1_1)) + x56)).toNat) 0) ((o7, o7_1), x56) o3)
                   (fun r9 r10 =>
                    bi (decide ((r10.length + o6.length) * 8 ≤ lim))
                     (K0 true (r10 ++ o6))
                     none))
                  (g28_13 i x55 (IntKind.i64.wrap (x56 + 1)) o0 o0_1 o0_2 o0_3 o0_4 o0_5 o1 o1_1 o1_2 o1_3 o1_4 o1_5 o2 o2_1 (mput (.pr (.int .i64) (.int .i64)) (.pr (.pr (.int .i64) (.int .i64)) (.int .i64)) (o0_4.getD ((IntKind.i64.wrap ((IntKind.i64.wrap (o7 * o0_1)) + x56)).toNat) 0, o1_4.getD ((IntKind.i64.wrap ((IntKind.i64.wrap (o7_1 * o1_1)) + x56)).toNat) 0) ((o7, o7_1), x56) o3) (o4 ++ [(o0_4.getD ((IntKind.i64.wrap ((IntKind.i64.wrap (o7 * o0_1)) + x56)).toNat) 0, o1_4.getD ((IntKind.i64.wrap ((IntKind.i64.wrap (o7_1 * o1_1)) + x56)).toNat) 0)]) o5 o5_1 o6 o7 o7_1))
                 none)
                none)
               (g28_13 i x55 (IntKind.i64.wrap (x56 + 1)) o0 o0_1 o0_2 o0_3 o0_4 o0_5 o1 o1_1 o1_2 o1_3 o1_4 o1_5 o2 o2_1 (mput (.pr (.int .i64) (.int .i64)) (.pr (.pr (.int .i64) (.int .i64)) (.int .i64)) (o0_4.getD ((IntKind.i64.wrap ((IntKind.i64.wrap (o7 * o0_1)) + x56)).toNat) 0, o1_4.getD ((IntKind.i64.wrap ((IntKind.i64.wrap (o7_1 * o1_1)) + x56)).toNat) 0) ((o7, o7_1), x56) o3) (o4 ++ [(o0_4.getD ((IntKind.i64.wrap ((IntKind.i64.wrap (o7 * o0_1)) + x56)).toNat) 0, o1_4.getD ((IntKind.i64.wrap ((IntKind.i64.wrap (o7_1 * o1_1)) + x56)).toNat) 0)]) o5 o5_1 o6 o7 o7_1))
              none)))
           none)
          none)
         (bi (mhas (.pr (.int .i64) (.int .i64)) (.pr (.pr (.int .i64) (.int .i64)) (.int .i64)) o3 (o0_4.getD ((IntKind.i64.wrap ((IntKind.i64.wrap (o7 * o0_1)) + x56)).toNat) 0, o1_4.getD ((IntKind.i64.wrap ((IntKind.i64.wrap (o7_1 * o1_1)) + x56)).toNat) 0))
          (g28_13 i x55 (IntKind.i64.wrap (x56 + 1)) o0 o0_1 o0_2 o0_3 o0_4 o0_5 o1 o1_1 o1_2 o1_3 o1_4 o1_5 o2 o2_1 o3 o4 o5 o5_1 o6 o7 o7_1)
          (bi (decide ((o4.length + [(o0_4.getD ((IntKind.i64.wrap ((IntKind.i64.wrap (o7 * o0_1)) + x56)).toNat) 0, o1_4.getD ((IntKind.i64.wrap ((IntKind.i64.wrap (o7_1 * o1_1)) + x56)).toNat) 0)].length) * 16 ≤ lim))
           (bi (o0 == 1)
            (bi (decide (0 ≤ (o0_4.getD ((IntKind.i64.wrap ((IntKind.i64.wrap (o7 * o0_1)) + x56)).toNat) 0) ∧ (o0_4.getD ((IntKind.i64.wrap ((IntKind.i64.wrap (o7 * o0_1)) + x56)).toNat) 0) < ((o0_5.length : Nat) : Int)))
             (bi (decide (0 ≤ (o1_4.getD ((IntKind.i64.wrap ((IntKind.i64.wrap (o7_1 * o1_1)) + x56)).toNat) 0) ∧ (o1_4.getD ((IntKind.i64.wrap ((IntKind.i64.wrap (o7_1 * o1_1)) + x56)).toNat) 0) < ((o1_5.length : Nat) : Int)))
              (bi ((o0_5.getD ((o0_4.getD ((IntKind.i64.wrap ((IntKind.i64.wrap (o7 * o0_1)) + x56)).toNat) 0).toNat) 0) != (o1_5.getD ((o1_4.getD ((IntKind.i64.wrap ((IntKind.i64.wrap (o7_1 * o1_1)) + x56)).toNat) 0).toNat) 0))
               (l_differ_back o2 o2_1 (o0_4.getD ((IntKind.i64.wrap ((IntKind.i64.wrap (o7 * o0_1)) + x56)).toNat) 0) (o1_4.getD ((IntKind.i64.wrap ((IntKind.i64.wrap (o7_1 * o1_1)) + x56)).toNat) 0) (mput (.pr (.int .i64) (.int .i64)) (.pr (.pr (.int .i64) (.int .i64)) (.int .i64)) (o0_4.getD ((IntKind.i64.wrap ((IntKind.i64.wrap (o7 * o0_1)) + x56)).toNat) 0, o1_4.getD ((IntKind.i64.wrap ((IntKind.i64.wrap (o7_1 * o1_1)) + x56)).toNat) 0) ((o7, o7_1), x56) o3)
                (fun r11 r12 =>
                 bi (decide ((r12.length + o6.length) * 8 ≤ lim))
                  (K0 true (r12 ++ o6))
                  none))
               (g28_13 i x55 (IntKind.i64.wrap (x56 + 1)) o0 o0_1 o0_2 o0_3 o0_4 o0_5 o1 o1_1 o1_2 o1_3 o1_4 o1_5 o2 o2_1 (mput (.pr (.int .i64) (.int .i64)) (.pr (.pr (.int .i64) (.int .i64)) (.int .i64)) (o0_4.getD ((IntKind.i64.wrap ((IntKind.i64.wrap (o7 * o0_1)) + x56)).toNat) 0, o1_4.getD ((IntKind.i64.wrap ((IntKind.i64.wrap (o7_1 * o1_1)) + x56)).toNat) 0) ((o7, o7_1), x56) o3) (o4 ++ [(o0_4.getD ((IntKind.i64.wrap ((IntKind.i64.wrap (o7 * o0_1)) + x56)).toNat) 0, o1_4.getD ((IntKind.i64.wrap ((IntKind.i64.wrap (o7_1 * o1_1)) + x56)).toNat) 0)]) o5 o5_1 o6 o7 o7_1))
              none)
             none)
            (g28_13 i x55 (IntKind.i64.wrap (x56 + 1)) o0 o0_1 o0_2 o0_3 o0_4 o0_5 o1 o1_1 o1_2 o1_3 o1_4 o1_5 o2 o2_1 (mput (.pr (.int .i64) (.int .i64)) (.pr (.pr (.int .i64) (.int .i64)) (.int .i64)) (o0_4.getD ((IntKind.i64.wrap ((IntKind.i64.wrap (o7 * o0_1)) + x56)).toNat) 0, o1_4.getD ((IntKind.i64.wrap ((IntKind.i64.wrap (o7_1 * o1_1)) + x56)).toNat) 0) ((o7, o7_1), x56) o3) (o4 ++ [(o0_4.getD ((IntKind.i64.wrap ((IntKind.i64.wrap (o7 * o0_1)) + x56)).toNat) 0, o1_4.getD ((IntKind.i64.wrap ((IntKind.i64.wrap (o7_1 * o1_1)) + x56)).toNat) 0)]) o5 o5_1 o6 o7 o7_1))
           none))))
       none)
      none)
     (g28_9 (IntKind.i64.wrap (i + 1)) o0 o0_1 o0_2 o0_3 o0_4 o0_5 o1 o1_1 o1_2 o1_3 o1_4 o1_5 o2 o2_1 o3 o4 o5 o5_1 o6)) (fun i o0 o0_1 o0_2 o0_3 o0_4 o0_5 o1 o1_1 o1_2 o1_3 o1_4 o1_5 o2 o2_1 o3 o4 o5 o5_1 o6 => g (at' Try.f28 9) ⟨fr0 145 [(3, .ptr 0 0), (4, .ptr 1 0), (5, .ptr 2 0), (8, .mp 3), (9, .own 4), (10, .ptr 5 0), (11, .own 6), (12, .v (.int .i64 i))], [.box 24 [.v (.int .i64 o0), .v (.int .i64 o0_1), .v (.int .i64 o0_2), .v (.int .i64 o0_3), .rd ⟨false, 3, (.int .i64), o0_4⟩, .rd ⟨false, 3, (.int .i64), o0_5⟩], .box 24 [.v (.int .i64 o1), .v (.int .i64 o1_1), .v (.int .i64 o1_2), .v (.int .i64 o1_3), .rd ⟨false, 3, (.int .i64), o1_4⟩, .rd ⟨false, 3, (.int .i64), o1_5⟩], .box 61 [.v (.int .i64 o2), .v (.int .i64 o2_1)], .map (.pr (.int .i64) (.int .i64)) (.pr (.pr (.int .i64) (.int .i64)) (.int .i64)) o3, .row ⟨true, 61, (.pr (.int .i64) (.int .i64)), o4⟩, .box 61 [.v (.int .i64 o5), .v (.int .i64 o5_1)], .row ⟨true, 3, (.int .i64), o6⟩]⟩) (fun i x55 x56 o0 o0_1 o0_2 o0_3 o0_4 o0_5 o1 o1_1 o1_2 o1_3 o1_4 o1_5 o2 o2_1 o3 o4 o5 o5_1 o6 o7 o7_1 => g (at' Try.f28 13) ⟨fr0 145 [(3, .ptr 0 0), (4, .ptr 1 0), (5, .ptr 2 0), (8, .mp 3), (9, .own 4), (10, .ptr 5 0), (11, .own 6), (12, .v (.int .i64 i)), (13, .ptr 7 0), (55, .v (.int .i64 x55)), (56, .v (.int .i64 x56))], [.box 24 [.v (.int .i64 o0), .v (.int .i64 o0_1), .v (.int .i64 o0_2), .v (.int .i64 o0_3), .rd ⟨false, 3, (.int .i64), o0_4⟩, .rd ⟨false, 3, (.int .i64), o0_5⟩], .box 24 [.v (.int .i64 o1), .v (.int .i64 o1_1), .v (.int .i64 o1_2), .v (.int .i64 o1_3), .rd ⟨false, 3, (.int .i64), o1_4⟩, .rd ⟨false, 3, (.int .i64), o1_5⟩], .box 61 [.v (.int .i64 o2), .v (.int .i64 o2_1)], .map (.pr (.int .i64) (.int .i64)) (.pr (.pr (.int .i64) (.int .i64)) (.int .i64)) o3, .row ⟨true, 61, (.pr (.int .i64) (.int .i64)), o4⟩, .box 61 [.v (.int .i64 o5), .v (.int .i64 o5_1)], .row ⟨true, 3, (.int .i64), o6⟩, .box 61 [.v (.int .i64 o7), .v (.int .i64 o7_1)]]⟩) (fun r0 r1 => K (.tup [.own 0, .v (.bool r0)]) [.row ⟨true, 3, (.int .i64), r1⟩]) i x55 x56 o0 o0_1 o0_2 o0_3 o0_4 o0_5 o1 o1_1 o1_2 o1_3 o1_4 o1_5 o2 o2_1 o3 o4 o5 o5_1 o6 o7 o7_1 := by kernel_rfl

theorem step_differ_search_13 {R : Type} (g : List Item → St → Option R) (K : AV → List O → Option R) (i : Int) (x55 : Int) (x56 : Int) (o0 : Int) (o0_1 : Int) (o0_2 : Int) (o0_3 : Int) (o0_4 : List Int) (o0_5 : List Int) (o1 : Int) (o1_1 : Int) (o1_2 : Int) (o1_3 : Int) (o1_4 : List Int) (o1_5 : List Int) (o2 : Int) (o2_1 : Int) (o3 : List ((Int × Int) × ((Int × Int) × Int))) (o4 : List (Int × Int)) (o5 : Int) (o5_1 : Int) (o6 : List Int) (o7 : Int) (o7_1 : Int) :
    runSeg Try.prog (T_differ_search @l_differ_back) cuts_differ_search 0 g (finish Try.prog Try.f28 0 K) (at' Try.f28 13) ⟨fr0 145 [(3, .ptr 0 0), (4, .ptr 1 0), (5, .ptr 2 0), (8, .mp 3), (9, .own 4), (10, .ptr 5 0), (11, .own 6), (12, .v (.int .i64 i)), (13, .ptr 7 0), (55, .v (.int .i64 x55)), (56, .v (.int .i64 x56))], [.box 24 [.v (.int .i64 o0), .v (.int .i64 o0_1), .v (.int .i64 o0_2), .v (.int .i64 o0_3), .rd ⟨false, 3, (.int .i64), o0_4⟩, .rd ⟨false, 3, (.int .i64), o0_5⟩], .box 24 [.v (.int .i64 o1), .v (.int .i64 o1_1), .v (.int .i64 o1_2), .v (.int .i64 o1_3), .rd ⟨false, 3, (.int .i64), o1_4⟩, .rd ⟨false, 3, (.int .i64), o1_5⟩], .box 61 [.v (.int .i64 o2), .v (.int .i64 o2_1)], .map (.pr (.int .i64) (.int .i64)) (.pr (.pr (.int .i64) (.int .i64)) (.int .i64)) o3, .row ⟨true, 61, (.pr (.int .i64) (.int .i64)), o4⟩, .box 61 [.v (.int .i64 o5), .v (.int .i64 o5_1)], .row ⟨true, 3, (.int .i64), o6⟩, .box 61 [.v (.int .i64 o7), .v (.int .i64 o7_1)]]⟩ =
    s_differ_search_13 (fun i o0 o0_1 o0_2 o0_3 o0_4 o0_5 o1 o1_1 o1_2 o1_3 o1_4 o1_5 o2 o2_1 o3 o4 o5 o5_1 o6 => g (at' Try.f28 9) ⟨fr0 145 [(3, .ptr 0 0), (4, .ptr 1 0), (5, .ptr 2 0), (8, .mp 3), (9, .own 4), (10, .ptr 5 0), (11, .own 6), (12, .v (.int .i64 i))], [.box 24 [.v (.int .i64 o0), .v (.int .i64 o0_1), .v (.int .i64 o0_2), .v (.int .i64 o0_3), .rd ⟨false, 3, (.int .i64), o0_4⟩, .rd ⟨false, 3, (.int .i64), o0_5⟩], .box 24 [.v (.int .i64 o1), .v (.int .i64 o1_1), .v (.int .i64 o1_2), .v (.int .i64 o1_3), .rd ⟨false, 3, (.int .i64), o1_4⟩, .rd ⟨false, 3, (.int .i64), o1_5⟩], .box 61 [.v (.int .i64 o2), .v (.int .i64 o2_1)], .map (.pr (.int .i64) (.int .i64)) (.pr (.pr (.int .i64) (.int .i64)) (.int .i64)) o3, .row ⟨true, 61, (.pr (.int .i64) (.int .i64)), o4⟩, .box 61 [.v (.int .i64 o5), .v (.int .i64 o5_1)], .row ⟨true, 3, (.int .i64), o6⟩]⟩) (fun i x55 x56 o0 o0_1 o0_2 o0_3 o0_4 o0_5 o1 o1_1 o1_2 o1_3 o1_4 o1_5 o2 o2_1 o3 o4 o5 o5_1 o6 o7 o7_1 => g (at' Try.f28 13) ⟨fr0 145 [(3, .ptr 0 0), (4, .ptr 1 0), (5, .ptr 2 0), (8, .mp 3), (9, .own 4), (10, .ptr 5 0), (11, .own 6), (12, .v (.int .i64 i)), (13, .ptr 7 0), (55, .v (.int .i64 x55)), (56, .v (.int .i64 x56))], [.box 24 [.v (.int .i64 o0), .v (.int .i64 o0_1), .v (.int .i64 o0_2), .v (.int .i64 o0_3), .rd ⟨false, 3, (.int .i64), o0_4⟩, .rd ⟨false, 3, (.int .i64), o0_5⟩], .box 24 [.v (.int .i64 o1), .v (.int .i64 o1_1), .v (.int .i64 o1_2), .v (.int .i64 o1_3), .rd ⟨false, 3, (.int .i64), o1_4⟩, .rd ⟨false, 3, (.int .i64), o1_5⟩], .box 61 [.v (.int .i64 o2), .v (.int .i64 o2_1)], .map (.pr (.int .i64) (.int .i64)) (.pr (.pr (.int .i64) (.int .i64)) (.int .i64)) o3, .row ⟨true, 61, (.pr (.int .i64) (.int .i64)), o4⟩, .box 61 [.v (.int .i64 o5), .v (.int .i64 o5_1)], .row ⟨true, 3, (.int .i64), o6⟩, .box 61 [.v (.int .i64 o7), .v (.int .i64 o7_1)]]⟩) (fun r0 r1 => K (.tup [.own 0, .v (.bool r0)]) [.row ⟨true, 3, (.int .i64), r1⟩]) i x55 x56 o0 o0_1 o0_2 o0_3 o0_4 o0_5 o1 o1_1 o1_2 o1_3 o1_4 o1_5 o2 o2_1 o3 o4 o5 o5_1 o6 o7 o7_1 := gstep_differ_search_13 @l_differ_back g K i x55 x56 o0 o0_1 o0_2 o0_3 o0_4 o0_5 o1 o1_1 o1_2 o1_3 o1_4 o1_5 o2 o2_1 o3 o4 o5 o5_1 o6 o7 o7_1

theorem gentry_differ_search (l_differ_back : {R : Type} → Int → Int → Int → Int → (List ((Int × Int) × ((Int × Int) × Int))) → ((List ((Int × Int) × ((Int × Int) × Int))) → (List Int) → Option R) → Option R) {R : Type} (fuel : Nat) (K : AV → List O → Option R) (a : Int) (a_1 : Int) (a_2 : Int) (a_3 : Int) (a_4 : List Int) (a_5 : List Int) (b : Int) (b_1 : Int) (b_2 : Int) (b_3 : Int) (b_4 : List Int) (b_5 : List Int) (start : Int) (start_1 : Int) :
    fnRun Try.prog (T_differ_search @l_differ_back) cuts_differ_search Try.f28 fuel [.agg [.v (.int .i64 a), .v (.int .i64 a_1), .v (.int .i64 a_2), .v (.int .i64 a_3), .rd ⟨false, 3, (.int .i64), a_4⟩, .rd ⟨false, 3, (.int .i64), a_5⟩], .agg [.v (.int .i64 b), .v (.int .i64 b_1), .v (.int .i64 b_2), .v (.int .i64 b_3), .rd ⟨false, 3, (.int .i64), b_4⟩, .rd ⟨false, 3, (.int .i64), b_5⟩], .agg [.v (.int .i64 start), .v (.int .i64 start_1)]] [] K =
    (fun (g28_9 : Int → Int → Int → Int → Int → (List Int) → (List Int) → Int → Int → Int → Int → (List Int) → (List Int) → Int → Int → (List ((Int × Int) × ((Int × Int) × Int))) → (List (Int × Int)) → Int → Int → (List Int) → Option R) (g28_13 : Int → Int → Int → Int → Int → Int → Int → (List Int) → (List Int) → Int → Int → Int → Int → (List Int) → (List Int) → Int → Int → (List ((Int × Int) × ((Int × Int) × Int))) → (List (Int × Int)) → Int → Int → (List Int) → Int → Int → Option R) (K0 : Bool → (List Int) → Option R) (a : Int) (a_1 : Int) (a_2 : Int) (a_3 : Int) (a_4 : List Int) (a_5 : List Int) (b : Int) (b_1 : Int) (b_2 : Int) (b_3 : Int) (b_4 : List Int) (b_5 : List Int) (start : Int) (start_1 : Int) =>
    bi (a == 1)
     (bi (decide (0 ≤ start ∧ start < ((a_5.length : Nat) : Int)))
      (bi (decide (0 ≤ start_1 ∧ start_1 < ((b_5.length : Nat) : Int)))
       (bi ((a_5.getD start.toNat 0) != (b_5.getD start_1.toNat 0))
        (K0 true ([] : List Int))
        (g28_9 0 a a_1 a_2 a_3 a_4 a_5 b b_1 b_2 b_3 b_4 b_5 start start_1 (mput (.pr (.int .i64) (.int .i64)) (.pr (.pr (.int .i64) (.int .i64)) (.int .i64)) (start, start_1) ((0, 0), 0) ([] : List ((Int × Int) × ((Int × Int) × Int)))) [(start, start_1)] 0 0 ([] : List Int)))
       none)
      none)
     (g28_9 0 a a_1 a_2 a_3 a_4 a_5 b b_1 b_2 b_3 b_4 b_5 start start_1 (mput (.pr (.int .i64) (.int .i64)) (.pr (.pr (.int .i64) (.int .i64)) (.int .i64)) (start, start_1) ((0, 0), 0) ([] : List ((Int × Int) × ((Int × Int) × Int)))) [(start, start_1)] 0 0 ([] : List Int))) (fun i o0 o0_1 o0_2 o0_3 o0_4 o0_5 o1 o1_1 o1_2 o1_3 o1_4 o1_5 o2 o2_1 o3 o4 o5 o5_1 o6 => (runO Try.prog (T_differ_search @l_differ_back) cuts_differ_search 0 (finish Try.prog Try.f28 0 K) fuel) (at' Try.f28 9) ⟨fr0 145 [(3, .ptr 0 0), (4, .ptr 1 0), (5, .ptr 2 0), (8, .mp 3), (9, .own 4), (10, .ptr 5 0), (11, .own 6), (12, .v (.int .i64 i))], [.box 24 [.v (.int .i64 o0), .v (.int .i64 o0_1), .v (.int .i64 o0_2), .v (.int .i64 o0_3), .rd ⟨false, 3, (.int .i64), o0_4⟩, .rd ⟨false, 3, (.int .i64), o0_5⟩], .box 24 [.v (.int .i64 o1), .v (.int .i64 o1_1), .v (.int .i64 o1_2), .v (.int .i64 o1_3), .rd ⟨false, 3, (.int .i64), o1_4⟩, .rd ⟨false, 3, (.int .i64), o1_5⟩], .box 61 [.v (.int .i64 o2), .v (.int .i64 o2_1)], .map (.pr (.int .i64) (.int .i64)) (.pr (.pr (.int .i64) (.int .i64)) (.int .i64)) o3, .row ⟨true, 61, (.pr (.int .i64) (.int .i64)), o4⟩, .box 61 [.v (.int .i64 o5), .v (.int .i64 o5_1)], .row ⟨true, 3, (.int .i64), o6⟩]⟩) (fun i x55 x56 o0 o0_1 o0_2 o0_3 o0_4 o0_5 o1 o1_1 o1_2 o1_3 o1_4 o1_5 o2 o2_1 o3 o4 o5 o5_1 o6 o7 o7_1 => (runO Try.prog (T_differ_search @l_differ_back) cuts_differ_search 0 (finish Try.prog Try.f28 0 K) fuel) (at' Try.f28 13) ⟨fr0 145 [(3, .ptr 0 0), (4, .ptr 1 0), (5, .ptr 2 0), (8, .mp 3), (9, .own 4), (10, .ptr 5 0), (11, .own 6), (12, .v (.int .i64 i)), (13, .ptr 7 0), (55, .v (.int .i64 x55)), (56, .v (.int .i64 x56))], [.box 24 [.v (.int .i64 o0), .v (.int .i64 o0_1), .v (.int .i64 o0_2), .v (.int .i64 o0_3), .rd ⟨false, 3, (.int .i64), o0_4⟩, .rd ⟨false, 3, (.int .i64), o0_5⟩], .box 24 [.v (.int .i64 o1), .v (.int .i64 o1_1), .v (.int .i64 o1_2), .v (.int .i64 o1_3), .rd ⟨false, 3, (.int .i64), o1_4⟩, .rd ⟨false, 3, (.int .i64), o1_5⟩], .box 61 [.v (.int .i64 o2), .v (.int .i64 o2_1)], .map (.pr (.int .i64) (.int .i64)) (.pr (.pr (.int .i64) (.int .i64)) (.int .i64)) o3, .row ⟨true, 61, (.pr (.int .i64) (.int .i64)), o4⟩, .box 61 [.v (.int .i64 o5), .v (.int .i64 o5_1)], .row ⟨true, 3, (.int .i64), o6⟩, .box 61 [.v (.int .i64 o7), .v (.int .i64 o7_1)]]⟩) (fun r0 r1 => K (.tup [.own 0, .v (.bool r0)]) [.row ⟨true, 3, (.int .i64), r1⟩]) a a_1 a_2 a_3 a_4 a_5 b b_1 b_2 b_3 b_4 b_5 start start_1 := by kernel_rfl

theorem entry_differ_search {R : Type} (fuel : Nat) (K : AV → List O → Option R) (a : Int) (a_1 : Int) (a_2 : Int) (a_3 : Int) (a_4 : List Int) (a_5 : List Int) (b : Int) (b_1 : Int) (b_2 : Int) (b_3 : Int) (b_4 : List Int) (b_5 : List Int) (start : Int) (start_1 : Int) :
    fnRun Try.prog (T_differ_search @l_differ_back) cuts_differ_search Try.f28 fuel [.agg [.v (.int .i64 a), .v (.int .i64 a_1), .v (.int .i64 a_2), .v (.int .i64 a_3), .rd ⟨false, 3, (.int .i64), a_4⟩, .rd ⟨false, 3, (.int .i64), a_5⟩], .agg [.v (.int .i64 b), .v (.int .i64 b_1), .v (.int .i64 b_2), .v (.int .i64 b_3), .rd ⟨false, 3, (.int .i64), b_4⟩, .rd ⟨false, 3, (.int .i64), b_5⟩], .agg [.v (.int .i64 start), .v (.int .i64 start_1)]] [] K =
    e_differ_search (fun i o0 o0_1 o0_2 o0_3 o0_4 o0_5 o1 o1_1 o1_2 o1_3 o1_4 o1_5 o2 o2_1 o3 o4 o5 o5_1 o6 => (runO Try.prog (T_differ_search @l_differ_back) cuts_differ_search 0 (finish Try.prog Try.f28 0 K) fuel) (at' Try.f28 9) ⟨fr0 145 [(3, .ptr 0 0), (4, .ptr 1 0), (5, .ptr 2 0), (8, .mp 3), (9, .own 4), (10, .ptr 5 0), (11, .own 6), (12, .v (.int .i64 i))], [.box 24 [.v (.int .i64 o0), .v (.int .i64 o0_1), .v (.int .i64 o0_2), .v (.int .i64 o0_3), .rd ⟨false, 3, (.int .i64), o0_4⟩, .rd ⟨false, 3, (.int .i64), o0_5⟩], .box 24 [.v (.int .i64 o1), .v (.int .i64 o1_1), .v (.int .i64 o1_2), .v (.int .i64 o1_3), .rd ⟨false, 3, (.int .i64), o1_4⟩, .rd ⟨false, 3, (.int .i64), o1_5⟩], .box 61 [.v (.int .i64 o2), .v (.int .i64 o2_1)], .map (.pr (.int .i64) (.int .i64)) (.pr (.pr (.int .i64) (.int .i64)) (.int .i64)) o3, .row ⟨true, 61, (.pr (.int .i64) (.int .i64)), o4⟩, .box 61 [.v (.int .i64 o5), .v (.int .i64 o5_1)], .row ⟨true, 3, (.int .i64), o6⟩]⟩) (fun i x55 x56 o0 o0_1 o0_2 o0_3 o0_4 o0_5 o1 o1_1 o1_2 o1_3 o1_4 o1_5 o2 o2_1 o3 o4 o5 o5_1 o6 o7 o7_1 => (runO Try.prog (T_differ_search @l_differ_back) cuts_differ_search 0 (finish Try.prog Try.f28 0 K) fuel) (at' Try.f28 13) ⟨fr0 145 [(3, .ptr 0 0), (4, .ptr 1 0), (5, .ptr 2 0), (8, .mp 3), (9, .own 4), (10, .ptr 5 0), (11, .own 6), (12, .v (.int .i64 i)), (13, .ptr 7 0), (55, .v (.int .i64 x55)), (56, .v (.int .i64 x56))], [.box 24 [.v (.int .i64 o0), .v (.int .i64 o0_1), .v (.int .i64 o0_2), .v (.int .i64 o0_3), .rd ⟨false, 3, (.int .i64), o0_4⟩, .rd ⟨false, 3, (.int .i64), o0_5⟩], .box 24 [.v (.int .i64 o1), .v (.int .i64 o1_1), .v (.int .i64 o1_2), .v (.int .i64 o1_3), .rd ⟨false, 3, (.int .i64), o1_4⟩, .rd ⟨false, 3, (.int .i64), o1_5⟩], .box 61 [.v (.int .i64 o2), .v (.int .i64 o2_1)], .map (.pr (.int .i64) (.int .i64)) (.pr (.pr (.int .i64) (.int .i64)) (.int .i64)) o3, .row ⟨true, 61, (.pr (.int .i64) (.int .i64)), o4⟩, .box 61 [.v (.int .i64 o5), .v (.int .i64 o5_1)], .row ⟨true, 3, (.int .i64), o6⟩, .box 61 [.v (.int .i64 o7), .v (.int .i64 o7_1)]]⟩) (fun r0 r1 => K (.tup [.own 0, .v (.bool r0)]) [.row ⟨true, 3, (.int .i64), r1⟩]) a a_1 a_2 a_3 a_4 a_5 b b_1 b_2 b_3 b_4 b_5 start start_1 := gentry_differ_search @l_differ_back fuel K a a_1 a_2 a_3 a_4 a_5 b b_1 b_2 b_3 b_4 b_5 start start_1

theorem runs_differ_search {R : Type} (K : AV → List O → Option R) : ∀ fuel : Nat,
    (fun i o0 o0_1 o0_2 o0_3 o0_4 o0_5 o1 o1_1 o1_2 o1_3 o1_4 o1_5 o2 o2_1 o3 o4 o5 o5_1 o6 => (runO Try.prog (T_differ_search @l_differ_back) cuts_differ_search 0 (finish Try.prog Try.f28 0 K) fuel) (at' Try.f28 9) ⟨fr0 145 [(3, .ptr 0 0), (4, .ptr 1 0), (5, .ptr 2 0), (8, .mp 3), (9, .own 4), (10, .ptr 5 0), (11, .own 6), (12, .v (.int .i64 i))], [.box 24 [.v (.int .i64 o0), .v (.int .i64 o0_1), .v (.int .i64 o0_2), .v (.int .i64 o0_3), .rd ⟨false, 3, (.int .i64), o0_4⟩, .rd ⟨false, 3, (.int .i64), o0_5⟩], .box 24 [.v (.int .i64 o1), .v (.int .i64 o1_1), .v (.int .i64 o1_2), .v (.int .i64 o1_3), .rd ⟨false, 3, (.int .i64), o1_4⟩, .rd ⟨false, 3, (.int .i64), o1_5⟩], .box 61 [.v (.int .i64 o2), .v (.int .i64 o2_1)], .map (.pr (.int .i64) (.int .i64)) (.pr (.pr (.int .i64) (.int .i64)) (.int .i64)) o3, .row ⟨true, 61, (.pr (.int .i64) (.int .i64)), o4⟩, .box 61 [.v (.int .i64 o5), .v (.int .i64 o5_1)], .row ⟨true, 3, (.int .i64), o6⟩]⟩) = (run_differ_search (fun r0 r1 => K (.tup [.own 0, .v (.bool r0)]) [.row ⟨true, 3, (.int .i64), r1⟩]) fuel).1 ∧
    (fun i x55 x56 o0 o0_1 o0_2 o0_3 o0_4 o0_5 o1 o1_1 o1_2 o1_3 o1_4 o1_5 o2 o2_1 o3 o4 o5 o5_1 o6 o7 o7_1 => (runO Try.prog (T_differ_search @l_differ_back) cuts_differ_search 0 (finish Try.prog Try.f28 0 K) fuel) (at' Try.f28 13) ⟨fr0 145 [(3, .ptr 0 0), (4, .ptr 1 0), (5, .ptr 2 0), (8, .mp 3), (9, .own 4), (10, .ptr 5 0), (11, .own 6), (12, .v (.int .i64 i)), (13, .ptr 7 0), (55, .v (.int .i64 x55)), (56, .v (.int .i64 x56))], [.box 24 [.v (.int .i64 o0), .v (.int .i64 o0_1), .v (.int .i64 o0_2), .v (.int .i64 o0_3), .rd ⟨false, 3, (.int .i64), o0_4⟩, .rd ⟨false, 3, (.int .i64), o0_5⟩], .box 24 [.v (.int .i64 o1), .v (.int .i64 o1_1), .v (.int .i64 o1_2), .v (.int .i64 o1_3), .rd ⟨false, 3, (.int .i64), o1_4⟩, .rd ⟨false, 3, (.int .i64), o1_5⟩], .box 61 [.v (.int .i64 o2), .v (.int .i64 o2_1)], .map (.pr (.int .i64) (.int .i64)) (.pr (.pr (.int .i64) (.int .i64)) (.int .i64)) o3, .row ⟨true, 61, (.pr (.int .i64) (.int .i64)), o4⟩, .box 61 [.v (.int .i64 o5), .v (.int .i64 o5_1)], .row ⟨true, 3, (.int .i64), o6⟩, .box 61 [.v (.int .i64 o7), .v (.int .i64 o7_1)]]⟩) = (run_differ_search (fun r0 r1 => K (.tup [.own 0, .v (.bool r0)]) [.row ⟨true, 3, (.int .i64), r1⟩]) fuel).2
  | 0 => ⟨rfl, rfl⟩
  | fuel + 1 => by
    have ih := runs_differ_search K fuel
    refine ⟨?_, ?_⟩
    · funext i o0 o0_1 o0_2 o0_3 o0_4 o0_5 o1 o1_1 o1_2 o1_3 o1_4 o1_5 o2 o2_1 o3 o4 o5 o5_1 o6
      refine (step_differ_search_9 _ K i o0 o0_1 o0_2 o0_3 o0_4 o0_5 o1 o1_1 o1_2 o1_3 o1_4 o1_5 o2 o2_1 o3 o4 o5 o5_1 o6).trans ?_
      rw [ih.1, ih.2]
      rfl
    · funext i x55 x56 o0 o0_1 o0_2 o0_3 o0_4 o0_5 o1 o1_1 o1_2 o1_3 o1_4 o1_5 o2 o2_1 o3 o4 o5 o5_1 o6 o7 o7_1
      refine (step_differ_search_13 _ K i x55 x56 o0 o0_1 o0_2 o0_3 o0_4 o0_5 o1 o1_1 o1_2 o1_3 o1_4 o1_5 o2 o2_1 o3 o4 o5 o5_1 o6 o7 o7_1).trans ?_
      rw [ih.1, ih.2]
      rfl

def S_differ_search (l_differ_search : {R : Type} → Int → Int → Int → Int → (List Int) → (List Int) → Int → Int → Int → Int → (List Int) → (List Int) → Int → Int → (Bool → (List Int) → Option R) → Option R) : Sum := ⟨[], fun {R} args ob K => match args, ob with
  | [.agg [.v (.int .i64 a), .v (.int .i64 a_1), .v (.int .i64 a_2), .v (.int .i64 a_3), .rd ⟨false, 3, (.int .i64), a_4⟩, .rd ⟨false, 3, (.int .i64), a_5⟩], .agg [.v (.int .i64 b), .v (.int .i64 b_1), .v (.int .i64 b_2), .v (.int .i64 b_3), .rd ⟨false, 3, (.int .i64), b_4⟩, .rd ⟨false, 3, (.int .i64), b_5⟩], .agg [.v (.int .i64 start), .v (.int .i64 start_1)]], [] => l_differ_search a a_1 a_2 a_3 a_4 a_5 b b_1 b_2 b_3 b_4 b_5 start start_1 (fun r0 r1 => K (.tup [.own 0, .v (.bool r0)]) [.row ⟨true, 3, (.int .i64), r1⟩])
  | _, _ => none⟩

theorem sound_differ_search : Sound Try.prog 28 (S_differ_search @l_differ_search) := by
  refine fn_sound (cuts := cuts_differ_search) (fn := Try.f28) (Γ := (T_differ_search @l_differ_back)) wide right_T_differ_search Try.func28 fun {R} K r args ob h => ?_
  unfold S_differ_search at h
  dsimp only at h
  split at h
  · obtain ⟨n, hn⟩ := ok_differ_search _ _ _ _ _ _ _ _ _ _ _ _ _ _ _ h
    refine ⟨Nat.le_of_ble_eq_true (by kernel_rfl), n, (entry_differ_search n K _ _ _ _ _ _ _ _ _ _ _ _ _ _).trans ?_⟩
    rw [(runs_differ_search K n).1, (runs_differ_search K n).2]
    exact hn
  · cases h

theorem call_differ_search : Callable Try.prog 28 := ⟨_, Try.func28, by kernel_rfl, by kernel_rfl⟩

def T_differ_Separate (l_differ_search : {R : Type} → Int → Int → Int → Int → (List Int) → (List Int) → Int → Int → Int → Int → (List Int) → (List Int) → Int → Int → (Bool → (List Int) → Option R) → Option R) (l_differ_fit : {R : Type} → Int → Int → Int → Int → (List Int) → (List Int) → Int → Int → Int → Int → (List Int) → (List Int) → (Int → Option R) → Option R) : FuncId → Option Sum := (addS (addS G0 28 (S_differ_search @l_differ_search)) 27 (S_differ_fit @l_differ_fit))

theorem right_T_differ_Separate : Right Try.prog (T_differ_Separate @l_differ_search @l_differ_fit) := (right_add (right_add right_G0 call_differ_search sound_differ_search) call_differ_fit sound_differ_fit)

abbrev cuts_differ_Separate : Cuts := []

theorem gentry_differ_Separate (l_differ_search : {R : Type} → Int → Int → Int → Int → (List Int) → (List Int) → Int → Int → Int → Int → (List Int) → (List Int) → Int → Int → (Bool → (List Int) → Option R) → Option R) (l_differ_fit : {R : Type} → Int → Int → Int → Int → (List Int) → (List Int) → Int → Int → Int → Int → (List Int) → (List Int) → (Int → Option R) → Option R) {R : Type} (K : AV → List O → Option R) (a : Int) (a_1 : Int) (a_2 : Int) (a_3 : Int) (a_4 : List Int) (a_5 : List Int) (b : Int) (b_1 : Int) (b_2 : Int) (b_3 : Int) (b_4 : List Int) (b_5 : List Int) :
    fnRun Try.prog (T_differ_Separate @l_differ_search @l_differ_fit) cuts_differ_Separate Try.f11 0 [.agg [.v (.int .i64 a), .v (.int .i64 a_1), .v (.int .i64 a_2), .v (.int .i64 a_3), .rd ⟨false, 3, (.int .i64), a_4⟩, .rd ⟨false, 3, (.int .i64), a_5⟩], .agg [.v (.int .i64 b), .v (.int .i64 b_1), .v (.int .i64 b_2), .v (.int .i64 b_3), .rd ⟨false, 3, (.int .i64), b_4⟩, .rd ⟨false, 3, (.int .i64), b_5⟩]] [] K =
    (fun (a : Int) (a_1 : Int) (a_2 : Int) (a_3 : Int) (a_4 : List Int) (a_5 : List Int) (b : Int) (b_1 : Int) (b_2 : Int) (b_3 : Int) (b_4 : List Int) (b_5 : List Int) (K0 : Bool → Int → (List Int) → Option R) =>
    l_differ_fit a a_1 a_2 a_3 a_4 a_5 b b_1 b_2 b_3 b_4 b_5
     (fun r1 =>
      bi (r1 != 0)
       (K0 false r1 ([] : List Int))
       (l_differ_search a a_1 a_2 a_3 a_4 a_5 b b_1 b_2 b_3 b_4 b_5 0 0
        (fun r2 r3 =>
         K0 r2 0 r3)))) a a_1 a_2 a_3 a_4 a_5 b b_1 b_2 b_3 b_4 b_5 (fun r0 r1 r2 => K (.tup [.own 0, .v (.bool r0), .v (.int .i64 r1)]) [.row ⟨true, 3, (.int .i64), r2⟩]) := by kernel_rfl

theorem entry_differ_Separate {R : Type} (K : AV → List O → Option R) (a : Int) (a_1 : Int) (a_2 : Int) (a_3 : Int) (a_4 : List Int) (a_5 : List Int) (b : Int) (b_1 : Int) (b_2 : Int) (b_3 : Int) (b_4 : List Int) (b_5 : List Int) :
    fnRun Try.prog (T_differ_Separate @l_differ_search @l_differ_fit) cuts_differ_Separate Try.f11 0 [.agg [.v (.int .i64 a), .v (.int .i64 a_1), .v (.int .i64 a_2), .v (.int .i64 a_3), .rd ⟨false, 3, (.int .i64), a_4⟩, .rd ⟨false, 3, (.int .i64), a_5⟩], .agg [.v (.int .i64 b), .v (.int .i64 b_1), .v (.int .i64 b_2), .v (.int .i64 b_3), .rd ⟨false, 3, (.int .i64), b_4⟩, .rd ⟨false, 3, (.int .i64), b_5⟩]] [] K =
    l_differ_Separate a a_1 a_2 a_3 a_4 a_5 b b_1 b_2 b_3 b_4 b_5 (fun r0 r1 r2 => K (.tup [.own 0, .v (.bool r0), .v (.int .i64 r1)]) [.row ⟨true, 3, (.int .i64), r2⟩]) := gentry_differ_Separate @l_differ_search @l_differ_fit K a a_1 a_2 a_3 a_4 a_5 b b_1 b_2 b_3 b_4 b_5

def S_differ_Separate (l_differ_Separate : {R : Type} → Int → Int → Int → Int → (List Int) → (List Int) → Int → Int → Int → Int → (List Int) → (List Int) → (Bool → Int → (List Int) → Option R) → Option R) : Sum := ⟨[], fun {R} args ob K => match args, ob with
  | [.agg [.v (.int .i64 a), .v (.int .i64 a_1), .v (.int .i64 a_2), .v (.int .i64 a_3), .rd ⟨false, 3, (.int .i64), a_4⟩, .rd ⟨false, 3, (.int .i64), a_5⟩], .agg [.v (.int .i64 b), .v (.int .i64 b_1), .v (.int .i64 b_2), .v (.int .i64 b_3), .rd ⟨false, 3, (.int .i64), b_4⟩, .rd ⟨false, 3, (.int .i64), b_5⟩]], [] => l_differ_Separate a a_1 a_2 a_3 a_4 a_5 b b_1 b_2 b_3 b_4 b_5 (fun r0 r1 r2 => K (.tup [.own 0, .v (.bool r0), .v (.int .i64 r1)]) [.row ⟨true, 3, (.int .i64), r2⟩])
  | _, _ => none⟩

theorem sound_differ_Separate : Sound Try.prog 11 (S_differ_Separate @l_differ_Separate) := by
  refine fn_sound (cuts := cuts_differ_Separate) (fn := Try.f11) (Γ := (T_differ_Separate @l_differ_search @l_differ_fit)) wide right_T_differ_Separate Try.func11 fun {R} K r args ob h => ?_
  unfold S_differ_Separate at h
  dsimp only at h
  split at h
  · exact ⟨Nat.le_of_ble_eq_true (by kernel_rfl), 0, (entry_differ_Separate K _ _ _ _ _ _ _ _ _ _ _ _).trans h⟩
  · cases h

theorem call_differ_Separate : Callable Try.prog 11 := ⟨_, Try.func11, by kernel_rfl, by kernel_rfl⟩

def T_differ_Apart (l_differ_search : {R : Type} → Int → Int → Int → Int → (List Int) → (List Int) → Int → Int → Int → Int → (List Int) → (List Int) → Int → Int → (Bool → (List Int) → Option R) → Option R) (l_machine_Check : {R : Type} → Int → Int → Int → Int → (List Int) → (List Int) → (Int → Int → Option R) → Option R) : FuncId → Option Sum := (addS (addS G0 28 (S_differ_search @l_differ_search)) 31 (S_machine_Check @l_machine_Check))

theorem right_T_differ_Apart : Right Try.prog (T_differ_Apart @l_differ_search @l_machine_Check) := (right_add (right_add right_G0 call_differ_search sound_differ_search) call_machine_Check sound_machine_Check)

abbrev cuts_differ_Apart : Cuts := []

theorem gentry_differ_Apart (l_differ_search : {R : Type} → Int → Int → Int → Int → (List Int) → (List Int) → Int → Int → Int → Int → (List Int) → (List Int) → Int → Int → (Bool → (List Int) → Option R) → Option R) (l_machine_Check : {R : Type} → Int → Int → Int → Int → (List Int) → (List Int) → (Int → Int → Option R) → Option R) {R : Type} (K : AV → List O → Option R) (m : Int) (m_1 : Int) (m_2 : Int) (m_3 : Int) (m_4 : List Int) (m_5 : List Int) (s : Int) (t : Int) :
    fnRun Try.prog (T_differ_Apart @l_differ_search @l_machine_Check) cuts_differ_Apart Try.f17 0 [.agg [.v (.int .i64 m), .v (.int .i64 m_1), .v (.int .i64 m_2), .v (.int .i64 m_3), .rd ⟨false, 3, (.int .i64), m_4⟩, .rd ⟨false, 3, (.int .i64), m_5⟩], .v (.int .i64 s), .v (.int .i64 t)] [] K =
    (fun (m : Int) (m_1 : Int) (m_2 : Int) (m_3 : Int) (m_4 : List Int) (m_5 : List Int) (s : Int) (t : Int) (K0 : Bool → Int → (List Int) → Option R) =>
    l_machine_Check m m_1 m_2 m_3 m_4 m_5
     (fun r1 r2 =>
      bi (r2 != 0)
       (K0 false r2 ([] : List Int))
       (bi (decide (s < 0))
        (K0 false 32 ([] : List Int))
        (bi (decide (t < 0))
         (K0 false 32 ([] : List Int))
         (bi (decide (s ≥ m_3))
          (K0 false 32 ([] : List Int))
          (bi (decide (t ≥ m_3))
           (K0 false 32 ([] : List Int))
           (l_differ_search m m_1 m_2 m_3 m_4 m_5 m m_1 m_2 m_3 m_4 m_5 s t
            (fun r3 r4 =>
             K0 r3 0 r4)))))))) m m_1 m_2 m_3 m_4 m_5 s t (fun r0 r1 r2 => K (.tup [.own 0, .v (.bool r0), .v (.int .i64 r1)]) [.row ⟨true, 3, (.int .i64), r2⟩]) := by kernel_rfl

theorem entry_differ_Apart {R : Type} (K : AV → List O → Option R) (m : Int) (m_1 : Int) (m_2 : Int) (m_3 : Int) (m_4 : List Int) (m_5 : List Int) (s : Int) (t : Int) :
    fnRun Try.prog (T_differ_Apart @l_differ_search @l_machine_Check) cuts_differ_Apart Try.f17 0 [.agg [.v (.int .i64 m), .v (.int .i64 m_1), .v (.int .i64 m_2), .v (.int .i64 m_3), .rd ⟨false, 3, (.int .i64), m_4⟩, .rd ⟨false, 3, (.int .i64), m_5⟩], .v (.int .i64 s), .v (.int .i64 t)] [] K =
    l_differ_Apart m m_1 m_2 m_3 m_4 m_5 s t (fun r0 r1 r2 => K (.tup [.own 0, .v (.bool r0), .v (.int .i64 r1)]) [.row ⟨true, 3, (.int .i64), r2⟩]) := gentry_differ_Apart @l_differ_search @l_machine_Check K m m_1 m_2 m_3 m_4 m_5 s t

def S_differ_Apart (l_differ_Apart : {R : Type} → Int → Int → Int → Int → (List Int) → (List Int) → Int → Int → (Bool → Int → (List Int) → Option R) → Option R) : Sum := ⟨[], fun {R} args ob K => match args, ob with
  | [.agg [.v (.int .i64 m), .v (.int .i64 m_1), .v (.int .i64 m_2), .v (.int .i64 m_3), .rd ⟨false, 3, (.int .i64), m_4⟩, .rd ⟨false, 3, (.int .i64), m_5⟩], .v (.int .i64 s), .v (.int .i64 t)], [] => l_differ_Apart m m_1 m_2 m_3 m_4 m_5 s t (fun r0 r1 r2 => K (.tup [.own 0, .v (.bool r0), .v (.int .i64 r1)]) [.row ⟨true, 3, (.int .i64), r2⟩])
  | _, _ => none⟩

theorem sound_differ_Apart : Sound Try.prog 17 (S_differ_Apart @l_differ_Apart) := by
  refine fn_sound (cuts := cuts_differ_Apart) (fn := Try.f17) (Γ := (T_differ_Apart @l_differ_search @l_machine_Check)) wide right_T_differ_Apart Try.func17 fun {R} K r args ob h => ?_
  unfold S_differ_Apart at h
  dsimp only at h
  split at h
  · exact ⟨Nat.le_of_ble_eq_true (by kernel_rfl), 0, (entry_differ_Apart K _ _ _ _ _ _ _ _).trans h⟩
  · cases h

theorem call_differ_Apart : Callable Try.prog 17 := ⟨_, Try.func17, by kernel_rfl, by kernel_rfl⟩

def T_differ_Equal (l_differ_Separate : {R : Type} → Int → Int → Int → Int → (List Int) → (List Int) → Int → Int → Int → Int → (List Int) → (List Int) → (Bool → Int → (List Int) → Option R) → Option R) : FuncId → Option Sum := (addS G0 11 (S_differ_Separate @l_differ_Separate))

theorem right_T_differ_Equal : Right Try.prog (T_differ_Equal @l_differ_Separate) := (right_add right_G0 call_differ_Separate sound_differ_Separate)

abbrev cuts_differ_Equal : Cuts := []

theorem gentry_differ_Equal (l_differ_Separate : {R : Type} → Int → Int → Int → Int → (List Int) → (List Int) → Int → Int → Int → Int → (List Int) → (List Int) → (Bool → Int → (List Int) → Option R) → Option R) {R : Type} (K : AV → List O → Option R) (a : Int) (a_1 : Int) (a_2 : Int) (a_3 : Int) (a_4 : List Int) (a_5 : List Int) (b : Int) (b_1 : Int) (b_2 : Int) (b_3 : Int) (b_4 : List Int) (b_5 : List Int) :
    fnRun Try.prog (T_differ_Equal @l_differ_Separate) cuts_differ_Equal Try.f13 0 [.agg [.v (.int .i64 a), .v (.int .i64 a_1), .v (.int .i64 a_2), .v (.int .i64 a_3), .rd ⟨false, 3, (.int .i64), a_4⟩, .rd ⟨false, 3, (.int .i64), a_5⟩], .agg [.v (.int .i64 b), .v (.int .i64 b_1), .v (.int .i64 b_2), .v (.int .i64 b_3), .rd ⟨false, 3, (.int .i64), b_4⟩, .rd ⟨false, 3, (.int .i64), b_5⟩]] [] K =
    (fun (a : Int) (a_1 : Int) (a_2 : Int) (a_3 : Int) (a_4 : List Int) (a_5 : List Int) (b : Int) (b_1 : Int) (b_2 : Int) (b_3 : Int) (b_4 : List Int) (b_5 : List Int) (K0 : Bool → Int → Option R) =>
    l_differ_Separate a a_1 a_2 a_3 a_4 a_5 b b_1 b_2 b_3 b_4 b_5
     (fun r1 r2 r3 =>
      bi (r2 == 0)
       (K0 (!r1) r2)
       (K0 false r2))) a a_1 a_2 a_3 a_4 a_5 b b_1 b_2 b_3 b_4 b_5 (fun r0 r1 => K (.tup [.v (.bool r0), .v (.int .i64 r1)]) []) := by kernel_rfl

theorem entry_differ_Equal {R : Type} (K : AV → List O → Option R) (a : Int) (a_1 : Int) (a_2 : Int) (a_3 : Int) (a_4 : List Int) (a_5 : List Int) (b : Int) (b_1 : Int) (b_2 : Int) (b_3 : Int) (b_4 : List Int) (b_5 : List Int) :
    fnRun Try.prog (T_differ_Equal @l_differ_Separate) cuts_differ_Equal Try.f13 0 [.agg [.v (.int .i64 a), .v (.int .i64 a_1), .v (.int .i64 a_2), .v (.int .i64 a_3), .rd ⟨false, 3, (.int .i64), a_4⟩, .rd ⟨false, 3, (.int .i64), a_5⟩], .agg [.v (.int .i64 b), .v (.int .i64 b_1), .v (.int .i64 b_2), .v (.int .i64 b_3), .rd ⟨false, 3, (.int .i64), b_4⟩, .rd ⟨false, 3, (.int .i64), b_5⟩]] [] K =
    l_differ_Equal a a_1 a_2 a_3 a_4 a_5 b b_1 b_2 b_3 b_4 b_5 (fun r0 r1 => K (.tup [.v (.bool r0), .v (.int .i64 r1)]) []) := gentry_differ_Equal @l_differ_Separate K a a_1 a_2 a_3 a_4 a_5 b b_1 b_2 b_3 b_4 b_5

def S_differ_Equal (l_differ_Equal : {R : Type} → Int → Int → Int → Int → (List Int) → (List Int) → Int → Int → Int → Int → (List Int) → (List Int) → (Bool → Int → Option R) → Option R) : Sum := ⟨[], fun {R} args ob K => match args, ob with
  | [.agg [.v (.int .i64 a), .v (.int .i64 a_1), .v (.int .i64 a_2), .v (.int .i64 a_3), .rd ⟨false, 3, (.int .i64), a_4⟩, .rd ⟨false, 3, (.int .i64), a_5⟩], .agg [.v (.int .i64 b), .v (.int .i64 b_1), .v (.int .i64 b_2), .v (.int .i64 b_3), .rd ⟨false, 3, (.int .i64), b_4⟩, .rd ⟨false, 3, (.int .i64), b_5⟩]], [] => l_differ_Equal a a_1 a_2 a_3 a_4 a_5 b b_1 b_2 b_3 b_4 b_5 (fun r0 r1 => K (.tup [.v (.bool r0), .v (.int .i64 r1)]) [])
  | _, _ => none⟩

theorem sound_differ_Equal : Sound Try.prog 13 (S_differ_Equal @l_differ_Equal) := by
  refine fn_sound (cuts := cuts_differ_Equal) (fn := Try.f13) (Γ := (T_differ_Equal @l_differ_Separate)) wide right_T_differ_Equal Try.func13 fun {R} K r args ob h => ?_
  unfold S_differ_Equal at h
  dsimp only at h
  split at h
  · exact ⟨Nat.le_of_ble_eq_true (by kernel_rfl), 0, (entry_differ_Equal K _ _ _ _ _ _ _ _ _ _ _ _).trans h⟩
  · cases h

theorem call_differ_Equal : Callable Try.prog 13 := ⟨_, Try.func13, by kernel_rfl, by kernel_rfl⟩

def T_tutorlaw07_num : FuncId → Option Sum := G0

theorem right_T_tutorlaw07_num : Right Try.prog T_tutorlaw07_num := right_G0

abbrev cuts_tutorlaw07_num : Cuts := []

theorem gentry_tutorlaw07_num {R : Type} (K : AV → List O → Option R) (e : Int) :
    fnRun Try.prog T_tutorlaw07_num cuts_tutorlaw07_num Try.f15 0 [.v (.int .i64 e)] [] K =
    (fun (e : Int) (K0 : Int → Option R) =>
    K0 e) e (fun r0 => K (.v (.int .i64 r0)) []) := by kernel_rfl

theorem entry_tutorlaw07_num {R : Type} (K : AV → List O → Option R) (e : Int) :
    fnRun Try.prog T_tutorlaw07_num cuts_tutorlaw07_num Try.f15 0 [.v (.int .i64 e)] [] K =
    l_tutorlaw07_num e (fun r0 => K (.v (.int .i64 r0)) []) := gentry_tutorlaw07_num K e

def S_tutorlaw07_num (l_tutorlaw07_num : {R : Type} → Int → (Int → Option R) → Option R) : Sum := ⟨[], fun {R} args ob K => match args, ob with
  | [.v (.int .i64 e)], [] => l_tutorlaw07_num e (fun r0 => K (.v (.int .i64 r0)) [])
  | _, _ => none⟩

theorem sound_tutorlaw07_num : Sound Try.prog 15 (S_tutorlaw07_num @l_tutorlaw07_num) := by
  refine fn_sound (cuts := cuts_tutorlaw07_num) (fn := Try.f15) (Γ := T_tutorlaw07_num) wide right_T_tutorlaw07_num Try.func15 fun {R} K r args ob h => ?_
  unfold S_tutorlaw07_num at h
  dsimp only at h
  split at h
  · exact ⟨Nat.le_of_ble_eq_true (by kernel_rfl), 0, (entry_tutorlaw07_num K _).trans h⟩
  · cases h

theorem call_tutorlaw07_num : Callable Try.prog 15 := ⟨_, Try.func15, by kernel_rfl, by kernel_rfl⟩

def T_tutorref01_Same : FuncId → Option Sum := G0

theorem right_T_tutorref01_Same : Right Try.prog T_tutorref01_Same := right_G0

abbrev cuts_tutorref01_Same : Cuts := [(4, [0, 1, 5])]

theorem gstep_tutorref01_Same_4 {R : Type} (g : List Item → St → Option R) (K : AV → List O → Option R) (a : List Int) (b : List Int) (i : Int) :
    runSeg Try.prog T_tutorref01_Same cuts_tutorref01_Same 0 g (finish Try.prog Try.f14 0 K) (at' Try.f14 4) ⟨fr0 26 [(0, .rd ⟨false, 3, (.int .i64), a⟩), (1, .rd ⟨false, 3, (.int .i64), b⟩), (5, .v (.int .i64 i))], []⟩ =
    (fun (g14_4 : (List Int) → (List Int) → Int → Option R) (K0 : Bool → Option R) (a : List Int) (b : List Int) (i : Int) =>
    bi (decide (i < (a.length : Int)))
     (bi (decide (0 ≤ i ∧ i < ((a.length : Nat) : Int)))
      (bi (decide (0 ≤ i ∧ i < ((b.length : Nat) : Int)))
       (bi ((a.getD i.toNat 0) != (b.getD i.toNat 0))
        (K0 false)
        (g14_4 a b (IntKind.i64.wrap (i + 1))))
       none)
      none)
     (K0 true)) (fun a b i => g (at' Try.f14 4) ⟨fr0 26 [(0, .rd ⟨false, 3, (.int .i64), a⟩), (1, .rd ⟨false, 3, (.int .i64), b⟩), (5, .v (.int .i64 i))], []⟩) (fun r0 => K (.v (.bool r0)) []) a b i := by kernel_rfl

theorem step_tutorref01_Same_4 {R : Type} (g : List Item → St → Option R) (K : AV → List O → Option R) (a : List Int) (b : List Int) (i : Int) :
    runSeg Try.prog T_tutorref01_Same cuts_tutorref01_Same 0 g (finish Try.prog Try.f14 0 K) (at' Try.f14 4) ⟨fr0 26 [(0, .rd ⟨false, 3, (.int .i64), a⟩), (1, .rd ⟨false, 3, (.int .i64), b⟩), (5, .v (.int .i64 i))], []⟩ =
    s_tutorref01_Same_4 (fun a b i => g (at' Try.f14 4) ⟨fr0 26 [(0, .rd ⟨false, 3, (.int .i64), a⟩), (1, .rd ⟨false, 3, (.int .i64), b⟩), (5, .v (.int .i64 i))], []⟩) (fun r0 => K (.v (.bool r0)) []) a b i := gstep_tutorref01_Same_4 g K a b i

theorem gentry_tutorref01_Same {R : Type} (fuel : Nat) (K : AV → List O → Option R) (a : List Int) (b : List Int) :
    fnRun Try.prog T_tutorref01_Same cuts_tutorref01_Same Try.f14 fuel [.rd ⟨false, 3, (.int .i64), a⟩, .rd ⟨false, 3, (.int .i64), b⟩] [] K =
    (fun (g14_4 : (List Int) → (List Int) → Int → Option R) (K0 : Bool → Option R) (a : List Int) (b : List Int) =>
    bi ((a.length : Int) != (b.length : Int))
     (K0 false)
     (g14_4 a b 0)) (fun a b i => (runO Try.prog T_tutorref01_Same cuts_tutorref01_Same 0 (finish Try.prog Try.f14 0 K) fuel) (at' Try.f14 4) ⟨fr0 26 [(0, .rd ⟨false, 3, (.int .i64), a⟩), (1, .rd ⟨false, 3, (.int .i64), b⟩), (5, .v (.int .i64 i))], []⟩) (fun r0 => K (.v (.bool r0)) []) a b := by kernel_rfl

theorem entry_tutorref01_Same {R : Type} (fuel : Nat) (K : AV → List O → Option R) (a : List Int) (b : List Int) :
    fnRun Try.prog T_tutorref01_Same cuts_tutorref01_Same Try.f14 fuel [.rd ⟨false, 3, (.int .i64), a⟩, .rd ⟨false, 3, (.int .i64), b⟩] [] K =
    e_tutorref01_Same (fun a b i => (runO Try.prog T_tutorref01_Same cuts_tutorref01_Same 0 (finish Try.prog Try.f14 0 K) fuel) (at' Try.f14 4) ⟨fr0 26 [(0, .rd ⟨false, 3, (.int .i64), a⟩), (1, .rd ⟨false, 3, (.int .i64), b⟩), (5, .v (.int .i64 i))], []⟩) (fun r0 => K (.v (.bool r0)) []) a b := gentry_tutorref01_Same fuel K a b

theorem runs_tutorref01_Same {R : Type} (K : AV → List O → Option R) : ∀ fuel : Nat,
    (fun a b i => (runO Try.prog T_tutorref01_Same cuts_tutorref01_Same 0 (finish Try.prog Try.f14 0 K) fuel) (at' Try.f14 4) ⟨fr0 26 [(0, .rd ⟨false, 3, (.int .i64), a⟩), (1, .rd ⟨false, 3, (.int .i64), b⟩), (5, .v (.int .i64 i))], []⟩) = (run_tutorref01_Same (fun r0 => K (.v (.bool r0)) []) fuel)
  | 0 => rfl
  | fuel + 1 => by
    have ih := runs_tutorref01_Same K fuel
    funext a b i
    refine (step_tutorref01_Same_4 _ K a b i).trans ?_
    rw [ih]
    rfl

def S_tutorref01_Same (l_tutorref01_Same : {R : Type} → (List Int) → (List Int) → (Bool → Option R) → Option R) : Sum := ⟨[], fun {R} args ob K => match args, ob with
  | [.rd ⟨false, 3, (.int .i64), a⟩, .rd ⟨false, 3, (.int .i64), b⟩], [] => l_tutorref01_Same a b (fun r0 => K (.v (.bool r0)) [])
  | _, _ => none⟩

theorem sound_tutorref01_Same : Sound Try.prog 14 (S_tutorref01_Same @l_tutorref01_Same) := by
  refine fn_sound (cuts := cuts_tutorref01_Same) (fn := Try.f14) (Γ := T_tutorref01_Same) wide right_T_tutorref01_Same Try.func14 fun {R} K r args ob h => ?_
  unfold S_tutorref01_Same at h
  dsimp only at h
  split at h
  · obtain ⟨n, hn⟩ := ok_tutorref01_Same _ _ _ h
    refine ⟨Nat.le_of_ble_eq_true (by kernel_rfl), n, (entry_tutorref01_Same n K _ _).trans ?_⟩
    rw [(runs_tutorref01_Same K n)]
    exact hn
  · cases h

theorem call_tutorref01_Same : Callable Try.prog 14 := ⟨_, Try.func14, by kernel_rfl, by kernel_rfl⟩

def T_tutorlaw07_live (l_tutorref01_Same : {R : Type} → (List Int) → (List Int) → (Bool → Option R) → Option R) (l_tutorlaw07_num : {R : Type} → Int → (Int → Option R) → Option R) (l_differ_Equal : {R : Type} → Int → Int → Int → Int → (List Int) → (List Int) → Int → Int → Int → Int → (List Int) → (List Int) → (Bool → Int → Option R) → Option R) (l_differ_Apart : {R : Type} → Int → Int → Int → Int → (List Int) → (List Int) → Int → Int → (Bool → Int → (List Int) → Option R) → Option R) (l_differ_Separate : {R : Type} → Int → Int → Int → Int → (List Int) → (List Int) → Int → Int → Int → Int → (List Int) → (List Int) → (Bool → Int → (List Int) → Option R) → Option R) : FuncId → Option Sum := (addS (addS (addS (addS (addS G0 14 (S_tutorref01_Same @l_tutorref01_Same)) 15 (S_tutorlaw07_num @l_tutorlaw07_num)) 13 (S_differ_Equal @l_differ_Equal)) 17 (S_differ_Apart @l_differ_Apart)) 11 (S_differ_Separate @l_differ_Separate))

theorem right_T_tutorlaw07_live : Right Try.prog (T_tutorlaw07_live @l_tutorref01_Same @l_tutorlaw07_num @l_differ_Equal @l_differ_Apart @l_differ_Separate) := (right_add (right_add (right_add (right_add (right_add right_G0 call_tutorref01_Same sound_tutorref01_Same) call_tutorlaw07_num sound_tutorlaw07_num) call_differ_Equal sound_differ_Equal) call_differ_Apart sound_differ_Apart) call_differ_Separate sound_differ_Separate)

abbrev cuts_tutorlaw07_live : Cuts := []

theorem gentry_tutorlaw07_live (l_tutorref01_Same : {R : Type} → (List Int) → (List Int) → (Bool → Option R) → Option R) (l_tutorlaw07_num : {R : Type} → Int → (Int → Option R) → Option R) (l_differ_Equal : {R : Type} → Int → Int → Int → Int → (List Int) → (List Int) → Int → Int → Int → Int → (List Int) → (List Int) → (Bool → Int → Option R) → Option R) (l_differ_Apart : {R : Type} → Int → Int → Int → Int → (List Int) → (List Int) → Int → Int → (Bool → Int → (List Int) → Option R) → Option R) (l_differ_Separate : {R : Type} → Int → Int → Int → Int → (List Int) → (List Int) → Int → Int → Int → Int → (List Int) → (List Int) → (Bool → Int → (List Int) → Option R) → Option R) {R : Type} (K : AV → List O → Option R)  :
    fnRun Try.prog (T_tutorlaw07_live @l_tutorref01_Same @l_tutorlaw07_num @l_differ_Equal @l_differ_Apart @l_differ_Separate) cuts_tutorlaw07_live Try.f9 0 [] [] K =
    (fun  (K0 : Bool → Option R) =>
    l_differ_Separate 1 1 2 2 [1, 0] [0, 1] 1 1 2 3 [1, 2, 0] [0, 1, 1]
     (fun r1 r2 r3 =>
      l_differ_Apart 1 1 2 2 [1, 0] [0, 1] 0 1
       (fun r4 r5 r6 =>
        l_differ_Equal 1 1 2 2 [1, 0] [0, 1] 1 1 2 2 [1, 0] [0, 1]
         (fun r7 r8 =>
          l_tutorlaw07_num r2
           (fun r9 =>
            l_tutorlaw07_num r5
             (fun r10 =>
              l_tutorlaw07_num r8
               (fun r11 =>
                bi ((IntKind.i64.wrap ((IntKind.i64.wrap (r9 + r10)) + r11)) == 0)
                 (bi r1
                  (l_tutorref01_Same r3 [0, 0]
                   (fun r12 =>
                    bi r12
                     (bi r4
                      (bi ((r6.length : Int) == 0)
                       (K0 r7)
                       (K0 false))
                      (K0 false))
                     (K0 false)))
                  (K0 false))
                 (K0 false))))))))  (fun r0 => K (.v (.bool r0)) []) := by kernel_rfl

theorem entry_tutorlaw07_live {R : Type} (K : AV → List O → Option R)  :
    fnRun Try.prog (T_tutorlaw07_live @l_tutorref01_Same @l_tutorlaw07_num @l_differ_Equal @l_differ_Apart @l_differ_Separate) cuts_tutorlaw07_live Try.f9 0 [] [] K =
    l_tutorlaw07_live  (fun r0 => K (.v (.bool r0)) []) := gentry_tutorlaw07_live @l_tutorref01_Same @l_tutorlaw07_num @l_differ_Equal @l_differ_Apart @l_differ_Separate K 

def S_tutorlaw07_live (l_tutorlaw07_live : {R : Type} → (Bool → Option R) → Option R) : Sum := ⟨[], fun {R} args ob K => match args, ob with
  | [], [] => l_tutorlaw07_live  (fun r0 => K (.v (.bool r0)) [])
  | _, _ => none⟩

theorem sound_tutorlaw07_live : Sound Try.prog 9 (S_tutorlaw07_live @l_tutorlaw07_live) := by
  refine fn_sound (cuts := cuts_tutorlaw07_live) (fn := Try.f9) (Γ := (T_tutorlaw07_live @l_tutorref01_Same @l_tutorlaw07_num @l_differ_Equal @l_differ_Apart @l_differ_Separate)) wide right_T_tutorlaw07_live Try.func9 fun {R} K r args ob h => ?_
  unfold S_tutorlaw07_live at h
  dsimp only at h
  split at h
  · exact ⟨Nat.le_of_ble_eq_true (by kernel_rfl), 0, (entry_tutorlaw07_live K).trans h⟩
  · cases h

theorem call_tutorlaw07_live : Callable Try.prog 9 := ⟨_, Try.func9, by kernel_rfl, by kernel_rfl⟩

def T_tutorref03_Check : FuncId → Option Sum := G0

theorem right_T_tutorref03_Check : Right Try.prog T_tutorref03_Check := right_G0

abbrev cuts_tutorref03_Check : Cuts := [(15, [1, 5]), (20, [1, 6])]

theorem gstep_tutorref03_Check_15 {R : Type} (g : List Item → St → Option R) (K : AV → List O → Option R) (i : Int) (o0 : Int) (o0_1 : Int) (o0_2 : Int) (o0_3 : Int) (o0_4 : List Int) (o0_5 : List Int) :
    runSeg Try.prog T_tutorref03_Check cuts_tutorref03_Check 0 g (finish Try.prog Try.f29 0 K) (at' Try.f29 15) ⟨fr0 123 [(1, .ptr 0 0), (5, .v (.int .i64 i))], [.box 24 [.v (.int .i64 o0), .v (.int .i64 o0_1), .v (.int .i64 o0_2), .v (.int .i64 o0_3), .rd ⟨false, 3, (.int .i64), o0_4⟩, .rd ⟨false, 3, (.int .i64), o0_5⟩]]⟩ =
    (fun (g29_15 : Int → Int → Int → Int → Int → (List Int) → (List Int) → Option R) (g29_20 : Int → Int → Int → Int → Int → (List Int) → (List Int) → Option R) (K0 : Int → Int → Option R) (i : Int) (o0 : Int) (o0_1 : Int) (o0_2 : Int) (o0_3 : Int) (o0_4 : List Int) (o0_5 : List Int) =>
    bi (decide (i < (o0_4.length : Int)))
     (bi (decide (0 ≤ i ∧ i < ((o0_4.length : Nat) : Int)))
      (bi (decide ((o0_4.getD i.toNat 0) < 0))
       (K0 i 32)
       (bi (decide (0 ≤ i ∧ i < ((o0_4.length : Nat) : Int)))
        (bi (decide ((o0_4.getD i.toNat 0) ≥ o0_3))
         (K0 i 32)
         (g29_15 (IntKind.i64.wrap (i + 1)) o0 o0_1 o0_2 o0_3 o0_4 o0_5))
        none))
      none)
     (g29_20 0 o0 o0_1 o0_2 o0_3 o0_4 o0_5)) (fun i o0 o0_1 o0_2 o0_3 o0_4 o0_5 => g (at' Try.f29 15) ⟨fr0 123 [(1, .ptr 0 0), (5, .v (.int .i64 i))], [.box 24 [.v (.int .i64 o0), .v (.int .i64 o0_1), .v (.int .i64 o0_2), .v (.int .i64 o0_3), .rd ⟨false, 3, (.int .i64), o0_4⟩, .rd ⟨false, 3, (.int .i64), o0_5⟩]]⟩) (fun i o0 o0_1 o0_2 o0_3 o0_4 o0_5 => g (at' Try.f29 20) ⟨fr0 123 [(1, .ptr 0 0), (6, .v (.int .i64 i))], [.box 24 [.v (.int .i64 o0), .v (.int .i64 o0_1), .v (.int .i64 o0_2), .v (.int .i64 o0_3), .rd ⟨false, 3, (.int .i64), o0_4⟩, .rd ⟨false, 3, (.int .i64), o0_5⟩]]⟩) (fun r0 r1 => K (.tup [.v (.int .i64 r0), .v (.int .i64 r1)]) []) i o0 o0_1 o0_2 o0_3 o0_4 o0_5 := by kernel_rfl

theorem step_tutorref03_Check_15 {R : Type} (g : List Item → St → Option R) (K : AV → List O → Option R) (i : Int) (o0 : Int) (o0_1 : Int) (o0_2 : Int) (o0_3 : Int) (o0_4 : List Int) (o0_5 : List Int) :
    runSeg Try.prog T_tutorref03_Check cuts_tutorref03_Check 0 g (finish Try.prog Try.f29 0 K) (at' Try.f29 15) ⟨fr0 123 [(1, .ptr 0 0), (5, .v (.int .i64 i))], [.box 24 [.v (.int .i64 o0), .v (.int .i64 o0_1), .v (.int .i64 o0_2), .v (.int .i64 o0_3), .rd ⟨false, 3, (.int .i64), o0_4⟩, .rd ⟨false, 3, (.int .i64), o0_5⟩]]⟩ =
    s_tutorref03_Check_15 (fun i o0 o0_1 o0_2 o0_3 o0_4 o0_5 => g (at' Try.f29 15) ⟨fr0 123 [(1, .ptr 0 0), (5, .v (.int .i64 i))], [.box 24 [.v (.int .i64 o0), .v (.int .i64 o0_1), .v (.int .i64 o0_2), .v (.int .i64 o0_3), .rd ⟨false, 3, (.int .i64), o0_4⟩, .rd ⟨false, 3, (.int .i64), o0_5⟩]]⟩) (fun i o0 o0_1 o0_2 o0_3 o0_4 o0_5 => g (at' Try.f29 20) ⟨fr0 123 [(1, .ptr 0 0), (6, .v (.int .i64 i))], [.box 24 [.v (.int .i64 o0), .v (.int .i64 o0_1), .v (.int .i64 o0_2), .v (.int .i64 o0_3), .rd ⟨false, 3, (.int .i64), o0_4⟩, .rd ⟨false, 3, (.int .i64), o0_5⟩]]⟩) (fun r0 r1 => K (.tup [.v (.int .i64 r0), .v (.int .i64 r1)]) []) i o0 o0_1 o0_2 o0_3 o0_4 o0_5 := gstep_tutorref03_Check_15 g K i o0 o0_1 o0_2 o0_3 o0_4 o0_5

theorem gstep_tutorref03_Check_20 {R : Type} (g : List Item → St → Option R) (K : AV → List O → Option R) (i : Int) (o0 : Int) (o0_1 : Int) (o0_2 : Int) (o0_3 : Int) (o0_4 : List Int) (o0_5 : List Int) :
    runSeg Try.prog T_tutorref03_Check cuts_tutorref03_Check 0 g (finish Try.prog Try.f29 0 K) (at' Try.f29 20) ⟨fr0 123 [(1, .ptr 0 0), (6, .v (.int .i64 i))], [.box 24 [.v (.int .i64 o0), .v (.int .i64 o0_1), .v (.int .i64 o0_2), .v (.int .i64 o0_3), .rd ⟨false, 3, (.int .i64), o0_4⟩, .rd ⟨false, 3, (.int .i64), o0_5⟩]]⟩ =
    (fun (g29_15 : Int → Int → Int → Int → Int → (List Int) → (List Int) → Option R) (g29_20 : Int → Int → Int → Int → Int → (List Int) → (List Int) → Option R) (K0 : Int → Int → Option R) (i : Int) (o0 : Int) (o0_1 : Int) (o0_2 : Int) (o0_3 : Int) (o0_4 : List Int) (o0_5 : List Int) =>
    bi (decide (i < (o0_5.length : Int)))
     (bi (decide (0 ≤ i ∧ i < ((o0_5.length : Nat) : Int)))
      (bi (decide ((o0_5.getD i.toNat 0) < 0))
       (K0 i 33)
       (bi (decide (0 ≤ i ∧ i < ((o0_5.length : Nat) : Int)))
        (bi (decide ((o0_5.getD i.toNat 0) ≥ o0_2))
         (K0 i 33)
         (g29_20 (IntKind.i64.wrap (i + 1)) o0 o0_1 o0_2 o0_3 o0_4 o0_5))
        none))
      none)
     (K0 0 0)) (fun i o0 o0_1 o0_2 o0_3 o0_4 o0_5 => g (at' Try.f29 15) ⟨fr0 123 [(1, .ptr 0 0), (5, .v (.int .i64 i))], [.box 24 [.v (.int .i64 o0), .v (.int .i64 o0_1), .v (.int .i64 o0_2), .v (.int .i64 o0_3), .rd ⟨false, 3, (.int .i64), o0_4⟩, .rd ⟨false, 3, (.int .i64), o0_5⟩]]⟩) (fun i o0 o0_1 o0_2 o0_3 o0_4 o0_5 => g (at' Try.f29 20) ⟨fr0 123 [(1, .ptr 0 0), (6, .v (.int .i64 i))], [.box 24 [.v (.int .i64 o0), .v (.int .i64 o0_1), .v (.int .i64 o0_2), .v (.int .i64 o0_3), .rd ⟨false, 3, (.int .i64), o0_4⟩, .rd ⟨false, 3, (.int .i64), o0_5⟩]]⟩) (fun r0 r1 => K (.tup [.v (.int .i64 r0), .v (.int .i64 r1)]) []) i o0 o0_1 o0_2 o0_3 o0_4 o0_5 := by kernel_rfl

theorem step_tutorref03_Check_20 {R : Type} (g : List Item → St → Option R) (K : AV → List O → Option R) (i : Int) (o0 : Int) (o0_1 : Int) (o0_2 : Int) (o0_3 : Int) (o0_4 : List Int) (o0_5 : List Int) :
    runSeg Try.prog T_tutorref03_Check cuts_tutorref03_Check 0 g (finish Try.prog Try.f29 0 K) (at' Try.f29 20) ⟨fr0 123 [(1, .ptr 0 0), (6, .v (.int .i64 i))], [.box 24 [.v (.int .i64 o0), .v (.int .i64 o0_1), .v (.int .i64 o0_2), .v (.int .i64 o0_3), .rd ⟨false, 3, (.int .i64), o0_4⟩, .rd ⟨false, 3, (.int .i64), o0_5⟩]]⟩ =
    s_tutorref03_Check_20 (fun i o0 o0_1 o0_2 o0_3 o0_4 o0_5 => g (at' Try.f29 15) ⟨fr0 123 [(1, .ptr 0 0), (5, .v (.int .i64 i))], [.box 24 [.v (.int .i64 o0), .v (.int .i64 o0_1), .v (.int .i64 o0_2), .v (.int .i64 o0_3), .rd ⟨false, 3, (.int .i64), o0_4⟩, .rd ⟨false, 3, (.int .i64), o0_5⟩]]⟩) (fun i o0 o0_1 o0_2 o0_3 o0_4 o0_5 => g (at' Try.f29 20) ⟨fr0 123 [(1, .ptr 0 0), (6, .v (.int .i64 i))], [.box 24 [.v (.int .i64 o0), .v (.int .i64 o0_1), .v (.int .i64 o0_2), .v (.int .i64 o0_3), .rd ⟨false, 3, (.int .i64), o0_4⟩, .rd ⟨false, 3, (.int .i64), o0_5⟩]]⟩) (fun r0 r1 => K (.tup [.v (.int .i64 r0), .v (.int .i64 r1)]) []) i o0 o0_1 o0_2 o0_3 o0_4 o0_5 := gstep_tutorref03_Check_20 g K i o0 o0_1 o0_2 o0_3 o0_4 o0_5

theorem gentry_tutorref03_Check {R : Type} (fuel : Nat) (K : AV → List O → Option R) (m : Int) (m_1 : Int) (m_2 : Int) (m_3 : Int) (m_4 : List Int) (m_5 : List Int) :
    fnRun Try.prog T_tutorref03_Check cuts_tutorref03_Check Try.f29 fuel [.agg [.v (.int .i64 m), .v (.int .i64 m_1), .v (.int .i64 m_2), .v (.int .i64 m_3), .rd ⟨false, 3, (.int .i64), m_4⟩, .rd ⟨false, 3, (.int .i64), m_5⟩]] [] K =
    (fun (g29_15 : Int → Int → Int → Int → Int → (List Int) → (List Int) → Option R) (g29_20 : Int → Int → Int → Int → Int → (List Int) → (List Int) → Option R) (K0 : Int → Int → Option R) (m : Int) (m_1 : Int) (m_2 : Int) (m_3 : Int) (m_4 : List Int) (m_5 : List Int) =>
    bi (m != 1)
     (bi (m != 2)
      (K0 0 30)
      (bi (decide (m_1 < 1))
       (K0 0 1)
       (bi (decide (m_1 > 64))
        (K0 0 1)
        (bi (m == 1)
         (bi (m_2 != 2)
          (K0 0 33)
          (bi (decide (m_2 < 1))
           (K0 0 33)
           (bi (decide (m_2 > 64))
            (K0 0 33)
            (bi (decide (m_3 < 1))
             (K0 0 3)
             (bi (decide (m_3 > 1024))
              (K0 0 3)
              (bi (m == 2)
               (bi ((m_4.length : Int) != (IntKind.i64.wrap (m_3 * m_1)))
                (K0 0 31)
                (bi ((m_5.length : Int) != (IntKind.i64.wrap (m_3 * m_1)))
                 (K0 0 31)
                 (g29_15 0 m m_1 m_2 m_3 m_4 m_5)))
               (bi ((m_4.length : Int) != (IntKind.i64.wrap (m_3 * m_1)))
                (K0 0 31)
                (bi ((m_5.length : Int) != m_3)
                 (K0 0 31)
                 (g29_15 0 m m_1 m_2 m_3 m_4 m_5)))))))))
         (bi (decide (m_2 < 1))
          (K0 0 33)
          (bi (decide (m_2 > 64))
           (K0 0 33)
           (bi (decide (m_3 < 1))
            (K0 0 3)
            (bi (decide (m_3 > 1024))
             (K0 0 3)
             (bi (m == 2)
              (bi ((m_4.length : Int) != (IntKind.i64.wrap (m_3 * m_1)))
               (K0 0 31)
               (bi ((m_5.length : Int) != (IntKind.i64.wrap (m_3 * m_1)))
                (K0 0 31)
                (g29_15 0 m m_1 m_2 m_3 m_4 m_5)))
              (bi ((m_4.length : Int) != (IntKind.i64.wrap (m_3 * m_1)))
               (K0 0 31)
               (bi ((m_5.length : Int) != m_3)
                (K0 0 31)
                (g29_15 0 m m_1 m_2 m_3 m_4 m_5))))))))))))
     (bi (decide (m_1 < 1))
      (K0 0 1)
      (bi (decide (m_1 > 64))
       (K0 0 1)
       (bi (m == 1)
        (bi (m_2 != 2)
         (K0 0 33)
         (bi (decide (m_2 < 1))
          (K0 0 33)
          (bi (decide (m_2 > 64))
           (K0 0 33)
           (bi (decide (m_3 < 1))
            (K0 0 3)
            (bi (decide (m_3 > 1024))
             (K0 0 3)
             (bi (m == 2)
              (bi ((m_4.length : Int) != (IntKind.i64.wrap (m_3 * m_1)))
               (K0 0 31)
               (bi ((m_5.length : Int) != (IntKind.i64.wrap (m_3 * m_1)))
                (K0 0 31)
                (g29_15 0 m m_1 m_2 m_3 m_4 m_5)))
              (bi ((m_4.length : Int) != (IntKind.i64.wrap (m_3 * m_1)))
               (K0 0 31)
               (bi ((m_5.length : Int) != m_3)
                (K0 0 31)
                (g29_15 0 m m_1 m_2 m_3 m_4 m_5)))))))))
        (bi (decide (m_2 < 1))
         (K0 0 33)
         (bi (decide (m_2 > 64))
          (K0 0 33)
          (bi (decide (m_3 < 1))
           (K0 0 3)
           (bi (decide (m_3 > 1024))
            (K0 0 3)
            (bi (m == 2)
             (bi ((m_4.length : Int) != (IntKind.i64.wrap (m_3 * m_1)))
              (K0 0 31)
              (bi ((m_5.length : Int) != (IntKind.i64.wrap (m_3 * m_1)))
               (K0 0 31)
               (g29_15 0 m m_1 m_2 m_3 m_4 m_5)))
             (bi ((m_4.length : Int) != (IntKind.i64.wrap (m_3 * m_1)))
              (K0 0 31)
              (bi ((m_5.length : Int) != m_3)
               (K0 0 31)
               (g29_15 0 m m_1 m_2 m_3 m_4 m_5)))))))))))) (fun i o0 o0_1 o0_2 o0_3 o0_4 o0_5 => (runO Try.prog T_tutorref03_Check cuts_tutorref03_Check 0 (finish Try.prog Try.f29 0 K) fuel) (at' Try.f29 15) ⟨fr0 123 [(1, .ptr 0 0), (5, .v (.int .i64 i))], [.box 24 [.v (.int .i64 o0), .v (.int .i64 o0_1), .v (.int .i64 o0_2), .v (.int .i64 o0_3), .rd ⟨false, 3, (.int .i64), o0_4⟩, .rd ⟨false, 3, (.int .i64), o0_5⟩]]⟩) (fun i o0 o0_1 o0_2 o0_3 o0_4 o0_5 => (runO Try.prog T_tutorref03_Check cuts_tutorref03_Check 0 (finish Try.prog Try.f29 0 K) fuel) (at' Try.f29 20) ⟨fr0 123 [(1, .ptr 0 0), (6, .v (.int .i64 i))], [.box 24 [.v (.int .i64 o0), .v (.int .i64 o0_1), .v (.int .i64 o0_2), .v (.int .i64 o0_3), .rd ⟨false, 3, (.int .i64), o0_4⟩, .rd ⟨false, 3, (.int .i64), o0_5⟩]]⟩) (fun r0 r1 => K (.tup [.v (.int .i64 r0), .v (.int .i64 r1)]) []) m m_1 m_2 m_3 m_4 m_5 := by kernel_rfl

theorem entry_tutorref03_Check {R : Type} (fuel : Nat) (K : AV → List O → Option R) (m : Int) (m_1 : Int) (m_2 : Int) (m_3 : Int) (m_4 : List Int) (m_5 : List Int) :
    fnRun Try.prog T_tutorref03_Check cuts_tutorref03_Check Try.f29 fuel [.agg [.v (.int .i64 m), .v (.int .i64 m_1), .v (.int .i64 m_2), .v (.int .i64 m_3), .rd ⟨false, 3, (.int .i64), m_4⟩, .rd ⟨false, 3, (.int .i64), m_5⟩]] [] K =
    e_tutorref03_Check (fun i o0 o0_1 o0_2 o0_3 o0_4 o0_5 => (runO Try.prog T_tutorref03_Check cuts_tutorref03_Check 0 (finish Try.prog Try.f29 0 K) fuel) (at' Try.f29 15) ⟨fr0 123 [(1, .ptr 0 0), (5, .v (.int .i64 i))], [.box 24 [.v (.int .i64 o0), .v (.int .i64 o0_1), .v (.int .i64 o0_2), .v (.int .i64 o0_3), .rd ⟨false, 3, (.int .i64), o0_4⟩, .rd ⟨false, 3, (.int .i64), o0_5⟩]]⟩) (fun i o0 o0_1 o0_2 o0_3 o0_4 o0_5 => (runO Try.prog T_tutorref03_Check cuts_tutorref03_Check 0 (finish Try.prog Try.f29 0 K) fuel) (at' Try.f29 20) ⟨fr0 123 [(1, .ptr 0 0), (6, .v (.int .i64 i))], [.box 24 [.v (.int .i64 o0), .v (.int .i64 o0_1), .v (.int .i64 o0_2), .v (.int .i64 o0_3), .rd ⟨false, 3, (.int .i64), o0_4⟩, .rd ⟨false, 3, (.int .i64), o0_5⟩]]⟩) (fun r0 r1 => K (.tup [.v (.int .i64 r0), .v (.int .i64 r1)]) []) m m_1 m_2 m_3 m_4 m_5 := gentry_tutorref03_Check fuel K m m_1 m_2 m_3 m_4 m_5

theorem runs_tutorref03_Check {R : Type} (K : AV → List O → Option R) : ∀ fuel : Nat,
    (fun i o0 o0_1 o0_2 o0_3 o0_4 o0_5 => (runO Try.prog T_tutorref03_Check cuts_tutorref03_Check 0 (finish Try.prog Try.f29 0 K) fuel) (at' Try.f29 15) ⟨fr0 123 [(1, .ptr 0 0), (5, .v (.int .i64 i))], [.box 24 [.v (.int .i64 o0), .v (.int .i64 o0_1), .v (.int .i64 o0_2), .v (.int .i64 o0_3), .rd ⟨false, 3, (.int .i64), o0_4⟩, .rd ⟨false, 3, (.int .i64), o0_5⟩]]⟩) = (run_tutorref03_Check (fun r0 r1 => K (.tup [.v (.int .i64 r0), .v (.int .i64 r1)]) []) fuel).1 ∧
    (fun i o0 o0_1 o0_2 o0_3 o0_4 o0_5 => (runO Try.prog T_tutorref03_Check cuts_tutorref03_Check 0 (finish Try.prog Try.f29 0 K) fuel) (at' Try.f29 20) ⟨fr0 123 [(1, .ptr 0 0), (6, .v (.int .i64 i))], [.box 24 [.v (.int .i64 o0), .v (.int .i64 o0_1), .v (.int .i64 o0_2), .v (.int .i64 o0_3), .rd ⟨false, 3, (.int .i64), o0_4⟩, .rd ⟨false, 3, (.int .i64), o0_5⟩]]⟩) = (run_tutorref03_Check (fun r0 r1 => K (.tup [.v (.int .i64 r0), .v (.int .i64 r1)]) []) fuel).2
  | 0 => ⟨rfl, rfl⟩
  | fuel + 1 => by
    have ih := runs_tutorref03_Check K fuel
    refine ⟨?_, ?_⟩
    · funext i o0 o0_1 o0_2 o0_3 o0_4 o0_5
      refine (step_tutorref03_Check_15 _ K i o0 o0_1 o0_2 o0_3 o0_4 o0_5).trans ?_
      rw [ih.1, ih.2]
      rfl
    · funext i o0 o0_1 o0_2 o0_3 o0_4 o0_5
      refine (step_tutorref03_Check_20 _ K i o0 o0_1 o0_2 o0_3 o0_4 o0_5).trans ?_
      rw [ih.1, ih.2]
      rfl

def S_tutorref03_Check (l_tutorref03_Check : {R : Type} → Int → Int → Int → Int → (List Int) → (List Int) → (Int → Int → Option R) → Option R) : Sum := ⟨[], fun {R} args ob K => match args, ob with
  | [.agg [.v (.int .i64 m), .v (.int .i64 m_1), .v (.int .i64 m_2), .v (.int .i64 m_3), .rd ⟨false, 3, (.int .i64), m_4⟩, .rd ⟨false, 3, (.int .i64), m_5⟩]], [] => l_tutorref03_Check m m_1 m_2 m_3 m_4 m_5 (fun r0 r1 => K (.tup [.v (.int .i64 r0), .v (.int .i64 r1)]) [])
  | _, _ => none⟩

theorem sound_tutorref03_Check : Sound Try.prog 29 (S_tutorref03_Check @l_tutorref03_Check) := by
  refine fn_sound (cuts := cuts_tutorref03_Check) (fn := Try.f29) (Γ := T_tutorref03_Check) wide right_T_tutorref03_Check Try.func29 fun {R} K r args ob h => ?_
  unfold S_tutorref03_Check at h
  dsimp only at h
  split at h
  · obtain ⟨n, hn⟩ := ok_tutorref03_Check _ _ _ _ _ _ _ h
    refine ⟨Nat.le_of_ble_eq_true (by kernel_rfl), n, (entry_tutorref03_Check n K _ _ _ _ _ _).trans ?_⟩
    rw [(runs_tutorref03_Check K n).1, (runs_tutorref03_Check K n).2]
    exact hn
  · cases h

theorem call_tutorref03_Check : Callable Try.prog 29 := ⟨_, Try.func29, by kernel_rfl, by kernel_rfl⟩

def T_tutorref05_now : FuncId → Option Sum := G0

theorem right_T_tutorref05_now : Right Try.prog T_tutorref05_now := right_G0

abbrev cuts_tutorref05_now : Cuts := [(4, [1, 2, 3, 7])]

theorem gstep_tutorref05_now_4 {R : Type} (g : List Item → St → Option R) (K : AV → List O → Option R) (s : Int) (t : Int) (x : Int) (o0 : Int) (o0_1 : Int) (o0_2 : Int) (o0_3 : Int) (o0_4 : List Int) (o0_5 : List Int) :
    runSeg Try.prog T_tutorref05_now cuts_tutorref05_now 0 g (finish Try.prog Try.f50 0 K) (at' Try.f50 4) ⟨fr0 49 [(1, .v (.int .i64 s)), (2, .v (.int .i64 t)), (3, .ptr 0 0), (7, .v (.int .i64 x))], [.box 24 [.v (.int .i64 o0), .v (.int .i64 o0_1), .v (.int .i64 o0_2), .v (.int .i64 o0_3), .rd ⟨false, 3, (.int .i64), o0_4⟩, .rd ⟨false, 3, (.int .i64), o0_5⟩]]⟩ =
    (fun (g50_4 : Int → Int → Int → Int → Int → Int → Int → (List Int) → (List Int) → Option R) (K0 : Bool → Option R) (s : Int) (t : Int) (x : Int) (o0 : Int) (o0_1 : Int) (o0_2 : Int) (o0_3 : Int) (o0_4 : List Int) (o0_5 : List Int) =>
    bi (decide (x < o0_1))
     (bi (decide (0 ≤ (IntKind.i64.wrap ((IntKind.i64.wrap (s * o0_1)) + x)) ∧ (IntKind.i64.wrap ((IntKind.i64.wrap (s * o0_1)) + x)) < ((o0_5.length : Nat) : Int)))
      (bi (decide (0 ≤ (IntKind.i64.wrap ((IntKind.i64.wrap (t * o0_1)) + x)) ∧ (IntKind.i64.wrap ((IntKind.i64.wrap (t * o0_1)) + x)) < ((o0_5.length : Nat) : Int)))
       (bi ((o0_5.getD ((IntKind.i64.wrap ((IntKind.i64.wrap (s * o0_1)) + x)).toNat) 0) != (o0_5.getD ((IntKind.i64.wrap ((IntKind.i64.wrap (t * o0_1)) + x)).toNat) 0))
        (K0 false)
        (g50_4 s t (IntKind.i64.wrap (x + 1)) o0 o0_1 o0_2 o0_3 o0_4 o0_5))
       none)
      none)
     (K0 true)) (fun s t x o0 o0_1 o0_2 o0_3 o0_4 o0_5 => g (at' Try.f50 4) ⟨fr0 49 [(1, .v (.int .i64 s)), (2, .v (.int .i64 t)), (3, .ptr 0 0), (7, .v (.int .i64 x))], [.box 24 [.v (.int .i64 o0), .v (.int .i64 o0_1), .v (.int .i64 o0_2), .v (.int .i64 o0_3), .rd ⟨false, 3, (.int .i64), o0_4⟩, .rd ⟨false, 3, (.int .i64), o0_5⟩]]⟩) (fun r0 => K (.v (.bool r0)) []) s t x o0 o0_1 o0_2 o0_3 o0_4 o0_5 := by kernel_rfl

theorem step_tutorref05_now_4 {R : Type} (g : List Item → St → Option R) (K : AV → List O → Option R) (s : Int) (t : Int) (x : Int) (o0 : Int) (o0_1 : Int) (o0_2 : Int) (o0_3 : Int) (o0_4 : List Int) (o0_5 : List Int) :
    runSeg Try.prog T_tutorref05_now cuts_tutorref05_now 0 g (finish Try.prog Try.f50 0 K) (at' Try.f50 4) ⟨fr0 49 [(1, .v (.int .i64 s)), (2, .v (.int .i64 t)), (3, .ptr 0 0), (7, .v (.int .i64 x))], [.box 24 [.v (.int .i64 o0), .v (.int .i64 o0_1), .v (.int .i64 o0_2), .v (.int .i64 o0_3), .rd ⟨false, 3, (.int .i64), o0_4⟩, .rd ⟨false, 3, (.int .i64), o0_5⟩]]⟩ =
    s_tutorref05_now_4 (fun s t x o0 o0_1 o0_2 o0_3 o0_4 o0_5 => g (at' Try.f50 4) ⟨fr0 49 [(1, .v (.int .i64 s)), (2, .v (.int .i64 t)), (3, .ptr 0 0), (7, .v (.int .i64 x))], [.box 24 [.v (.int .i64 o0), .v (.int .i64 o0_1), .v (.int .i64 o0_2), .v (.int .i64 o0_3), .rd ⟨false, 3, (.int .i64), o0_4⟩, .rd ⟨false, 3, (.int .i64), o0_5⟩]]⟩) (fun r0 => K (.v (.bool r0)) []) s t x o0 o0_1 o0_2 o0_3 o0_4 o0_5 := gstep_tutorref05_now_4 g K s t x o0 o0_1 o0_2 o0_3 o0_4 o0_5

theorem gentry_tutorref05_now {R : Type} (fuel : Nat) (K : AV → List O → Option R) (m : Int) (m_1 : Int) (m_2 : Int) (m_3 : Int) (m_4 : List Int) (m_5 : List Int) (s : Int) (t : Int) :
    fnRun Try.prog T_tutorref05_now cuts_tutorref05_now Try.f50 fuel [.agg [.v (.int .i64 m), .v (.int .i64 m_1), .v (.int .i64 m_2), .v (.int .i64 m_3), .rd ⟨false, 3, (.int .i64), m_4⟩, .rd ⟨false, 3, (.int .i64), m_5⟩], .v (.int .i64 s), .v (.int .i64 t)] [] K =
    (fun (g50_4 : Int → Int → Int → Int → Int → Int → Int → (List Int) → (List Int) → Option R) (K0 : Bool → Option R) (m : Int) (m_1 : Int) (m_2 : Int) (m_3 : Int) (m_4 : List Int) (m_5 : List Int) (s : Int) (t : Int) =>
    bi (m == 1)
     (bi (decide (0 ≤ s ∧ s < ((m_5.length : Nat) : Int)))
      (bi (decide (0 ≤ t ∧ t < ((m_5.length : Nat) : Int)))
       (K0 ((m_5.getD s.toNat 0) == (m_5.getD t.toNat 0)))
       none)
      none)
     (g50_4 s t 0 m m_1 m_2 m_3 m_4 m_5)) (fun s t x o0 o0_1 o0_2 o0_3 o0_4 o0_5 => (runO Try.prog T_tutorref05_now cuts_tutorref05_now 0 (finish Try.prog Try.f50 0 K) fuel) (at' Try.f50 4) ⟨fr0 49 [(1, .v (.int .i64 s)), (2, .v (.int .i64 t)), (3, .ptr 0 0), (7, .v (.int .i64 x))], [.box 24 [.v (.int .i64 o0), .v (.int .i64 o0_1), .v (.int .i64 o0_2), .v (.int .i64 o0_3), .rd ⟨false, 3, (.int .i64), o0_4⟩, .rd ⟨false, 3, (.int .i64), o0_5⟩]]⟩) (fun r0 => K (.v (.bool r0)) []) m m_1 m_2 m_3 m_4 m_5 s t := by kernel_rfl

theorem entry_tutorref05_now {R : Type} (fuel : Nat) (K : AV → List O → Option R) (m : Int) (m_1 : Int) (m_2 : Int) (m_3 : Int) (m_4 : List Int) (m_5 : List Int) (s : Int) (t : Int) :
    fnRun Try.prog T_tutorref05_now cuts_tutorref05_now Try.f50 fuel [.agg [.v (.int .i64 m), .v (.int .i64 m_1), .v (.int .i64 m_2), .v (.int .i64 m_3), .rd ⟨false, 3, (.int .i64), m_4⟩, .rd ⟨false, 3, (.int .i64), m_5⟩], .v (.int .i64 s), .v (.int .i64 t)] [] K =
    e_tutorref05_now (fun s t x o0 o0_1 o0_2 o0_3 o0_4 o0_5 => (runO Try.prog T_tutorref05_now cuts_tutorref05_now 0 (finish Try.prog Try.f50 0 K) fuel) (at' Try.f50 4) ⟨fr0 49 [(1, .v (.int .i64 s)), (2, .v (.int .i64 t)), (3, .ptr 0 0), (7, .v (.int .i64 x))], [.box 24 [.v (.int .i64 o0), .v (.int .i64 o0_1), .v (.int .i64 o0_2), .v (.int .i64 o0_3), .rd ⟨false, 3, (.int .i64), o0_4⟩, .rd ⟨false, 3, (.int .i64), o0_5⟩]]⟩) (fun r0 => K (.v (.bool r0)) []) m m_1 m_2 m_3 m_4 m_5 s t := gentry_tutorref05_now fuel K m m_1 m_2 m_3 m_4 m_5 s t

theorem runs_tutorref05_now {R : Type} (K : AV → List O → Option R) : ∀ fuel : Nat,
    (fun s t x o0 o0_1 o0_2 o0_3 o0_4 o0_5 => (runO Try.prog T_tutorref05_now cuts_tutorref05_now 0 (finish Try.prog Try.f50 0 K) fuel) (at' Try.f50 4) ⟨fr0 49 [(1, .v (.int .i64 s)), (2, .v (.int .i64 t)), (3, .ptr 0 0), (7, .v (.int .i64 x))], [.box 24 [.v (.int .i64 o0), .v (.int .i64 o0_1), .v (.int .i64 o0_2), .v (.int .i64 o0_3), .rd ⟨false, 3, (.int .i64), o0_4⟩, .rd ⟨false, 3, (.int .i64), o0_5⟩]]⟩) = (run_tutorref05_now (fun r0 => K (.v (.bool r0)) []) fuel)
  | 0 => rfl
  | fuel + 1 => by
    have ih := runs_tutorref05_now K fuel
    funext s t x o0 o0_1 o0_2 o0_3 o0_4 o0_5
    refine (step_tutorref05_now_4 _ K s t x o0 o0_1 o0_2 o0_3 o0_4 o0_5).trans ?_
    rw [ih]
    rfl

def S_tutorref05_now (l_tutorref05_now : {R : Type} → Int → Int → Int → Int → (List Int) → (List Int) → Int → Int → (Bool → Option R) → Option R) : Sum := ⟨[], fun {R} args ob K => match args, ob with
  | [.agg [.v (.int .i64 m), .v (.int .i64 m_1), .v (.int .i64 m_2), .v (.int .i64 m_3), .rd ⟨false, 3, (.int .i64), m_4⟩, .rd ⟨false, 3, (.int .i64), m_5⟩], .v (.int .i64 s), .v (.int .i64 t)], [] => l_tutorref05_now m m_1 m_2 m_3 m_4 m_5 s t (fun r0 => K (.v (.bool r0)) [])
  | _, _ => none⟩

theorem sound_tutorref05_now : Sound Try.prog 50 (S_tutorref05_now @l_tutorref05_now) := by
  refine fn_sound (cuts := cuts_tutorref05_now) (fn := Try.f50) (Γ := T_tutorref05_now) wide right_T_tutorref05_now Try.func50 fun {R} K r args ob h => ?_
  unfold S_tutorref05_now at h
  dsimp only at h
  split at h
  · obtain ⟨n, hn⟩ := ok_tutorref05_now _ _ _ _ _ _ _ _ _ h
    refine ⟨Nat.le_of_ble_eq_true (by kernel_rfl), n, (entry_tutorref05_now n K _ _ _ _ _ _ _ _).trans ?_⟩
    rw [(runs_tutorref05_now K n)]
    exact hn
  · cases h

theorem call_tutorref05_now : Callable Try.prog 50 := ⟨_, Try.func50, by kernel_rfl, by kernel_rfl⟩

def T_tutorref05_start (l_tutorref05_now : {R : Type} → Int → Int → Int → Int → (List Int) → (List Int) → Int → Int → (Bool → Option R) → Option R) : FuncId → Option Sum := (addS G0 50 (S_tutorref05_now @l_tutorref05_now))

theorem right_T_tutorref05_start : Right Try.prog (T_tutorref05_start @l_tutorref05_now) := (right_add right_G0 call_tutorref05_now sound_tutorref05_now)

abbrev cuts_tutorref05_start : Cuts := [(3, [1, 3, 4]), (7, [1, 3, 4, 5, 6])]

theorem gstep_tutorref05_start_3 (l_tutorref05_now : {R : Type} → Int → Int → Int → Int → (List Int) → (List Int) → Int → Int → (Bool → Option R) → Option R) {R : Type} (g : List Item → St → Option R) (K : AV → List O → Option R) (s : Int) (o0 : Int) (o0_1 : Int) (o0_2 : Int) (o0_3 : Int) (o0_4 : List Int) (o0_5 : List Int) (o1 : List (List Bool)) :
    runSeg Try.prog (T_tutorref05_start @l_tutorref05_now) cuts_tutorref05_start 0 g (finish Try.prog Try.f34 0 K) (at' Try.f34 3) ⟨fr0 40 [(1, .ptr 0 0), (3, .nst 1), (4, .v (.int .i64 s))], [.box 24 [.v (.int .i64 o0), .v (.int .i64 o0_1), .v (.int .i64 o0_2), .v (.int .i64 o0_3), .rd ⟨false, 3, (.int .i64), o0_4⟩, .rd ⟨false, 3, (.int .i64), o0_5⟩], .nst ⟨true, 86, (.sl 4 .bool), o1⟩]⟩ =
    (fun (g34_3 : Int → Int → Int → Int → Int → (List Int) → (List Int) → (List (List Bool)) → Option R) (g34_7 : Int → Int → Int → Int → Int → Int → (List Int) → (List Int) → (List (List Bool)) → (List Bool) → Option R) (K0 : (List (List Bool)) → Option R) (s : Int) (o0 : Int) (o0_1 : Int) (o0_2 : Int) (o0_3 : Int) (o0_4 : List Int) (o0_5 : List Int) (o1 : List (List Bool)) =>
    bi (decide (s < o0_3))
     (bi (decide (0 ≤ o0_3 ∧ o0_3 ≤ o0_3 ∧ o0_3 ≤ 1073741824))
      (g34_7 s 0 o0 o0_1 o0_2 o0_3 o0_4 o0_5 o1 (List.replicate o0_3.toNat (false : Bool)))
      none)
     (K0 o1)) (fun s o0 o0_1 o0_2 o0_3 o0_4 o0_5 o1 => g (at' Try.f34 3) ⟨fr0 40 [(1, .ptr 0 0), (3, .nst 1), (4, .v (.int .i64 s))], [.box 24 [.v (.int .i64 o0), .v (.int .i64 o0_1), .v (.int .i64 o0_2), .v (.int .i64 o0_3), .rd ⟨false, 3, (.int .i64), o0_4⟩, .rd ⟨false, 3, (.int .i64), o0_5⟩], .nst ⟨true, 86, (.sl 4 .bool), o1⟩]⟩) (fun s t o0 o0_1 o0_2 o0_3 o0_4 o0_5 o1 o2 => g (at' Try.f34 7) ⟨fr0 40 [(1, .ptr 0 0), (3, .nst 1), (4, .v (.int .i64 s)), (5, .own 2), (6, .v (.int .i64 t))], [.box 24 [.v (.int .i64 o0), .v (.int .i64 o0_1), .v (.int .i64 o0_2), .v (.int .i64 o0_3), .rd ⟨false, 3, (.int .i64), o0_4⟩, .rd ⟨false, 3, (.int .i64), o0_5⟩], .nst ⟨true, 86, (.sl 4 .bool), o1⟩, .row ⟨true, 4, .bool, o2⟩]⟩) (fun r0 => K (.nst 0) [.nst ⟨true, 86, (.sl 4 .bool), r0⟩]) s o0 o0_1 o0_2 o0_3 o0_4 o0_5 o1 := by kernel_rfl

theorem step_tutorref05_start_3 {R : Type} (g : List Item → St → Option R) (K : AV → List O → Option R) (s : Int) (o0 : Int) (o0_1 : Int) (o0_2 : Int) (o0_3 : Int) (o0_4 : List Int) (o0_5 : List Int) (o1 : List (List Bool)) :
    runSeg Try.prog (T_tutorref05_start @l_tutorref05_now) cuts_tutorref05_start 0 g (finish Try.prog Try.f34 0 K) (at' Try.f34 3) ⟨fr0 40 [(1, .ptr 0 0), (3, .nst 1), (4, .v (.int .i64 s))], [.box 24 [.v (.int .i64 o0), .v (.int .i64 o0_1), .v (.int .i64 o0_2), .v (.int .i64 o0_3), .rd ⟨false, 3, (.int .i64), o0_4⟩, .rd ⟨false, 3, (.int .i64), o0_5⟩], .nst ⟨true, 86, (.sl 4 .bool), o1⟩]⟩ =
    s_tutorref05_start_3 (fun s o0 o0_1 o0_2 o0_3 o0_4 o0_5 o1 => g (at' Try.f34 3) ⟨fr0 40 [(1, .ptr 0 0), (3, .nst 1), (4, .v (.int .i64 s))], [.box 24 [.v (.int .i64 o0), .v (.int .i64 o0_1), .v (.int .i64 o0_2), .v (.int .i64 o0_3), .rd ⟨false, 3, (.int .i64), o0_4⟩, .rd ⟨false, 3, (.int .i64), o0_5⟩], .nst ⟨true, 86, (.sl 4 .bool), o1⟩]⟩) (fun s t o0 o0_1 o0_2 o0_3 o0_4 o0_5 o1 o2 => g (at' Try.f34 7) ⟨fr0 40 [(1, .ptr 0 0), (3, .nst 1), (4, .v (.int .i64 s)), (5, .own 2), (6, .v (.int .i64 t))], [.box 24 [.v (.int .i64 o0), .v (.int .i64 o0_1), .v (.int .i64 o0_2), .v (.int .i64 o0_3), .rd ⟨false, 3, (.int .i64), o0_4⟩, .rd ⟨false, 3, (.int .i64), o0_5⟩], .nst ⟨true, 86, (.sl 4 .bool), o1⟩, .row ⟨true, 4, .bool, o2⟩]⟩) (fun r0 => K (.nst 0) [.nst ⟨true, 86, (.sl 4 .bool), r0⟩]) s o0 o0_1 o0_2 o0_3 o0_4 o0_5 o1 := gstep_tutorref05_start_3 @l_tutorref05_now g K s o0 o0_1 o0_2 o0_3 o0_4 o0_5 o1

theorem gstep_tutorref05_start_7 (l_tutorref05_now : {R : Type} → Int → Int → Int → Int → (List Int) → (List Int) → Int → Int → (Bool → Option R) → Option R) {R : Type} (g : List Item → St → Option R) (K : AV → List O → Option R) (s : Int) (t : Int) (o0 : Int) (o0_1 : Int) (o0_2 : Int) (o0_3 : Int) (o0_4 : List Int) (o0_5 : List Int) (o1 : List (List Bool)) (o2 : List Bool) :
    runSeg Try.prog (T_tutorref05_start @l_tutorref05_now) cuts_tutorref05_start 0 g (finish Try.prog Try.f34 0 K) (at' Try.f34 7) ⟨fr0 40 [(1, .ptr 0 0), (3, .nst 1), (4, .v (.int .i64 s)), (5, .own 2), (6, .v (.int .i64 t))], [.box 24 [.v (.int .i64 o0), .v (.int .i64 o0_1), .v (.int .i64 o0_2), .v (.int .i64 o0_3), .rd ⟨false, 3, (.int .i64), o0_4⟩, .rd ⟨false, 3, (.int .i64), o0_5⟩], .nst ⟨true, 86, (.sl 4 .bool), o1⟩, .row ⟨true, 4, .bool, o2⟩]⟩ =
    (fun (g34_3 : Int → Int → Int → Int → Int → (List Int) → (List Int) → (List (List Bool)) → Option R) (g34_7 : Int → Int → Int → Int → Int → Int → (List Int) → (List Int) → (List (List Bool)) → (List Bool) → Option R) (K0 : (List (List Bool)) → Option R) (s : Int) (t : Int) (o0 : Int) (o0_1 : Int) (o0_2 : Int) (o0_3 : Int) (o0_4 : List Int) (o0_5 : List Int) (o1 : List (List Bool)) (o2 : List Bool) =>
    bi (decide (t < o0_3))
     (bi (o0 == 1)
      (l_tutorref05_now o0 o0_1 o0_2 o0_3 o0_4 o0_5 s t
       (fun r1 =>
        bi (decide (0 ≤ t ∧ t < ((o2.length : Nat) : Int)))
         (g34_7 s (IntKind.i64.wrap (t + 1)) o0 o0_1 o0_2 o0_3 o0_4 o0_5 o1 (o2.set t.toNat (!r1)))
         none))
      (bi (decide (0 ≤ t ∧ t < ((o2.length : Nat) : Int)))
       (g34_7 s (IntKind.i64.wrap (t + 1)) o0 o0_1 o0_2 o0_3 o0_4 o0_5 o1 (o2.set t.toNat false))
       none))
     (bi (decide ((o1.length + [o2].length) * 24 ≤ lim))
      (g34_3 (IntKind.i64.wrap (s + 1)) o0 o0_1 o0_2 o0_3 o0_4 o0_5 (o1 ++ [o2]))
      none)) (fun s o0 o0_1 o0_2 o0_3 o0_4 o0_5 o1 => g (at' Try.f34 3) ⟨fr0 40 [(1, .ptr 0 0), (3, .nst 1), (4, .v (.int .i64 s))], [.box 24 [.v (.int .i64 o0), .v (.int .i64 o0_1), .v (.int .i64 o0_2), .v (.int .i64 o0_3), .rd ⟨false, 3, (.int .i64), o0_4⟩, .rd ⟨false, 3, (.int .i64), o0_5⟩], .nst ⟨true, 86, (.sl 4 .bool), o1⟩]⟩) (fun s t o0 o0_1 o0_2 o0_3 o0_4 o0_5 o1 o2 => g (at' Try.f34 7) ⟨fr0 40 [(1, .ptr 0 0), (3, .nst 1), (4, .v (.int .i64 s)), (5, .own 2), (6, .v (.int .i64 t))], [.box 24 [.v (.int .i64 o0), .v (.int .i64 o0_1), .v (.int .i64 o0_2), .v (.int .i64 o0_3), .rd ⟨false, 3, (.int .i64), o0_4⟩, .rd ⟨false, 3, (.int .i64), o0_5⟩], .nst ⟨true, 86, (.sl 4 .bool), o1⟩, .row ⟨true, 4, .bool, o2⟩]⟩) (fun r0 => K (.nst 0) [.nst ⟨true, 86, (.sl 4 .bool), r0⟩]) s t o0 o0_1 o0_2 o0_3 o0_4 o0_5 o1 o2 := by kernel_rfl

theorem step_tutorref05_start_7 {R : Type} (g : List Item → St → Option R) (K : AV → List O → Option R) (s : Int) (t : Int) (o0 : Int) (o0_1 : Int) (o0_2 : Int) (o0_3 : Int) (o0_4 : List Int) (o0_5 : List Int) (o1 : List (List Bool)) (o2 : List Bool) :
    runSeg Try.prog (T_tutorref05_start @l_tutorref05_now) cuts_tutorref05_start 0 g (finish Try.prog Try.f34 0 K) (at' Try.f34 7) ⟨fr0 40 [(1, .ptr 0 0), (3, .nst 1), (4, .v (.int .i64 s)), (5, .own 2), (6, .v (.int .i64 t))], [.box 24 [.v (.int .i64 o0), .v (.int .i64 o0_1), .v (.int .i64 o0_2), .v (.int .i64 o0_3), .rd ⟨false, 3, (.int .i64), o0_4⟩, .rd ⟨false, 3, (.int .i64), o0_5⟩], .nst ⟨true, 86, (.sl 4 .bool), o1⟩, .row ⟨true, 4, .bool, o2⟩]⟩ =
    s_tutorref05_start_7 (fun s o0 o0_1 o0_2 o0_3 o0_4 o0_5 o1 => g (at' Try.f34 3) ⟨fr0 40 [(1, .ptr 0 0), (3, .nst 1), (4, .v (.int .i64 s))], [.box 24 [.v (.int .i64 o0), .v (.int .i64 o0_1), .v (.int .i64 o0_2), .v (.int .i64 o0_3), .rd ⟨false, 3, (.int .i64), o0_4⟩, .rd ⟨false, 3, (.int .i64), o0_5⟩], .nst ⟨true, 86, (.sl 4 .bool), o1⟩]⟩) (fun s t o0 o0_1 o0_2 o0_3 o0_4 o0_5 o1 o2 => g (at' Try.f34 7) ⟨fr0 40 [(1, .ptr 0 0), (3, .nst 1), (4, .v (.int .i64 s)), (5, .own 2), (6, .v (.int .i64 t))], [.box 24 [.v (.int .i64 o0), .v (.int .i64 o0_1), .v (.int .i64 o0_2), .v (.int .i64 o0_3), .rd ⟨false, 3, (.int .i64), o0_4⟩, .rd ⟨false, 3, (.int .i64), o0_5⟩], .nst ⟨true, 86, (.sl 4 .bool), o1⟩, .row ⟨true, 4, .bool, o2⟩]⟩) (fun r0 => K (.nst 0) [.nst ⟨true, 86, (.sl 4 .bool), r0⟩]) s t o0 o0_1 o0_2 o0_3 o0_4 o0_5 o1 o2 := gstep_tutorref05_start_7 @l_tutorref05_now g K s t o0 o0_1 o0_2 o0_3 o0_4 o0_5 o1 o2

theorem gentry_tutorref05_start (l_tutorref05_now : {R : Type} → Int → Int → Int → Int → (List Int) → (List Int) → Int → Int → (Bool → Option R) → Option R) {R : Type} (fuel : Nat) (K : AV → List O → Option R) (m : Int) (m_1 : Int) (m_2 : Int) (m_3 : Int) (m_4 : List Int) (m_5 : List Int) :
    fnRun Try.prog (T_tutorref05_start @l_tutorref05_now) cuts_tutorref05_start Try.f34 fuel [.agg [.v (.int .i64 m), .v (.int .i64 m_1), .v (.int .i64 m_2), .v (.int .i64 m_3), .rd ⟨false, 3, (.int .i64), m_4⟩, .rd ⟨false, 3, (.int .i64), m_5⟩]] [] K =
    (fun (g34_3 : Int → Int → Int → Int → Int → (List Int) → (List Int) → (List (List Bool)) → Option R) (g34_7 : Int → Int → Int → Int → Int → Int → (List Int) → (List Int) → (List (List Bool)) → (List Bool) → Option R) (K0 : (List (List Bool)) → Option R) (m : Int) (m_1 : Int) (m_2 : Int) (m_3 : Int) (m_4 : List Int) (m_5 : List Int) =>
    g34_3 0 m m_1 m_2 m_3 m_4 m_5 ([] : List (List Bool))) (fun s o0 o0_1 o0_2 o0_3 o0_4 o0_5 o1 => (runO Try.prog (T_tutorref05_start @l_tutorref05_now) cuts_tutorref05_start 0 (finish Try.prog Try.f34 0 K) fuel) (at' Try.f34 3) ⟨fr0 40 [(1, .ptr 0 0), (3, .nst 1), (4, .v (.int .i64 s))], [.box 24 [.v (.int .i64 o0), .v (.int .i64 o0_1), .v (.int .i64 o0_2), .v (.int .i64 o0_3), .rd ⟨false, 3, (.int .i64), o0_4⟩, .rd ⟨false, 3, (.int .i64), o0_5⟩], .nst ⟨true, 86, (.sl 4 .bool), o1⟩]⟩) (fun s t o0 o0_1 o0_2 o0_3 o0_4 o0_5 o1 o2 => (runO Try.prog (T_tutorref05_start @l_tutorref05_now) cuts_tutorref05_start 0 (finish Try.prog Try.f34 0 K) fuel) (at' Try.f34 7) ⟨fr0 40 [(1, .ptr 0 0), (3, .nst 1), (4, .v (.int .i64 s)), (5, .own 2), (6, .v (.int .i64 t))], [.box 24 [.v (.int .i64 o0), .v (.int .i64 o0_1), .v (.int .i64 o0_2), .v (.int .i64 o0_3), .rd ⟨false, 3, (.int .i64), o0_4⟩, .rd ⟨false, 3, (.int .i64), o0_5⟩], .nst ⟨true, 86, (.sl 4 .bool), o1⟩, .row ⟨true, 4, .bool, o2⟩]⟩) (fun r0 => K (.nst 0) [.nst ⟨true, 86, (.sl 4 .bool), r0⟩]) m m_1 m_2 m_3 m_4 m_5 := by kernel_rfl

theorem entry_tutorref05_start {R : Type} (fuel : Nat) (K : AV → List O → Option R) (m : Int) (m_1 : Int) (m_2 : Int) (m_3 : Int) (m_4 : List Int) (m_5 : List Int) :
    fnRun Try.prog (T_tutorref05_start @l_tutorref05_now) cuts_tutorref05_start Try.f34 fuel [.agg [.v (.int .i64 m), .v (.int .i64 m_1), .v (.int .i64 m_2), .v (.int .i64 m_3), .rd ⟨false, 3, (.int .i64), m_4⟩, .rd ⟨false, 3, (.int .i64), m_5⟩]] [] K =
    e_tutorref05_start (fun s o0 o0_1 o0_2 o0_3 o0_4 o0_5 o1 => (runO Try.prog (T_tutorref05_start @l_tutorref05_now) cuts_tutorref05_start 0 (finish Try.prog Try.f34 0 K) fuel) (at' Try.f34 3) ⟨fr0 40 [(1, .ptr 0 0), (3, .nst 1), (4, .v (.int .i64 s))], [.box 24 [.v (.int .i64 o0), .v (.int .i64 o0_1), .v (.int .i64 o0_2), .v (.int .i64 o0_3), .rd ⟨false, 3, (.int .i64), o0_4⟩, .rd ⟨false, 3, (.int .i64), o0_5⟩], .nst ⟨true, 86, (.sl 4 .bool), o1⟩]⟩) (fun s t o0 o0_1 o0_2 o0_3 o0_4 o0_5 o1 o2 => (runO Try.prog (T_tutorref05_start @l_tutorref05_now) cuts_tutorref05_start 0 (finish Try.prog Try.f34 0 K) fuel) (at' Try.f34 7) ⟨fr0 40 [(1, .ptr 0 0), (3, .nst 1), (4, .v (.int .i64 s)), (5, .own 2), (6, .v (.int .i64 t))], [.box 24 [.v (.int .i64 o0), .v (.int .i64 o0_1), .v (.int .i64 o0_2), .v (.int .i64 o0_3), .rd ⟨false, 3, (.int .i64), o0_4⟩, .rd ⟨false, 3, (.int .i64), o0_5⟩], .nst ⟨true, 86, (.sl 4 .bool), o1⟩, .row ⟨true, 4, .bool, o2⟩]⟩) (fun r0 => K (.nst 0) [.nst ⟨true, 86, (.sl 4 .bool), r0⟩]) m m_1 m_2 m_3 m_4 m_5 := gentry_tutorref05_start @l_tutorref05_now fuel K m m_1 m_2 m_3 m_4 m_5

theorem runs_tutorref05_start {R : Type} (K : AV → List O → Option R) : ∀ fuel : Nat,
    (fun s o0 o0_1 o0_2 o0_3 o0_4 o0_5 o1 => (runO Try.prog (T_tutorref05_start @l_tutorref05_now) cuts_tutorref05_start 0 (finish Try.prog Try.f34 0 K) fuel) (at' Try.f34 3) ⟨fr0 40 [(1, .ptr 0 0), (3, .nst 1), (4, .v (.int .i64 s))], [.box 24 [.v (.int .i64 o0), .v (.int .i64 o0_1), .v (.int .i64 o0_2), .v (.int .i64 o0_3), .rd ⟨false, 3, (.int .i64), o0_4⟩, .rd ⟨false, 3, (.int .i64), o0_5⟩], .nst ⟨true, 86, (.sl 4 .bool), o1⟩]⟩) = (run_tutorref05_start (fun r0 => K (.nst 0) [.nst ⟨true, 86, (.sl 4 .bool), r0⟩]) fuel).1 ∧
    (fun s t o0 o0_1 o0_2 o0_3 o0_4 o0_5 o1 o2 => (runO Try.prog (T_tutorref05_start @l_tutorref05_now) cuts_tutorref05_start 0 (finish Try.prog Try.f34 0 K) fuel) (at' Try.f34 7) ⟨fr0 40 [(1, .ptr 0 0), (3, .nst 1), (4, .v (.int .i64 s)), (5, .own 2), (6, .v (.int .i64 t))], [.box 24 [.v (.int .i64 o0), .v (.int .i64 o0_1), .v (.int .i64 o0_2), .v (.int .i64 o0_3), .rd ⟨false, 3, (.int .i64), o0_4⟩, .rd ⟨false, 3, (.int .i64), o0_5⟩], .nst ⟨true, 86, (.sl 4 .bool), o1⟩, .row ⟨true, 4, .bool, o2⟩]⟩) = (run_tutorref05_start (fun r0 => K (.nst 0) [.nst ⟨true, 86, (.sl 4 .bool), r0⟩]) fuel).2
  | 0 => ⟨rfl, rfl⟩
  | fuel + 1 => by
    have ih := runs_tutorref05_start K fuel
    refine ⟨?_, ?_⟩
    · funext s o0 o0_1 o0_2 o0_3 o0_4 o0_5 o1
      refine (step_tutorref05_start_3 _ K s o0 o0_1 o0_2 o0_3 o0_4 o0_5 o1).trans ?_
      rw [ih.1, ih.2]
      rfl
    · funext s t o0 o0_1 o0_2 o0_3 o0_4 o0_5 o1 o2
      refine (step_tutorref05_start_7 _ K s t o0 o0_1 o0_2 o0_3 o0_4 o0_5 o1 o2).trans ?_
      rw [ih.1, ih.2]
      rfl

def S_tutorref05_start (l_tutorref05_start : {R : Type} → Int → Int → Int → Int → (List Int) → (List Int) → ((List (List Bool)) → Option R) → Option R) : Sum := ⟨[], fun {R} args ob K => match args, ob with
  | [.agg [.v (.int .i64 m), .v (.int .i64 m_1), .v (.int .i64 m_2), .v (.int .i64 m_3), .rd ⟨false, 3, (.int .i64), m_4⟩, .rd ⟨false, 3, (.int .i64), m_5⟩]], [] => l_tutorref05_start m m_1 m_2 m_3 m_4 m_5 (fun r0 => K (.nst 0) [.nst ⟨true, 86, (.sl 4 .bool), r0⟩])
  | _, _ => none⟩

theorem sound_tutorref05_start : Sound Try.prog 34 (S_tutorref05_start @l_tutorref05_start) := by
  refine fn_sound (cuts := cuts_tutorref05_start) (fn := Try.f34) (Γ := (T_tutorref05_start @l_tutorref05_now)) wide right_T_tutorref05_start Try.func34 fun {R} K r args ob h => ?_
  unfold S_tutorref05_start at h
  dsimp only at h
  split at h
  · obtain ⟨n, hn⟩ := ok_tutorref05_start _ _ _ _ _ _ _ h
    refine ⟨Nat.le_of_ble_eq_true (by kernel_rfl), n, (entry_tutorref05_start n K _ _ _ _ _ _).trans ?_⟩
    rw [(runs_tutorref05_start K n).1, (runs_tutorref05_start K n).2]
    exact hn
  · cases h

theorem call_tutorref05_start : Callable Try.prog 34 := ⟨_, Try.func34, by kernel_rfl, by kernel_rfl⟩

def T_tutorref05_round (l_tutorref05_now : {R : Type} → Int → Int → Int → Int → (List Int) → (List Int) → Int → Int → (Bool → Option R) → Option R) : FuncId → Option Sum := (addS G0 50 (S_tutorref05_now @l_tutorref05_now))

theorem right_T_tutorref05_round : Right Try.prog (T_tutorref05_round @l_tutorref05_now) := (right_add right_G0 call_tutorref05_now sound_tutorref05_now)

abbrev cuts_tutorref05_round : Cuts := [(4, [1, 2, 3, 8, 9, 10]), (8, [1, 2, 3, 8, 9, 10, 11, 12]), (12, [1, 2, 3, 8, 9, 10, 11, 12, 13])]

theorem gstep_tutorref05_round_4 (l_tutorref05_now : {R : Type} → Int → Int → Int → Int → (List Int) → (List Int) → Int → Int → (Bool → Option R) → Option R) {R : Type} (g : List Item → St → Option R) (K : AV → List O → Option R) (apart : List (List Bool)) (first : Bool) (more : Bool) (s : Int) (o0 : Int) (o0_1 : Int) (o0_2 : Int) (o0_3 : Int) (o0_4 : List Int) (o0_5 : List Int) (o1 : List (List Bool)) :
    runSeg Try.prog (T_tutorref05_round @l_tutorref05_now) cuts_tutorref05_round 0 g (finish Try.prog Try.f35 0 K) (at' Try.f35 4) ⟨fr0 111 [(1, .rd ⟨false, 86, (.sl 4 .bool), apart⟩), (2, .v (.bool first)), (3, .ptr 0 0), (8, .nst 1), (9, .v (.bool more)), (10, .v (.int .i64 s))], [.box 24 [.v (.int .i64 o0), .v (.int .i64 o0_1), .v (.int .i64 o0_2), .v (.int .i64 o0_3), .rd ⟨false, 3, (.int .i64), o0_4⟩, .rd ⟨false, 3, (.int .i64), o0_5⟩], .nst ⟨true, 86, (.sl 4 .bool), o1⟩]⟩ =
    (fun (g35_4 : (List (List Bool)) → Bool → Bool → Int → Int → Int → Int → Int → (List Int) → (List Int) → (List (List Bool)) → Option R) (g35_8 : (List (List Bool)) → Bool → Bool → Int → Int → Int → Int → Int → Int → (List Int) → (List Int) → (List (List Bool)) → (List Bool) → Option R) (g35_12 : (List (List Bool)) → Bool → Bool → Int → Int → Int → Int → Int → Int → Int → (List Int) → (List Int) → (List (List Bool)) → (List Bool) → Option R) (K0 : Bool → (List (List Bool)) → Option R) (apart : List (List Bool)) (first : Bool) (more : Bool) (s : Int) (o0 : Int) (o0_1 : Int) (o0_2 : Int) (o0_3 : Int) (o0_4 : List Int) (o0_5 : List Int) (o1 : List (List Bool)) =>
    bi (decide (s < o0_3))
     (bi (decide (0 ≤ o0_3 ∧ o0_3 ≤ o0_3 ∧ o0_3 ≤ 1073741824))
      (g35_8 apart first more s 0 o0 o0_1 o0_2 o0_3 o0_4 o0_5 o1 (List.replicate o0_3.toNat (false : Bool)))
      none)
     (K0 more o1)) (fun apart first more s o0 o0_1 o0_2 o0_3 o0_4 o0_5 o1 => g (at' Try.f35 4) ⟨fr0 111 [(1, .rd ⟨false, 86, (.sl 4 .bool), apart⟩), (2, .v (.bool first)), (3, .ptr 0 0), (8, .nst 1), (9, .v (.bool more)), (10, .v (.int .i64 s))], [.box 24 [.v (.int .i64 o0), .v (.int .i64 o0_1), .v (.int .i64 o0_2), .v (.int .i64 o0_3), .rd ⟨false, 3, (.int .i64), o0_4⟩, .rd ⟨false, 3, (.int .i64), o0_5⟩], .nst ⟨true, 86, (.sl 4 .bool), o1⟩]⟩) (fun apart first more s t o0 o0_1 o0_2 o0_3 o0_4 o0_5 o1 o2 => g (at' Try.f35 8) ⟨fr0 111 [(1, .rd ⟨false, 86, (.sl 4 .bool), apart⟩), (2, .v (.bool first)), (3, .ptr 0 0), (8, .nst 1), (9, .v (.bool more)), (10, .v (.int .i64 s)), (11, .own 2), (12, .v (.int .i64 t))], [.box 24 [.v (.int .i64 o0), .v (.int .i64 o0_1), .v (.int .i64 o0_2), .v (.int .i64 o0_3), .rd ⟨false, 3, (.int .i64), o0_4⟩, .rd ⟨false, 3, (.int .i64), o0_5⟩], .nst ⟨true, 86, (.sl 4 .bool), o1⟩, .row ⟨true, 4, .bool, o2⟩]⟩) (fun apart first more s t x o0 o0_1 o0_2 o0_3 o0_4 o0_5 o1 o2 => g (at' Try.f35 12) ⟨fr0 111 [(1, .rd ⟨false, 86, (.sl 4 .bool), apart⟩), (2, .v (.bool first)), (3, .ptr 0 0), (8, .nst 1), (9, .v (.bool more)), (10, .v (.int .i64 s)), (11, .own 2), (12, .v (.int .i64 t)), (13, .v (.int .i64 x))], [.box 24 [.v (.int .i64 o0), .v (.int .i64 o0_1), .v (.int .i64 o0_2), .v (.int .i64 o0_3), .rd ⟨false, 3, (.int .i64), o0_4⟩, .rd ⟨false, 3, (.int .i64), o0_5⟩], .nst ⟨true, 86, (.sl 4 .bool), o1⟩, .row ⟨true, 4, .bool, o2⟩]⟩) (fun r0 r1 => K (.tup [.nst 0, .v (.bool r0)]) [.nst ⟨true, 86, (.sl 4 .bool), r1⟩]) apart first more s o0 o0_1 o0_2 o0_3 o0_4 o0_5 o1 := by kernel_rfl

theorem step_tutorref05_round_4 {R : Type} (g : List Item → St → Option R) (K : AV → List O → Option R) (apart : List (List Bool)) (first : Bool) (more : Bool) (s : Int) (o0 : Int) (o0_1 : Int) (o0_2 : Int) (o0_3 : Int) (o0_4 : List Int) (o0_5 : List Int) (o1 : List (List Bool)) :
    runSeg Try.prog (T_tutorref05_round @l_tutorref05_now) cuts_tutorref05_round 0 g (finish Try.prog Try.f35 0 K) (at' Try.f35 4) ⟨fr0 111 [(1, .rd ⟨false, 86, (.sl 4 .bool), apart⟩), (2, .v (.bool first)), (3, .ptr 0 0), (8, .nst 1), (9, .v (.bool more)), (10, .v (.int .i64 s))], [.box 24 [.v (.int .i64 o0), .v (.int .i64 o0_1), .v (.int .i64 o0_2), .v (.int .i64 o0_3), .rd ⟨false, 3, (.int .i64), o0_4⟩, .rd ⟨false, 3, (.int .i64), o0_5⟩], .nst ⟨true, 86, (.sl 4 .bool), o1⟩]⟩ =
    s_tutorref05_round_4 (fun apart first more s o0 o0_1 o0_2 o0_3 o0_4 o0_5 o1 => g (at' Try.f35 4) ⟨fr0 111 [(1, .rd ⟨false, 86, (.sl 4 .bool), apart⟩), (2, .v (.bool first)), (3, .ptr 0 0), (8, .nst 1), (9, .v (.bool more)), (10, .v (.int .i64 s))], [.box 24 [.v (.int .i64 o0), .v (.int .i64 o0_1), .v (.int .i64 o0_2), .v (.int .i64 o0_3), .rd ⟨false, 3, (.int .i64), o0_4⟩, .rd ⟨false, 3, (.int .i64), o0_5⟩], .nst ⟨true, 86, (.sl 4 .bool), o1⟩]⟩) (fun apart first more s t o0 o0_1 o0_2 o0_3 o0_4 o0_5 o1 o2 => g (at' Try.f35 8) ⟨fr0 111 [(1, .rd ⟨false, 86, (.sl 4 .bool), apart⟩), (2, .v (.bool first)), (3, .ptr 0 0), (8, .nst 1), (9, .v (.bool more)), (10, .v (.int .i64 s)), (11, .own 2), (12, .v (.int .i64 t))], [.box 24 [.v (.int .i64 o0), .v (.int .i64 o0_1), .v (.int .i64 o0_2), .v (.int .i64 o0_3), .rd ⟨false, 3, (.int .i64), o0_4⟩, .rd ⟨false, 3, (.int .i64), o0_5⟩], .nst ⟨true, 86, (.sl 4 .bool), o1⟩, .row ⟨true, 4, .bool, o2⟩]⟩) (fun apart first more s t x o0 o0_1 o0_2 o0_3 o0_4 o0_5 o1 o2 => g (at' Try.f35 12) ⟨fr0 111 [(1, .rd ⟨false, 86, (.sl 4 .bool), apart⟩), (2, .v (.bool first)), (3, .ptr 0 0), (8, .nst 1), (9, .v (.bool more)), (10, .v (.int .i64 s)), (11, .own 2), (12, .v (.int .i64 t)), (13, .v (.int .i64 x))], [.box 24 [.v (.int .i64 o0), .v (.int .i64 o0_1), .v (.int .i64 o0_2), .v (.int .i64 o0_3), .rd ⟨false, 3, (.int .i64), o0_4⟩, .rd ⟨false, 3, (.int .i64), o0_5⟩], .nst ⟨true, 86, (.sl 4 .bool), o1⟩, .row ⟨true, 4, .bool, o2⟩]⟩) (fun r0 r1 => K (.tup [.nst 0, .v (.bool r0)]) [.nst ⟨true, 86, (.sl 4 .bool), r1⟩]) apart first more s o0 o0_1 o0_2 o0_3 o0_4 o0_5 o1 := gstep_tutorref05_round_4 @l_tutorref05_now g K apart first more s o0 o0_1 o0_2 o0_3 o0_4 o0_5 o1

theorem gstep_tutorref05_round_8 (l_tutorref05_now : {R : Type} → Int → Int → Int → Int → (List Int) → (List Int) → Int → Int → (Bool → Option R) → Option R) {R : Type} (g : List Item → St → Option R) (K : AV → List O → Option R) (apart : List (List Bool)) (first : Bool) (more : Bool) (s : Int) (t : Int) (o0 : Int) (o0_1 : Int) (o0_2 : Int) (o0_3 : Int) (o0_4 : List Int) (o0_5 : List Int) (o1 : List (List Bool)) (o2 : List Bool) :
    runSeg Try.prog (T_tutorref05_round @l_tutorref05_now) cuts_tutorref05_round 0 g (finish Try.prog Try.f35 0 K) (at' Try.f35 8) ⟨fr0 111 [(1, .rd ⟨false, 86, (.sl 4 .bool), apart⟩), (2, .v (.bool first)), (3, .ptr 0 0), (8, .nst 1), (9, .v (.bool more)), (10, .v (.int .i64 s)), (11, .own 2), (12, .v (.int .i64 t))], [.box 24 [.v (.int .i64 o0), .v (.int .i64 o0_1), .v (.int .i64 o0_2), .v (.int .i64 o0_3), .rd ⟨false, 3, (.int .i64), o0_4⟩, .rd ⟨false, 3, (.int .i64), o0_5⟩], .nst ⟨true, 86, (.sl 4 .bool), o1⟩, .row ⟨true, 4, .bool, o2⟩]⟩ =
    (fun (g35_4 : (List (List Bool)) → Bool → Bool → Int → Int → Int → Int → Int → (List Int) → (List Int) → (List (List Bool)) → Option R) (g35_8 : (List (List Bool)) → Bool → Bool → Int → Int → Int → Int → Int → Int → (List Int) → (List Int) → (List (List Bool)) → (List Bool) → Option R) (g35_12 : (List (List Bool)) → Bool → Bool → Int → Int → Int → Int → Int → Int → Int → (List Int) → (List Int) → (List (List Bool)) → (List Bool) → Option R) (K0 : Bool → (List (List Bool)) → Option R) (apart : List (List Bool)) (first : Bool) (more : Bool) (s : Int) (t : Int) (o0 : Int) (o0_1 : Int) (o0_2 : Int) (o0_3 : Int) (o0_4 : List Int) (o0_5 : List Int) (o1 : List (List Bool)) (o2 : List Bool) =>
    bi (decide (t < o0_3))
     (bi (decide (0 ≤ s ∧ s < ((apart.length : Nat) : Int)))
      (bi (decide (0 ≤ t ∧ t < (((apart.getD s.toNat []).length : Nat) : Int)))
       (bi ((apart.getD s.toNat []).getD t.toNat false)
        (bi (decide (0 ≤ t ∧ t < ((o2.length : Nat) : Int)))
         (g35_12 apart first more s t 0 o0 o0_1 o0_2 o0_3 o0_4 o0_5 o1 (o2.set t.toNat true))
         none)
        (bi first
         (l_tutorref05_now o0 o0_1 o0_2 o0_3 o0_4 o0_5 s t
          (fun r1 =>
           bi (decide (0 ≤ t ∧ t < ((o2.length : Nat) : Int)))
            (g35_12 apart first more s t 0 o0 o0_1 o0_2 o0_3 o0_4 o0_5 o1 (o2.set t.toNat (!r1)))
            none))
         (bi (decide (0 ≤ t ∧ t < ((o2.length : Nat) : Int)))
          (g35_12 apart first more s t 0 o0 o0_1 o0_2 o0_3 o0_4 o0_5 o1 (o2.set t.toNat false))
          none)))
       none)
      none)
     (bi (decide ((o1.length + [o2].length) * 24 ≤ lim))
      (g35_4 apart first more (IntKind.i64.wrap (s + 1)) o0 o0_1 o0_2 o0_3 o0_4 o0_5 (o1 ++ [o2]))
      none)) (fun apart first more s o0 o0_1 o0_2 o0_3 o0_4 o0_5 o1 => g (at' Try.f35 4) ⟨fr0 111 [(1, .rd ⟨false, 86, (.sl 4 .bool), apart⟩), (2, .v (.bool first)), (3, .ptr 0 0), (8, .nst 1), (9, .v (.bool more)), (10, .v (.int .i64 s))], [.box 24 [.v (.int .i64 o0), .v (.int .i64 o0_1), .v (.int .i64 o0_2), .v (.int .i64 o0_3), .rd ⟨false, 3, (.int .i64), o0_4⟩, .rd ⟨false, 3, (.int .i64), o0_5⟩], .nst ⟨true, 86, (.sl 4 .bool), o1⟩]⟩) (fun apart first more s t o0 o0_1 o0_2 o0_3 o0_4 o0_5 o1 o2 => g (at' Try.f35 8) ⟨fr0 111 [(1, .rd ⟨false, 86, (.sl 4 .bool), apart⟩), (2, .v (.bool first)), (3, .ptr 0 0), (8, .nst 1), (9, .v (.bool more)), (10, .v (.int .i64 s)), (11, .own 2), (12, .v (.int .i64 t))], [.box 24 [.v (.int .i64 o0), .v (.int .i64 o0_1), .v (.int .i64 o0_2), .v (.int .i64 o0_3), .rd ⟨false, 3, (.int .i64), o0_4⟩, .rd ⟨false, 3, (.int .i64), o0_5⟩], .nst ⟨true, 86, (.sl 4 .bool), o1⟩, .row ⟨true, 4, .bool, o2⟩]⟩) (fun apart first more s t x o0 o0_1 o0_2 o0_3 o0_4 o0_5 o1 o2 => g (at' Try.f35 12) ⟨fr0 111 [(1, .rd ⟨false, 86, (.sl 4 .bool), apart⟩), (2, .v (.bool first)), (3, .ptr 0 0), (8, .nst 1), (9, .v (.bool more)), (10, .v (.int .i64 s)), (11, .own 2), (12, .v (.int .i64 t)), (13, .v (.int .i64 x))], [.box 24 [.v (.int .i64 o0), .v (.int .i64 o0_1), .v (.int .i64 o0_2), .v (.int .i64 o0_3), .rd ⟨false, 3, (.int .i64), o0_4⟩, .rd ⟨false, 3, (.int .i64), o0_5⟩], .nst ⟨true, 86, (.sl 4 .bool), o1⟩, .row ⟨true, 4, .bool, o2⟩]⟩) (fun r0 r1 => K (.tup [.nst 0, .v (.bool r0)]) [.nst ⟨true, 86, (.sl 4 .bool), r1⟩]) apart first more s t o0 o0_1 o0_2 o0_3 o0_4 o0_5 o1 o2 := by kernel_rfl

end
end Go.Ev
