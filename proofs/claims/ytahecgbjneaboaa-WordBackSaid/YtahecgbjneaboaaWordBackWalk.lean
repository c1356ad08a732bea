/- Each function of the program is its tree. -/
import Derived.Test.YtahecgbjneaboaaProg
import Derived.Test.YtahecgbjneaboaaEvFn
import Derived.Test.YtahecgbjneaboaaWordBackPure
namespace Go.Ev
open Go.Proofs
set_option linter.unusedVariables false
set_option linter.unusedSimpArgs false
set_option maxRecDepth 100000
set_option maxHeartbeats 4000000

theorem wide : Tables.follows Try.prog.toTables .mixedOrders = true := by kernel_rfl

def G0 : FuncId → Option Sum := fun _ => none
theorem right_G0 : Right Try.prog G0 := fun f S h => by cases h

def T_word_alphabet : FuncId → Option Sum := G0

theorem right_T_word_alphabet : Right Try.prog T_word_alphabet := right_G0

abbrev cuts_word_alphabet : Cuts := []

theorem gentry_word_alphabet {R : Type} (K : AV → List O → Option R) (k : Int) :
    fnRun Try.prog T_word_alphabet cuts_word_alphabet Try.f41 0 [.v (.int .i64 k)] [] K =
    (fun (k : Int) (K0 : Bool → Option R) =>
    bi (decide (k ≥ 1))
     (K0 (decide (k ≤ 64)))
     (K0 false)) k (fun r0 => K (.v (.bool r0)) []) := by kernel_rfl

theorem entry_word_alphabet {R : Type} (K : AV → List O → Option R) (k : Int) :
    fnRun Try.prog T_word_alphabet cuts_word_alphabet Try.f41 0 [.v (.int .i64 k)] [] K =
    l_word_alphabet k (fun r0 => K (.v (.bool r0)) []) := gentry_word_alphabet K k

def S_word_alphabet (l_word_alphabet : {R : Type} → Int → (Bool → Option R) → Option R) : Sum := ⟨[], fun {R} args ob K => match args, ob with
  | [.v (.int .i64 k)], [] => l_word_alphabet k (fun r0 => K (.v (.bool r0)) [])
  | _, _ => none⟩

theorem sound_word_alphabet : Sound Try.prog 41 (S_word_alphabet @l_word_alphabet) := by
  refine fn_sound (cuts := cuts_word_alphabet) (fn := Try.f41) (Γ := T_word_alphabet) wide right_T_word_alphabet Try.func41 fun {R} K r args ob h => ?_
  unfold S_word_alphabet at h
  dsimp only at h
  split at h
  · exact ⟨Nat.le_of_ble_eq_true (by kernel_rfl), 0, (entry_word_alphabet K _).trans h⟩
  · cases h

theorem call_word_alphabet : Callable Try.prog 41 := ⟨_, Try.func41, by kernel_rfl, by kernel_rfl⟩

def T_slices_Reverse_int_int : FuncId → Option Sum := G0

theorem right_T_slices_Reverse_int_int : Right Try.prog T_slices_Reverse_int_int := right_G0

abbrev cuts_slices_Reverse_int_int : Cuts := [(1, [0, 2, 3])]

theorem gstep_slices_Reverse_int_int_1 {R : Type} (g : List Item → St → Option R) (K : AV → List O → Option R) (i : Int) (j : Int) (o0 : List Int) :
    runSeg Try.prog T_slices_Reverse_int_int cuts_slices_Reverse_int_int 1 g (finish Try.prog Try.f48 1 K) (at' Try.f48 1) ⟨fr0 28 [(0, .own 0), (2, .v (.int .i64 i)), (3, .v (.int .i64 j))], [.row ⟨false, 3, (.int .i64), o0⟩]⟩ =
    (fun (g48_1 : Int → Int → (List Int) → Option R) (K0 : (List Int) → Option R) (i : Int) (j : Int) (o0 : List Int) =>
    bi (decide (i < j))
     (bi (decide (0 ≤ j ∧ j < ((o0.length : Nat) : Int)))
      (bi (decide (0 ≤ i ∧ i < ((o0.length : Nat) : Int)))
       (bi (decide (0 ≤ i ∧ i < ((o0.length : Nat) : Int)))
        (bi (decide (0 ≤ j ∧ j < (((o0.set i.toNat (o0.getD j.toNat 0)).length : Nat) : Int)))
         (g48_1 (IntKind.i64.wrap (i + 1)) (IntKind.i64.wrap (j - 1)) ((o0.set i.toNat (o0.getD j.toNat 0)).set j.toNat (o0.getD i.toNat 0)))
         none)
        none)
       none)
      none)
     (K0 o0)) (fun i j o0 => g (at' Try.f48 1) ⟨fr0 28 [(0, .own 0), (2, .v (.int .i64 i)), (3, .v (.int .i64 j))], [.row ⟨false, 3, (.int .i64), o0⟩]⟩) (fun r0 => K (.tup []) [.row ⟨false, 3, (.int .i64), r0⟩]) i j o0 := by kernel_rfl

theorem step_slices_Reverse_int_int_1 {R : Type} (g : List Item → St → Option R) (K : AV → List O → Option R) (i : Int) (j : Int) (o0 : List Int) :
    runSeg Try.prog T_slices_Reverse_int_int cuts_slices_Reverse_int_int 1 g (finish Try.prog Try.f48 1 K) (at' Try.f48 1) ⟨fr0 28 [(0, .own 0), (2, .v (.int .i64 i)), (3, .v (.int .i64 j))], [.row ⟨false, 3, (.int .i64), o0⟩]⟩ =
    s_slices_Reverse_int_int_1 (fun i j o0 => g (at' Try.f48 1) ⟨fr0 28 [(0, .own 0), (2, .v (.int .i64 i)), (3, .v (.int .i64 j))], [.row ⟨false, 3, (.int .i64), o0⟩]⟩) (fun r0 => K (.tup []) [.row ⟨false, 3, (.int .i64), r0⟩]) i j o0 := gstep_slices_Reverse_int_int_1 g K i j o0

theorem gentry_slices_Reverse_int_int {R : Type} (fuel : Nat) (K : AV → List O → Option R) (o0 : List Int) :
    fnRun Try.prog T_slices_Reverse_int_int cuts_slices_Reverse_int_int Try.f48 fuel [.own 0] [.row ⟨false, 3, (.int .i64), o0⟩] K =
    (fun (g48_1 : Int → Int → (List Int) → Option R) (K0 : (List Int) → Option R) (o0 : List Int) =>
    g48_1 0 (IntKind.i64.wrap ((o0.length : Int) - 1)) o0) (fun i j o0 => (runO Try.prog T_slices_Reverse_int_int cuts_slices_Reverse_int_int 1 (finish Try.prog Try.f48 1 K) fuel) (at' Try.f48 1) ⟨fr0 28 [(0, .own 0), (2, .v (.int .i64 i)), (3, .v (.int .i64 j))], [.row ⟨false, 3, (.int .i64), o0⟩]⟩) (fun r0 => K (.tup []) [.row ⟨false, 3, (.int .i64), r0⟩]) o0 := by kernel_rfl

theorem entry_slices_Reverse_int_int {R : Type} (fuel : Nat) (K : AV → List O → Option R) (o0 : List Int) :
    fnRun Try.prog T_slices_Reverse_int_int cuts_slices_Reverse_int_int Try.f48 fuel [.own 0] [.row ⟨false, 3, (.int .i64), o0⟩] K =
    e_slices_Reverse_int_int (fun i j o0 => (runO Try.prog T_slices_Reverse_int_int cuts_slices_Reverse_int_int 1 (finish Try.prog Try.f48 1 K) fuel) (at' Try.f48 1) ⟨fr0 28 [(0, .own 0), (2, .v (.int .i64 i)), (3, .v (.int .i64 j))], [.row ⟨false, 3, (.int .i64), o0⟩]⟩) (fun r0 => K (.tup []) [.row ⟨false, 3, (.int .i64), r0⟩]) o0 := gentry_slices_Reverse_int_int fuel K o0

theorem runs_slices_Reverse_int_int {R : Type} (K : AV → List O → Option R) : ∀ fuel : Nat,
    (fun i j o0 => (runO Try.prog T_slices_Reverse_int_int cuts_slices_Reverse_int_int 1 (finish Try.prog Try.f48 1 K) fuel) (at' Try.f48 1) ⟨fr0 28 [(0, .own 0), (2, .v (.int .i64 i)), (3, .v (.int .i64 j))], [.row ⟨false, 3, (.int .i64), o0⟩]⟩) = (run_slices_Reverse_int_int (fun r0 => K (.tup []) [.row ⟨false, 3, (.int .i64), r0⟩]) fuel)
  | 0 => rfl
  | fuel + 1 => by
    have ih := runs_slices_Reverse_int_int K fuel
    funext i j o0
    refine (step_slices_Reverse_int_int_1 _ K i j o0).trans ?_
    rw [ih]
    rfl

def S_slices_Reverse_int_int (l_slices_Reverse_int_int : {R : Type} → (List Int) → ((List Int) → Option R) → Option R) : Sum := ⟨[0], fun {R} args ob K => match args, ob with
  | [.own 0], [.row ⟨false, 3, (.int .i64), o0⟩] => l_slices_Reverse_int_int o0 (fun r0 => K (.tup []) [.row ⟨false, 3, (.int .i64), r0⟩])
  | _, _ => none⟩

theorem sound_slices_Reverse_int_int : Sound Try.prog 48 (S_slices_Reverse_int_int @l_slices_Reverse_int_int) := by
  refine fn_sound (cuts := cuts_slices_Reverse_int_int) (fn := Try.f48) (Γ := T_slices_Reverse_int_int) wide right_T_slices_Reverse_int_int Try.func48 fun {R} K r args ob h => ?_
  unfold S_slices_Reverse_int_int at h
  dsimp only at h
  split at h
  · obtain ⟨n, hn⟩ := ok_slices_Reverse_int_int _ _ h
    refine ⟨Nat.le_of_ble_eq_true (by kernel_rfl), n, (entry_slices_Reverse_int_int n K _).trans ?_⟩
    rw [(runs_slices_Reverse_int_int K n)]
    exact hn
  · cases h

theorem call_slices_Reverse_int_int : Callable Try.prog 48 := ⟨_, Try.func48, by kernel_rfl, by kernel_rfl⟩

def T_word_At (l_word_alphabet : {R : Type} → Int → (Bool → Option R) → Option R) (l_slices_Reverse_int_int : {R : Type} → (List Int) → ((List Int) → Option R) → Option R) : FuncId → Option Sum := (addS (addS G0 41 (S_word_alphabet @l_word_alphabet)) 48 (S_slices_Reverse_int_int @l_slices_Reverse_int_int))

theorem right_T_word_At : Right Try.prog (T_word_At @l_word_alphabet @l_slices_Reverse_int_int) := (right_add (right_add right_G0 call_word_alphabet sound_word_alphabet) call_slices_Reverse_int_int sound_slices_Reverse_int_int)

abbrev cuts_word_At : Cuts := [(10, [0, 1, 6])]

theorem gstep_word_At_10 (l_word_alphabet : {R : Type} → Int → (Bool → Option R) → Option R) (l_slices_Reverse_int_int : {R : Type} → (List Int) → ((List Int) → Option R) → Option R) {R : Type} (g : List Item → St → Option R) (K : AV → List O → Option R) (k : Int) (i : Int) (o0 : List Int) :
    runSeg Try.prog (T_word_At @l_word_alphabet @l_slices_Reverse_int_int) cuts_word_At 0 g (finish Try.prog Try.f29 0 K) (at' Try.f29 10) ⟨fr0 46 [(0, .v (.int .i64 k)), (1, .v (.int .i64 i)), (6, .own 0)], [.row ⟨true, 3, (.int .i64), o0⟩]⟩ =
    (fun (g29_10 : Int → Int → (List Int) → Option R) (K0 : Int → (List Int) → Option R) (K1 : Int → (List Int) → Option R) (k : Int) (i : Int) (o0 : List Int) =>
    bi (decide (i > 0))
     (bi (decide (k = 0))
      none
      (bi (decide ((o0.length + [(IntKind.i64.wrap (i - 1)).tmod k].length) * 8 ≤ lim))
       (bi (decide (k = 0))
        none
        (g29_10 k (IntKind.i64.wrap ((IntKind.i64.wrap (i - 1)).tdiv k)) (o0 ++ [(IntKind.i64.wrap (i - 1)).tmod k])))
       none))
     (l_slices_Reverse_int_int o0
      (fun r2 =>
       K1 0 r2))) (fun k i o0 => g (at' Try.f29 10) ⟨fr0 46 [(0, .v (.int .i64 k)), (1, .v (.int .i64 i)), (6, .own 0)], [.row ⟨true, 3, (.int .i64), o0⟩]⟩) (fun r0 r1 => K (.tup [.own 0, .v (.int .i64 r0)]) [.row ⟨true, 3, (.int .i64), r1⟩]) (fun r0 r1 => K (.tup [.own 0, .v (.int .i64 r0)]) [.row ⟨false, 3, (.int .i64), r1⟩]) k i o0 := by kernel_rfl

theorem step_word_At_10 {R : Type} (g : List Item → St → Option R) (K : AV → List O → Option R) (k : Int) (i : Int) (o0 : List Int) :
    runSeg Try.prog (T_word_At @l_word_alphabet @l_slices_Reverse_int_int) cuts_word_At 0 g (finish Try.prog Try.f29 0 K) (at' Try.f29 10) ⟨fr0 46 [(0, .v (.int .i64 k)), (1, .v (.int .i64 i)), (6, .own 0)], [.row ⟨true, 3, (.int .i64), o0⟩]⟩ =
    s_word_At_10 (fun k i o0 => g (at' Try.f29 10) ⟨fr0 46 [(0, .v (.int .i64 k)), (1, .v (.int .i64 i)), (6, .own 0)], [.row ⟨true, 3, (.int .i64), o0⟩]⟩) (fun r0 r1 => K (.tup [.own 0, .v (.int .i64 r0)]) [.row ⟨true, 3, (.int .i64), r1⟩]) (fun r0 r1 => K (.tup [.own 0, .v (.int .i64 r0)]) [.row ⟨false, 3, (.int .i64), r1⟩]) k i o0 := gstep_word_At_10 @l_word_alphabet @l_slices_Reverse_int_int g K k i o0

theorem gentry_word_At (l_word_alphabet : {R : Type} → Int → (Bool → Option R) → Option R) (l_slices_Reverse_int_int : {R : Type} → (List Int) → ((List Int) → Option R) → Option R) {R : Type} (fuel : Nat) (K : AV → List O → Option R) (k : Int) (i : Int) :
    fnRun Try.prog (T_word_At @l_word_alphabet @l_slices_Reverse_int_int) cuts_word_At Try.f29 fuel [.v (.int .i64 k), .v (.int .i64 i)] [] K =
    (fun (g29_10 : Int → Int → (List Int) → Option R) (K0 : Int → (List Int) → Option R) (K1 : Int → (List Int) → Option R) (k : Int) (i : Int) =>
    l_word_alphabet k
     (fun r1 =>
      bi (!r1)
       (K0 1 ([] : List Int))
       (bi (decide (i < 0))
        (K0 1 ([] : List Int))
        (bi (decide (i > 1099511627776))
         (K0 11 ([] : List Int))
         (bi (k == 1)
          (bi (decide (i > 4096))
           (K0 2 ([] : List Int))
           (bi (k == 1)
            (bi (decide (0 ≤ i ∧ i ≤ i ∧ i ≤ 1073741824))
             (K0 0 (List.replicate i.toNat (0 : Int)))
             none)
            (g29_10 k i ([] : List Int))))
          (bi (k == 1)
           (bi (decide (0 ≤ i ∧ i ≤ i ∧ i ≤ 1073741824))
            (K0 0 (List.replicate i.toNat (0 : Int)))
            none)
           (g29_10 k i ([] : List Int)))))))) (fun k i o0 => (runO Try.prog (T_word_At @l_word_alphabet @l_slices_Reverse_int_int) cuts_word_At 0 (finish Try.prog Try.f29 0 K) fuel) (at' Try.f29 10) ⟨fr0 46 [(0, .v (.int .i64 k)), (1, .v (.int .i64 i)), (6, .own 0)], [.row ⟨true, 3, (.int .i64), o0⟩]⟩) (fun r0 r1 => K (.tup [.own 0, .v (.int .i64 r0)]) [.row ⟨true, 3, (.int .i64), r1⟩]) (fun r0 r1 => K (.tup [.own 0, .v (.int .i64 r0)]) [.row ⟨false, 3, (.int .i64), r1⟩]) k i := by kernel_rfl

theorem entry_word_At {R : Type} (fuel : Nat) (K : AV → List O → Option R) (k : Int) (i : Int) :
    fnRun Try.prog (T_word_At @l_word_alphabet @l_slices_Reverse_int_int) cuts_word_At Try.f29 fuel [.v (.int .i64 k), .v (.int .i64 i)] [] K =
    e_word_At (fun k i o0 => (runO Try.prog (T_word_At @l_word_alphabet @l_slices_Reverse_int_int) cuts_word_At 0 (finish Try.prog Try.f29 0 K) fuel) (at' Try.f29 10) ⟨fr0 46 [(0, .v (.int .i64 k)), (1, .v (.int .i64 i)), (6, .own 0)], [.row ⟨true, 3, (.int .i64), o0⟩]⟩) (fun r0 r1 => K (.tup [.own 0, .v (.int .i64 r0)]) [.row ⟨true, 3, (.int .i64), r1⟩]) (fun r0 r1 => K (.tup [.own 0, .v (.int .i64 r0)]) [.row ⟨false, 3, (.int .i64), r1⟩]) k i := gentry_word_At @l_word_alphabet @l_slices_Reverse_int_int fuel K k i

theorem runs_word_At {R : Type} (K : AV → List O → Option R) : ∀ fuel : Nat,
    (fun k i o0 => (runO Try.prog (T_word_At @l_word_alphabet @l_slices_Reverse_int_int) cuts_word_At 0 (finish Try.prog Try.f29 0 K) fuel) (at' Try.f29 10) ⟨fr0 46 [(0, .v (.int .i64 k)), (1, .v (.int .i64 i)), (6, .own 0)], [.row ⟨true, 3, (.int .i64), o0⟩]⟩) = (run_word_At (fun r0 r1 => K (.tup [.own 0, .v (.int .i64 r0)]) [.row ⟨true, 3, (.int .i64), r1⟩]) (fun r0 r1 => K (.tup [.own 0, .v (.int .i64 r0)]) [.row ⟨false, 3, (.int .i64), r1⟩]) fuel)
  | 0 => rfl
  | fuel + 1 => by
    have ih := runs_word_At K fuel
    funext k i o0
    refine (step_word_At_10 _ K k i o0).trans ?_
    rw [ih]
    rfl

def S_word_At (l_word_At : {R : Type} → Int → Int → (Int → (List Int) → Option R) → (Int → (List Int) → Option R) → Option R) : Sum := ⟨[], fun {R} args ob K => match args, ob with
  | [.v (.int .i64 k), .v (.int .i64 i)], [] => l_word_At k i (fun r0 r1 => K (.tup [.own 0, .v (.int .i64 r0)]) [.row ⟨true, 3, (.int .i64), r1⟩]) (fun r0 r1 => K (.tup [.own 0, .v (.int .i64 r0)]) [.row ⟨false, 3, (.int .i64), r1⟩])
  | _, _ => none⟩

theorem sound_word_At : Sound Try.prog 29 (S_word_At @l_word_At) := by
  refine fn_sound (cuts := cuts_word_At) (fn := Try.f29) (Γ := (T_word_At @l_word_alphabet @l_slices_Reverse_int_int)) wide right_T_word_At Try.func29 fun {R} K r args ob h => ?_
  unfold S_word_At at h
  dsimp only at h
  split at h
  · obtain ⟨n, hn⟩ := ok_word_At _ _ _ _ h
    refine ⟨Nat.le_of_ble_eq_true (by kernel_rfl), n, (entry_word_At n K _ _).trans ?_⟩
    rw [(runs_word_At K n)]
    exact hn
  · cases h

theorem call_word_At : Callable Try.prog 29 := ⟨_, Try.func29, by kernel_rfl, by kernel_rfl⟩

def T_tutorlaw01_num : FuncId → Option Sum := G0

theorem right_T_tutorlaw01_num : Right Try.prog T_tutorlaw01_num := right_G0

abbrev cuts_tutorlaw01_num : Cuts := []

theorem gentry_tutorlaw01_num {R : Type} (K : AV → List O → Option R) (e : Int) :
    fnRun Try.prog T_tutorlaw01_num cuts_tutorlaw01_num Try.f15 0 [.v (.int .i64 e)] [] K =
    (fun (e : Int) (K0 : Int → Option R) =>
    K0 e) e (fun r0 => K (.v (.int .i64 r0)) []) := by kernel_rfl

theorem entry_tutorlaw01_num {R : Type} (K : AV → List O → Option R) (e : Int) :
    fnRun Try.prog T_tutorlaw01_num cuts_tutorlaw01_num Try.f15 0 [.v (.int .i64 e)] [] K =
    l_tutorlaw01_num e (fun r0 => K (.v (.int .i64 r0)) []) := gentry_tutorlaw01_num K e

def S_tutorlaw01_num (l_tutorlaw01_num : {R : Type} → Int → (Int → Option R) → Option R) : Sum := ⟨[], fun {R} args ob K => match args, ob with
  | [.v (.int .i64 e)], [] => l_tutorlaw01_num e (fun r0 => K (.v (.int .i64 r0)) [])
  | _, _ => none⟩

theorem sound_tutorlaw01_num : Sound Try.prog 15 (S_tutorlaw01_num @l_tutorlaw01_num) := by
  refine fn_sound (cuts := cuts_tutorlaw01_num) (fn := Try.f15) (Γ := T_tutorlaw01_num) wide right_T_tutorlaw01_num Try.func15 fun {R} K r args ob h => ?_
  unfold S_tutorlaw01_num at h
  dsimp only at h
  split at h
  · exact ⟨Nat.le_of_ble_eq_true (by kernel_rfl), 0, (entry_tutorlaw01_num K _).trans h⟩
  · cases h

theorem call_tutorlaw01_num : Callable Try.prog 15 := ⟨_, Try.func15, by kernel_rfl, by kernel_rfl⟩

def T_word_Check (l_word_alphabet : {R : Type} → Int → (Bool → Option R) → Option R) : FuncId → Option Sum := (addS G0 41 (S_word_alphabet @l_word_alphabet))

theorem right_T_word_Check : Right Try.prog (T_word_Check @l_word_alphabet) := (right_add right_G0 call_word_alphabet sound_word_alphabet)

abbrev cuts_word_Check : Cuts := [(6, [0, 1, 16, 17])]

theorem gstep_word_Check_6 (l_word_alphabet : {R : Type} → Int → (Bool → Option R) → Option R) {R : Type} (g : List Item → St → Option R) (K : AV → List O → Option R) (w : List Int) (k : Int) (x16 : Int) (x17 : Int) :
    runSeg Try.prog (T_word_Check @l_word_alphabet) cuts_word_Check 0 g (finish Try.prog Try.f13 0 K) (at' Try.f13 6) ⟨fr0 35 [(0, .rd ⟨false, 3, (.int .i64), w⟩), (1, .v (.int .i64 k)), (16, .v (.int .i64 x16)), (17, .v (.int .i64 x17))], []⟩ =
    (fun (g13_6 : (List Int) → Int → Int → Int → Option R) (K0 : Int → Int → Option R) (w : List Int) (k : Int) (x16 : Int) (x17 : Int) =>
    bi (decide (x17 < x16))
     (bi (decide (0 ≤ x17 ∧ x17 < ((w.length : Nat) : Int)))
      (bi (decide ((w.getD x17.toNat 0) < 0))
       (K0 x17 10)
       (bi (decide (0 ≤ x17 ∧ x17 < ((w.length : Nat) : Int)))
        (bi (decide ((w.getD x17.toNat 0) ≥ k))
         (K0 x17 10)
         (g13_6 w k x16 (IntKind.i64.wrap (x17 + 1))))
        none))
      none)
     (K0 0 0)) (fun w k x16 x17 => g (at' Try.f13 6) ⟨fr0 35 [(0, .rd ⟨false, 3, (.int .i64), w⟩), (1, .v (.int .i64 k)), (16, .v (.int .i64 x16)), (17, .v (.int .i64 x17))], []⟩) (fun r0 r1 => K (.tup [.v (.int .i64 r0), .v (.int .i64 r1)]) []) w k x16 x17 := by kernel_rfl

theorem step_word_Check_6 {R : Type} (g : List Item → St → Option R) (K : AV → List O → Option R) (w : List Int) (k : Int) (x16 : Int) (x17 : Int) :
    runSeg Try.prog (T_word_Check @l_word_alphabet) cuts_word_Check 0 g (finish Try.prog Try.f13 0 K) (at' Try.f13 6) ⟨fr0 35 [(0, .rd ⟨false, 3, (.int .i64), w⟩), (1, .v (.int .i64 k)), (16, .v (.int .i64 x16)), (17, .v (.int .i64 x17))], []⟩ =
    s_word_Check_6 (fun w k x16 x17 => g (at' Try.f13 6) ⟨fr0 35 [(0, .rd ⟨false, 3, (.int .i64), w⟩), (1, .v (.int .i64 k)), (16, .v (.int .i64 x16)), (17, .v (.int .i64 x17))], []⟩) (fun r0 r1 => K (.tup [.v (.int .i64 r0), .v (.int .i64 r1)]) []) w k x16 x17 := gstep_word_Check_6 @l_word_alphabet g K w k x16 x17

theorem gentry_word_Check (l_word_alphabet : {R : Type} → Int → (Bool → Option R) → Option R) {R : Type} (fuel : Nat) (K : AV → List O → Option R) (w : List Int) (k : Int) :
    fnRun Try.prog (T_word_Check @l_word_alphabet) cuts_word_Check Try.f13 fuel [.rd ⟨false, 3, (.int .i64), w⟩, .v (.int .i64 k)] [] K =
    (fun (g13_6 : (List Int) → Int → Int → Int → Option R) (K0 : Int → Int → Option R) (w : List Int) (k : Int) =>
    l_word_alphabet k
     (fun r1 =>
      bi (!r1)
       (K0 0 1)
       (bi (decide ((w.length : Int) > 4096))
        (K0 0 2)
        (g13_6 w k (w.length : Int) 0)))) (fun w k x16 x17 => (runO Try.prog (T_word_Check @l_word_alphabet) cuts_word_Check 0 (finish Try.prog Try.f13 0 K) fuel) (at' Try.f13 6) ⟨fr0 35 [(0, .rd ⟨false, 3, (.int .i64), w⟩), (1, .v (.int .i64 k)), (16, .v (.int .i64 x16)), (17, .v (.int .i64 x17))], []⟩) (fun r0 r1 => K (.tup [.v (.int .i64 r0), .v (.int .i64 r1)]) []) w k := by kernel_rfl

theorem entry_word_Check {R : Type} (fuel : Nat) (K : AV → List O → Option R) (w : List Int) (k : Int) :
    fnRun Try.prog (T_word_Check @l_word_alphabet) cuts_word_Check Try.f13 fuel [.rd ⟨false, 3, (.int .i64), w⟩, .v (.int .i64 k)] [] K =
    e_word_Check (fun w k x16 x17 => (runO Try.prog (T_word_Check @l_word_alphabet) cuts_word_Check 0 (finish Try.prog Try.f13 0 K) fuel) (at' Try.f13 6) ⟨fr0 35 [(0, .rd ⟨false, 3, (.int .i64), w⟩), (1, .v (.int .i64 k)), (16, .v (.int .i64 x16)), (17, .v (.int .i64 x17))], []⟩) (fun r0 r1 => K (.tup [.v (.int .i64 r0), .v (.int .i64 r1)]) []) w k := gentry_word_Check @l_word_alphabet fuel K w k

theorem runs_word_Check {R : Type} (K : AV → List O → Option R) : ∀ fuel : Nat,
    (fun w k x16 x17 => (runO Try.prog (T_word_Check @l_word_alphabet) cuts_word_Check 0 (finish Try.prog Try.f13 0 K) fuel) (at' Try.f13 6) ⟨fr0 35 [(0, .rd ⟨false, 3, (.int .i64), w⟩), (1, .v (.int .i64 k)), (16, .v (.int .i64 x16)), (17, .v (.int .i64 x17))], []⟩) = (run_word_Check (fun r0 r1 => K (.tup [.v (.int .i64 r0), .v (.int .i64 r1)]) []) fuel)
  | 0 => rfl
  | fuel + 1 => by
    have ih := runs_word_Check K fuel
    funext w k x16 x17
    refine (step_word_Check_6 _ K w k x16 x17).trans ?_
    rw [ih]
    rfl

def S_word_Check (l_word_Check : {R : Type} → (List Int) → Int → (Int → Int → Option R) → Option R) : Sum := ⟨[], fun {R} args ob K => match args, ob with
  | [.rd ⟨false, 3, (.int .i64), w⟩, .v (.int .i64 k)], [] => l_word_Check w k (fun r0 r1 => K (.tup [.v (.int .i64 r0), .v (.int .i64 r1)]) [])
  | _, _ => none⟩

theorem sound_word_Check : Sound Try.prog 13 (S_word_Check @l_word_Check) := by
  refine fn_sound (cuts := cuts_word_Check) (fn := Try.f13) (Γ := (T_word_Check @l_word_alphabet)) wide right_T_word_Check Try.func13 fun {R} K r args ob h => ?_
  unfold S_word_Check at h
  dsimp only at h
  split at h
  · obtain ⟨n, hn⟩ := ok_word_Check _ _ _ h
    refine ⟨Nat.le_of_ble_eq_true (by kernel_rfl), n, (entry_word_Check n K _ _).trans ?_⟩
    rw [(runs_word_Check K n)]
    exact hn
  · cases h

theorem call_word_Check : Callable Try.prog 13 := ⟨_, Try.func13, by kernel_rfl, by kernel_rfl⟩

def T_word_counter : FuncId → Option Sum := G0

theorem right_T_word_counter : Right Try.prog T_word_counter := right_G0

abbrev cuts_word_counter : Cuts := []

theorem gentry_word_counter {R : Type} (K : AV → List O → Option R) (n : Int) :
    fnRun Try.prog T_word_counter cuts_word_counter Try.f47 0 [.v (.int .i64 n)] [] K =
    (fun (n : Int) (K0 : Bool → Option R) =>
    bi (decide (n ≥ 0))
     (K0 (decide (n ≤ 1099511627776)))
     (K0 false)) n (fun r0 => K (.v (.bool r0)) []) := by kernel_rfl

theorem entry_word_counter {R : Type} (K : AV → List O → Option R) (n : Int) :
    fnRun Try.prog T_word_counter cuts_word_counter Try.f47 0 [.v (.int .i64 n)] [] K =
    l_word_counter n (fun r0 => K (.v (.bool r0)) []) := gentry_word_counter K n

def S_word_counter (l_word_counter : {R : Type} → Int → (Bool → Option R) → Option R) : Sum := ⟨[], fun {R} args ob K => match args, ob with
  | [.v (.int .i64 n)], [] => l_word_counter n (fun r0 => K (.v (.bool r0)) [])
  | _, _ => none⟩

theorem sound_word_counter : Sound Try.prog 47 (S_word_counter @l_word_counter) := by
  refine fn_sound (cuts := cuts_word_counter) (fn := Try.f47) (Γ := T_word_counter) wide right_T_word_counter Try.func47 fun {R} K r args ob h => ?_
  unfold S_word_counter at h
  dsimp only at h
  split at h
  · exact ⟨Nat.le_of_ble_eq_true (by kernel_rfl), 0, (entry_word_counter K _).trans h⟩
  · cases h

theorem call_word_counter : Callable Try.prog 47 := ⟨_, Try.func47, by kernel_rfl, by kernel_rfl⟩

def T_word_Mul (l_word_counter : {R : Type} → Int → (Bool → Option R) → Option R) : FuncId → Option Sum := (addS G0 47 (S_word_counter @l_word_counter))

theorem right_T_word_Mul : Right Try.prog (T_word_Mul @l_word_counter) := (right_add right_G0 call_word_counter sound_word_counter)

abbrev cuts_word_Mul : Cuts := []

theorem gentry_word_Mul (l_word_counter : {R : Type} → Int → (Bool → Option R) → Option R) {R : Type} (K : AV → List O → Option R) (a : Int) (b : Int) :
    fnRun Try.prog (T_word_Mul @l_word_counter) cuts_word_Mul Try.f25 0 [.v (.int .i64 a), .v (.int .i64 b)] [] K =
    (fun (a : Int) (b : Int) (K0 : Int → Int → Option R) =>
    l_word_counter a
     (fun r1 =>
      bi (!r1)
       (K0 0 1)
       (l_word_counter b
        (fun r2 =>
         bi (!r2)
          (K0 0 1)
          (bi (decide (b > 0))
           (bi (decide (b = 0))
            none
            (bi (decide (a > (IntKind.i64.wrap ((1099511627776 : Int).tdiv b))))
             (K0 0 11)
             (K0 (IntKind.i64.wrap (a * b)) 0)))
           (K0 (IntKind.i64.wrap (a * b)) 0)))))) a b (fun r0 r1 => K (.tup [.v (.int .i64 r0), .v (.int .i64 r1)]) []) := by kernel_rfl

theorem entry_word_Mul {R : Type} (K : AV → List O → Option R) (a : Int) (b : Int) :
    fnRun Try.prog (T_word_Mul @l_word_counter) cuts_word_Mul Try.f25 0 [.v (.int .i64 a), .v (.int .i64 b)] [] K =
    l_word_Mul a b (fun r0 r1 => K (.tup [.v (.int .i64 r0), .v (.int .i64 r1)]) []) := gentry_word_Mul @l_word_counter K a b

def S_word_Mul (l_word_Mul : {R : Type} → Int → Int → (Int → Int → Option R) → Option R) : Sum := ⟨[], fun {R} args ob K => match args, ob with
  | [.v (.int .i64 a), .v (.int .i64 b)], [] => l_word_Mul a b (fun r0 r1 => K (.tup [.v (.int .i64 r0), .v (.int .i64 r1)]) [])
  | _, _ => none⟩

theorem sound_word_Mul : Sound Try.prog 25 (S_word_Mul @l_word_Mul) := by
  refine fn_sound (cuts := cuts_word_Mul) (fn := Try.f25) (Γ := (T_word_Mul @l_word_counter)) wide right_T_word_Mul Try.func25 fun {R} K r args ob h => ?_
  unfold S_word_Mul at h
  dsimp only at h
  split at h
  · exact ⟨Nat.le_of_ble_eq_true (by kernel_rfl), 0, (entry_word_Mul K _ _).trans h⟩
  · cases h

theorem call_word_Mul : Callable Try.prog 25 := ⟨_, Try.func25, by kernel_rfl, by kernel_rfl⟩

def T_word_Add (l_word_counter : {R : Type} → Int → (Bool → Option R) → Option R) : FuncId → Option Sum := (addS G0 47 (S_word_counter @l_word_counter))

theorem right_T_word_Add : Right Try.prog (T_word_Add @l_word_counter) := (right_add right_G0 call_word_counter sound_word_counter)

abbrev cuts_word_Add : Cuts := []

theorem gentry_word_Add (l_word_counter : {R : Type} → Int → (Bool → Option R) → Option R) {R : Type} (K : AV → List O → Option R) (a : Int) (b : Int) :
    fnRun Try.prog (T_word_Add @l_word_counter) cuts_word_Add Try.f23 0 [.v (.int .i64 a), .v (.int .i64 b)] [] K =
    (fun (a : Int) (b : Int) (K0 : Int → Int → Option R) =>
    l_word_counter a
     (fun r1 =>
      bi (!r1)
       (K0 0 1)
       (l_word_counter b
        (fun r2 =>
         bi (!r2)
          (K0 0 1)
          (bi (decide (a > (IntKind.i64.wrap (1099511627776 - b))))
           (K0 0 11)
           (K0 (IntKind.i64.wrap (a + b)) 0)))))) a b (fun r0 r1 => K (.tup [.v (.int .i64 r0), .v (.int .i64 r1)]) []) := by kernel_rfl

theorem entry_word_Add {R : Type} (K : AV → List O → Option R) (a : Int) (b : Int) :
    fnRun Try.prog (T_word_Add @l_word_counter) cuts_word_Add Try.f23 0 [.v (.int .i64 a), .v (.int .i64 b)] [] K =
    l_word_Add a b (fun r0 r1 => K (.tup [.v (.int .i64 r0), .v (.int .i64 r1)]) []) := gentry_word_Add @l_word_counter K a b

def S_word_Add (l_word_Add : {R : Type} → Int → Int → (Int → Int → Option R) → Option R) : Sum := ⟨[], fun {R} args ob K => match args, ob with
  | [.v (.int .i64 a), .v (.int .i64 b)], [] => l_word_Add a b (fun r0 r1 => K (.tup [.v (.int .i64 r0), .v (.int .i64 r1)]) [])
  | _, _ => none⟩

theorem sound_word_Add : Sound Try.prog 23 (S_word_Add @l_word_Add) := by
  refine fn_sound (cuts := cuts_word_Add) (fn := Try.f23) (Γ := (T_word_Add @l_word_counter)) wide right_T_word_Add Try.func23 fun {R} K r args ob h => ?_
  unfold S_word_Add at h
  dsimp only at h
  split at h
  · exact ⟨Nat.le_of_ble_eq_true (by kernel_rfl), 0, (entry_word_Add K _ _).trans h⟩
  · cases h

theorem call_word_Add : Callable Try.prog 23 := ⟨_, Try.func23, by kernel_rfl, by kernel_rfl⟩

def T_word_Rank (l_word_Check : {R : Type} → (List Int) → Int → (Int → Int → Option R) → Option R) (l_word_Add : {R : Type} → Int → Int → (Int → Int → Option R) → Option R) (l_word_Mul : {R : Type} → Int → Int → (Int → Int → Option R) → Option R) : FuncId → Option Sum := (addS (addS (addS G0 13 (S_word_Check @l_word_Check)) 23 (S_word_Add @l_word_Add)) 25 (S_word_Mul @l_word_Mul))

theorem right_T_word_Rank : Right Try.prog (T_word_Rank @l_word_Check @l_word_Add @l_word_Mul) := (right_add (right_add (right_add right_G0 call_word_Check sound_word_Check) call_word_Add sound_word_Add) call_word_Mul sound_word_Mul)

abbrev cuts_word_Rank : Cuts := [(6, [1, 8, 22, 23, 24])]

theorem gstep_word_Rank_6 (l_word_Check : {R : Type} → (List Int) → Int → (Int → Int → Option R) → Option R) (l_word_Add : {R : Type} → Int → Int → (Int → Int → Option R) → Option R) (l_word_Mul : {R : Type} → Int → Int → (Int → Int → Option R) → Option R) {R : Type} (g : List Item → St → Option R) (K : AV → List O → Option R) (k : Int) (n : Int) (x22 : List Int) (x23 : Int) (x24 : Int) :
    runSeg Try.prog (T_word_Rank @l_word_Check @l_word_Add @l_word_Mul) cuts_word_Rank 0 g (finish Try.prog Try.f31 0 K) (at' Try.f31 6) ⟨fr0 48 [(1, .v (.int .i64 k)), (8, .v (.int .i64 n)), (22, .rd ⟨false, 3, (.int .i64), x22⟩), (23, .v (.int .i64 x23)), (24, .v (.int .i64 x24))], []⟩ =
    (fun (g31_6 : Int → Int → (List Int) → Int → Int → Option R) (K0 : Int → Int → Option R) (k : Int) (n : Int) (x22 : List Int) (x23 : Int) (x24 : Int) =>
    bi (decide (x24 < x23))
     (bi (decide (0 ≤ x24 ∧ x24 < ((x22.length : Nat) : Int)))
      (l_word_Mul n k
       (fun r3 r4 =>
        bi (r4 == 0)
         (l_word_Add r3 (IntKind.i64.wrap ((x22.getD x24.toNat 0) + 1))
          (fun r5 r6 =>
           bi (r6 != 0)
            (K0 0 11)
            (g31_6 k r5 x22 x23 (IntKind.i64.wrap (x24 + 1)))))
         (bi (r4 != 0)
          (K0 0 11)
          (g31_6 k r3 x22 x23 (IntKind.i64.wrap (x24 + 1))))))
      none)
     (K0 n 0)) (fun k n x22 x23 x24 => g (at' Try.f31 6) ⟨fr0 48 [(1, .v (.int .i64 k)), (8, .v (.int .i64 n)), (22, .rd ⟨false, 3, (.int .i64), x22⟩), (23, .v (.int .i64 x23)), (24, .v (.int .i64 x24))], []⟩) (fun r0 r1 => K (.tup [.v (.int .i64 r0), .v (.int .i64 r1)]) []) k n x22 x23 x24 := by kernel_rfl

theorem step_word_Rank_6 {R : Type} (g : List Item → St → Option R) (K : AV → List O → Option R) (k : Int) (n : Int) (x22 : List Int) (x23 : Int) (x24 : Int) :
    runSeg Try.prog (T_word_Rank @l_word_Check @l_word_Add @l_word_Mul) cuts_word_Rank 0 g (finish Try.prog Try.f31 0 K) (at' Try.f31 6) ⟨fr0 48 [(1, .v (.int .i64 k)), (8, .v (.int .i64 n)), (22, .rd ⟨false, 3, (.int .i64), x22⟩), (23, .v (.int .i64 x23)), (24, .v (.int .i64 x24))], []⟩ =
    s_word_Rank_6 (fun k n x22 x23 x24 => g (at' Try.f31 6) ⟨fr0 48 [(1, .v (.int .i64 k)), (8, .v (.int .i64 n)), (22, .rd ⟨false, 3, (.int .i64), x22⟩), (23, .v (.int .i64 x23)), (24, .v (.int .i64 x24))], []⟩) (fun r0 r1 => K (.tup [.v (.int .i64 r0), .v (.int .i64 r1)]) []) k n x22 x23 x24 := gstep_word_Rank_6 @l_word_Check @l_word_Add @l_word_Mul g K k n x22 x23 x24

theorem gentry_word_Rank (l_word_Check : {R : Type} → (List Int) → Int → (Int → Int → Option R) → Option R) (l_word_Add : {R : Type} → Int → Int → (Int → Int → Option R) → Option R) (l_word_Mul : {R : Type} → Int → Int → (Int → Int → Option R) → Option R) {R : Type} (fuel : Nat) (K : AV → List O → Option R) (w : List Int) (k : Int) :
    fnRun Try.prog (T_word_Rank @l_word_Check @l_word_Add @l_word_Mul) cuts_word_Rank Try.f31 fuel [.rd ⟨false, 3, (.int .i64), w⟩, .v (.int .i64 k)] [] K =
    (fun (g31_6 : Int → Int → (List Int) → Int → Int → Option R) (K0 : Int → Int → Option R) (w : List Int) (k : Int) =>
    l_word_Check w k
     (fun r1 r2 =>
      bi (r2 != 0)
       (K0 0 r2)
       (g31_6 k 0 w (w.length : Int) 0))) (fun k n x22 x23 x24 => (runO Try.prog (T_word_Rank @l_word_Check @l_word_Add @l_word_Mul) cuts_word_Rank 0 (finish Try.prog Try.f31 0 K) fuel) (at' Try.f31 6) ⟨fr0 48 [(1, .v (.int .i64 k)), (8, .v (.int .i64 n)), (22, .rd ⟨false, 3, (.int .i64), x22⟩), (23, .v (.int .i64 x23)), (24, .v (.int .i64 x24))], []⟩) (fun r0 r1 => K (.tup [.v (.int .i64 r0), .v (.int .i64 r1)]) []) w k := by kernel_rfl

theorem entry_word_Rank {R : Type} (fuel : Nat) (K : AV → List O → Option R) (w : List Int) (k : Int) :
    fnRun Try.prog (T_word_Rank @l_word_Check @l_word_Add @l_word_Mul) cuts_word_Rank Try.f31 fuel [.rd ⟨false, 3, (.int .i64), w⟩, .v (.int .i64 k)] [] K =
    e_word_Rank (fun k n x22 x23 x24 => (runO Try.prog (T_word_Rank @l_word_Check @l_word_Add @l_word_Mul) cuts_word_Rank 0 (finish Try.prog Try.f31 0 K) fuel) (at' Try.f31 6) ⟨fr0 48 [(1, .v (.int .i64 k)), (8, .v (.int .i64 n)), (22, .rd ⟨false, 3, (.int .i64), x22⟩), (23, .v (.int .i64 x23)), (24, .v (.int .i64 x24))], []⟩) (fun r0 r1 => K (.tup [.v (.int .i64 r0), .v (.int .i64 r1)]) []) w k := gentry_word_Rank @l_word_Check @l_word_Add @l_word_Mul fuel K w k

theorem runs_word_Rank {R : Type} (K : AV → List O → Option R) : ∀ fuel : Nat,
    (fun k n x22 x23 x24 => (runO Try.prog (T_word_Rank @l_word_Check @l_word_Add @l_word_Mul) cuts_word_Rank 0 (finish Try.prog Try.f31 0 K) fuel) (at' Try.f31 6) ⟨fr0 48 [(1, .v (.int .i64 k)), (8, .v (.int .i64 n)), (22, .rd ⟨false, 3, (.int .i64), x22⟩), (23, .v (.int .i64 x23)), (24, .v (.int .i64 x24))], []⟩) = (run_word_Rank (fun r0 r1 => K (.tup [.v (.int .i64 r0), .v (.int .i64 r1)]) []) fuel)
  | 0 => rfl
  | fuel + 1 => by
    have ih := runs_word_Rank K fuel
    funext k n x22 x23 x24
    refine (step_word_Rank_6 _ K k n x22 x23 x24).trans ?_
    rw [ih]
    rfl

def S_word_Rank (l_word_Rank : {R : Type} → (List Int) → Int → (Int → Int → Option R) → Option R) : Sum := ⟨[], fun {R} args ob K => match args, ob with
  | [.rd ⟨false, 3, (.int .i64), w⟩, .v (.int .i64 k)], [] => l_word_Rank w k (fun r0 r1 => K (.tup [.v (.int .i64 r0), .v (.int .i64 r1)]) [])
  | _, _ => none⟩

theorem sound_word_Rank : Sound Try.prog 31 (S_word_Rank @l_word_Rank) := by
  refine fn_sound (cuts := cuts_word_Rank) (fn := Try.f31) (Γ := (T_word_Rank @l_word_Check @l_word_Add @l_word_Mul)) wide right_T_word_Rank Try.func31 fun {R} K r args ob h => ?_
  unfold S_word_Rank at h
  dsimp only at h
  split at h
  · obtain ⟨n, hn⟩ := ok_word_Rank _ _ _ h
    refine ⟨Nat.le_of_ble_eq_true (by kernel_rfl), n, (entry_word_Rank n K _ _).trans ?_⟩
    rw [(runs_word_Rank K n)]
    exact hn
  · cases h

theorem call_word_Rank : Callable Try.prog 31 := ⟨_, Try.func31, by kernel_rfl, by kernel_rfl⟩

theorem nil_slices_Clone_int_int {R : Type} (K : AV → List O → Option R) (c : Nat) :
    fnRun Try.prog G0 [] Try.f45 0 [.v (.slice none 0 c)] [] K = K (.own 0) [.row ⟨true, 3, (.int .i64), []⟩] := by kernel_rfl

theorem emp_slices_Clone_int_int {R : Type} (K : AV → List O → Option R) (a : Addr) (c : Nat) :
    fnRun Try.prog G0 [] Try.f45 0 [.v (.slice (some a) 0 c)] [] K = K (.own 0) [.row ⟨true, 3, (.int .i64), [] ++ []⟩] := by kernel_rfl

theorem cons_slices_Clone_int_int {R : Type} (K : AV → List O → Option R) (x : Int) (xs : List Int) :
    fnRun Try.prog G0 [] Try.f45 0 [.rd ⟨false, 3, (.int .i64), x :: xs⟩] [] K =
    bi (decide ((([] : List Int).length + (x :: xs).length) * 8 ≤ lim)) (K (.own 0) [.row ⟨true, 3, (.int .i64), [] ++ (x :: xs)⟩]) none := by kernel_rfl

def S_slices_Clone_int_int (l_slices_Clone_int_int : {R : Type} → (List Int) → ((List Int) → Option R) → Option R) : Sum := ⟨[], fun {R} args ob K => match args, ob with
  | [.rd ⟨false, 3, (.int .i64), s⟩], [] => l_slices_Clone_int_int s (fun r0 => K (.own 0) [.row ⟨true, 3, (.int .i64), r0⟩])
  | _, _ => none⟩

theorem sound_slices_Clone_int_int : Sound Try.prog 45 (S_slices_Clone_int_int @l_slices_Clone_int_int) := by
  refine fn_sound' (cuts := []) (fn := Try.f45) (Γ := G0) wide right_G0 Try.func45 fun {R} K r args ob h vals w ok β hr => ?_
  unfold S_slices_Clone_int_int at h
  dsimp only at h
  split at h
  · rename_i s
    obtain ⟨v, rfl, hv⟩ := hr.single
    rcases bi_some h with ⟨hl, h⟩ | ⟨_, h⟩
    · cases hv with
      | rd _ A c hc hrow =>
        cases s with
        | nil => cases A with
          | none => exact ⟨[.v (.slice none 0 c)], RepL.consts _ _ _ [.slice none 0 c], Nat.le_of_ble_eq_true (by kernel_rfl), 0, (nil_slices_Clone_int_int K c).trans h⟩
          | some a => exact ⟨[.v (.slice (some a) 0 c)], RepL.consts _ _ _ [.slice (some a) 0 c], Nat.le_of_ble_eq_true (by kernel_rfl), 0, (emp_slices_Clone_int_int K a c).trans h⟩
        | cons x xs =>
          refine ⟨_, hr, Nat.le_of_ble_eq_true (by kernel_rfl), 0, (cons_slices_Clone_int_int K x xs).trans ?_⟩
          rw [List.length_nil, Nat.zero_add, hl, br_tt]
          exact h
    · cases h
  · cases h

theorem call_slices_Clone_int_int : Callable Try.prog 45 := ⟨_, Try.func45, by kernel_rfl, by kernel_rfl⟩

def T_word_Next (l_slices_Clone_int_int : {R : Type} → (List Int) → ((List Int) → Option R) → Option R) (l_word_Check : {R : Type} → (List Int) → Int → (Int → Int → Option R) → Option R) : FuncId → Option Sum := (addS (addS G0 45 (S_slices_Clone_int_int @l_slices_Clone_int_int)) 13 (S_word_Check @l_word_Check))

theorem right_T_word_Next : Right Try.prog (T_word_Next @l_slices_Clone_int_int @l_word_Check) := (right_add (right_add right_G0 call_slices_Clone_int_int sound_slices_Clone_int_int) call_word_Check sound_word_Check)

abbrev cuts_word_Next : Cuts := [(6, [0, 1, 8, 9])]

theorem gstep_word_Next_6 (l_slices_Clone_int_int : {R : Type} → (List Int) → ((List Int) → Option R) → Option R) (l_word_Check : {R : Type} → (List Int) → Int → (Int → Int → Option R) → Option R) {R : Type} (g : List Item → St → Option R) (K : AV → List O → Option R) (w : List Int) (k : Int) (i : Int) (o0 : List Int) :
    runSeg Try.prog (T_word_Next @l_slices_Clone_int_int @l_word_Check) cuts_word_Next 0 g (finish Try.prog Try.f20 0 K) (at' Try.f20 6) ⟨fr0 50 [(0, .rd ⟨false, 3, (.int .i64), w⟩), (1, .v (.int .i64 k)), (8, .own 0), (9, .v (.int .i64 i))], [.row ⟨true, 3, (.int .i64), o0⟩]⟩ =
    (fun (g20_6 : (List Int) → Int → Int → (List Int) → Option R) (K0 : Int → (List Int) → Option R) (w : List Int) (k : Int) (i : Int) (o0 : List Int) =>
    bi (decide (i ≥ 0))
     (bi (decide (0 ≤ i ∧ i < ((o0.length : Nat) : Int)))
      (bi (decide (0 ≤ i ∧ i < ((o0.length : Nat) : Int)))
       (bi (decide (0 ≤ i ∧ i < (((o0.set i.toNat (IntKind.i64.wrap ((o0.getD i.toNat 0) + 1))).length : Nat) : Int)))
        (bi (decide (((o0.set i.toNat (IntKind.i64.wrap ((o0.getD i.toNat 0) + 1))).getD i.toNat 0) < k))
         (K0 0 (o0.set i.toNat (IntKind.i64.wrap ((o0.getD i.toNat 0) + 1))))
         (bi (decide (0 ≤ i ∧ i < (((o0.set i.toNat (IntKind.i64.wrap ((o0.getD i.toNat 0) + 1))).length : Nat) : Int)))
          (g20_6 w k (IntKind.i64.wrap (i - 1)) ((o0.set i.toNat (IntKind.i64.wrap ((o0.getD i.toNat 0) + 1))).set i.toNat 0))
          none))
        none)
       none)
      none)
     (bi ((w.length : Int) == 4096)
      (K0 2 ([] : List Int))
      (bi (decide ((o0.length + [0].length) * 8 ≤ lim))
       (K0 0 (o0 ++ [0]))
       none))) (fun w k i o0 => g (at' Try.f20 6) ⟨fr0 50 [(0, .rd ⟨false, 3, (.int .i64), w⟩), (1, .v (.int .i64 k)), (8, .own 0), (9, .v (.int .i64 i))], [.row ⟨true, 3, (.int .i64), o0⟩]⟩) (fun r0 r1 => K (.tup [.own 0, .v (.int .i64 r0)]) [.row ⟨true, 3, (.int .i64), r1⟩]) w k i o0 := by kernel_rfl

theorem step_word_Next_6 {R : Type} (g : List Item → St → Option R) (K : AV → List O → Option R) (w : List Int) (k : Int) (i : Int) (o0 : List Int) :
    runSeg Try.prog (T_word_Next @l_slices_Clone_int_int @l_word_Check) cuts_word_Next 0 g (finish Try.prog Try.f20 0 K) (at' Try.f20 6) ⟨fr0 50 [(0, .rd ⟨false, 3, (.int .i64), w⟩), (1, .v (.int .i64 k)), (8, .own 0), (9, .v (.int .i64 i))], [.row ⟨true, 3, (.int .i64), o0⟩]⟩ =
    s_word_Next_6 (fun w k i o0 => g (at' Try.f20 6) ⟨fr0 50 [(0, .rd ⟨false, 3, (.int .i64), w⟩), (1, .v (.int .i64 k)), (8, .own 0), (9, .v (.int .i64 i))], [.row ⟨true, 3, (.int .i64), o0⟩]⟩) (fun r0 r1 => K (.tup [.own 0, .v (.int .i64 r0)]) [.row ⟨true, 3, (.int .i64), r1⟩]) w k i o0 := gstep_word_Next_6 @l_slices_Clone_int_int @l_word_Check g K w k i o0

theorem gentry_word_Next (l_slices_Clone_int_int : {R : Type} → (List Int) → ((List Int) → Option R) → Option R) (l_word_Check : {R : Type} → (List Int) → Int → (Int → Int → Option R) → Option R) {R : Type} (fuel : Nat) (K : AV → List O → Option R) (w : List Int) (k : Int) :
    fnRun Try.prog (T_word_Next @l_slices_Clone_int_int @l_word_Check) cuts_word_Next Try.f20 fuel [.rd ⟨false, 3, (.int .i64), w⟩, .v (.int .i64 k)] [] K =
    (fun (g20_6 : (List Int) → Int → Int → (List Int) → Option R) (K0 : Int → (List Int) → Option R) (w : List Int) (k : Int) =>
    l_word_Check w k
     (fun r1 r2 =>
      bi (r2 != 0)
       (K0 r2 ([] : List Int))
       (l_slices_Clone_int_int w
        (fun r3 =>
         g20_6 w k (IntKind.i64.wrap ((r3.length : Int) - 1)) r3)))) (fun w k i o0 => (runO Try.prog (T_word_Next @l_slices_Clone_int_int @l_word_Check) cuts_word_Next 0 (finish Try.prog Try.f20 0 K) fuel) (at' Try.f20 6) ⟨fr0 50 [(0, .rd ⟨false, 3, (.int .i64), w⟩), (1, .v (.int .i64 k)), (8, .own 0), (9, .v (.int .i64 i))], [.row ⟨true, 3, (.int .i64), o0⟩]⟩) (fun r0 r1 => K (.tup [.own 0, .v (.int .i64 r0)]) [.row ⟨true, 3, (.int .i64), r1⟩]) w k := by kernel_rfl

theorem entry_word_Next {R : Type} (fuel : Nat) (K : AV → List O → Option R) (w : List Int) (k : Int) :
    fnRun Try.prog (T_word_Next @l_slices_Clone_int_int @l_word_Check) cuts_word_Next Try.f20 fuel [.rd ⟨false, 3, (.int .i64), w⟩, .v (.int .i64 k)] [] K =
    e_word_Next (fun w k i o0 => (runO Try.prog (T_word_Next @l_slices_Clone_int_int @l_word_Check) cuts_word_Next 0 (finish Try.prog Try.f20 0 K) fuel) (at' Try.f20 6) ⟨fr0 50 [(0, .rd ⟨false, 3, (.int .i64), w⟩), (1, .v (.int .i64 k)), (8, .own 0), (9, .v (.int .i64 i))], [.row ⟨true, 3, (.int .i64), o0⟩]⟩) (fun r0 r1 => K (.tup [.own 0, .v (.int .i64 r0)]) [.row ⟨true, 3, (.int .i64), r1⟩]) w k := gentry_word_Next @l_slices_Clone_int_int @l_word_Check fuel K w k

theorem runs_word_Next {R : Type} (K : AV → List O → Option R) : ∀ fuel : Nat,
    (fun w k i o0 => (runO Try.prog (T_word_Next @l_slices_Clone_int_int @l_word_Check) cuts_word_Next 0 (finish Try.prog Try.f20 0 K) fuel) (at' Try.f20 6) ⟨fr0 50 [(0, .rd ⟨false, 3, (.int .i64), w⟩), (1, .v (.int .i64 k)), (8, .own 0), (9, .v (.int .i64 i))], [.row ⟨true, 3, (.int .i64), o0⟩]⟩) = (run_word_Next (fun r0 r1 => K (.tup [.own 0, .v (.int .i64 r0)]) [.row ⟨true, 3, (.int .i64), r1⟩]) fuel)
  | 0 => rfl
  | fuel + 1 => by
    have ih := runs_word_Next K fuel
    funext w k i o0
    refine (step_word_Next_6 _ K w k i o0).trans ?_
    rw [ih]
    rfl

def S_word_Next (l_word_Next : {R : Type} → (List Int) → Int → (Int → (List Int) → Option R) → Option R) : Sum := ⟨[], fun {R} args ob K => match args, ob with
  | [.rd ⟨false, 3, (.int .i64), w⟩, .v (.int .i64 k)], [] => l_word_Next w k (fun r0 r1 => K (.tup [.own 0, .v (.int .i64 r0)]) [.row ⟨true, 3, (.int .i64), r1⟩])
  | _, _ => none⟩

theorem sound_word_Next : Sound Try.prog 20 (S_word_Next @l_word_Next) := by
  refine fn_sound (cuts := cuts_word_Next) (fn := Try.f20) (Γ := (T_word_Next @l_slices_Clone_int_int @l_word_Check)) wide right_T_word_Next Try.func20 fun {R} K r args ob h => ?_
  unfold S_word_Next at h
  dsimp only at h
  split at h
  · obtain ⟨n, hn⟩ := ok_word_Next _ _ _ h
    refine ⟨Nat.le_of_ble_eq_true (by kernel_rfl), n, (entry_word_Next n K _ _).trans ?_⟩
    rw [(runs_word_Next K n)]
    exact hn
  · cases h

theorem call_word_Next : Callable Try.prog 20 := ⟨_, Try.func20, by kernel_rfl, by kernel_rfl⟩

def T_word_Count (l_word_Add : {R : Type} → Int → Int → (Int → Int → Option R) → Option R) (l_word_alphabet : {R : Type} → Int → (Bool → Option R) → Option R) (l_word_Mul : {R : Type} → Int → Int → (Int → Int → Option R) → Option R) : FuncId → Option Sum := (addS (addS (addS G0 23 (S_word_Add @l_word_Add)) 41 (S_word_alphabet @l_word_alphabet)) 25 (S_word_Mul @l_word_Mul))

theorem right_T_word_Count : Right Try.prog (T_word_Count @l_word_Add @l_word_alphabet @l_word_Mul) := (right_add (right_add (right_add right_G0 call_word_Add sound_word_Add) call_word_alphabet sound_word_alphabet) call_word_Mul sound_word_Mul)

abbrev cuts_word_Count : Cuts := [(7, [0, 6, 23, 24])]

theorem gstep_word_Count_7 (l_word_Add : {R : Type} → Int → Int → (Int → Int → Option R) → Option R) (l_word_alphabet : {R : Type} → Int → (Bool → Option R) → Option R) (l_word_Mul : {R : Type} → Int → Int → (Int → Int → Option R) → Option R) {R : Type} (g : List Item → St → Option R) (K : AV → List O → Option R) (k : Int) (sum : Int) (x23 : Int) (x24 : Int) :
    runSeg Try.prog (T_word_Count @l_word_Add @l_word_alphabet @l_word_Mul) cuts_word_Count 0 g (finish Try.prog Try.f27 0 K) (at' Try.f27 7) ⟨fr0 45 [(0, .v (.int .i64 k)), (6, .v (.int .i64 sum)), (23, .v (.int .i64 x23)), (24, .v (.int .i64 x24))], []⟩ =
    (fun (g27_7 : Int → Int → Int → Int → Option R) (K0 : Int → Int → Option R) (k : Int) (sum : Int) (x23 : Int) (x24 : Int) =>
    bi (decide (x24 < x23))
     (l_word_Mul sum k
      (fun r4 r5 =>
       bi (r5 == 0)
        (l_word_Add r4 1
         (fun r6 r7 =>
          bi (r7 != 0)
           (K0 0 r7)
           (g27_7 k r6 x23 (IntKind.i64.wrap (x24 + 1)))))
        (bi (r5 != 0)
         (K0 0 r5)
         (g27_7 k r4 x23 (IntKind.i64.wrap (x24 + 1))))))
     (K0 sum 0)) (fun k sum x23 x24 => g (at' Try.f27 7) ⟨fr0 45 [(0, .v (.int .i64 k)), (6, .v (.int .i64 sum)), (23, .v (.int .i64 x23)), (24, .v (.int .i64 x24))], []⟩) (fun r0 r1 => K (.tup [.v (.int .i64 r0), .v (.int .i64 r1)]) []) k sum x23 x24 := by kernel_rfl

theorem step_word_Count_7 {R : Type} (g : List Item → St → Option R) (K : AV → List O → Option R) (k : Int) (sum : Int) (x23 : Int) (x24 : Int) :
    runSeg Try.prog (T_word_Count @l_word_Add @l_word_alphabet @l_word_Mul) cuts_word_Count 0 g (finish Try.prog Try.f27 0 K) (at' Try.f27 7) ⟨fr0 45 [(0, .v (.int .i64 k)), (6, .v (.int .i64 sum)), (23, .v (.int .i64 x23)), (24, .v (.int .i64 x24))], []⟩ =
    s_word_Count_7 (fun k sum x23 x24 => g (at' Try.f27 7) ⟨fr0 45 [(0, .v (.int .i64 k)), (6, .v (.int .i64 sum)), (23, .v (.int .i64 x23)), (24, .v (.int .i64 x24))], []⟩) (fun r0 r1 => K (.tup [.v (.int .i64 r0), .v (.int .i64 r1)]) []) k sum x23 x24 := gstep_word_Count_7 @l_word_Add @l_word_alphabet @l_word_Mul g K k sum x23 x24

theorem gentry_word_Count (l_word_Add : {R : Type} → Int → Int → (Int → Int → Option R) → Option R) (l_word_alphabet : {R : Type} → Int → (Bool → Option R) → Option R) (l_word_Mul : {R : Type} → Int → Int → (Int → Int → Option R) → Option R) {R : Type} (fuel : Nat) (K : AV → List O → Option R) (k : Int) (n : Int) :
    fnRun Try.prog (T_word_Count @l_word_Add @l_word_alphabet @l_word_Mul) cuts_word_Count Try.f27 fuel [.v (.int .i64 k), .v (.int .i64 n)] [] K =
    (fun (g27_7 : Int → Int → Int → Int → Option R) (K0 : Int → Int → Option R) (k : Int) (n : Int) =>
    l_word_alphabet k
     (fun r1 =>
      bi (!r1)
       (K0 0 1)
       (bi (decide (n < 0))
        (K0 0 1)
        (bi (k == 1)
         (l_word_Add (if 1099511627776 < n then 1099511627776 else n) 1
          (fun r2 r3 =>
           K0 r2 r3))
         (g27_7 k 1 n 0))))) (fun k sum x23 x24 => (runO Try.prog (T_word_Count @l_word_Add @l_word_alphabet @l_word_Mul) cuts_word_Count 0 (finish Try.prog Try.f27 0 K) fuel) (at' Try.f27 7) ⟨fr0 45 [(0, .v (.int .i64 k)), (6, .v (.int .i64 sum)), (23, .v (.int .i64 x23)), (24, .v (.int .i64 x24))], []⟩) (fun r0 r1 => K (.tup [.v (.int .i64 r0), .v (.int .i64 r1)]) []) k n := by kernel_rfl

theorem entry_word_Count {R : Type} (fuel : Nat) (K : AV → List O → Option R) (k : Int) (n : Int) :
    fnRun Try.prog (T_word_Count @l_word_Add @l_word_alphabet @l_word_Mul) cuts_word_Count Try.f27 fuel [.v (.int .i64 k), .v (.int .i64 n)] [] K =
    e_word_Count (fun k sum x23 x24 => (runO Try.prog (T_word_Count @l_word_Add @l_word_alphabet @l_word_Mul) cuts_word_Count 0 (finish Try.prog Try.f27 0 K) fuel) (at' Try.f27 7) ⟨fr0 45 [(0, .v (.int .i64 k)), (6, .v (.int .i64 sum)), (23, .v (.int .i64 x23)), (24, .v (.int .i64 x24))], []⟩) (fun r0 r1 => K (.tup [.v (.int .i64 r0), .v (.int .i64 r1)]) []) k n := gentry_word_Count @l_word_Add @l_word_alphabet @l_word_Mul fuel K k n

theorem runs_word_Count {R : Type} (K : AV → List O → Option R) : ∀ fuel : Nat,
    (fun k sum x23 x24 => (runO Try.prog (T_word_Count @l_word_Add @l_word_alphabet @l_word_Mul) cuts_word_Count 0 (finish Try.prog Try.f27 0 K) fuel) (at' Try.f27 7) ⟨fr0 45 [(0, .v (.int .i64 k)), (6, .v (.int .i64 sum)), (23, .v (.int .i64 x23)), (24, .v (.int .i64 x24))], []⟩) = (run_word_Count (fun r0 r1 => K (.tup [.v (.int .i64 r0), .v (.int .i64 r1)]) []) fuel)
  | 0 => rfl
  | fuel + 1 => by
    have ih := runs_word_Count K fuel
    funext k sum x23 x24
    refine (step_word_Count_7 _ K k sum x23 x24).trans ?_
    rw [ih]
    rfl

def S_word_Count (l_word_Count : {R : Type} → Int → Int → (Int → Int → Option R) → Option R) : Sum := ⟨[], fun {R} args ob K => match args, ob with
  | [.v (.int .i64 k), .v (.int .i64 n)], [] => l_word_Count k n (fun r0 r1 => K (.tup [.v (.int .i64 r0), .v (.int .i64 r1)]) [])
  | _, _ => none⟩

theorem sound_word_Count : Sound Try.prog 27 (S_word_Count @l_word_Count) := by
  refine fn_sound (cuts := cuts_word_Count) (fn := Try.f27) (Γ := (T_word_Count @l_word_Add @l_word_alphabet @l_word_Mul)) wide right_T_word_Count Try.func27 fun {R} K r args ob h => ?_
  unfold S_word_Count at h
  dsimp only at h
  split at h
  · obtain ⟨n, hn⟩ := ok_word_Count _ _ _ h
    refine ⟨Nat.le_of_ble_eq_true (by kernel_rfl), n, (entry_word_Count n K _ _).trans ?_⟩
    rw [(runs_word_Count K n)]
    exact hn
  · cases h

theorem call_word_Count : Callable Try.prog 27 := ⟨_, Try.func27, by kernel_rfl, by kernel_rfl⟩

def T_cmp_isNaN_int : FuncId → Option Sum := G0

theorem right_T_cmp_isNaN_int : Right Try.prog T_cmp_isNaN_int := right_G0

abbrev cuts_cmp_isNaN_int : Cuts := []

theorem gentry_cmp_isNaN_int {R : Type} (K : AV → List O → Option R) (x : Int) :
    fnRun Try.prog T_cmp_isNaN_int cuts_cmp_isNaN_int Try.f50 0 [.v (.int .i64 x)] [] K =
    (fun (x : Int) (K0 : Bool → Option R) =>
    K0 (x != x)) x (fun r0 => K (.v (.bool r0)) []) := by kernel_rfl

theorem entry_cmp_isNaN_int {R : Type} (K : AV → List O → Option R) (x : Int) :
    fnRun Try.prog T_cmp_isNaN_int cuts_cmp_isNaN_int Try.f50 0 [.v (.int .i64 x)] [] K =
    l_cmp_isNaN_int x (fun r0 => K (.v (.bool r0)) []) := gentry_cmp_isNaN_int K x

def S_cmp_isNaN_int (l_cmp_isNaN_int : {R : Type} → Int → (Bool → Option R) → Option R) : Sum := ⟨[], fun {R} args ob K => match args, ob with
  | [.v (.int .i64 x)], [] => l_cmp_isNaN_int x (fun r0 => K (.v (.bool r0)) [])
  | _, _ => none⟩

theorem sound_cmp_isNaN_int : Sound Try.prog 50 (S_cmp_isNaN_int @l_cmp_isNaN_int) := by
  refine fn_sound (cuts := cuts_cmp_isNaN_int) (fn := Try.f50) (Γ := T_cmp_isNaN_int) wide right_T_cmp_isNaN_int Try.func50 fun {R} K r args ob h => ?_
  unfold S_cmp_isNaN_int at h
  dsimp only at h
  split at h
  · exact ⟨Nat.le_of_ble_eq_true (by kernel_rfl), 0, (entry_cmp_isNaN_int K _).trans h⟩
  · cases h

theorem call_cmp_isNaN_int : Callable Try.prog 50 := ⟨_, Try.func50, by kernel_rfl, by kernel_rfl⟩

def T_cmp_Compare_int (l_cmp_isNaN_int : {R : Type} → Int → (Bool → Option R) → Option R) : FuncId → Option Sum := (addS G0 50 (S_cmp_isNaN_int @l_cmp_isNaN_int))

theorem right_T_cmp_Compare_int : Right Try.prog (T_cmp_Compare_int @l_cmp_isNaN_int) := (right_add right_G0 call_cmp_isNaN_int sound_cmp_isNaN_int)

abbrev cuts_cmp_Compare_int : Cuts := []

theorem gentry_cmp_Compare_int (l_cmp_isNaN_int : {R : Type} → Int → (Bool → Option R) → Option R) {R : Type} (K : AV → List O → Option R) (x : Int) (y : Int) :
    fnRun Try.prog (T_cmp_Compare_int @l_cmp_isNaN_int) cuts_cmp_Compare_int Try.f42 0 [.v (.int .i64 x), .v (.int .i64 y)] [] K =
    (fun (x : Int) (y : Int) (K0 : Int → Option R) =>
    l_cmp_isNaN_int x
     (fun r1 =>
      l_cmp_isNaN_int y
       (fun r2 =>
        bi r1
         (bi r2
          (K0 0)
          (K0 (-1)))
         (bi r2
          (K0 1)
          (bi (decide (x < y))
           (K0 (-1))
           (bi (decide (x > y))
            (K0 1)
            (K0 0))))))) x y (fun r0 => K (.v (.int .i64 r0)) []) := by kernel_rfl

theorem entry_cmp_Compare_int {R : Type} (K : AV → List O → Option R) (x : Int) (y : Int) :
    fnRun Try.prog (T_cmp_Compare_int @l_cmp_isNaN_int) cuts_cmp_Compare_int Try.f42 0 [.v (.int .i64 x), .v (.int .i64 y)] [] K =
    l_cmp_Compare_int x y (fun r0 => K (.v (.int .i64 r0)) []) := gentry_cmp_Compare_int @l_cmp_isNaN_int K x y

def S_cmp_Compare_int (l_cmp_Compare_int : {R : Type} → Int → Int → (Int → Option R) → Option R) : Sum := ⟨[], fun {R} args ob K => match args, ob with
  | [.v (.int .i64 x), .v (.int .i64 y)], [] => l_cmp_Compare_int x y (fun r0 => K (.v (.int .i64 r0)) [])
  | _, _ => none⟩

theorem sound_cmp_Compare_int : Sound Try.prog 42 (S_cmp_Compare_int @l_cmp_Compare_int) := by
  refine fn_sound (cuts := cuts_cmp_Compare_int) (fn := Try.f42) (Γ := (T_cmp_Compare_int @l_cmp_isNaN_int)) wide right_T_cmp_Compare_int Try.func42 fun {R} K r args ob h => ?_
  unfold S_cmp_Compare_int at h
  dsimp only at h
  split at h
  · exact ⟨Nat.le_of_ble_eq_true (by kernel_rfl), 0, (entry_cmp_Compare_int K _ _).trans h⟩
  · cases h

theorem call_cmp_Compare_int : Callable Try.prog 42 := ⟨_, Try.func42, by kernel_rfl, by kernel_rfl⟩

def T_slices_Compare_int_int (l_cmp_Compare_int : {R : Type} → Int → Int → (Int → Option R) → Option R) : FuncId → Option Sum := (addS G0 42 (S_cmp_Compare_int @l_cmp_Compare_int))

theorem right_T_slices_Compare_int_int : Right Try.prog (T_slices_Compare_int_int @l_cmp_Compare_int) := (right_add right_G0 call_cmp_Compare_int sound_cmp_Compare_int)

abbrev cuts_slices_Compare_int_int : Cuts := [(2, [0, 1, 9, 10, 11])]

theorem gstep_slices_Compare_int_int_2 (l_cmp_Compare_int : {R : Type} → Int → Int → (Int → Option R) → Option R) {R : Type} (g : List Item → St → Option R) (K : AV → List O → Option R) (s1 : List Int) (s2 : List Int) (x9 : List Int) (x10 : Int) (x11 : Int) :
    runSeg Try.prog (T_slices_Compare_int_int @l_cmp_Compare_int) cuts_slices_Compare_int_int 0 g (finish Try.prog Try.f43 0 K) (at' Try.f43 2) ⟨fr0 36 [(0, .rd ⟨false, 3, (.int .i64), s1⟩), (1, .rd ⟨false, 3, (.int .i64), s2⟩), (9, .rd ⟨false, 3, (.int .i64), x9⟩), (10, .v (.int .i64 x10)), (11, .v (.int .i64 x11))], []⟩ =
    (fun (g43_2 : (List Int) → (List Int) → (List Int) → Int → Int → Option R) (K0 : Int → Option R) (s1 : List Int) (s2 : List Int) (x9 : List Int) (x10 : Int) (x11 : Int) =>
    bi (decide (x11 < x10))
     (bi (decide (0 ≤ x11 ∧ x11 < ((x9.length : Nat) : Int)))
      (bi (decide (x11 ≥ (s2.length : Int)))
       (K0 1)
       (bi (decide (0 ≤ x11 ∧ x11 < ((s2.length : Nat) : Int)))
        (l_cmp_Compare_int (x9.getD x11.toNat 0) (s2.getD x11.toNat 0)
         (fun r1 =>
          bi (r1 != 0)
           (K0 r1)
           (g43_2 s1 s2 x9 x10 (IntKind.i64.wrap (x11 + 1)))))
        none))
      none)
     (bi (decide ((s1.length : Int) < (s2.length : Int)))
      (K0 (-1))
      (K0 0))) (fun s1 s2 x9 x10 x11 => g (at' Try.f43 2) ⟨fr0 36 [(0, .rd ⟨false, 3, (.int .i64), s1⟩), (1, .rd ⟨false, 3, (.int .i64), s2⟩), (9, .rd ⟨false, 3, (.int .i64), x9⟩), (10, .v (.int .i64 x10)), (11, .v (.int .i64 x11))], []⟩) (fun r0 => K (.v (.int .i64 r0)) []) s1 s2 x9 x10 x11 := by kernel_rfl

theorem step_slices_Compare_int_int_2 {R : Type} (g : List Item → St → Option R) (K : AV → List O → Option R) (s1 : List Int) (s2 : List Int) (x9 : List Int) (x10 : Int) (x11 : Int) :
    runSeg Try.prog (T_slices_Compare_int_int @l_cmp_Compare_int) cuts_slices_Compare_int_int 0 g (finish Try.prog Try.f43 0 K) (at' Try.f43 2) ⟨fr0 36 [(0, .rd ⟨false, 3, (.int .i64), s1⟩), (1, .rd ⟨false, 3, (.int .i64), s2⟩), (9, .rd ⟨false, 3, (.int .i64), x9⟩), (10, .v (.int .i64 x10)), (11, .v (.int .i64 x11))], []⟩ =
    s_slices_Compare_int_int_2 (fun s1 s2 x9 x10 x11 => g (at' Try.f43 2) ⟨fr0 36 [(0, .rd ⟨false, 3, (.int .i64), s1⟩), (1, .rd ⟨false, 3, (.int .i64), s2⟩), (9, .rd ⟨false, 3, (.int .i64), x9⟩), (10, .v (.int .i64 x10)), (11, .v (.int .i64 x11))], []⟩) (fun r0 => K (.v (.int .i64 r0)) []) s1 s2 x9 x10 x11 := gstep_slices_Compare_int_int_2 @l_cmp_Compare_int g K s1 s2 x9 x10 x11

theorem gentry_slices_Compare_int_int (l_cmp_Compare_int : {R : Type} → Int → Int → (Int → Option R) → Option R) {R : Type} (fuel : Nat) (K : AV → List O → Option R) (s1 : List Int) (s2 : List Int) :
    fnRun Try.prog (T_slices_Compare_int_int @l_cmp_Compare_int) cuts_slices_Compare_int_int Try.f43 fuel [.rd ⟨false, 3, (.int .i64), s1⟩, .rd ⟨false, 3, (.int .i64), s2⟩] [] K =
    (fun (g43_2 : (List Int) → (List Int) → (List Int) → Int → Int → Option R) (K0 : Int → Option R) (s1 : List Int) (s2 : List Int) =>
    g43_2 s1 s2 s1 (s1.length : Int) 0) (fun s1 s2 x9 x10 x11 => (runO Try.prog (T_slices_Compare_int_int @l_cmp_Compare_int) cuts_slices_Compare_int_int 0 (finish Try.prog Try.f43 0 K) fuel) (at' Try.f43 2) ⟨fr0 36 [(0, .rd ⟨false, 3, (.int .i64), s1⟩), (1, .rd ⟨false, 3, (.int .i64), s2⟩), (9, .rd ⟨false, 3, (.int .i64), x9⟩), (10, .v (.int .i64 x10)), (11, .v (.int .i64 x11))], []⟩) (fun r0 => K (.v (.int .i64 r0)) []) s1 s2 := by kernel_rfl

theorem entry_slices_Compare_int_int {R : Type} (fuel : Nat) (K : AV → List O → Option R) (s1 : List Int) (s2 : List Int) :
    fnRun Try.prog (T_slices_Compare_int_int @l_cmp_Compare_int) cuts_slices_Compare_int_int Try.f43 fuel [.rd ⟨false, 3, (.int .i64), s1⟩, .rd ⟨false, 3, (.int .i64), s2⟩] [] K =
    e_slices_Compare_int_int (fun s1 s2 x9 x10 x11 => (runO Try.prog (T_slices_Compare_int_int @l_cmp_Compare_int) cuts_slices_Compare_int_int 0 (finish Try.prog Try.f43 0 K) fuel) (at' Try.f43 2) ⟨fr0 36 [(0, .rd ⟨false, 3, (.int .i64), s1⟩), (1, .rd ⟨false, 3, (.int .i64), s2⟩), (9, .rd ⟨false, 3, (.int .i64), x9⟩), (10, .v (.int .i64 x10)), (11, .v (.int .i64 x11))], []⟩) (fun r0 => K (.v (.int .i64 r0)) []) s1 s2 := gentry_slices_Compare_int_int @l_cmp_Compare_int fuel K s1 s2

theorem runs_slices_Compare_int_int {R : Type} (K : AV → List O → Option R) : ∀ fuel : Nat,
    (fun s1 s2 x9 x10 x11 => (runO Try.prog (T_slices_Compare_int_int @l_cmp_Compare_int) cuts_slices_Compare_int_int 0 (finish Try.prog Try.f43 0 K) fuel) (at' Try.f43 2) ⟨fr0 36 [(0, .rd ⟨false, 3, (.int .i64), s1⟩), (1, .rd ⟨false, 3, (.int .i64), s2⟩), (9, .rd ⟨false, 3, (.int .i64), x9⟩), (10, .v (.int .i64 x10)), (11, .v (.int .i64 x11))], []⟩) = (run_slices_Compare_int_int (fun r0 => K (.v (.int .i64 r0)) []) fuel)
  | 0 => rfl
  | fuel + 1 => by
    have ih := runs_slices_Compare_int_int K fuel
    funext s1 s2 x9 x10 x11
    refine (step_slices_Compare_int_int_2 _ K s1 s2 x9 x10 x11).trans ?_
    rw [ih]
    rfl

def S_slices_Compare_int_int (l_slices_Compare_int_int : {R : Type} → (List Int) → (List Int) → (Int → Option R) → Option R) : Sum := ⟨[], fun {R} args ob K => match args, ob with
  | [.rd ⟨false, 3, (.int .i64), s1⟩, .rd ⟨false, 3, (.int .i64), s2⟩], [] => l_slices_Compare_int_int s1 s2 (fun r0 => K (.v (.int .i64 r0)) [])
  | _, _ => none⟩

theorem sound_slices_Compare_int_int : Sound Try.prog 43 (S_slices_Compare_int_int @l_slices_Compare_int_int) := by
  refine fn_sound (cuts := cuts_slices_Compare_int_int) (fn := Try.f43) (Γ := (T_slices_Compare_int_int @l_cmp_Compare_int)) wide right_T_slices_Compare_int_int Try.func43 fun {R} K r args ob h => ?_
  unfold S_slices_Compare_int_int at h
  dsimp only at h
  split at h
  · obtain ⟨n, hn⟩ := ok_slices_Compare_int_int _ _ _ h
    refine ⟨Nat.le_of_ble_eq_true (by kernel_rfl), n, (entry_slices_Compare_int_int n K _ _).trans ?_⟩
    rw [(runs_slices_Compare_int_int K n)]
    exact hn
  · cases h

theorem call_slices_Compare_int_int : Callable Try.prog 43 := ⟨_, Try.func43, by kernel_rfl, by kernel_rfl⟩

def T_word_Compare (l_slices_Compare_int_int : {R : Type} → (List Int) → (List Int) → (Int → Option R) → Option R) (l_cmp_Compare_int : {R : Type} → Int → Int → (Int → Option R) → Option R) : FuncId → Option Sum := (addS (addS G0 43 (S_slices_Compare_int_int @l_slices_Compare_int_int)) 42 (S_cmp_Compare_int @l_cmp_Compare_int))

theorem right_T_word_Compare : Right Try.prog (T_word_Compare @l_slices_Compare_int_int @l_cmp_Compare_int) := (right_add (right_add right_G0 call_slices_Compare_int_int sound_slices_Compare_int_int) call_cmp_Compare_int sound_cmp_Compare_int)

abbrev cuts_word_Compare : Cuts := []

theorem gentry_word_Compare (l_slices_Compare_int_int : {R : Type} → (List Int) → (List Int) → (Int → Option R) → Option R) (l_cmp_Compare_int : {R : Type} → Int → Int → (Int → Option R) → Option R) {R : Type} (K : AV → List O → Option R) (a : List Int) (b : List Int) :
    fnRun Try.prog (T_word_Compare @l_slices_Compare_int_int @l_cmp_Compare_int) cuts_word_Compare Try.f18 0 [.rd ⟨false, 3, (.int .i64), a⟩, .rd ⟨false, 3, (.int .i64), b⟩] [] K =
    (fun (a : List Int) (b : List Int) (K0 : Int → Option R) =>
    l_cmp_Compare_int (a.length : Int) (b.length : Int)
     (fun r1 =>
      bi (r1 != 0)
       (K0 r1)
       (l_slices_Compare_int_int a b
        (fun r2 =>
         K0 r2)))) a b (fun r0 => K (.v (.int .i64 r0)) []) := by kernel_rfl

theorem entry_word_Compare {R : Type} (K : AV → List O → Option R) (a : List Int) (b : List Int) :
    fnRun Try.prog (T_word_Compare @l_slices_Compare_int_int @l_cmp_Compare_int) cuts_word_Compare Try.f18 0 [.rd ⟨false, 3, (.int .i64), a⟩, .rd ⟨false, 3, (.int .i64), b⟩] [] K =
    l_word_Compare a b (fun r0 => K (.v (.int .i64 r0)) []) := gentry_word_Compare @l_slices_Compare_int_int @l_cmp_Compare_int K a b

def S_word_Compare (l_word_Compare : {R : Type} → (List Int) → (List Int) → (Int → Option R) → Option R) : Sum := ⟨[], fun {R} args ob K => match args, ob with
  | [.rd ⟨false, 3, (.int .i64), a⟩, .rd ⟨false, 3, (.int .i64), b⟩], [] => l_word_Compare a b (fun r0 => K (.v (.int .i64 r0)) [])
  | _, _ => none⟩

theorem sound_word_Compare : Sound Try.prog 18 (S_word_Compare @l_word_Compare) := by
  refine fn_sound (cuts := cuts_word_Compare) (fn := Try.f18) (Γ := (T_word_Compare @l_slices_Compare_int_int @l_cmp_Compare_int)) wide right_T_word_Compare Try.func18 fun {R} K r args ob h => ?_
  unfold S_word_Compare at h
  dsimp only at h
  split at h
  · exact ⟨Nat.le_of_ble_eq_true (by kernel_rfl), 0, (entry_word_Compare K _ _).trans h⟩
  · cases h

theorem call_word_Compare : Callable Try.prog 18 := ⟨_, Try.func18, by kernel_rfl, by kernel_rfl⟩

def T_tutorref01_Same : FuncId → Option Sum := G0

theorem right_T_tutorref01_Same : Right Try.prog T_tutorref01_Same := right_G0

abbrev cuts_tutorref01_Same : Cuts := [(4, [0, 1, 5])]

theorem gstep_tutorref01_Same_4 {R : Type} (g : List Item → St → Option R) (K : AV → List O → Option R) (a : List Int) (b : List Int) (i : Int) :
    runSeg Try.prog T_tutorref01_Same cuts_tutorref01_Same 0 g (finish Try.prog Try.f22 0 K) (at' Try.f22 4) ⟨fr0 26 [(0, .rd ⟨false, 3, (.int .i64), a⟩), (1, .rd ⟨false, 3, (.int .i64), b⟩), (5, .v (.int .i64 i))], []⟩ =
    (fun (g22_4 : (List Int) → (List Int) → Int → Option R) (K0 : Bool → Option R) (a : List Int) (b : List Int) (i : Int) =>
    bi (decide (i < (a.length : Int)))
     (bi (decide (0 ≤ i ∧ i < ((a.length : Nat) : Int)))
      (bi (decide (0 ≤ i ∧ i < ((b.length : Nat) : Int)))
       (bi ((a.getD i.toNat 0) != (b.getD i.toNat 0))
        (K0 false)
        (g22_4 a b (IntKind.i64.wrap (i + 1))))
       none)
      none)
     (K0 true)) (fun a b i => g (at' Try.f22 4) ⟨fr0 26 [(0, .rd ⟨false, 3, (.int .i64), a⟩), (1, .rd ⟨false, 3, (.int .i64), b⟩), (5, .v (.int .i64 i))], []⟩) (fun r0 => K (.v (.bool r0)) []) a b i := by kernel_rfl

theorem step_tutorref01_Same_4 {R : Type} (g : List Item → St → Option R) (K : AV → List O → Option R) (a : List Int) (b : List Int) (i : Int) :
    runSeg Try.prog T_tutorref01_Same cuts_tutorref01_Same 0 g (finish Try.prog Try.f22 0 K) (at' Try.f22 4) ⟨fr0 26 [(0, .rd ⟨false, 3, (.int .i64), a⟩), (1, .rd ⟨false, 3, (.int .i64), b⟩), (5, .v (.int .i64 i))], []⟩ =
    s_tutorref01_Same_4 (fun a b i => g (at' Try.f22 4) ⟨fr0 26 [(0, .rd ⟨false, 3, (.int .i64), a⟩), (1, .rd ⟨false, 3, (.int .i64), b⟩), (5, .v (.int .i64 i))], []⟩) (fun r0 => K (.v (.bool r0)) []) a b i := gstep_tutorref01_Same_4 g K a b i

theorem gentry_tutorref01_Same {R : Type} (fuel : Nat) (K : AV → List O → Option R) (a : List Int) (b : List Int) :
    fnRun Try.prog T_tutorref01_Same cuts_tutorref01_Same Try.f22 fuel [.rd ⟨false, 3, (.int .i64), a⟩, .rd ⟨false, 3, (.int .i64), b⟩] [] K =
    (fun (g22_4 : (List Int) → (List Int) → Int → Option R) (K0 : Bool → Option R) (a : List Int) (b : List Int) =>
    bi ((a.length : Int) != (b.length : Int))
     (K0 false)
     (g22_4 a b 0)) (fun a b i => (runO Try.prog T_tutorref01_Same cuts_tutorref01_Same 0 (finish Try.prog Try.f22 0 K) fuel) (at' Try.f22 4) ⟨fr0 26 [(0, .rd ⟨false, 3, (.int .i64), a⟩), (1, .rd ⟨false, 3, (.int .i64), b⟩), (5, .v (.int .i64 i))], []⟩) (fun r0 => K (.v (.bool r0)) []) a b := by kernel_rfl

theorem entry_tutorref01_Same {R : Type} (fuel : Nat) (K : AV → List O → Option R) (a : List Int) (b : List Int) :
    fnRun Try.prog T_tutorref01_Same cuts_tutorref01_Same Try.f22 fuel [.rd ⟨false, 3, (.int .i64), a⟩, .rd ⟨false, 3, (.int .i64), b⟩] [] K =
    e_tutorref01_Same (fun a b i => (runO Try.prog T_tutorref01_Same cuts_tutorref01_Same 0 (finish Try.prog Try.f22 0 K) fuel) (at' Try.f22 4) ⟨fr0 26 [(0, .rd ⟨false, 3, (.int .i64), a⟩), (1, .rd ⟨false, 3, (.int .i64), b⟩), (5, .v (.int .i64 i))], []⟩) (fun r0 => K (.v (.bool r0)) []) a b := gentry_tutorref01_Same fuel K a b

theorem runs_tutorref01_Same {R : Type} (K : AV → List O → Option R) : ∀ fuel : Nat,
    (fun a b i => (runO Try.prog T_tutorref01_Same cuts_tutorref01_Same 0 (finish Try.prog Try.f22 0 K) fuel) (at' Try.f22 4) ⟨fr0 26 [(0, .rd ⟨false, 3, (.int .i64), a⟩), (1, .rd ⟨false, 3, (.int .i64), b⟩), (5, .v (.int .i64 i))], []⟩) = (run_tutorref01_Same (fun r0 => K (.v (.bool r0)) []) fuel)
  | 0 => rfl
  | fuel + 1 => by
    have ih := runs_tutorref01_Same K fuel
    funext a b i
    refine (step_tutorref01_Same_4 _ K a b i).trans ?_
    rw [ih]
    rfl

def S_tutorref01_Same (l_tutorref01_Same : {R : Type} → (List Int) → (List Int) → (Bool → Option R) → Option R) : Sum := ⟨[], fun {R} args ob K => match args, ob with
  | [.rd ⟨false, 3, (.int .i64), a⟩, .rd ⟨false, 3, (.int .i64), b⟩], [] => l_tutorref01_Same a b (fun r0 => K (.v (.bool r0)) [])
  | _, _ => none⟩

theorem sound_tutorref01_Same : Sound Try.prog 22 (S_tutorref01_Same @l_tutorref01_Same) := by
  refine fn_sound (cuts := cuts_tutorref01_Same) (fn := Try.f22) (Γ := T_tutorref01_Same) wide right_T_tutorref01_Same Try.func22 fun {R} K r args ob h => ?_
  unfold S_tutorref01_Same at h
  dsimp only at h
  split at h
  · obtain ⟨n, hn⟩ := ok_tutorref01_Same _ _ _ h
    refine ⟨Nat.le_of_ble_eq_true (by kernel_rfl), n, (entry_tutorref01_Same n K _ _).trans ?_⟩
    rw [(runs_tutorref01_Same K n)]
    exact hn
  · cases h

theorem call_tutorref01_Same : Callable Try.prog 22 := ⟨_, Try.func22, by kernel_rfl, by kernel_rfl⟩

def T_tutorlaw01_live (l_tutorlaw01_num : {R : Type} → Int → (Int → Option R) → Option R) (l_tutorref01_Same : {R : Type} → (List Int) → (List Int) → (Bool → Option R) → Option R) (l_word_Compare : {R : Type} → (List Int) → (List Int) → (Int → Option R) → Option R) (l_word_Check : {R : Type} → (List Int) → Int → (Int → Int → Option R) → Option R) (l_word_Add : {R : Type} → Int → Int → (Int → Int → Option R) → Option R) (l_word_Rank : {R : Type} → (List Int) → Int → (Int → Int → Option R) → Option R) (l_word_At : {R : Type} → Int → Int → (Int → (List Int) → Option R) → (Int → (List Int) → Option R) → Option R) (l_word_Count : {R : Type} → Int → Int → (Int → Int → Option R) → Option R) (l_word_Next : {R : Type} → (List Int) → Int → (Int → (List Int) → Option R) → Option R) : FuncId → Option Sum := (addS (addS (addS (addS (addS (addS (addS (addS (addS G0 15 (S_tutorlaw01_num @l_tutorlaw01_num)) 22 (S_tutorref01_Same @l_tutorref01_Same)) 18 (S_word_Compare @l_word_Compare)) 13 (S_word_Check @l_word_Check)) 23 (S_word_Add @l_word_Add)) 31 (S_word_Rank @l_word_Rank)) 29 (S_word_At @l_word_At)) 27 (S_word_Count @l_word_Count)) 20 (S_word_Next @l_word_Next))

theorem right_T_tutorlaw01_live : Right Try.prog (T_tutorlaw01_live @l_tutorlaw01_num @l_tutorref01_Same @l_word_Compare @l_word_Check @l_word_Add @l_word_Rank @l_word_At @l_word_Count @l_word_Next) := (right_add (right_add (right_add (right_add (right_add (right_add (right_add (right_add (right_add right_G0 call_tutorlaw01_num sound_tutorlaw01_num) call_tutorref01_Same sound_tutorref01_Same) call_word_Compare sound_word_Compare) call_word_Check sound_word_Check) call_word_Add sound_word_Add) call_word_Rank sound_word_Rank) call_word_At sound_word_At) call_word_Count sound_word_Count) call_word_Next sound_word_Next)

abbrev cuts_tutorlaw01_live : Cuts := []

theorem gentry_tutorlaw01_live (l_tutorlaw01_num : {R : Type} → Int → (Int → Option R) → Option R) (l_tutorref01_Same : {R : Type} → (List Int) → (List Int) → (Bool → Option R) → Option R) (l_word_Compare : {R : Type} → (List Int) → (List Int) → (Int → Option R) → Option R) (l_word_Check : {R : Type} → (List Int) → Int → (Int → Int → Option R) → Option R) (l_word_Add : {R : Type} → Int → Int → (Int → Int → Option R) → Option R) (l_word_Rank : {R : Type} → (List Int) → Int → (Int → Int → Option R) → Option R) (l_word_At : {R : Type} → Int → Int → (Int → (List Int) → Option R) → (Int → (List Int) → Option R) → Option R) (l_word_Count : {R : Type} → Int → Int → (Int → Int → Option R) → Option R) (l_word_Next : {R : Type} → (List Int) → Int → (Int → (List Int) → Option R) → Option R) {R : Type} (K : AV → List O → Option R)  :
    fnRun Try.prog (T_tutorlaw01_live @l_tutorlaw01_num @l_tutorref01_Same @l_word_Compare @l_word_Check @l_word_Add @l_word_Rank @l_word_At @l_word_Count @l_word_Next) cuts_tutorlaw01_live Try.f17 0 [] [] K =
    (fun  (K0 : Bool → Option R) =>
    l_word_Next [1, 1] 2
     (fun r1 r2 =>
      l_word_Count 2 3
       (fun r3 r4 =>
        l_word_At 2 4
         (fun r5 r6 =>
          l_word_Rank [0, 1] 2
           (fun r7 r8 =>
            l_word_Add 1099511627776 1
             (fun r9 r10 =>
              l_word_Check [0, 2] 2
               (fun r11 r12 =>
                l_word_Compare [1] [0, 0]
                 (fun r13 =>
                  bi (r13 == (-1))
                   (l_tutorref01_Same r2 [0, 0, 0]
                    (fun r14 =>
                     bi r14
                      (bi (r3 == 15)
                       (l_tutorref01_Same r6 [0, 1]
                        (fun r15 =>
                         bi r15
                          (bi (r7 == 4)
                           (l_tutorlaw01_num r1
                            (fun r16 =>
                             l_tutorlaw01_num r4
                              (fun r17 =>
                               l_tutorlaw01_num r5
                                (fun r18 =>
                                 l_tutorlaw01_num r8
                                  (fun r19 =>
                                   bi ((IntKind.i64.wrap ((IntKind.i64.wrap ((IntKind.i64.wrap (r16 + r17)) + r18)) + r19)) == 0)
                                    (l_tutorlaw01_num r10
                                     (fun r20 =>
                                      bi (r20 == 11)
                                       (bi (r11 == 1)
                                        (l_tutorlaw01_num r12
                                         (fun r21 =>
                                          K0 (r21 == 10)))
                                        (K0 false))
                                       (K0 false)))
                                    (K0 false))))))
                           (K0 false))
                          (K0 false)))
                       (K0 false))
                      (K0 false)))
                   (K0 false))))))
         (fun r22 r23 =>
          l_word_Rank [0, 1] 2
           (fun r24 r25 =>
            l_word_Add 1099511627776 1
             (fun r26 r27 =>
              l_word_Check [0, 2] 2
               (fun r28 r29 =>
                l_word_Compare [1] [0, 0]
                 (fun r30 =>
                  bi (r30 == (-1))
                   (l_tutorref01_Same r2 [0, 0, 0]
                    (fun r31 =>
                     bi r31
                      (bi (r3 == 15)
                       (l_tutorref01_Same r23 [0, 1]
                        (fun r32 =>
                         bi r32
                          (bi (r24 == 4)
                           (l_tutorlaw01_num r1
                            (fun r33 =>
                             l_tutorlaw01_num r4
                              (fun r34 =>
                               l_tutorlaw01_num r22
                                (fun r35 =>
                                 l_tutorlaw01_num r25
                                  (fun r36 =>
                                   bi ((IntKind.i64.wrap ((IntKind.i64.wrap ((IntKind.i64.wrap (r33 + r34)) + r35)) + r36)) == 0)
                                    (l_tutorlaw01_num r27
                                     (fun r37 =>
                                      bi (r37 == 11)
                                       (bi (r28 == 1)
                                        (l_tutorlaw01_num r29
                                         (fun r38 =>
                                          K0 (r38 == 10)))
                                        (K0 false))
                                       (K0 false)))
                                    (K0 false))))))
                           (K0 false))
                          (K0 false)))
                       (K0 false))
                      (K0 false)))
                   (K0 false)))))))))  (fun r0 => K (.v (.bool r0)) []) := by kernel_rfl

theorem entry_tutorlaw01_live {R : Type} (K : AV → List O → Option R)  :
    fnRun Try.prog (T_tutorlaw01_live @l_tutorlaw01_num @l_tutorref01_Same @l_word_Compare @l_word_Check @l_word_Add @l_word_Rank @l_word_At @l_word_Count @l_word_Next) cuts_tutorlaw01_live Try.f17 0 [] [] K =
    l_tutorlaw01_live  (fun r0 => K (.v (.bool r0)) []) := gentry_tutorlaw01_live @l_tutorlaw01_num @l_tutorref01_Same @l_word_Compare @l_word_Check @l_word_Add @l_word_Rank @l_word_At @l_word_Count @l_word_Next K 

def S_tutorlaw01_live (l_tutorlaw01_live : {R : Type} → (Bool → Option R) → Option R) : Sum := ⟨[], fun {R} args ob K => match args, ob with
  | [], [] => l_tutorlaw01_live  (fun r0 => K (.v (.bool r0)) [])
  | _, _ => none⟩

theorem sound_tutorlaw01_live : Sound Try.prog 17 (S_tutorlaw01_live @l_tutorlaw01_live) := by
  refine fn_sound (cuts := cuts_tutorlaw01_live) (fn := Try.f17) (Γ := (T_tutorlaw01_live @l_tutorlaw01_num @l_tutorref01_Same @l_word_Compare @l_word_Check @l_word_Add @l_word_Rank @l_word_At @l_word_Count @l_word_Next)) wide right_T_tutorlaw01_live Try.func17 fun {R} K r args ob h => ?_
  unfold S_tutorlaw01_live at h
  dsimp only at h
  split at h
  · exact ⟨Nat.le_of_ble_eq_true (by kernel_rfl), 0, (entry_tutorlaw01_live K).trans h⟩
  · cases h

theorem call_tutorlaw01_live : Callable Try.prog 17 := ⟨_, Try.func17, by kernel_rfl, by kernel_rfl⟩

def T_tutorlaw01_WordBack (l_tutorlaw01_live : {R : Type} → (Bool → Option R) → Option R) (l_tutorref01_Same : {R : Type} → (List Int) → (List Int) → (Bool → Option R) → Option R) (l_tutorlaw01_num : {R : Type} → Int → (Int → Option R) → Option R) (l_word_At : {R : Type} → Int → Int → (Int → (List Int) → Option R) → (Int → (List Int) → Option R) → Option R) (l_word_Rank : {R : Type} → (List Int) → Int → (Int → Int → Option R) → Option R) (l_word_Next : {R : Type} → (List Int) → Int → (Int → (List Int) → Option R) → Option R) : FuncId → Option Sum := (addS (addS (addS (addS (addS (addS G0 17 (S_tutorlaw01_live @l_tutorlaw01_live)) 22 (S_tutorref01_Same @l_tutorref01_Same)) 15 (S_tutorlaw01_num @l_tutorlaw01_num)) 29 (S_word_At @l_word_At)) 31 (S_word_Rank @l_word_Rank)) 20 (S_word_Next @l_word_Next))

theorem right_T_tutorlaw01_WordBack : Right Try.prog (T_tutorlaw01_WordBack @l_tutorlaw01_live @l_tutorref01_Same @l_tutorlaw01_num @l_word_At @l_word_Rank @l_word_Next) := (right_add (right_add (right_add (right_add (right_add (right_add right_G0 call_tutorlaw01_live sound_tutorlaw01_live) call_tutorref01_Same sound_tutorref01_Same) call_tutorlaw01_num sound_tutorlaw01_num) call_word_At sound_word_At) call_word_Rank sound_word_Rank) call_word_Next sound_word_Next)

abbrev cuts_tutorlaw01_WordBack : Cuts := []

theorem gentry_tutorlaw01_WordBack (l_tutorlaw01_live : {R : Type} → (Bool → Option R) → Option R) (l_tutorref01_Same : {R : Type} → (List Int) → (List Int) → (Bool → Option R) → Option R) (l_tutorlaw01_num : {R : Type} → Int → (Int → Option R) → Option R) (l_word_At : {R : Type} → Int → Int → (Int → (List Int) → Option R) → (Int → (List Int) → Option R) → Option R) (l_word_Rank : {R : Type} → (List Int) → Int → (Int → Int → Option R) → Option R) (l_word_Next : {R : Type} → (List Int) → Int → (Int → (List Int) → Option R) → Option R) {R : Type} (K : AV → List O → Option R) (k : Int) (i : Int) (w : List Int) :
    fnRun Try.prog (T_tutorlaw01_WordBack @l_tutorlaw01_live @l_tutorref01_Same @l_tutorlaw01_num @l_word_At @l_word_Rank @l_word_Next) cuts_tutorlaw01_WordBack Try.f10 0 [.v (.int .i64 k), .v (.int .i64 i), .rd ⟨false, 3, (.int .i64), w⟩] [] K =
    (fun (k : Int) (i : Int) (w : List Int) (K0 : Bool → Option R) =>
    l_word_At k i
     (fun r1 r2 =>
      l_tutorlaw01_num r1
       (fun r3 =>
        bi (r3 == 0)
         (l_word_Rank r2 k
          (fun r4 r5 =>
           l_word_Next r2 k
            (fun r6 r7 =>
             l_tutorlaw01_num r5
              (fun r8 =>
               bi (r8 != 0)
                (K0 false)
                (bi (r4 != i)
                 (K0 false)
                 (l_tutorlaw01_num r6
                  (fun r9 =>
                   bi (r9 == 0)
                    (bi (decide (i < 1099511627776))
                     (l_word_Rank r7 k
                      (fun r10 r11 =>
                       l_tutorlaw01_num r11
                        (fun r12 =>
                         bi (r12 != 0)
                          (K0 false)
                          (bi (r10 != (IntKind.i64.wrap (i + 1)))
                           (K0 false)
                           (l_word_Rank w k
                            (fun r13 r14 =>
                             l_tutorlaw01_num r14
                              (fun r15 =>
                               bi (r15 != 0)
                                (l_tutorlaw01_live
                                 (fun r16 =>
                                  K0 r16))
                                (l_word_At k r13
                                 (fun r17 r18 =>
                                  l_tutorlaw01_num r17
                                   (fun r19 =>
                                    bi (r19 == 0)
                                     (l_tutorref01_Same r18 w
                                      (fun r20 =>
                                       bi r20
                                        (l_tutorlaw01_live
                                         (fun r21 =>
                                          K0 r21))
                                        (K0 false)))
                                     (K0 false)))
                                 (fun r22 r23 =>
                                  l_tutorlaw01_num r22
                                   (fun r24 =>
                                    bi (r24 == 0)
                                     (l_tutorref01_Same r23 w
                                      (fun r25 =>
                                       bi r25
                                        (l_tutorlaw01_live
                                         (fun r26 =>
                                          K0 r26))
                                        (K0 false)))
                                     (K0 false)))))))))))
                     (l_word_Rank w k
                      (fun r27 r28 =>
                       l_tutorlaw01_num r28
                        (fun r29 =>
                         bi (r29 != 0)
                          (l_tutorlaw01_live
                           (fun r30 =>
                            K0 r30))
                          (l_word_At k r27
                           (fun r31 r32 =>
                            l_tutorlaw01_num r31
                             (fun r33 =>
                              bi (r33 == 0)
                               (l_tutorref01_Same r32 w
                                (fun r34 =>
                                 bi r34
                                  (l_tutorlaw01_live
                                   (fun r35 =>
                                    K0 r35))
                                  (K0 false)))
                               (K0 false)))
                           (fun r36 r37 =>
                            l_tutorlaw01_num r36
                             (fun r38 =>
                              bi (r38 == 0)
                               (l_tutorref01_Same r37 w
                                (fun r39 =>
                                 bi r39
                                  (l_tutorlaw01_live
                                   (fun r40 =>
                                    K0 r40))
                                  (K0 false)))
                               (K0 false))))))))
                    (l_word_Rank w k
                     (fun r41 r42 =>
                      l_tutorlaw01_num r42
                       (fun r43 =>
                        bi (r43 != 0)
                         (l_tutorlaw01_live
                          (fun r44 =>
                           K0 r44))
                         (l_word_At k r41
                          (fun r45 r46 =>
                           l_tutorlaw01_num r45
                            (fun r47 =>
                             bi (r47 == 0)
                              (l_tutorref01_Same r46 w
                               (fun r48 =>
                                bi r48
                                 (l_tutorlaw01_live
                                  (fun r49 =>
                                   K0 r49))
                                 (K0 false)))
                              (K0 false)))
                          (fun r50 r51 =>
                           l_tutorlaw01_num r50
                            (fun r52 =>
                             bi (r52 == 0)
                              (l_tutorref01_Same r51 w
                               (fun r53 =>
                                bi r53
                                 (l_tutorlaw01_live
                                  (fun r54 =>
                                   K0 r54))
                                 (K0 false)))
                              (K0 false))))))))))))))
         (l_word_Rank w k
          (fun r55 r56 =>
           l_tutorlaw01_num r56
            (fun r57 =>
             bi (r57 != 0)
              (l_tutorlaw01_live
               (fun r58 =>
                K0 r58))
              (l_word_At k r55
               (fun r59 r60 =>
                l_tutorlaw01_num r59
                 (fun r61 =>
                  bi (r61 == 0)
                   (l_tutorref01_Same r60 w
                    (fun r62 =>
                     bi r62
                      (l_tutorlaw01_live
                       (fun r63 =>
                        K0 r63))
                      (K0 false)))
                   (K0 false)))
               (fun r64 r65 =>
                l_tutorlaw01_num r64
                 (fun r66 =>
                  bi (r66 == 0)
                   (l_tutorref01_Same r65 w
                    (fun r67 =>
                     bi r67
                      (l_tutorlaw01_live
                       (fun r68 =>
                        K0 r68))
                      (K0 false)))
                   (K0 false)))))))))
     (fun r69 r70 =>
      l_tutorlaw01_num r69
       (fun r71 =>
        bi (r71 == 0)
         (l_word_Rank r70 k
          (fun r72 r73 =>
           l_word_Next r70 k
            (fun r74 r75 =>
             l_tutorlaw01_num r73
              (fun r76 =>
               bi (r76 != 0)
                (K0 false)
                (bi (r72 != i)
                 (K0 false)
                 (l_tutorlaw01_num r74
                  (fun r77 =>
                   bi (r77 == 0)
                    (bi (decide (i < 1099511627776))
                     (l_word_Rank r75 k
                      (fun r78 r79 =>
                       l_tutorlaw01_num r79
                        (fun r80 =>
                         bi (r80 != 0)
                          (K0 false)
                          (bi (r78 != (IntKind.i64.wrap (i + 1)))
                           (K0 false)
                           (l_word_Rank w k
                            (fun r81 r82 =>
                             l_tutorlaw01_num r82
                              (fun r83 =>
                               bi (r83 != 0)
                                (l_tutorlaw01_live
                                 (fun r84 =>
                                  K0 r84))
                                (l_word_At k r81
                                 (fun r85 r86 =>
                                  l_tutorlaw01_num r85
                                   (fun r87 =>
                                    bi (r87 == 0)
                                     (l_tutorref01_Same r86 w
                                      (fun r88 =>
                                       bi r88
                                        (l_tutorlaw01_live
                                         (fun r89 =>
                                          K0 r89))
                                        (K0 false)))
                                     (K0 false)))
                                 (fun r90 r91 =>
                                  l_tutorlaw01_num r90
                                   (fun r92 =>
                                    bi (r92 == 0)
                                     (l_tutorref01_Same r91 w
                                      (fun r93 =>
                                       bi r93
                                        (l_tutorlaw01_live
                                         (fun r94 =>
                                          K0 r94))
                                        (K0 false)))
                                     (K0 false)))))))))))
                     (l_word_Rank w k
                      (fun r95 r96 =>
                       l_tutorlaw01_num r96
                        (fun r97 =>
                         bi (r97 != 0)
                          (l_tutorlaw01_live
                           (fun r98 =>
                            K0 r98))
                          (l_word_At k r95
                           (fun r99 r100 =>
                            l_tutorlaw01_num r99
                             (fun r101 =>
                              bi (r101 == 0)
                               (l_tutorref01_Same r100 w
                                (fun r102 =>
                                 bi r102
                                  (l_tutorlaw01_live
                                   (fun r103 =>
                                    K0 r103))
                                  (K0 false)))
                               (K0 false)))
                           (fun r104 r105 =>
                            l_tutorlaw01_num r104
                             (fun r106 =>
                              bi (r106 == 0)
                               (l_tutorref01_Same r105 w
                                (fun r107 =>
                                 bi r107
                                  (l_tutorlaw01_live
                                   (fun r108 =>
                                    K0 r108))
                                  (K0 false)))
                               (K0 false))))))))
                    (l_word_Rank w k
                     (fun r109 r110 =>
                      l_tutorlaw01_num r110
                       (fun r111 =>
                        bi (r111 != 0)
                         (l_tutorlaw01_live
                          (fun r112 =>
                           K0 r112))
                         (l_word_At k r109
                          (fun r113 r114 =>
                           l_tutorlaw01_num r113
                            (fun r115 =>
                             bi (r115 == 0)
                              (l_tutorref01_Same r114 w
                               (fun r116 =>
                                bi r116
                                 (l_tutorlaw01_live
                                  (fun r117 =>
                                   K0 r117))
                                 (K0 false)))
                              (K0 false)))
                          (fun r118 r119 =>
                           l_tutorlaw01_num r118
                            (fun r120 =>
                             bi (r120 == 0)
                              (l_tutorref01_Same r119 w
                               (fun r121 =>
                                bi r121
                                 (l_tutorlaw01_live
                                  (fun r122 =>
                                   K0 r122))
                                 (K0 false)))
                              (K0 false))))))))))))))
         (l_word_Rank w k
          (fun r123 r124 =>
           l_tutorlaw01_num r124
            (fun r125 =>
             bi (r125 != 0)
              (l_tutorlaw01_live
               (fun r126 =>
                K0 r126))
              (l_word_At k r123
               (fun r127 r128 =>
                l_tutorlaw01_num r127
                 (fun r129 =>
                  bi (r129 == 0)
                   (l_tutorref01_Same r128 w
                    (fun r130 =>
                     bi r130
                      (l_tutorlaw01_live
                       (fun r131 =>
                        K0 r131))
                      (K0 false)))
                   (K0 false)))
               (fun r132 r133 =>
                l_tutorlaw01_num r132
                 (fun r134 =>
                  bi (r134 == 0)
                   (l_tutorref01_Same r133 w
                    (fun r135 =>
                     bi r135
                      (l_tutorlaw01_live
                       (fun r136 =>
                        K0 r136))
                      (K0 false)))
                   (K0 false)))))))))) k i w (fun r0 => K (.v (.bool r0)) []) := by kernel_rfl

theorem entry_tutorlaw01_WordBack {R : Type} (K : AV → List O → Option R) (k : Int) (i : Int) (w : List Int) :
    fnRun Try.prog (T_tutorlaw01_WordBack @l_tutorlaw01_live @l_tutorref01_Same @l_tutorlaw01_num @l_word_At @l_word_Rank @l_word_Next) cuts_tutorlaw01_WordBack Try.f10 0 [.v (.int .i64 k), .v (.int .i64 i), .rd ⟨false, 3, (.int .i64), w⟩] [] K =
    l_tutorlaw01_WordBack k i w (fun r0 => K (.v (.bool r0)) []) := gentry_tutorlaw01_WordBack @l_tutorlaw01_live @l_tutorref01_Same @l_tutorlaw01_num @l_word_At @l_word_Rank @l_word_Next K k i w

def S_tutorlaw01_WordBack (l_tutorlaw01_WordBack : {R : Type} → Int → Int → (List Int) → (Bool → Option R) → Option R) : Sum := ⟨[], fun {R} args ob K => match args, ob with
  | [.v (.int .i64 k), .v (.int .i64 i), .rd ⟨false, 3, (.int .i64), w⟩], [] => l_tutorlaw01_WordBack k i w (fun r0 => K (.v (.bool r0)) [])
  | _, _ => none⟩

theorem sound_tutorlaw01_WordBack : Sound Try.prog 10 (S_tutorlaw01_WordBack @l_tutorlaw01_WordBack) := by
  refine fn_sound (cuts := cuts_tutorlaw01_WordBack) (fn := Try.f10) (Γ := (T_tutorlaw01_WordBack @l_tutorlaw01_live @l_tutorref01_Same @l_tutorlaw01_num @l_word_At @l_word_Rank @l_word_Next)) wide right_T_tutorlaw01_WordBack Try.func10 fun {R} K r args ob h => ?_
  unfold S_tutorlaw01_WordBack at h
  dsimp only at h
  split at h
  · exact ⟨Nat.le_of_ble_eq_true (by kernel_rfl), 0, (entry_tutorlaw01_WordBack K _ _ _).trans h⟩
  · cases h

theorem call_tutorlaw01_WordBack : Callable Try.prog 10 := ⟨_, Try.func10, by kernel_rfl, by kernel_rfl⟩

end Go.Ev
