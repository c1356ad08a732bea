/- Each function of the program is its tree. -/
import Derived.Test.YtahecgbjneaboaaProg
import Derived.Test.YtahecgbjneaboaaEvFn
import Derived.Test.YtahecgbjneaboaaWordPartsPure
namespace Go.Ev
open Go.Proofs
noncomputable section
set_option linter.unusedVariables false
set_option linter.unusedSimpArgs false
set_option maxRecDepth 100000
set_option maxHeartbeats 4000000

theorem wide : Tables.follows Try.prog.toTables .mixedOrders = true := by kernel_rfl

def G0 : FuncId → Option Sum := fun _ => none
theorem right_G0 : Right Try.prog G0 := fun f S h => by cases h

def T_word_alphabet : FuncId → Option Sum := G0

theorem right_T_word_alphabet : Right Try.prog T_word_alphabet := right_G0

abbrev cuts_word_alphabet : Cuts := []

theorem gentry_word_alphabet {R : Type} (K : AV → List O → Option R) (k : Int) :
    fnRun Try.prog T_word_alphabet cuts_word_alphabet Try.f41 0 [.v (.int .i64 k)] [] K =
    (fun (k : Int) (K0 : Bool → Option R) =>
    bi (decide (k ≥ 1))
     (K0 (decide (k ≤ 64)))
     (K0 false)) k (fun r0 => K (.v (.bool r0)) []) := by kernel_rfl

theorem entry_word_alphabet {R : Type} (K : AV → List O → Option R) (k : Int) :
    fnRun Try.prog T_word_alphabet cuts_word_alphabet Try.f41 0 [.v (.int .i64 k)] [] K =
    l_word_alphabet k (fun r0 => K (.v (.bool r0)) []) := gentry_word_alphabet K k

def S_word_alphabet (l_word_alphabet : {R : Type} → Int → (Bool → Option R) → Option R) : Sum := ⟨[], fun {R} args ob K => match args, ob with
  | [.v (.int .i64 k)], [] => l_word_alphabet k (fun r0 => K (.v (.bool r0)) [])
  | _, _ => none⟩

theorem sound_word_alphabet : Sound Try.prog 41 (S_word_alphabet @l_word_alphabet) := by
  refine fn_sound (cuts := cuts_word_alphabet) (fn := Try.f41) (Γ := T_word_alphabet) wide right_T_word_alphabet Try.func41 fun {R} K r args ob h => ?_
  unfold S_word_alphabet at h
  dsimp only at h
  split at h
  · exact ⟨Nat.le_of_ble_eq_true (by kernel_rfl), 0, (entry_word_alphabet K _).trans h⟩
  · cases h

theorem call_word_alphabet : Callable Try.prog 41 := ⟨_, Try.func41, by kernel_rfl, by kernel_rfl⟩

def T_word_Check (l_word_alphabet : {R : Type} → Int → (Bool → Option R) → Option R) : FuncId → Option Sum := (addS G0 41 (S_word_alphabet @l_word_alphabet))

theorem right_T_word_Check : Right Try.prog (T_word_Check @l_word_alphabet) := (right_add right_G0 call_word_alphabet sound_word_alphabet)

abbrev cuts_word_Check : Cuts := [(6, [0, 1, 16, 17])]

theorem gstep_word_Check_6 (l_word_alphabet : {R : Type} → Int → (Bool → Option R) → Option R) {R : Type} (g : List Item → St → Option R) (K : AV → List O → Option R) (w : List Int) (k : Int) (x16 : Int) (x17 : Int) :
    runSeg Try.prog (T_word_Check @l_word_alphabet) cuts_word_Check 0 g (finish Try.prog Try.f13 0 K) (at' Try.f13 6) ⟨fr0 35 [(0, .rd ⟨false, 3, (.int .i64), w⟩), (1, .v (.int .i64 k)), (16, .v (.int .i64 x16)), (17, .v (.int .i64 x17))], []⟩ =
    (fun (g13_6 : (List Int) → Int → Int → Int → Option R) (K0 : Int → Int → Option R) (w : List Int) (k : Int) (x16 : Int) (x17 : Int) =>
    bi (decide (x17 < x16))
     (bi (decide (0 ≤ x17 ∧ x17 < ((w.length : Nat) : Int)))
      (bi (decide ((w.getD x17.toNat 0) < 0))
       (K0 x17 10)
       (bi (decide (0 ≤ x17 ∧ x17 < ((w.length : Nat) : Int)))
        (bi (decide ((w.getD x17.toNat 0) ≥ k))
         (K0 x17 10)
         (g13_6 w k x16 (IntKind.i64.wrap (x17 + 1))))
        none))
      none)
     (K0 0 0)) (fun w k x16 x17 => g (at' Try.f13 6) ⟨fr0 35 [(0, .rd ⟨false, 3, (.int .i64), w⟩), (1, .v (.int .i64 k)), (16, .v (.int .i64 x16)), (17, .v (.int .i64 x17))], []⟩) (fun r0 r1 => K (.tup [.v (.int .i64 r0), .v (.int .i64 r1)]) []) w k x16 x17 := by kernel_rfl

theorem step_word_Check_6 {R : Type} (g : List Item → St → Option R) (K : AV → List O → Option R) (w : List Int) (k : Int) (x16 : Int) (x17 : Int) :
    runSeg Try.prog (T_word_Check @l_word_alphabet) cuts_word_Check 0 g (finish Try.prog Try.f13 0 K) (at' Try.f13 6) ⟨fr0 35 [(0, .rd ⟨false, 3, (.int .i64), w⟩), (1, .v (.int .i64 k)), (16, .v (.int .i64 x16)), (17, .v (.int .i64 x17))], []⟩ =
    s_word_Check_6 (fun w k x16 x17 => g (at' Try.f13 6) ⟨fr0 35 [(0, .rd ⟨false, 3, (.int .i64), w⟩), (1, .v (.int .i64 k)), (16, .v (.int .i64 x16)), (17, .v (.int .i64 x17))], []⟩) (fun r0 r1 => K (.tup [.v (.int .i64 r0), .v (.int .i64 r1)]) []) w k x16 x17 := gstep_word_Check_6 @l_word_alphabet g K w k x16 x17

theorem gentry_word_Check (l_word_alphabet : {R : Type} → Int → (Bool → Option R) → Option R) {R : Type} (fuel : Nat) (K : AV → List O → Option R) (w : List Int) (k : Int) :
    fnRun Try.prog (T_word_Check @l_word_alphabet) cuts_word_Check Try.f13 fuel [.rd ⟨false, 3, (.int .i64), w⟩, .v (.int .i64 k)] [] K =
    (fun (g13_6 : (List Int) → Int → Int → Int → Option R) (K0 : Int → Int → Option R) (w : List Int) (k : Int) =>
    l_word_alphabet k
     (fun r1 =>
      bi (!r1)
       (K0 0 1)
       (bi (decide ((w.length : Int) > 4096))
        (K0 0 2)
        (g13_6 w k (w.length : Int) 0)))) (fun w k x16 x17 => (runO Try.prog (T_word_Check @l_word_alphabet) cuts_word_Check 0 (finish Try.prog Try.f13 0 K) fuel) (at' Try.f13 6) ⟨fr0 35 [(0, .rd ⟨false, 3, (.int .i64), w⟩), (1, .v (.int .i64 k)), (16, .v (.int .i64 x16)), (17, .v (.int .i64 x17))], []⟩) (fun r0 r1 => K (.tup [.v (.int .i64 r0), .v (.int .i64 r1)]) []) w k := by kernel_rfl

theorem entry_word_Check {R : Type} (fuel : Nat) (K : AV → List O → Option R) (w : List Int) (k : Int) :
    fnRun Try.prog (T_word_Check @l_word_alphabet) cuts_word_Check Try.f13 fuel [.rd ⟨false, 3, (.int .i64), w⟩, .v (.int .i64 k)] [] K =
    e_word_Check (fun w k x16 x17 => (runO Try.prog (T_word_Check @l_word_alphabet) cuts_word_Check 0 (finish Try.prog Try.f13 0 K) fuel) (at' Try.f13 6) ⟨fr0 35 [(0, .rd ⟨false, 3, (.int .i64), w⟩), (1, .v (.int .i64 k)), (16, .v (.int .i64 x16)), (17, .v (.int .i64 x17))], []⟩) (fun r0 r1 => K (.tup [.v (.int .i64 r0), .v (.int .i64 r1)]) []) w k := gentry_word_Check @l_word_alphabet fuel K w k

theorem runs_word_Check {R : Type} (K : AV → List O → Option R) : ∀ fuel : Nat,
    (fun w k x16 x17 => (runO Try.prog (T_word_Check @l_word_alphabet) cuts_word_Check 0 (finish Try.prog Try.f13 0 K) fuel) (at' Try.f13 6) ⟨fr0 35 [(0, .rd ⟨false, 3, (.int .i64), w⟩), (1, .v (.int .i64 k)), (16, .v (.int .i64 x16)), (17, .v (.int .i64 x17))], []⟩) = (run_word_Check (fun r0 r1 => K (.tup [.v (.int .i64 r0), .v (.int .i64 r1)]) []) fuel)
  | 0 => rfl
  | fuel + 1 => by
    have ih := runs_word_Check K fuel
    funext w k x16 x17
    refine (step_word_Check_6 _ K w k x16 x17).trans ?_
    rw [ih]
    rfl

def S_word_Check (l_word_Check : {R : Type} → (List Int) → Int → (Int → Int → Option R) → Option R) : Sum := ⟨[], fun {R} args ob K => match args, ob with
  | [.rd ⟨false, 3, (.int .i64), w⟩, .v (.int .i64 k)], [] => l_word_Check w k (fun r0 r1 => K (.tup [.v (.int .i64 r0), .v (.int .i64 r1)]) [])
  | _, _ => none⟩

theorem sound_word_Check : Sound Try.prog 13 (S_word_Check @l_word_Check) := by
  refine fn_sound (cuts := cuts_word_Check) (fn := Try.f13) (Γ := (T_word_Check @l_word_alphabet)) wide right_T_word_Check Try.func13 fun {R} K r args ob h => ?_
  unfold S_word_Check at h
  dsimp only at h
  split at h
  · obtain ⟨n, hn⟩ := ok_word_Check _ _ _ h
    refine ⟨Nat.le_of_ble_eq_true (by kernel_rfl), n, (entry_word_Check n K _ _).trans ?_⟩
    rw [(runs_word_Check K n)]
    exact hn
  · cases h

theorem call_word_Check : Callable Try.prog 13 := ⟨_, Try.func13, by kernel_rfl, by kernel_rfl⟩

theorem nil_slices_Clone_int_int {R : Type} (K : AV → List O → Option R) (c : Nat) :
    fnRun Try.prog G0 [] Try.f45 0 [.v (.slice none 0 c)] [] K = K (.own 0) [.row ⟨true, 3, (.int .i64), []⟩] := by kernel_rfl

theorem emp_slices_Clone_int_int {R : Type} (K : AV → List O → Option R) (a : Addr) (c : Nat) :
    fnRun Try.prog G0 [] Try.f45 0 [.v (.slice (some a) 0 c)] [] K = K (.own 0) [.row ⟨true, 3, (.int .i64), [] ++ []⟩] := by kernel_rfl

theorem cons_slices_Clone_int_int {R : Type} (K : AV → List O → Option R) (x : Int) (xs : List Int) :
    fnRun Try.prog G0 [] Try.f45 0 [.rd ⟨false, 3, (.int .i64), x :: xs⟩] [] K =
    bi (decide ((([] : List Int).length + (x :: xs).length) * 8 ≤ lim)) (K (.own 0) [.row ⟨true, 3, (.int .i64), [] ++ (x :: xs)⟩]) none := by kernel_rfl

def S_slices_Clone_int_int (l_slices_Clone_int_int : {R : Type} → (List Int) → ((List Int) → Option R) → Option R) : Sum := ⟨[], fun {R} args ob K => match args, ob with
  | [.rd ⟨false, 3, (.int .i64), s⟩], [] => l_slices_Clone_int_int s (fun r0 => K (.own 0) [.row ⟨true, 3, (.int .i64), r0⟩])
  | _, _ => none⟩

theorem sound_slices_Clone_int_int : Sound Try.prog 45 (S_slices_Clone_int_int @l_slices_Clone_int_int) := by
  refine fn_sound' (cuts := []) (fn := Try.f45) (Γ := G0) wide right_G0 Try.func45 fun {R} K r args ob h vals w ok β hr => ?_
  unfold S_slices_Clone_int_int at h
  dsimp only at h
  split at h
  · rename_i s
    obtain ⟨v, rfl, hv⟩ := hr.single
    rcases bi_some h with ⟨hl, h⟩ | ⟨_, h⟩
    · cases hv with
      | rd _ A c hc hrow =>
        cases s with
        | nil => cases A with
          | none => exact ⟨[.v (.slice none 0 c)], RepL.consts _ _ _ [.slice none 0 c], Nat.le_of_ble_eq_true (by kernel_rfl), 0, (nil_slices_Clone_int_int K c).trans h⟩
          | some a => exact ⟨[.v (.slice (some a) 0 c)], RepL.consts _ _ _ [.slice (some a) 0 c], Nat.le_of_ble_eq_true (by kernel_rfl), 0, (emp_slices_Clone_int_int K a c).trans h⟩
        | cons x xs =>
          refine ⟨_, hr, Nat.le_of_ble_eq_true (by kernel_rfl), 0, (cons_slices_Clone_int_int K x xs).trans ?_⟩
          rw [List.length_nil, Nat.zero_add, hl, br_tt]
          exact h
    · cases h
  · cases h

theorem call_slices_Clone_int_int : Callable Try.prog 45 := ⟨_, Try.func45, by kernel_rfl, by kernel_rfl⟩

def T_word_Next (l_slices_Clone_int_int : {R : Type} → (List Int) → ((List Int) → Option R) → Option R) (l_word_Check : {R : Type} → (List Int) → Int → (Int → Int → Option R) → Option R) : FuncId → Option Sum := (addS (addS G0 45 (S_slices_Clone_int_int @l_slices_Clone_int_int)) 13 (S_word_Check @l_word_Check))

theorem right_T_word_Next : Right Try.prog (T_word_Next @l_slices_Clone_int_int @l_word_Check) := (right_add (right_add right_G0 call_slices_Clone_int_int sound_slices_Clone_int_int) call_word_Check sound_word_Check)

abbrev cuts_word_Next : Cuts := [(6, [0, 1, 8, 9])]

theorem gstep_word_Next_6 (l_slices_Clone_int_int : {R : Type} → (List Int) → ((List Int) → Option R) → Option R) (l_word_Check : {R : Type} → (List Int) → Int → (Int → Int → Option R) → Option R) {R : Type} (g : List Item → St → Option R) (K : AV → List O → Option R) (w : List Int) (k : Int) (i : Int) (o0 : List Int) :
    runSeg Try.prog (T_word_Next @l_slices_Clone_int_int @l_word_Check) cuts_word_Next 0 g (finish Try.prog Try.f20 0 K) (at' Try.f20 6) ⟨fr0 50 [(0, .rd ⟨false, 3, (.int .i64), w⟩), (1, .v (.int .i64 k)), (8, .own 0), (9, .v (.int .i64 i))], [.row ⟨true, 3, (.int .i64), o0⟩]⟩ =
    (fun (g20_6 : (List Int) → Int → Int → (List Int) → Option R) (K0 : Int → (List Int) → Option R) (w : List Int) (k : Int) (i : Int) (o0 : List Int) =>
    bi (decide (i ≥ 0))
     (bi (decide (0 ≤ i ∧ i < ((o0.length : Nat) : Int)))
      (bi (decide (0 ≤ i ∧ i < ((o0.length : Nat) : Int)))
       (bi (decide (0 ≤ i ∧ i < (((o0.set i.toNat (IntKind.i64.wrap ((o0.getD i.toNat 0) + 1))).length : Nat) : Int)))
        (bi (decide (((o0.set i.toNat (IntKind.i64.wrap ((o0.getD i.toNat 0) + 1))).getD i.toNat 0) < k))
         (K0 0 (o0.set i.toNat (IntKind.i64.wrap ((o0.getD i.toNat 0) + 1))))
         (bi (decide (0 ≤ i ∧ i < (((o0.set i.toNat (IntKind.i64.wrap ((o0.getD i.toNat 0) + 1))).length : Nat) : Int)))
          (g20_6 w k (IntKind.i64.wrap (i - 1)) ((o0.set i.toNat (IntKind.i64.wrap ((o0.getD i.toNat 0) + 1))).set i.toNat 0))
          none))
        none)
       none)
      none)
     (bi ((w.length : Int) == 4096)
      (K0 2 ([] : List Int))
      (bi (decide ((o0.length + [0].length) * 8 ≤ lim))
       (K0 0 (o0 ++ [0]))
       none))) (fun w k i o0 => g (at' Try.f20 6) ⟨fr0 50 [(0, .rd ⟨false, 3, (.int .i64), w⟩), (1, .v (.int .i64 k)), (8, .own 0), (9, .v (.int .i64 i))], [.row ⟨true, 3, (.int .i64), o0⟩]⟩) (fun r0 r1 => K (.tup [.own 0, .v (.int .i64 r0)]) [.row ⟨true, 3, (.int .i64), r1⟩]) w k i o0 := by kernel_rfl

theorem step_word_Next_6 {R : Type} (g : List Item → St → Option R) (K : AV → List O → Option R) (w : List Int) (k : Int) (i : Int) (o0 : List Int) :
    runSeg Try.prog (T_word_Next @l_slices_Clone_int_int @l_word_Check) cuts_word_Next 0 g (finish Try.prog Try.f20 0 K) (at' Try.f20 6) ⟨fr0 50 [(0, .rd ⟨false, 3, (.int .i64), w⟩), (1, .v (.int .i64 k)), (8, .own 0), (9, .v (.int .i64 i))], [.row ⟨true, 3, (.int .i64), o0⟩]⟩ =
    s_word_Next_6 (fun w k i o0 => g (at' Try.f20 6) ⟨fr0 50 [(0, .rd ⟨false, 3, (.int .i64), w⟩), (1, .v (.int .i64 k)), (8, .own 0), (9, .v (.int .i64 i))], [.row ⟨true, 3, (.int .i64), o0⟩]⟩) (fun r0 r1 => K (.tup [.own 0, .v (.int .i64 r0)]) [.row ⟨true, 3, (.int .i64), r1⟩]) w k i o0 := gstep_word_Next_6 @l_slices_Clone_int_int @l_word_Check g K w k i o0

theorem gentry_word_Next (l_slices_Clone_int_int : {R : Type} → (List Int) → ((List Int) → Option R) → Option R) (l_word_Check : {R : Type} → (List Int) → Int → (Int → Int → Option R) → Option R) {R : Type} (fuel : Nat) (K : AV → List O → Option R) (w : List Int) (k : Int) :
    fnRun Try.prog (T_word_Next @l_slices_Clone_int_int @l_word_Check) cuts_word_Next Try.f20 fuel [.rd ⟨false, 3, (.int .i64), w⟩, .v (.int .i64 k)] [] K =
    (fun (g20_6 : (List Int) → Int → Int → (List Int) → Option R) (K0 : Int → (List Int) → Option R) (w : List Int) (k : Int) =>
    l_word_Check w k
     (fun r1 r2 =>
      bi (r2 != 0)
       (K0 r2 ([] : List Int))
       (l_slices_Clone_int_int w
        (fun r3 =>
         g20_6 w k (IntKind.i64.wrap ((r3.length : Int) - 1)) r3)))) (fun w k i o0 => (runO Try.prog (T_word_Next @l_slices_Clone_int_int @l_word_Check) cuts_word_Next 0 (finish Try.prog Try.f20 0 K) fuel) (at' Try.f20 6) ⟨fr0 50 [(0, .rd ⟨false, 3, (.int .i64), w⟩), (1, .v (.int .i64 k)), (8, .own 0), (9, .v (.int .i64 i))], [.row ⟨true, 3, (.int .i64), o0⟩]⟩) (fun r0 r1 => K (.tup [.own 0, .v (.int .i64 r0)]) [.row ⟨true, 3, (.int .i64), r1⟩]) w k := by kernel_rfl

theorem entry_word_Next {R : Type} (fuel : Nat) (K : AV → List O → Option R) (w : List Int) (k : Int) :
    fnRun Try.prog (T_word_Next @l_slices_Clone_int_int @l_word_Check) cuts_word_Next Try.f20 fuel [.rd ⟨false, 3, (.int .i64), w⟩, .v (.int .i64 k)] [] K =
    e_word_Next (fun w k i o0 => (runO Try.prog (T_word_Next @l_slices_Clone_int_int @l_word_Check) cuts_word_Next 0 (finish Try.prog Try.f20 0 K) fuel) (at' Try.f20 6) ⟨fr0 50 [(0, .rd ⟨false, 3, (.int .i64), w⟩), (1, .v (.int .i64 k)), (8, .own 0), (9, .v (.int .i64 i))], [.row ⟨true, 3, (.int .i64), o0⟩]⟩) (fun r0 r1 => K (.tup [.own 0, .v (.int .i64 r0)]) [.row ⟨true, 3, (.int .i64), r1⟩]) w k := gentry_word_Next @l_slices_Clone_int_int @l_word_Check fuel K w k

theorem runs_word_Next {R : Type} (K : AV → List O → Option R) : ∀ fuel : Nat,
    (fun w k i o0 => (runO Try.prog (T_word_Next @l_slices_Clone_int_int @l_word_Check) cuts_word_Next 0 (finish Try.prog Try.f20 0 K) fuel) (at' Try.f20 6) ⟨fr0 50 [(0, .rd ⟨false, 3, (.int .i64), w⟩), (1, .v (.int .i64 k)), (8, .own 0), (9, .v (.int .i64 i))], [.row ⟨true, 3, (.int .i64), o0⟩]⟩) = (run_word_Next (fun r0 r1 => K (.tup [.own 0, .v (.int .i64 r0)]) [.row ⟨true, 3, (.int .i64), r1⟩]) fuel)
  | 0 => rfl
  | fuel + 1 => by
    have ih := runs_word_Next K fuel
    funext w k i o0
    refine (step_word_Next_6 _ K w k i o0).trans ?_
    rw [ih]
    rfl

def S_word_Next (l_word_Next : {R : Type} → (List Int) → Int → (Int → (List Int) → Option R) → Option R) : Sum := ⟨[], fun {R} args ob K => match args, ob with
  | [.rd ⟨false, 3, (.int .i64), w⟩, .v (.int .i64 k)], [] => l_word_Next w k (fun r0 r1 => K (.tup [.own 0, .v (.int .i64 r0)]) [.row ⟨true, 3, (.int .i64), r1⟩])
  | _, _ => none⟩

theorem sound_word_Next : Sound Try.prog 20 (S_word_Next @l_word_Next) := by
  refine fn_sound (cuts := cuts_word_Next) (fn := Try.f20) (Γ := (T_word_Next @l_slices_Clone_int_int @l_word_Check)) wide right_T_word_Next Try.func20 fun {R} K r args ob h => ?_
  unfold S_word_Next at h
  dsimp only at h
  split at h
  · obtain ⟨n, hn⟩ := ok_word_Next _ _ _ h
    refine ⟨Nat.le_of_ble_eq_true (by kernel_rfl), n, (entry_word_Next n K _ _).trans ?_⟩
    rw [(runs_word_Next K n)]
    exact hn
  · cases h

theorem call_word_Next : Callable Try.prog 20 := ⟨_, Try.func20, by kernel_rfl, by kernel_rfl⟩

def T_word_counter : FuncId → Option Sum := G0

theorem right_T_word_counter : Right Try.prog T_word_counter := right_G0

abbrev cuts_word_counter : Cuts := []

theorem gentry_word_counter {R : Type} (K : AV → List O → Option R) (n : Int) :
    fnRun Try.prog T_word_counter cuts_word_counter Try.f47 0 [.v (.int .i64 n)] [] K =
    (fun (n : Int) (K0 : Bool → Option R) =>
    bi (decide (n ≥ 0))
     (K0 (decide (n ≤ 1099511627776)))
     (K0 false)) n (fun r0 => K (.v (.bool r0)) []) := by kernel_rfl

theorem entry_word_counter {R : Type} (K : AV → List O → Option R) (n : Int) :
    fnRun Try.prog T_word_counter cuts_word_counter Try.f47 0 [.v (.int .i64 n)] [] K =
    l_word_counter n (fun r0 => K (.v (.bool r0)) []) := gentry_word_counter K n

def S_word_counter (l_word_counter : {R : Type} → Int → (Bool → Option R) → Option R) : Sum := ⟨[], fun {R} args ob K => match args, ob with
  | [.v (.int .i64 n)], [] => l_word_counter n (fun r0 => K (.v (.bool r0)) [])
  | _, _ => none⟩

theorem sound_word_counter : Sound Try.prog 47 (S_word_counter @l_word_counter) := by
  refine fn_sound (cuts := cuts_word_counter) (fn := Try.f47) (Γ := T_word_counter) wide right_T_word_counter Try.func47 fun {R} K r args ob h => ?_
  unfold S_word_counter at h
  dsimp only at h
  split at h
  · exact ⟨Nat.le_of_ble_eq_true (by kernel_rfl), 0, (entry_word_counter K _).trans h⟩
  · cases h

theorem call_word_counter : Callable Try.prog 47 := ⟨_, Try.func47, by kernel_rfl, by kernel_rfl⟩

def T_word_Add (l_word_counter : {R : Type} → Int → (Bool → Option R) → Option R) : FuncId → Option Sum := (addS G0 47 (S_word_counter @l_word_counter))

theorem right_T_word_Add : Right Try.prog (T_word_Add @l_word_counter) := (right_add right_G0 call_word_counter sound_word_counter)

abbrev cuts_word_Add : Cuts := []

theorem gentry_word_Add (l_word_counter : {R : Type} → Int → (Bool → Option R) → Option R) {R : Type} (K : AV → List O → Option R) (a : Int) (b : Int) :
    fnRun Try.prog (T_word_Add @l_word_counter) cuts_word_Add Try.f23 0 [.v (.int .i64 a), .v (.int .i64 b)] [] K =
    (fun (a : Int) (b : Int) (K0 : Int → Int → Option R) =>
    l_word_counter a
     (fun r1 =>
      bi (!r1)
       (K0 0 1)
       (l_word_counter b
        (fun r2 =>
         bi (!r2)
          (K0 0 1)
          (bi (decide (a > (IntKind.i64.wrap (1099511627776 - b))))
           (K0 0 11)
           (K0 (IntKind.i64.wrap (a + b)) 0)))))) a b (fun r0 r1 => K (.tup [.v (.int .i64 r0), .v (.int .i64 r1)]) []) := by kernel_rfl

theorem entry_word_Add {R : Type} (K : AV → List O → Option R) (a : Int) (b : Int) :
    fnRun Try.prog (T_word_Add @l_word_counter) cuts_word_Add Try.f23 0 [.v (.int .i64 a), .v (.int .i64 b)] [] K =
    l_word_Add a b (fun r0 r1 => K (.tup [.v (.int .i64 r0), .v (.int .i64 r1)]) []) := gentry_word_Add @l_word_counter K a b

def S_word_Add (l_word_Add : {R : Type} → Int → Int → (Int → Int → Option R) → Option R) : Sum := ⟨[], fun {R} args ob K => match args, ob with
  | [.v (.int .i64 a), .v (.int .i64 b)], [] => l_word_Add a b (fun r0 r1 => K (.tup [.v (.int .i64 r0), .v (.int .i64 r1)]) [])
  | _, _ => none⟩

theorem sound_word_Add : Sound Try.prog 23 (S_word_Add @l_word_Add) := by
  refine fn_sound (cuts := cuts_word_Add) (fn := Try.f23) (Γ := (T_word_Add @l_word_counter)) wide right_T_word_Add Try.func23 fun {R} K r args ob h => ?_
  unfold S_word_Add at h
  dsimp only at h
  split at h
  · exact ⟨Nat.le_of_ble_eq_true (by kernel_rfl), 0, (entry_word_Add K _ _).trans h⟩
  · cases h

theorem call_word_Add : Callable Try.prog 23 := ⟨_, Try.func23, by kernel_rfl, by kernel_rfl⟩

def T_word_Mul (l_word_counter : {R : Type} → Int → (Bool → Option R) → Option R) : FuncId → Option Sum := (addS G0 47 (S_word_counter @l_word_counter))

theorem right_T_word_Mul : Right Try.prog (T_word_Mul @l_word_counter) := (right_add right_G0 call_word_counter sound_word_counter)

abbrev cuts_word_Mul : Cuts := []

theorem gentry_word_Mul (l_word_counter : {R : Type} → Int → (Bool → Option R) → Option R) {R : Type} (K : AV → List O → Option R) (a : Int) (b : Int) :
    fnRun Try.prog (T_word_Mul @l_word_counter) cuts_word_Mul Try.f25 0 [.v (.int .i64 a), .v (.int .i64 b)] [] K =
    (fun (a : Int) (b : Int) (K0 : Int → Int → Option R) =>
    l_word_counter a
     (fun r1 =>
      bi (!r1)
       (K0 0 1)
       (l_word_counter b
        (fun r2 =>
         bi (!r2)
          (K0 0 1)
          (bi (decide (b > 0))
           (bi (decide (b = 0))
            none
            (bi (decide (a > (IntKind.i64.wrap ((1099511627776 : Int).tdiv b))))
             (K0 0 11)
             (K0 (IntKind.i64.wrap (a * b)) 0)))
           (K0 (IntKind.i64.wrap (a * b)) 0)))))) a b (fun r0 r1 => K (.tup [.v (.int .i64 r0), .v (.int .i64 r1)]) []) := by kernel_rfl

theorem entry_word_Mul {R : Type} (K : AV → List O → Option R) (a : Int) (b : Int) :
    fnRun Try.prog (T_word_Mul @l_word_counter) cuts_word_Mul Try.f25 0 [.v (.int .i64 a), .v (.int .i64 b)] [] K =
    l_word_Mul a b (fun r0 r1 => K (.tup [.v (.int .i64 r0), .v (.int .i64 r1)]) []) := gentry_word_Mul @l_word_counter K a b

def S_word_Mul (l_word_Mul : {R : Type} → Int → Int → (Int → Int → Option R) → Option R) : Sum := ⟨[], fun {R} args ob K => match args, ob with
  | [.v (.int .i64 a), .v (.int .i64 b)], [] => l_word_Mul a b (fun r0 r1 => K (.tup [.v (.int .i64 r0), .v (.int .i64 r1)]) [])
  | _, _ => none⟩

theorem sound_word_Mul : Sound Try.prog 25 (S_word_Mul @l_word_Mul) := by
  refine fn_sound (cuts := cuts_word_Mul) (fn := Try.f25) (Γ := (T_word_Mul @l_word_counter)) wide right_T_word_Mul Try.func25 fun {R} K r args ob h => ?_
  unfold S_word_Mul at h
  dsimp only at h
  split at h
  · exact ⟨Nat.le_of_ble_eq_true (by kernel_rfl), 0, (entry_word_Mul K _ _).trans h⟩
  · cases h

theorem call_word_Mul : Callable Try.prog 25 := ⟨_, Try.func25, by kernel_rfl, by kernel_rfl⟩

def T_word_Count (l_word_Add : {R : Type} → Int → Int → (Int → Int → Option R) → Option R) (l_word_alphabet : {R : Type} → Int → (Bool → Option R) → Option R) (l_word_Mul : {R : Type} → Int → Int → (Int → Int → Option R) → Option R) : FuncId → Option Sum := (addS (addS (addS G0 23 (S_word_Add @l_word_Add)) 41 (S_word_alphabet @l_word_alphabet)) 25 (S_word_Mul @l_word_Mul))

theorem right_T_word_Count : Right Try.prog (T_word_Count @l_word_Add @l_word_alphabet @l_word_Mul) := (right_add (right_add (right_add right_G0 call_word_Add sound_word_Add) call_word_alphabet sound_word_alphabet) call_word_Mul sound_word_Mul)

abbrev cuts_word_Count : Cuts := [(7, [0, 6, 23, 24])]

theorem gstep_word_Count_7 (l_word_Add : {R : Type} → Int → Int → (Int → Int → Option R) → Option R) (l_word_alphabet : {R : Type} → Int → (Bool → Option R) → Option R) (l_word_Mul : {R : Type} → Int → Int → (Int → Int → Option R) → Option R) {R : Type} (g : List Item → St → Option R) (K : AV → List O → Option R) (k : Int) (sum : Int) (x23 : Int) (x24 : Int) :
    runSeg Try.prog (T_word_Count @l_word_Add @l_word_alphabet @l_word_Mul) cuts_word_Count 0 g (finish Try.prog Try.f27 0 K) (at' Try.f27 7) ⟨fr0 45 [(0, .v (.int .i64 k)), (6, .v (.int .i64 sum)), (23, .v (.int .i64 x23)), (24, .v (.int .i64 x24))], []⟩ =
    (fun (g27_7 : Int → Int → Int → Int → Option R) (K0 : Int → Int → Option R) (k : Int) (sum : Int) (x23 : Int) (x24 : Int) =>
    bi (decide (x24 < x23))
     (l_word_Mul sum k
      (fun r4 r5 =>
       bi (r5 == 0)
        (l_word_Add r4 1
         (fun r6 r7 =>
          bi (r7 != 0)
           (K0 0 r7)
           (g27_7 k r6 x23 (IntKind.i64.wrap (x24 + 1)))))
        (bi (r5 != 0)
         (K0 0 r5)
         (g27_7 k r4 x23 (IntKind.i64.wrap (x24 + 1))))))
     (K0 sum 0)) (fun k sum x23 x24 => g (at' Try.f27 7) ⟨fr0 45 [(0, .v (.int .i64 k)), (6, .v (.int .i64 sum)), (23, .v (.int .i64 x23)), (24, .v (.int .i64 x24))], []⟩) (fun r0 r1 => K (.tup [.v (.int .i64 r0), .v (.int .i64 r1)]) []) k sum x23 x24 := by kernel_rfl

theorem step_word_Count_7 {R : Type} (g : List Item → St → Option R) (K : AV → List O → Option R) (k : Int) (sum : Int) (x23 : Int) (x24 : Int) :
    runSeg Try.prog (T_word_Count @l_word_Add @l_word_alphabet @l_word_Mul) cuts_word_Count 0 g (finish Try.prog Try.f27 0 K) (at' Try.f27 7) ⟨fr0 45 [(0, .v (.int .i64 k)), (6, .v (.int .i64 sum)), (23, .v (.int .i64 x23)), (24, .v (.int .i64 x24))], []⟩ =
    s_word_Count_7 (fun k sum x23 x24 => g (at' Try.f27 7) ⟨fr0 45 [(0, .v (.int .i64 k)), (6, .v (.int .i64 sum)), (23, .v (.int .i64 x23)), (24, .v (.int .i64 x24))], []⟩) (fun r0 r1 => K (.tup [.v (.int .i64 r0), .v (.int .i64 r1)]) []) k sum x23 x24 := gstep_word_Count_7 @l_word_Add @l_word_alphabet @l_word_Mul g K k sum x23 x24

theorem gentry_word_Count (l_word_Add : {R : Type} → Int → Int → (Int → Int → Option R) → Option R) (l_word_alphabet : {R : Type} → Int → (Bool → Option R) → Option R) (l_word_Mul : {R : Type} → Int → Int → (Int → Int → Option R) → Option R) {R : Type} (fuel : Nat) (K : AV → List O → Option R) (k : Int) (n : Int) :
    fnRun Try.prog (T_word_Count @l_word_Add @l_word_alphabet @l_word_Mul) cuts_word_Count Try.f27 fuel [.v (.int .i64 k), .v (.int .i64 n)] [] K =
    (fun (g27_7 : Int → Int → Int → Int → Option R) (K0 : Int → Int → Option R) (k : Int) (n : Int) =>
    l_word_alphabet k
     (fun r1 =>
      bi (!r1)
       (K0 0 1)
       (bi (decide (n < 0))
        (K0 0 1)
        (bi (k == 1)
         (l_word_Add (if 1099511627776 < n then 1099511627776 else n) 1
          (fun r2 r3 =>
           K0 r2 r3))
         (g27_7 k 1 n 0))))) (fun k sum x23 x24 => (runO Try.prog (T_word_Count @l_word_Add @l_word_alphabet @l_word_Mul) cuts_word_Count 0 (finish Try.prog Try.f27 0 K) fuel) (at' Try.f27 7) ⟨fr0 45 [(0, .v (.int .i64 k)), (6, .v (.int .i64 sum)), (23, .v (.int .i64 x23)), (24, .v (.int .i64 x24))], []⟩) (fun r0 r1 => K (.tup [.v (.int .i64 r0), .v (.int .i64 r1)]) []) k n := by kernel_rfl

theorem entry_word_Count {R : Type} (fuel : Nat) (K : AV → List O → Option R) (k : Int) (n : Int) :
    fnRun Try.prog (T_word_Count @l_word_Add @l_word_alphabet @l_word_Mul) cuts_word_Count Try.f27 fuel [.v (.int .i64 k), .v (.int .i64 n)] [] K =
    e_word_Count (fun k sum x23 x24 => (runO Try.prog (T_word_Count @l_word_Add @l_word_alphabet @l_word_Mul) cuts_word_Count 0 (finish Try.prog Try.f27 0 K) fuel) (at' Try.f27 7) ⟨fr0 45 [(0, .v (.int .i64 k)), (6, .v (.int .i64 sum)), (23, .v (.int .i64 x23)), (24, .v (.int .i64 x24))], []⟩) (fun r0 r1 => K (.tup [.v (.int .i64 r0), .v (.int .i64 r1)]) []) k n := gentry_word_Count @l_word_Add @l_word_alphabet @l_word_Mul fuel K k n

theorem runs_word_Count {R : Type} (K : AV → List O → Option R) : ∀ fuel : Nat,
    (fun k sum x23 x24 => (runO Try.prog (T_word_Count @l_word_Add @l_word_alphabet @l_word_Mul) cuts_word_Count 0 (finish Try.prog Try.f27 0 K) fuel) (at' Try.f27 7) ⟨fr0 45 [(0, .v (.int .i64 k)), (6, .v (.int .i64 sum)), (23, .v (.int .i64 x23)), (24, .v (.int .i64 x24))], []⟩) = (run_word_Count (fun r0 r1 => K (.tup [.v (.int .i64 r0), .v (.int .i64 r1)]) []) fuel)
  | 0 => rfl
  | fuel + 1 => by
    have ih := runs_word_Count K fuel
    funext k sum x23 x24
    refine (step_word_Count_7 _ K k sum x23 x24).trans ?_
    rw [ih]
    rfl

def S_word_Count (l_word_Count : {R : Type} → Int → Int → (Int → Int → Option R) → Option R) : Sum := ⟨[], fun {R} args ob K => match args, ob with
  | [.v (.int .i64 k), .v (.int .i64 n)], [] => l_word_Count k n (fun r0 r1 => K (.tup [.v (.int .i64 r0), .v (.int .i64 r1)]) [])
  | _, _ => none⟩

theorem sound_word_Count : Sound Try.prog 27 (S_word_Count @l_word_Count) := by
  refine fn_sound (cuts := cuts_word_Count) (fn := Try.f27) (Γ := (T_word_Count @l_word_Add @l_word_alphabet @l_word_Mul)) wide right_T_word_Count Try.func27 fun {R} K r args ob h => ?_
  unfold S_word_Count at h
  dsimp only at h
  split at h
  · obtain ⟨n, hn⟩ := ok_word_Count _ _ _ h
    refine ⟨Nat.le_of_ble_eq_true (by kernel_rfl), n, (entry_word_Count n K _ _).trans ?_⟩
    rw [(runs_word_Count K n)]
    exact hn
  · cases h

theorem call_word_Count : Callable Try.prog 27 := ⟨_, Try.func27, by kernel_rfl, by kernel_rfl⟩

def T_slices_Reverse_int_int : FuncId → Option Sum := G0

theorem right_T_slices_Reverse_int_int : Right Try.prog T_slices_Reverse_int_int := right_G0

abbrev cuts_slices_Reverse_int_int : Cuts := [(1, [0, 2, 3])]

theorem gstep_slices_Reverse_int_int_1 {R : Type} (g : List Item → St → Option R) (K : AV → List O → Option R) (i : Int) (j : Int) (o0 : List Int) :
    runSeg Try.prog T_slices_Reverse_int_int cuts_slices_Reverse_int_int 1 g (finish Try.prog Try.f48 1 K) (at' Try.f48 1) ⟨fr0 28 [(0, .own 0), (2, .v (.int .i64 i)), (3, .v (.int .i64 j))], [.row ⟨false, 3, (.int .i64), o0⟩]⟩ =
    (fun (g48_1 : Int → Int → (List Int) → Option R) (K0 : (List Int) → Option R) (i : Int) (j : Int) (o0 : List Int) =>
    bi (decide (i < j))
     (bi (decide (0 ≤ j ∧ j < ((o0.length : Nat) : Int)))
      (bi (decide (0 ≤ i ∧ i < ((o0.length : Nat) : Int)))
       (bi (decide (0 ≤ i ∧ i < ((o0.length : Nat) : Int)))
        (bi (decide (0 ≤ j ∧ j < (((o0.set i.toNat (o0.getD j.toNat 0)).length : Nat) : Int)))
         (g48_1 (IntKind.i64.wrap (i + 1)) (IntKind.i64.wrap (j - 1)) ((o0.set i.toNat (o0.getD j.toNat 0)).set j.toNat (o0.getD i.toNat 0)))
         none)
        none)
       none)
      none)
     (K0 o0)) (fun i j o0 => g (at' Try.f48 1) ⟨fr0 28 [(0, .own 0), (2, .v (.int .i64 i)), (3, .v (.int .i64 j))], [.row ⟨false, 3, (.int .i64), o0⟩]⟩) (fun r0 => K (.tup []) [.row ⟨false, 3, (.int .i64), r0⟩]) i j o0 := by kernel_rfl

theorem step_slices_Reverse_int_int_1 {R : Type} (g : List Item → St → Option R) (K : AV → List O → Option R) (i : Int) (j : Int) (o0 : List Int) :
    runSeg Try.prog T_slices_Reverse_int_int cuts_slices_Reverse_int_int 1 g (finish Try.prog Try.f48 1 K) (at' Try.f48 1) ⟨fr0 28 [(0, .own 0), (2, .v (.int .i64 i)), (3, .v (.int .i64 j))], [.row ⟨false, 3, (.int .i64), o0⟩]⟩ =
    s_slices_Reverse_int_int_1 (fun i j o0 => g (at' Try.f48 1) ⟨fr0 28 [(0, .own 0), (2, .v (.int .i64 i)), (3, .v (.int .i64 j))], [.row ⟨false, 3, (.int .i64), o0⟩]⟩) (fun r0 => K (.tup []) [.row ⟨false, 3, (.int .i64), r0⟩]) i j o0 := gstep_slices_Reverse_int_int_1 g K i j o0

theorem gentry_slices_Reverse_int_int {R : Type} (fuel : Nat) (K : AV → List O → Option R) (o0 : List Int) :
    fnRun Try.prog T_slices_Reverse_int_int cuts_slices_Reverse_int_int Try.f48 fuel [.own 0] [.row ⟨false, 3, (.int .i64), o0⟩] K =
    (fun (g48_1 : Int → Int → (List Int) → Option R) (K0 : (List Int) → Option R) (o0 : List Int) =>
    g48_1 0 (IntKind.i64.wrap ((o0.length : Int) - 1)) o0) (fun i j o0 => (runO Try.prog T_slices_Reverse_int_int cuts_slices_Reverse_int_int 1 (finish Try.prog Try.f48 1 K) fuel) (at' Try.f48 1) ⟨fr0 28 [(0, .own 0), (2, .v (.int .i64 i)), (3, .v (.int .i64 j))], [.row ⟨false, 3, (.int .i64), o0⟩]⟩) (fun r0 => K (.tup []) [.row ⟨false, 3, (.int .i64), r0⟩]) o0 := by kernel_rfl

theorem entry_slices_Reverse_int_int {R : Type} (fuel : Nat) (K : AV → List O → Option R) (o0 : List Int) :
    fnRun Try.prog T_slices_Reverse_int_int cuts_slices_Reverse_int_int Try.f48 fuel [.own 0] [.row ⟨false, 3, (.int .i64), o0⟩] K =
    e_slices_Reverse_int_int (fun i j o0 => (runO Try.prog T_slices_Reverse_int_int cuts_slices_Reverse_int_int 1 (finish Try.prog Try.f48 1 K) fuel) (at' Try.f48 1) ⟨fr0 28 [(0, .own 0), (2, .v (.int .i64 i)), (3, .v (.int .i64 j))], [.row ⟨false, 3, (.int .i64), o0⟩]⟩) (fun r0 => K (.tup []) [.row ⟨false, 3, (.int .i64), r0⟩]) o0 := gentry_slices_Reverse_int_int fuel K o0

theorem runs_slices_Reverse_int_int {R : Type} (K : AV → List O → Option R) : ∀ fuel : Nat,
    (fun i j o0 => (runO Try.prog T_slices_Reverse_int_int cuts_slices_Reverse_int_int 1 (finish Try.prog Try.f48 1 K) fuel) (at' Try.f48 1) ⟨fr0 28 [(0, .own 0), (2, .v (.int .i64 i)), (3, .v (.int .i64 j))], [.row ⟨false, 3, (.int .i64), o0⟩]⟩) = (run_slices_Reverse_int_int (fun r0 => K (.tup []) [.row ⟨false, 3, (.int .i64), r0⟩]) fuel)
  | 0 => rfl
  | fuel + 1 => by
    have ih := runs_slices_Reverse_int_int K fuel
    funext i j o0
    refine (step_slices_Reverse_int_int_1 _ K i j o0).trans ?_
    rw [ih]
    rfl

def S_slices_Reverse_int_int (l_slices_Reverse_int_int : {R : Type} → (List Int) → ((List Int) → Option R) → Option R) : Sum := ⟨[0], fun {R} args ob K => match args, ob with
  | [.own 0], [.row ⟨false, 3, (.int .i64), o0⟩] => l_slices_Reverse_int_int o0 (fun r0 => K (.tup []) [.row ⟨false, 3, (.int .i64), r0⟩])
  | _, _ => none⟩

theorem sound_slices_Reverse_int_int : Sound Try.prog 48 (S_slices_Reverse_int_int @l_slices_Reverse_int_int) := by
  refine fn_sound (cuts := cuts_slices_Reverse_int_int) (fn := Try.f48) (Γ := T_slices_Reverse_int_int) wide right_T_slices_Reverse_int_int Try.func48 fun {R} K r args ob h => ?_
  unfold S_slices_Reverse_int_int at h
  dsimp only at h
  split at h
  · obtain ⟨n, hn⟩ := ok_slices_Reverse_int_int _ _ h
    refine ⟨Nat.le_of_ble_eq_true (by kernel_rfl), n, (entry_slices_Reverse_int_int n K _).trans ?_⟩
    rw [(runs_slices_Reverse_int_int K n)]
    exact hn
  · cases h

theorem call_slices_Reverse_int_int : Callable Try.prog 48 := ⟨_, Try.func48, by kernel_rfl, by kernel_rfl⟩

def T_word_At (l_word_alphabet : {R : Type} → Int → (Bool → Option R) → Option R) (l_slices_Reverse_int_int : {R : Type} → (List Int) → ((List Int) → Option R) → Option R) : FuncId → Option Sum := (addS (addS G0 41 (S_word_alphabet @l_word_alphabet)) 48 (S_slices_Reverse_int_int @l_slices_Reverse_int_int))

theorem right_T_word_At : Right Try.prog (T_word_At @l_word_alphabet @l_slices_Reverse_int_int) := (right_add (right_add right_G0 call_word_alphabet sound_word_alphabet) call_slices_Reverse_int_int sound_slices_Reverse_int_int)

abbrev cuts_word_At : Cuts := [(10, [0, 1, 6])]

theorem gstep_word_At_10 (l_word_alphabet : {R : Type} → Int → (Bool → Option R) → Option R) (l_slices_Reverse_int_int : {R : Type} → (List Int) → ((List Int) → Option R) → Option R) {R : Type} (g : List Item → St → Option R) (K : AV → List O → Option R) (k : Int) (i : Int) (o0 : List Int) :
    runSeg Try.prog (T_word_At @l_word_alphabet @l_slices_Reverse_int_int) cuts_word_At 0 g (finish Try.prog Try.f29 0 K) (at' Try.f29 10) ⟨fr0 46 [(0, .v (.int .i64 k)), (1, .v (.int .i64 i)), (6, .own 0)], [.row ⟨true, 3, (.int .i64), o0⟩]⟩ =
    (fun (g29_10 : Int → Int → (List Int) → Option R) (K0 : Int → (List Int) → Option R) (k : Int) (i : Int) (o0 : List Int) =>
    bi (decide (i > 0))
     (bi (decide (k = 0))
      none
      (bi (decide ((o0.length + [(IntKind.i64.wrap (i - 1)).tmod k].length) * 8 ≤ lim))
       (bi (decide (k = 0))
        none
        (g29_10 k (IntKind.i64.wrap ((IntKind.i64.wrap (i - 1)).tdiv k)) (o0 ++ [(IntKind.i64.wrap (i - 1)).tmod k])))
       none))
     (l_slices_Reverse_int_int o0
      (fun r2 =>
       K0 0 r2))) (fun k i o0 => g (at' Try.f29 10) ⟨fr0 46 [(0, .v (.int .i64 k)), (1, .v (.int .i64 i)), (6, .own 0)], [.row ⟨true, 3, (.int .i64), o0⟩]⟩) (fun r0 r1 => K (.tup [.own 0, .v (.int .i64 r0)]) [.row ⟨true, 3, (.int .i64), r1⟩]) k i o0 := by kernel_rfl

theorem step_word_At_10 {R : Type} (g : List Item → St → Option R) (K : AV → List O → Option R) (k : Int) (i : Int) (o0 : List Int) :
    runSeg Try.prog (T_word_At @l_word_alphabet @l_slices_Reverse_int_int) cuts_word_At 0 g (finish Try.prog Try.f29 0 K) (at' Try.f29 10) ⟨fr0 46 [(0, .v (.int .i64 k)), (1, .v (.int .i64 i)), (6, .own 0)], [.row ⟨true, 3, (.int .i64), o0⟩]⟩ =
    s_word_At_10 (fun k i o0 => g (at' Try.f29 10) ⟨fr0 46 [(0, .v (.int .i64 k)), (1, .v (.int .i64 i)), (6, .own 0)], [.row ⟨true, 3, (.int .i64), o0⟩]⟩) (fun r0 r1 => K (.tup [.own 0, .v (.int .i64 r0)]) [.row ⟨true, 3, (.int .i64), r1⟩]) k i o0 := gstep_word_At_10 @l_word_alphabet @l_slices_Reverse_int_int g K k i o0

theorem gentry_word_At (l_word_alphabet : {R : Type} → Int → (Bool → Option R) → Option R) (l_slices_Reverse_int_int : {R : Type} → (List Int) → ((List Int) → Option R) → Option R) {R : Type} (fuel : Nat) (K : AV → List O → Option R) (k : Int) (i : Int) :
    fnRun Try.prog (T_word_At @l_word_alphabet @l_slices_Reverse_int_int) cuts_word_At Try.f29 fuel [.v (.int .i64 k), .v (.int .i64 i)] [] K =
    (fun (g29_10 : Int → Int → (List Int) → Option R) (K0 : Int → (List Int) → Option R) (k : Int) (i : Int) =>
    l_word_alphabet k
     (fun r1 =>
      bi (!r1)
       (K0 1 ([] : List Int))
       (bi (decide (i < 0))
        (K0 1 ([] : List Int))
        (bi (decide (i > 1099511627776))
         (K0 11 ([] : List Int))
         (bi (k == 1)
          (bi (decide (i > 4096))
           (K0 2 ([] : List Int))
           (bi (k == 1)
            (bi (decide (0 ≤ i ∧ i ≤ i ∧ i ≤ 1073741824))
             (K0 0 (List.replicate i.toNat (0 : Int)))
             none)
            (g29_10 k i ([] : List Int))))
          (bi (k == 1)
           (bi (decide (0 ≤ i ∧ i ≤ i ∧ i ≤ 1073741824))
            (K0 0 (List.replicate i.toNat (0 : Int)))
            none)
           (g29_10 k i ([] : List Int)))))))) (fun k i o0 => (runO Try.prog (T_word_At @l_word_alphabet @l_slices_Reverse_int_int) cuts_word_At 0 (finish Try.prog Try.f29 0 K) fuel) (at' Try.f29 10) ⟨fr0 46 [(0, .v (.int .i64 k)), (1, .v (.int .i64 i)), (6, .own 0)], [.row ⟨true, 3, (.int .i64), o0⟩]⟩) (fun r0 r1 => K (.tup [.own 0, .v (.int .i64 r0)]) [.row ⟨true, 3, (.int .i64), r1⟩]) k i := by kernel_rfl

theorem entry_word_At {R : Type} (fuel : Nat) (K : AV → List O → Option R) (k : Int) (i : Int) :
    fnRun Try.prog (T_word_At @l_word_alphabet @l_slices_Reverse_int_int) cuts_word_At Try.f29 fuel [.v (.int .i64 k), .v (.int .i64 i)] [] K =
    e_word_At (fun k i o0 => (runO Try.prog (T_word_At @l_word_alphabet @l_slices_Reverse_int_int) cuts_word_At 0 (finish Try.prog Try.f29 0 K) fuel) (at' Try.f29 10) ⟨fr0 46 [(0, .v (.int .i64 k)), (1, .v (.int .i64 i)), (6, .own 0)], [.row ⟨true, 3, (.int .i64), o0⟩]⟩) (fun r0 r1 => K (.tup [.own 0, .v (.int .i64 r0)]) [.row ⟨true, 3, (.int .i64), r1⟩]) k i := gentry_word_At @l_word_alphabet @l_slices_Reverse_int_int fuel K k i

theorem runs_word_At {R : Type} (K : AV → List O → Option R) : ∀ fuel : Nat,
    (fun k i o0 => (runO Try.prog (T_word_At @l_word_alphabet @l_slices_Reverse_int_int) cuts_word_At 0 (finish Try.prog Try.f29 0 K) fuel) (at' Try.f29 10) ⟨fr0 46 [(0, .v (.int .i64 k)), (1, .v (.int .i64 i)), (6, .own 0)], [.row ⟨true, 3, (.int .i64), o0⟩]⟩) = (run_word_At (fun r0 r1 => K (.tup [.own 0, .v (.int .i64 r0)]) [.row ⟨true, 3, (.int .i64), r1⟩]) fuel)
  | 0 => rfl
  | fuel + 1 => by
    have ih := runs_word_At K fuel
    funext k i o0
    refine (step_word_At_10 _ K k i o0).trans ?_
    rw [ih]
    rfl

def S_word_At (l_word_At : {R : Type} → Int → Int → (Int → (List Int) → Option R) → Option R) : Sum := ⟨[], fun {R} args ob K => match args, ob with
  | [.v (.int .i64 k), .v (.int .i64 i)], [] => l_word_At k i (fun r0 r1 => K (.tup [.own 0, .v (.int .i64 r0)]) [.row ⟨true, 3, (.int .i64), r1⟩])
  | _, _ => none⟩

theorem sound_word_At : Sound Try.prog 29 (S_word_At @l_word_At) := by
  refine fn_sound (cuts := cuts_word_At) (fn := Try.f29) (Γ := (T_word_At @l_word_alphabet @l_slices_Reverse_int_int)) wide right_T_word_At Try.func29 fun {R} K r args ob h => ?_
  unfold S_word_At at h
  dsimp only at h
  split at h
  · obtain ⟨n, hn⟩ := ok_word_At _ _ _ h
    refine ⟨Nat.le_of_ble_eq_true (by kernel_rfl), n, (entry_word_At n K _ _).trans ?_⟩
    rw [(runs_word_At K n)]
    exact hn
  · cases h

theorem call_word_At : Callable Try.prog 29 := ⟨_, Try.func29, by kernel_rfl, by kernel_rfl⟩

def T_word_Rank (l_word_Check : {R : Type} → (List Int) → Int → (Int → Int → Option R) → Option R) (l_word_Add : {R : Type} → Int → Int → (Int → Int → Option R) → Option R) (l_word_Mul : {R : Type} → Int → Int → (Int → Int → Option R) → Option R) : FuncId → Option Sum := (addS (addS (addS G0 13 (S_word_Check @l_word_Check)) 23 (S_word_Add @l_word_Add)) 25 (S_word_Mul @l_word_Mul))

theorem right_T_word_Rank : Right Try.prog (T_word_Rank @l_word_Check @l_word_Add @l_word_Mul) := (right_add (right_add (right_add right_G0 call_word_Check sound_word_Check) call_word_Add sound_word_Add) call_word_Mul sound_word_Mul)

abbrev cuts_word_Rank : Cuts := [(6, [1, 8, 22, 23, 24])]

theorem gstep_word_Rank_6 (l_word_Check : {R : Type} → (List Int) → Int → (Int → Int → Option R) → Option R) (l_word_Add : {R : Type} → Int → Int → (Int → Int → Option R) → Option R) (l_word_Mul : {R : Type} → Int → Int → (Int → Int → Option R) → Option R) {R : Type} (g : List Item → St → Option R) (K : AV → List O → Option R) (k : Int) (n : Int) (x22 : List Int) (x23 : Int) (x24 : Int) :
    runSeg Try.prog (T_word_Rank @l_word_Check @l_word_Add @l_word_Mul) cuts_word_Rank 0 g (finish Try.prog Try.f31 0 K) (at' Try.f31 6) ⟨fr0 48 [(1, .v (.int .i64 k)), (8, .v (.int .i64 n)), (22, .rd ⟨false, 3, (.int .i64), x22⟩), (23, .v (.int .i64 x23)), (24, .v (.int .i64 x24))], []⟩ =
    (fun (g31_6 : Int → Int → (List Int) → Int → Int → Option R) (K0 : Int → Int → Option R) (k : Int) (n : Int) (x22 : List Int) (x23 : Int) (x24 : Int) =>
    bi (decide (x24 < x23))
     (bi (decide (0 ≤ x24 ∧ x24 < ((x22.length : Nat) : Int)))
      (l_word_Mul n k
       (fun r3 r4 =>
        bi (r4 == 0)
         (l_word_Add r3 (IntKind.i64.wrap ((x22.getD x24.toNat 0) + 1))
          (fun r5 r6 =>
           bi (r6 != 0)
            (K0 0 11)
            (g31_6 k r5 x22 x23 (IntKind.i64.wrap (x24 + 1)))))
         (bi (r4 != 0)
          (K0 0 11)
          (g31_6 k r3 x22 x23 (IntKind.i64.wrap (x24 + 1))))))
      none)
     (K0 n 0)) (fun k n x22 x23 x24 => g (at' Try.f31 6) ⟨fr0 48 [(1, .v (.int .i64 k)), (8, .v (.int .i64 n)), (22, .rd ⟨false, 3, (.int .i64), x22⟩), (23, .v (.int .i64 x23)), (24, .v (.int .i64 x24))], []⟩) (fun r0 r1 => K (.tup [.v (.int .i64 r0), .v (.int .i64 r1)]) []) k n x22 x23 x24 := by kernel_rfl

theorem step_word_Rank_6 {R : Type} (g : List Item → St → Option R) (K : AV → List O → Option R) (k : Int) (n : Int) (x22 : List Int) (x23 : Int) (x24 : Int) :
    runSeg Try.prog (T_word_Rank @l_word_Check @l_word_Add @l_word_Mul) cuts_word_Rank 0 g (finish Try.prog Try.f31 0 K) (at' Try.f31 6) ⟨fr0 48 [(1, .v (.int .i64 k)), (8, .v (.int .i64 n)), (22, .rd ⟨false, 3, (.int .i64), x22⟩), (23, .v (.int .i64 x23)), (24, .v (.int .i64 x24))], []⟩ =
    s_word_Rank_6 (fun k n x22 x23 x24 => g (at' Try.f31 6) ⟨fr0 48 [(1, .v (.int .i64 k)), (8, .v (.int .i64 n)), (22, .rd ⟨false, 3, (.int .i64), x22⟩), (23, .v (.int .i64 x23)), (24, .v (.int .i64 x24))], []⟩) (fun r0 r1 => K (.tup [.v (.int .i64 r0), .v (.int .i64 r1)]) []) k n x22 x23 x24 := gstep_word_Rank_6 @l_word_Check @l_word_Add @l_word_Mul g K k n x22 x23 x24

theorem gentry_word_Rank (l_word_Check : {R : Type} → (List Int) → Int → (Int → Int → Option R) → Option R) (l_word_Add : {R : Type} → Int → Int → (Int → Int → Option R) → Option R) (l_word_Mul : {R : Type} → Int → Int → (Int → Int → Option R) → Option R) {R : Type} (fuel : Nat) (K : AV → List O → Option R) (w : List Int) (k : Int) :
    fnRun Try.prog (T_word_Rank @l_word_Check @l_word_Add @l_word_Mul) cuts_word_Rank Try.f31 fuel [.rd ⟨false, 3, (.int .i64), w⟩, .v (.int .i64 k)] [] K =
    (fun (g31_6 : Int → Int → (List Int) → Int → Int → Option R) (K0 : Int → Int → Option R) (w : List Int) (k : Int) =>
    l_word_Check w k
     (fun r1 r2 =>
      bi (r2 != 0)
       (K0 0 r2)
       (g31_6 k 0 w (w.length : Int) 0))) (fun k n x22 x23 x24 => (runO Try.prog (T_word_Rank @l_word_Check @l_word_Add @l_word_Mul) cuts_word_Rank 0 (finish Try.prog Try.f31 0 K) fuel) (at' Try.f31 6) ⟨fr0 48 [(1, .v (.int .i64 k)), (8, .v (.int .i64 n)), (22, .rd ⟨false, 3, (.int .i64), x22⟩), (23, .v (.int .i64 x23)), (24, .v (.int .i64 x24))], []⟩) (fun r0 r1 => K (.tup [.v (.int .i64 r0), .v (.int .i64 r1)]) []) w k := by kernel_rfl

theorem entry_word_Rank {R : Type} (fuel : Nat) (K : AV → List O → Option R) (w : List Int) (k : Int) :
    fnRun Try.prog (T_word_Rank @l_word_Check @l_word_Add @l_word_Mul) cuts_word_Rank Try.f31 fuel [.rd ⟨false, 3, (.int .i64), w⟩, .v (.int .i64 k)] [] K =
    e_word_Rank (fun k n x22 x23 x24 => (runO Try.prog (T_word_Rank @l_word_Check @l_word_Add @l_word_Mul) cuts_word_Rank 0 (finish Try.prog Try.f31 0 K) fuel) (at' Try.f31 6) ⟨fr0 48 [(1, .v (.int .i64 k)), (8, .v (.int .i64 n)), (22, .rd ⟨false, 3, (.int .i64), x22⟩), (23, .v (.int .i64 x23)), (24, .v (.int .i64 x24))], []⟩) (fun r0 r1 => K (.tup [.v (.int .i64 r0), .v (.int .i64 r1)]) []) w k := gentry_word_Rank @l_word_Check @l_word_Add @l_word_Mul fuel K w k

theorem runs_word_Rank {R : Type} (K : AV → List O → Option R) : ∀ fuel : Nat,
    (fun k n x22 x23 x24 => (runO Try.prog (T_word_Rank @l_word_Check @l_word_Add @l_word_Mul) cuts_word_Rank 0 (finish Try.prog Try.f31 0 K) fuel) (at' Try.f31 6) ⟨fr0 48 [(1, .v (.int .i64 k)), (8, .v (.int .i64 n)), (22, .rd ⟨false, 3, (.int .i64), x22⟩), (23, .v (.int .i64 x23)), (24, .v (.int .i64 x24))], []⟩) = (run_word_Rank (fun r0 r1 => K (.tup [.v (.int .i64 r0), .v (.int .i64 r1)]) []) fuel)
  | 0 => rfl
  | fuel + 1 => by
    have ih := runs_word_Rank K fuel
    funext k n x22 x23 x24
    refine (step_word_Rank_6 _ K k n x22 x23 x24).trans ?_
    rw [ih]
    rfl

def S_word_Rank (l_word_Rank : {R : Type} → (List Int) → Int → (Int → Int → Option R) → Option R) : Sum := ⟨[], fun {R} args ob K => match args, ob with
  | [.rd ⟨false, 3, (.int .i64), w⟩, .v (.int .i64 k)], [] => l_word_Rank w k (fun r0 r1 => K (.tup [.v (.int .i64 r0), .v (.int .i64 r1)]) [])
  | _, _ => none⟩

theorem sound_word_Rank : Sound Try.prog 31 (S_word_Rank @l_word_Rank) := by
  refine fn_sound (cuts := cuts_word_Rank) (fn := Try.f31) (Γ := (T_word_Rank @l_word_Check @l_word_Add @l_word_Mul)) wide right_T_word_Rank Try.func31 fun {R} K r args ob h => ?_
  unfold S_word_Rank at h
  dsimp only at h
  split at h
  · obtain ⟨n, hn⟩ := ok_word_Rank _ _ _ h
    refine ⟨Nat.le_of_ble_eq_true (by kernel_rfl), n, (entry_word_Rank n K _ _).trans ?_⟩
    rw [(runs_word_Rank K n)]
    exact hn
  · cases h

theorem call_word_Rank : Callable Try.prog 31 := ⟨_, Try.func31, by kernel_rfl, by kernel_rfl⟩

def T_cmp_isNaN_int : FuncId → Option Sum := G0

theorem right_T_cmp_isNaN_int : Right Try.prog T_cmp_isNaN_int := right_G0

abbrev cuts_cmp_isNaN_int : Cuts := []

theorem gentry_cmp_isNaN_int {R : Type} (K : AV → List O → Option R) (x : Int) :
    fnRun Try.prog T_cmp_isNaN_int cuts_cmp_isNaN_int Try.f50 0 [.v (.int .i64 x)] [] K =
    (fun (x : Int) (K0 : Bool → Option R) =>
    K0 (x != x)) x (fun r0 => K (.v (.bool r0)) []) := by kernel_rfl

theorem entry_cmp_isNaN_int {R : Type} (K : AV → List O → Option R) (x : Int) :
    fnRun Try.prog T_cmp_isNaN_int cuts_cmp_isNaN_int Try.f50 0 [.v (.int .i64 x)] [] K =
    l_cmp_isNaN_int x (fun r0 => K (.v (.bool r0)) []) := gentry_cmp_isNaN_int K x

def S_cmp_isNaN_int (l_cmp_isNaN_int : {R : Type} → Int → (Bool → Option R) → Option R) : Sum := ⟨[], fun {R} args ob K => match args, ob with
  | [.v (.int .i64 x)], [] => l_cmp_isNaN_int x (fun r0 => K (.v (.bool r0)) [])
  | _, _ => none⟩

theorem sound_cmp_isNaN_int : Sound Try.prog 50 (S_cmp_isNaN_int @l_cmp_isNaN_int) := by
  refine fn_sound (cuts := cuts_cmp_isNaN_int) (fn := Try.f50) (Γ := T_cmp_isNaN_int) wide right_T_cmp_isNaN_int Try.func50 fun {R} K r args ob h => ?_
  unfold S_cmp_isNaN_int at h
  dsimp only at h
  split at h
  · exact ⟨Nat.le_of_ble_eq_true (by kernel_rfl), 0, (entry_cmp_isNaN_int K _).trans h⟩
  · cases h

theorem call_cmp_isNaN_int : Callable Try.prog 50 := ⟨_, Try.func50, by kernel_rfl, by kernel_rfl⟩

def T_cmp_Compare_int (l_cmp_isNaN_int : {R : Type} → Int → (Bool → Option R) → Option R) : FuncId → Option Sum := (addS G0 50 (S_cmp_isNaN_int @l_cmp_isNaN_int))

theorem right_T_cmp_Compare_int : Right Try.prog (T_cmp_Compare_int @l_cmp_isNaN_int) := (right_add right_G0 call_cmp_isNaN_int sound_cmp_isNaN_int)

abbrev cuts_cmp_Compare_int : Cuts := []

theorem gentry_cmp_Compare_int (l_cmp_isNaN_int : {R : Type} → Int → (Bool → Option R) → Option R) {R : Type} (K : AV → List O → Option R) (x : Int) (y : Int) :
    fnRun Try.prog (T_cmp_Compare_int @l_cmp_isNaN_int) cuts_cmp_Compare_int Try.f42 0 [.v (.int .i64 x), .v (.int .i64 y)] [] K =
    (fun (x : Int) (y : Int) (K0 : Int → Option R) =>
    l_cmp_isNaN_int x
     (fun r1 =>
      l_cmp_isNaN_int y
       (fun r2 =>
        bi r1
         (bi r2
          (K0 0)
          (K0 (-1)))
         (bi r2
          (K0 1)
          (bi (decide (x < y))
           (K0 (-1))
           (bi (decide (x > y))
            (K0 1)
            (K0 0))))))) x y (fun r0 => K (.v (.int .i64 r0)) []) := by kernel_rfl

theorem entry_cmp_Compare_int {R : Type} (K : AV → List O → Option R) (x : Int) (y : Int) :
    fnRun Try.prog (T_cmp_Compare_int @l_cmp_isNaN_int) cuts_cmp_Compare_int Try.f42 0 [.v (.int .i64 x), .v (.int .i64 y)] [] K =
    l_cmp_Compare_int x y (fun r0 => K (.v (.int .i64 r0)) []) := gentry_cmp_Compare_int @l_cmp_isNaN_int K x y

def S_cmp_Compare_int (l_cmp_Compare_int : {R : Type} → Int → Int → (Int → Option R) → Option R) : Sum := ⟨[], fun {R} args ob K => match args, ob with
  | [.v (.int .i64 x), .v (.int .i64 y)], [] => l_cmp_Compare_int x y (fun r0 => K (.v (.int .i64 r0)) [])
  | _, _ => none⟩

theorem sound_cmp_Compare_int : Sound Try.prog 42 (S_cmp_Compare_int @l_cmp_Compare_int) := by
  refine fn_sound (cuts := cuts_cmp_Compare_int) (fn := Try.f42) (Γ := (T_cmp_Compare_int @l_cmp_isNaN_int)) wide right_T_cmp_Compare_int Try.func42 fun {R} K r args ob h => ?_
  unfold S_cmp_Compare_int at h
  dsimp only at h
  split at h
  · exact ⟨Nat.le_of_ble_eq_true (by kernel_rfl), 0, (entry_cmp_Compare_int K _ _).trans h⟩
  · cases h

theorem call_cmp_Compare_int : Callable Try.prog 42 := ⟨_, Try.func42, by kernel_rfl, by kernel_rfl⟩

def T_slices_Compare_int_int (l_cmp_Compare_int : {R : Type} → Int → Int → (Int → Option R) → Option R) : FuncId → Option Sum := (addS G0 42 (S_cmp_Compare_int @l_cmp_Compare_int))

theorem right_T_slices_Compare_int_int : Right Try.prog (T_slices_Compare_int_int @l_cmp_Compare_int) := (right_add right_G0 call_cmp_Compare_int sound_cmp_Compare_int)

abbrev cuts_slices_Compare_int_int : Cuts := [(2, [0, 1, 9, 10, 11])]

theorem gstep_slices_Compare_int_int_2 (l_cmp_Compare_int : {R : Type} → Int → Int → (Int → Option R) → Option R) {R : Type} (g : List Item → St → Option R) (K : AV → List O → Option R) (s1 : List Int) (s2 : List Int) (x9 : List Int) (x10 : Int) (x11 : Int) :
    runSeg Try.prog (T_slices_Compare_int_int @l_cmp_Compare_int) cuts_slices_Compare_int_int 0 g (finish Try.prog Try.f43 0 K) (at' Try.f43 2) ⟨fr0 36 [(0, .rd ⟨false, 3, (.int .i64), s1⟩), (1, .rd ⟨false, 3, (.int .i64), s2⟩), (9, .rd ⟨false, 3, (.int .i64), x9⟩), (10, .v (.int .i64 x10)), (11, .v (.int .i64 x11))], []⟩ =
    (fun (g43_2 : (List Int) → (List Int) → (List Int) → Int → Int → Option R) (K0 : Int → Option R) (s1 : List Int) (s2 : List Int) (x9 : List Int) (x10 : Int) (x11 : Int) =>
    bi (decide (x11 < x10))
     (bi (decide (0 ≤ x11 ∧ x11 < ((x9.length : Nat) : Int)))
      (bi (decide (x11 ≥ (s2.length : Int)))
       (K0 1)
       (bi (decide (0 ≤ x11 ∧ x11 < ((s2.length : Nat) : Int)))
        (l_cmp_Compare_int (x9.getD x11.toNat 0) (s2.getD x11.toNat 0)
         (fun r1 =>
          bi (r1 != 0)
           (K0 r1)
           (g43_2 s1 s2 x9 x10 (IntKind.i64.wrap (x11 + 1)))))
        none))
      none)
     (bi (decide ((s1.length : Int) < (s2.length : Int)))
      (K0 (-1))
      (K0 0))) (fun s1 s2 x9 x10 x11 => g (at' Try.f43 2) ⟨fr0 36 [(0, .rd ⟨false, 3, (.int .i64), s1⟩), (1, .rd ⟨false, 3, (.int .i64), s2⟩), (9, .rd ⟨false, 3, (.int .i64), x9⟩), (10, .v (.int .i64 x10)), (11, .v (.int .i64 x11))], []⟩) (fun r0 => K (.v (.int .i64 r0)) []) s1 s2 x9 x10 x11 := by kernel_rfl

theorem step_slices_Compare_int_int_2 {R : Type} (g : List Item → St → Option R) (K : AV → List O → Option R) (s1 : List Int) (s2 : List Int) (x9 : List Int) (x10 : Int) (x11 : Int) :
    runSeg Try.prog (T_slices_Compare_int_int @l_cmp_Compare_int) cuts_slices_Compare_int_int 0 g (finish Try.prog Try.f43 0 K) (at' Try.f43 2) ⟨fr0 36 [(0, .rd ⟨false, 3, (.int .i64), s1⟩), (1, .rd ⟨false, 3, (.int .i64), s2⟩), (9, .rd ⟨false, 3, (.int .i64), x9⟩), (10, .v (.int .i64 x10)), (11, .v (.int .i64 x11))], []⟩ =
    s_slices_Compare_int_int_2 (fun s1 s2 x9 x10 x11 => g (at' Try.f43 2) ⟨fr0 36 [(0, .rd ⟨false, 3, (.int .i64), s1⟩), (1, .rd ⟨false, 3, (.int .i64), s2⟩), (9, .rd ⟨false, 3, (.int .i64), x9⟩), (10, .v (.int .i64 x10)), (11, .v (.int .i64 x11))], []⟩) (fun r0 => K (.v (.int .i64 r0)) []) s1 s2 x9 x10 x11 := gstep_slices_Compare_int_int_2 @l_cmp_Compare_int g K s1 s2 x9 x10 x11

theorem gentry_slices_Compare_int_int (l_cmp_Compare_int : {R : Type} → Int → Int → (Int → Option R) → Option R) {R : Type} (fuel : Nat) (K : AV → List O → Option R) (s1 : List Int) (s2 : List Int) :
    fnRun Try.prog (T_slices_Compare_int_int @l_cmp_Compare_int) cuts_slices_Compare_int_int Try.f43 fuel [.rd ⟨false, 3, (.int .i64), s1⟩, .rd ⟨false, 3, (.int .i64), s2⟩] [] K =
    (fun (g43_2 : (List Int) → (List Int) → (List Int) → Int → Int → Option R) (K0 : Int → Option R) (s1 : List Int) (s2 : List Int) =>
    g43_2 s1 s2 s1 (s1.length : Int) 0) (fun s1 s2 x9 x10 x11 => (runO Try.prog (T_slices_Compare_int_int @l_cmp_Compare_int) cuts_slices_Compare_int_int 0 (finish Try.prog Try.f43 0 K) fuel) (at' Try.f43 2) ⟨fr0 36 [(0, .rd ⟨false, 3, (.int .i64), s1⟩), (1, .rd ⟨false, 3, (.int .i64), s2⟩), (9, .rd ⟨false, 3, (.int .i64), x9⟩), (10, .v (.int .i64 x10)), (11, .v (.int .i64 x11))], []⟩) (fun r0 => K (.v (.int .i64 r0)) []) s1 s2 := by kernel_rfl

theorem entry_slices_Compare_int_int {R : Type} (fuel : Nat) (K : AV → List O → Option R) (s1 : List Int) (s2 : List Int) :
    fnRun Try.prog (T_slices_Compare_int_int @l_cmp_Compare_int) cuts_slices_Compare_int_int Try.f43 fuel [.rd ⟨false, 3, (.int .i64), s1⟩, .rd ⟨false, 3, (.int .i64), s2⟩] [] K =
    e_slices_Compare_int_int (fun s1 s2 x9 x10 x11 => (runO Try.prog (T_slices_Compare_int_int @l_cmp_Compare_int) cuts_slices_Compare_int_int 0 (finish Try.prog Try.f43 0 K) fuel) (at' Try.f43 2) ⟨fr0 36 [(0, .rd ⟨false, 3, (.int .i64), s1⟩), (1, .rd ⟨false, 3, (.int .i64), s2⟩), (9, .rd ⟨false, 3, (.int .i64), x9⟩), (10, .v (.int .i64 x10)), (11, .v (.int .i64 x11))], []⟩) (fun r0 => K (.v (.int .i64 r0)) []) s1 s2 := gentry_slices_Compare_int_int @l_cmp_Compare_int fuel K s1 s2

theorem runs_slices_Compare_int_int {R : Type} (K : AV → List O → Option R) : ∀ fuel : Nat,
    (fun s1 s2 x9 x10 x11 => (runO Try.prog (T_slices_Compare_int_int @l_cmp_Compare_int) cuts_slices_Compare_int_int 0 (finish Try.prog Try.f43 0 K) fuel) (at' Try.f43 2) ⟨fr0 36 [(0, .rd ⟨false, 3, (.int .i64), s1⟩), (1, .rd ⟨false, 3, (.int .i64), s2⟩), (9, .rd ⟨false, 3, (.int .i64), x9⟩), (10, .v (.int .i64 x10)), (11, .v (.int .i64 x11))], []⟩) = (run_slices_Compare_int_int (fun r0 => K (.v (.int .i64 r0)) []) fuel)
  | 0 => rfl
  | fuel + 1 => by
    have ih := runs_slices_Compare_int_int K fuel
    funext s1 s2 x9 x10 x11
    refine (step_slices_Compare_int_int_2 _ K s1 s2 x9 x10 x11).trans ?_
    rw [ih]
    rfl

def S_slices_Compare_int_int (l_slices_Compare_int_int : {R : Type} → (List Int) → (List Int) → (Int → Option R) → Option R) : Sum := ⟨[], fun {R} args ob K => match args, ob with
  | [.rd ⟨false, 3, (.int .i64), s1⟩, .rd ⟨false, 3, (.int .i64), s2⟩], [] => l_slices_Compare_int_int s1 s2 (fun r0 => K (.v (.int .i64 r0)) [])
  | _, _ => none⟩

theorem sound_slices_Compare_int_int : Sound Try.prog 43 (S_slices_Compare_int_int @l_slices_Compare_int_int) := by
  refine fn_sound (cuts := cuts_slices_Compare_int_int) (fn := Try.f43) (Γ := (T_slices_Compare_int_int @l_cmp_Compare_int)) wide right_T_slices_Compare_int_int Try.func43 fun {R} K r args ob h => ?_
  unfold S_slices_Compare_int_int at h
  dsimp only at h
  split at h
  · obtain ⟨n, hn⟩ := ok_slices_Compare_int_int _ _ _ h
    refine ⟨Nat.le_of_ble_eq_true (by kernel_rfl), n, (entry_slices_Compare_int_int n K _ _).trans ?_⟩
    rw [(runs_slices_Compare_int_int K n)]
    exact hn
  · cases h

theorem call_slices_Compare_int_int : Callable Try.prog 43 := ⟨_, Try.func43, by kernel_rfl, by kernel_rfl⟩

def T_word_Compare (l_slices_Compare_int_int : {R : Type} → (List Int) → (List Int) → (Int → Option R) → Option R) (l_cmp_Compare_int : {R : Type} → Int → Int → (Int → Option R) → Option R) : FuncId → Option Sum := (addS (addS G0 43 (S_slices_Compare_int_int @l_slices_Compare_int_int)) 42 (S_cmp_Compare_int @l_cmp_Compare_int))

theorem right_T_word_Compare : Right Try.prog (T_word_Compare @l_slices_Compare_int_int @l_cmp_Compare_int) := (right_add (right_add right_G0 call_slices_Compare_int_int sound_slices_Compare_int_int) call_cmp_Compare_int sound_cmp_Compare_int)

abbrev cuts_word_Compare : Cuts := []

theorem gentry_word_Compare (l_slices_Compare_int_int : {R : Type} → (List Int) → (List Int) → (Int → Option R) → Option R) (l_cmp_Compare_int : {R : Type} → Int → Int → (Int → Option R) → Option R) {R : Type} (K : AV → List O → Option R) (a : List Int) (b : List Int) :
    fnRun Try.prog (T_word_Compare @l_slices_Compare_int_int @l_cmp_Compare_int) cuts_word_Compare Try.f18 0 [.rd ⟨false, 3, (.int .i64), a⟩, .rd ⟨false, 3, (.int .i64), b⟩] [] K =
    (fun (a : List Int) (b : List Int) (K0 : Int → Option R) =>
    l_cmp_Compare_int (a.length : Int) (b.length : Int)
     (fun r1 =>
      bi (r1 != 0)
       (K0 r1)
       (l_slices_Compare_int_int a b
        (fun r2 =>
         K0 r2)))) a b (fun r0 => K (.v (.int .i64 r0)) []) := by kernel_rfl

theorem entry_word_Compare {R : Type} (K : AV → List O → Option R) (a : List Int) (b : List Int) :
    fnRun Try.prog (T_word_Compare @l_slices_Compare_int_int @l_cmp_Compare_int) cuts_word_Compare Try.f18 0 [.rd ⟨false, 3, (.int .i64), a⟩, .rd ⟨false, 3, (.int .i64), b⟩] [] K =
    l_word_Compare a b (fun r0 => K (.v (.int .i64 r0)) []) := gentry_word_Compare @l_slices_Compare_int_int @l_cmp_Compare_int K a b

def S_word_Compare (l_word_Compare : {R : Type} → (List Int) → (List Int) → (Int → Option R) → Option R) : Sum := ⟨[], fun {R} args ob K => match args, ob with
  | [.rd ⟨false, 3, (.int .i64), a⟩, .rd ⟨false, 3, (.int .i64), b⟩], [] => l_word_Compare a b (fun r0 => K (.v (.int .i64 r0)) [])
  | _, _ => none⟩

theorem sound_word_Compare : Sound Try.prog 18 (S_word_Compare @l_word_Compare) := by
  refine fn_sound (cuts := cuts_word_Compare) (fn := Try.f18) (Γ := (T_word_Compare @l_slices_Compare_int_int @l_cmp_Compare_int)) wide right_T_word_Compare Try.func18 fun {R} K r args ob h => ?_
  unfold S_word_Compare at h
  dsimp only at h
  split at h
  · exact ⟨Nat.le_of_ble_eq_true (by kernel_rfl), 0, (entry_word_Compare K _ _).trans h⟩
  · cases h

theorem call_word_Compare : Callable Try.prog 18 := ⟨_, Try.func18, by kernel_rfl, by kernel_rfl⟩

def T_tutorref01_Same : FuncId → Option Sum := G0

theorem right_T_tutorref01_Same : Right Try.prog T_tutorref01_Same := right_G0

abbrev cuts_tutorref01_Same : Cuts := [(4, [0, 1, 5])]

theorem gstep_tutorref01_Same_4 {R : Type} (g : List Item → St → Option R) (K : AV → List O → Option R) (a : List Int) (b : List Int) (i : Int) :
    runSeg Try.prog T_tutorref01_Same cuts_tutorref01_Same 0 g (finish Try.prog Try.f22 0 K) (at' Try.f22 4) ⟨fr0 26 [(0, .rd ⟨false, 3, (.int .i64), a⟩), (1, .rd ⟨false, 3, (.int .i64), b⟩), (5, .v (.int .i64 i))], []⟩ =
    (fun (g22_4 : (List Int) → (List Int) → Int → Option R) (K0 : Bool → Option R) (a : List Int) (b : List Int) (i : Int) =>
    bi (decide (i < (a.length : Int)))
     (bi (decide (0 ≤ i ∧ i < ((a.length : Nat) : Int)))
      (bi (decide (0 ≤ i ∧ i < ((b.length : Nat) : Int)))
       (bi ((a.getD i.toNat 0) != (b.getD i.toNat 0))
        (K0 false)
        (g22_4 a b (IntKind.i64.wrap (i + 1))))
       none)
      none)
     (K0 true)) (fun a b i => g (at' Try.f22 4) ⟨fr0 26 [(0, .rd ⟨false, 3, (.int .i64), a⟩), (1, .rd ⟨false, 3, (.int .i64), b⟩), (5, .v (.int .i64 i))], []⟩) (fun r0 => K (.v (.bool r0)) []) a b i := by kernel_rfl

theorem step_tutorref01_Same_4 {R : Type} (g : List Item → St → Option R) (K : AV → List O → Option R) (a : List Int) (b : List Int) (i : Int) :
    runSeg Try.prog T_tutorref01_Same cuts_tutorref01_Same 0 g (finish Try.prog Try.f22 0 K) (at' Try.f22 4) ⟨fr0 26 [(0, .rd ⟨false, 3, (.int .i64), a⟩), (1, .rd ⟨false, 3, (.int .i64), b⟩), (5, .v (.int .i64 i))], []⟩ =
    s_tutorref01_Same_4 (fun a b i => g (at' Try.f22 4) ⟨fr0 26 [(0, .rd ⟨false, 3, (.int .i64), a⟩), (1, .rd ⟨false, 3, (.int .i64), b⟩), (5, .v (.int .i64 i))], []⟩) (fun r0 => K (.v (.bool r0)) []) a b i := gstep_tutorref01_Same_4 g K a b i

theorem gentry_tutorref01_Same {R : Type} (fuel : Nat) (K : AV → List O → Option R) (a : List Int) (b : List Int) :
    fnRun Try.prog T_tutorref01_Same cuts_tutorref01_Same Try.f22 fuel [.rd ⟨false, 3, (.int .i64), a⟩, .rd ⟨false, 3, (.int .i64), b⟩] [] K =
    (fun (g22_4 : (List Int) → (List Int) → Int → Option R) (K0 : Bool → Option R) (a : List Int) (b : List Int) =>
    bi ((a.length : Int) != (b.length : Int))
     (K0 false)
     (g22_4 a b 0)) (fun a b i => (runO Try.prog T_tutorref01_Same cuts_tutorref01_Same 0 (finish Try.prog Try.f22 0 K) fuel) (at' Try.f22 4) ⟨fr0 26 [(0, .rd ⟨false, 3, (.int .i64), a⟩), (1, .rd ⟨false, 3, (.int .i64), b⟩), (5, .v (.int .i64 i))], []⟩) (fun r0 => K (.v (.bool r0)) []) a b := by kernel_rfl

theorem entry_tutorref01_Same {R : Type} (fuel : Nat) (K : AV → List O → Option R) (a : List Int) (b : List Int) :
    fnRun Try.prog T_tutorref01_Same cuts_tutorref01_Same Try.f22 fuel [.rd ⟨false, 3, (.int .i64), a⟩, .rd ⟨false, 3, (.int .i64), b⟩] [] K =
    e_tutorref01_Same (fun a b i => (runO Try.prog T_tutorref01_Same cuts_tutorref01_Same 0 (finish Try.prog Try.f22 0 K) fuel) (at' Try.f22 4) ⟨fr0 26 [(0, .rd ⟨false, 3, (.int .i64), a⟩), (1, .rd ⟨false, 3, (.int .i64), b⟩), (5, .v (.int .i64 i))], []⟩) (fun r0 => K (.v (.bool r0)) []) a b := gentry_tutorref01_Same fuel K a b

theorem runs_tutorref01_Same {R : Type} (K : AV → List O → Option R) : ∀ fuel : Nat,
    (fun a b i => (runO Try.prog T_tutorref01_Same cuts_tutorref01_Same 0 (finish Try.prog Try.f22 0 K) fuel) (at' Try.f22 4) ⟨fr0 26 [(0, .rd ⟨false, 3, (.int .i64), a⟩), (1, .rd ⟨false, 3, (.int .i64), b⟩), (5, .v (.int .i64 i))], []⟩) = (run_tutorref01_Same (fun r0 => K (.v (.bool r0)) []) fuel)
  | 0 => rfl
  | fuel + 1 => by
    have ih := runs_tutorref01_Same K fuel
    funext a b i
    refine (step_tutorref01_Same_4 _ K a b i).trans ?_
    rw [ih]
    rfl

def S_tutorref01_Same (l_tutorref01_Same : {R : Type} → (List Int) → (List Int) → (Bool → Option R) → Option R) : Sum := ⟨[], fun {R} args ob K => match args, ob with
  | [.rd ⟨false, 3, (.int .i64), a⟩, .rd ⟨false, 3, (.int .i64), b⟩], [] => l_tutorref01_Same a b (fun r0 => K (.v (.bool r0)) [])
  | _, _ => none⟩

theorem sound_tutorref01_Same : Sound Try.prog 22 (S_tutorref01_Same @l_tutorref01_Same) := by
  refine fn_sound (cuts := cuts_tutorref01_Same) (fn := Try.f22) (Γ := T_tutorref01_Same) wide right_T_tutorref01_Same Try.func22 fun {R} K r args ob h => ?_
  unfold S_tutorref01_Same at h
  dsimp only at h
  split at h
  · obtain ⟨n, hn⟩ := ok_tutorref01_Same _ _ _ h
    refine ⟨Nat.le_of_ble_eq_true (by kernel_rfl), n, (entry_tutorref01_Same n K _ _).trans ?_⟩
    rw [(runs_tutorref01_Same K n)]
    exact hn
  · cases h

theorem call_tutorref01_Same : Callable Try.prog 22 := ⟨_, Try.func22, by kernel_rfl, by kernel_rfl⟩

def T_tutorlaw01_num : FuncId → Option Sum := G0

theorem right_T_tutorlaw01_num : Right Try.prog T_tutorlaw01_num := right_G0

abbrev cuts_tutorlaw01_num : Cuts := []

theorem gentry_tutorlaw01_num {R : Type} (K : AV → List O → Option R) (e : Int) :
    fnRun Try.prog T_tutorlaw01_num cuts_tutorlaw01_num Try.f15 0 [.v (.int .i64 e)] [] K =
    (fun (e : Int) (K0 : Int → Option R) =>
    K0 e) e (fun r0 => K (.v (.int .i64 r0)) []) := by kernel_rfl

theorem entry_tutorlaw01_num {R : Type} (K : AV → List O → Option R) (e : Int) :
    fnRun Try.prog T_tutorlaw01_num cuts_tutorlaw01_num Try.f15 0 [.v (.int .i64 e)] [] K =
    l_tutorlaw01_num e (fun r0 => K (.v (.int .i64 r0)) []) := gentry_tutorlaw01_num K e

def S_tutorlaw01_num (l_tutorlaw01_num : {R : Type} → Int → (Int → Option R) → Option R) : Sum := ⟨[], fun {R} args ob K => match args, ob with
  | [.v (.int .i64 e)], [] => l_tutorlaw01_num e (fun r0 => K (.v (.int .i64 r0)) [])
  | _, _ => none⟩

theorem sound_tutorlaw01_num : Sound Try.prog 15 (S_tutorlaw01_num @l_tutorlaw01_num) := by
  refine fn_sound (cuts := cuts_tutorlaw01_num) (fn := Try.f15) (Γ := T_tutorlaw01_num) wide right_T_tutorlaw01_num Try.func15 fun {R} K r args ob h => ?_
  unfold S_tutorlaw01_num at h
  dsimp only at h
  split at h
  · exact ⟨Nat.le_of_ble_eq_true (by kernel_rfl), 0, (entry_tutorlaw01_num K _).trans h⟩
  · cases h

theorem call_tutorlaw01_num : Callable Try.prog 15 := ⟨_, Try.func15, by kernel_rfl, by kernel_rfl⟩

def T_tutorlaw01_live (l_tutorlaw01_num : {R : Type} → Int → (Int → Option R) → Option R) (l_tutorref01_Same : {R : Type} → (List Int) → (List Int) → (Bool → Option R) → Option R) (l_word_Compare : {R : Type} → (List Int) → (List Int) → (Int → Option R) → Option R) (l_word_Check : {R : Type} → (List Int) → Int → (Int → Int → Option R) → Option R) (l_word_Add : {R : Type} → Int → Int → (Int → Int → Option R) → Option R) (l_word_Rank : {R : Type} → (List Int) → Int → (Int → Int → Option R) → Option R) (l_word_At : {R : Type} → Int → Int → (Int → (List Int) → Option R) → Option R) (l_word_Count : {R : Type} → Int → Int → (Int → Int → Option R) → Option R) (l_word_Next : {R : Type} → (List Int) → Int → (Int → (List Int) → Option R) → Option R) : FuncId → Option Sum := (addS (addS (addS (addS (addS (addS (addS (addS (addS G0 15 (S_tutorlaw01_num @l_tutorlaw01_num)) 22 (S_tutorref01_Same @l_tutorref01_Same)) 18 (S_word_Compare @l_word_Compare)) 13 (S_word_Check @l_word_Check)) 23 (S_word_Add @l_word_Add)) 31 (S_word_Rank @l_word_Rank)) 29 (S_word_At @l_word_At)) 27 (S_word_Count @l_word_Count)) 20 (S_word_Next @l_word_Next))

theorem right_T_tutorlaw01_live : Right Try.prog (T_tutorlaw01_live @l_tutorlaw01_num @l_tutorref01_Same @l_word_Compare @l_word_Check @l_word_Add @l_word_Rank @l_word_At @l_word_Count @l_word_Next) := (right_add (right_add (right_add (right_add (right_add (right_add (right_add (right_add (right_add right_G0 call_tutorlaw01_num sound_tutorlaw01_num) call_tutorref01_Same sound_tutorref01_Same) call_word_Compare sound_word_Compare) call_word_Check sound_word_Check) call_word_Add sound_word_Add) call_word_Rank sound_word_Rank) call_word_At sound_word_At) call_word_Count sound_word_Count) call_word_Next sound_word_Next)

abbrev cuts_tutorlaw01_live : Cuts := []

theorem gentry_tutorlaw01_live (l_tutorlaw01_num : {R : Type} → Int → (Int → Option R) → Option R) (l_tutorref01_Same : {R : Type} → (List Int) → (List Int) → (Bool → Option R) → Option R) (l_word_Compare : {R : Type} → (List Int) → (List Int) → (Int → Option R) → Option R) (l_word_Check : {R : Type} → (List Int) → Int → (Int → Int → Option R) → Option R) (l_word_Add : {R : Type} → Int → Int → (Int → Int → Option R) → Option R) (l_word_Rank : {R : Type} → (List Int) → Int → (Int → Int → Option R) → Option R) (l_word_At : {R : Type} → Int → Int → (Int → (List Int) → Option R) → Option R) (l_word_Count : {R : Type} → Int → Int → (Int → Int → Option R) → Option R) (l_word_Next : {R : Type} → (List Int) → Int → (Int → (List Int) → Option R) → Option R) {R : Type} (K : AV → List O → Option R)  :
    fnRun Try.prog (T_tutorlaw01_live @l_tutorlaw01_num @l_tutorref01_Same @l_word_Compare @l_word_Check @l_word_Add @l_word_Rank @l_word_At @l_word_Count @l_word_Next) cuts_tutorlaw01_live Try.f17 0 [] [] K =
    (fun  (K0 : Bool → Option R) =>
    l_word_Next [1, 1] 2
     (fun r1 r2 =>
      l_word_Count 2 3
       (fun r3 r4 =>
        l_word_At 2 4
         (fun r5 r6 =>
          l_word_Rank [0, 1] 2
           (fun r7 r8 =>
            l_word_Add 1099511627776 1
             (fun r9 r10 =>
              l_word_Check [0, 2] 2
               (fun r11 r12 =>
                l_word_Compare [1] [0, 0]
                 (fun r13 =>
                  bi (r13 == (-1))
                   (l_tutorref01_Same r2 [0, 0, 0]
                    (fun r14 =>
                     bi r14
                      (bi (r3 == 15)
                       (l_tutorref01_Same r6 [0, 1]
                        (fun r15 =>
                         bi r15
                          (bi (r7 == 4)
                           (l_tutorlaw01_num r1
                            (fun r16 =>
                             l_tutorlaw01_num r4
                              (fun r17 =>
                               l_tutorlaw01_num r5
                                (fun r18 =>
                                 l_tutorlaw01_num r8
                                  (fun r19 =>
                                   bi ((IntKind.i64.wrap ((IntKind.i64.wrap ((IntKind.i64.wrap (r16 + r17)) + r18)) + r19)) == 0)
                                    (l_tutorlaw01_num r10
                                     (fun r20 =>
                                      bi (r20 == 11)
                                       (bi (r11 == 1)
                                        (l_tutorlaw01_num r12
                                         (fun r21 =>
                                          K0 (r21 == 10)))
                                        (K0 false))
                                       (K0 false)))
                                    (K0 false))))))
                           (K0 false))
                          (K0 false)))
                       (K0 false))
                      (K0 false)))
                   (K0 false)))))))))  (fun r0 => K (.v (.bool r0)) []) := by kernel_rfl

theorem entry_tutorlaw01_live {R : Type} (K : AV → List O → Option R)  :
    fnRun Try.prog (T_tutorlaw01_live @l_tutorlaw01_num @l_tutorref01_Same @l_word_Compare @l_word_Check @l_word_Add @l_word_Rank @l_word_At @l_word_Count @l_word_Next) cuts_tutorlaw01_live Try.f17 0 [] [] K =
    l_tutorlaw01_live  (fun r0 => K (.v (.bool r0)) []) := gentry_tutorlaw01_live @l_tutorlaw01_num @l_tutorref01_Same @l_word_Compare @l_word_Check @l_word_Add @l_word_Rank @l_word_At @l_word_Count @l_word_Next K 

def S_tutorlaw01_live (l_tutorlaw01_live : {R : Type} → (Bool → Option R) → Option R) : Sum := ⟨[], fun {R} args ob K => match args, ob with
  | [], [] => l_tutorlaw01_live  (fun r0 => K (.v (.bool r0)) [])
  | _, _ => none⟩

theorem sound_tutorlaw01_live : Sound Try.prog 17 (S_tutorlaw01_live @l_tutorlaw01_live) := by
  refine fn_sound (cuts := cuts_tutorlaw01_live) (fn := Try.f17) (Γ := (T_tutorlaw01_live @l_tutorlaw01_num @l_tutorref01_Same @l_word_Compare @l_word_Check @l_word_Add @l_word_Rank @l_word_At @l_word_Count @l_word_Next)) wide right_T_tutorlaw01_live Try.func17 fun {R} K r args ob h => ?_
  unfold S_tutorlaw01_live at h
  dsimp only at h
  split at h
  · exact ⟨Nat.le_of_ble_eq_true (by kernel_rfl), 0, (entry_tutorlaw01_live K).trans h⟩
  · cases h

theorem call_tutorlaw01_live : Callable Try.prog 17 := ⟨_, Try.func17, by kernel_rfl, by kernel_rfl⟩

def T_tutorref01_Lent : FuncId → Option Sum := G0

theorem right_T_tutorref01_Lent : Right Try.prog T_tutorref01_Lent := right_G0

abbrev cuts_tutorref01_Lent : Cuts := []

theorem gentry_tutorref01_Lent {R : Type} (K : AV → List O → Option R) (a : List Int) :
    fnRun Try.prog T_tutorref01_Lent cuts_tutorref01_Lent Try.f12 0 [.rd ⟨false, 3, (.int .i64), a⟩] [] K =
    (fun (a : List Int) (K0 : Nat → (List Int) → Option R) =>
    bi (decide ((([] : List Int).length + a.length) * 8 ≤ lim))
     (bi (decide (((([] : List Int) ++ a).length + [(-771), (-772)].length) * 8 ≤ lim))
      (bi (decide (0 ≤ (a.length : Int) ∧ (a.length : Int) ≤ ((((([] : List Int) ++ a) ++ [(-771), (-772)]).length : Nat) : Int)))
       (K0 ((a.length : Int).toNat) ((([] : List Int) ++ a) ++ [(-771), (-772)]))
       none)
      none)
     none) a (fun r0 r1 => K (.view 0 1 0 r0) [.row ⟨true, 3, (.int .i64), r1⟩]) := by kernel_rfl

theorem entry_tutorref01_Lent {R : Type} (K : AV → List O → Option R) (a : List Int) :
    fnRun Try.prog T_tutorref01_Lent cuts_tutorref01_Lent Try.f12 0 [.rd ⟨false, 3, (.int .i64), a⟩] [] K =
    l_tutorref01_Lent a (fun r0 r1 => K (.view 0 1 0 r0) [.row ⟨true, 3, (.int .i64), r1⟩]) := gentry_tutorref01_Lent K a

def S_tutorref01_Lent (l_tutorref01_Lent : {R : Type} → (List Int) → (Nat → (List Int) → Option R) → Option R) : Sum := ⟨[], fun {R} args ob K => match args, ob with
  | [.rd ⟨false, 3, (.int .i64), a⟩], [] => l_tutorref01_Lent a (fun r0 r1 => K (.view 0 1 0 r0) [.row ⟨true, 3, (.int .i64), r1⟩])
  | _, _ => none⟩

theorem sound_tutorref01_Lent : Sound Try.prog 12 (S_tutorref01_Lent @l_tutorref01_Lent) := by
  refine fn_sound (cuts := cuts_tutorref01_Lent) (fn := Try.f12) (Γ := T_tutorref01_Lent) wide right_T_tutorref01_Lent Try.func12 fun {R} K r args ob h => ?_
  unfold S_tutorref01_Lent at h
  dsimp only at h
  split at h
  · exact ⟨Nat.le_of_ble_eq_true (by kernel_rfl), 0, (entry_tutorref01_Lent K _).trans h⟩
  · cases h

theorem call_tutorref01_Lent : Callable Try.prog 12 := ⟨_, Try.func12, by kernel_rfl, by kernel_rfl⟩

def T_slices_Grow_int_int : FuncId → Option Sum := G0

theorem right_T_slices_Grow_int_int : Right Try.prog T_slices_Grow_int_int := right_G0

abbrev cuts_slices_Grow_int_int : Cuts := []

theorem gentry_slices_Grow_int_int {R : Type} (K : AV → List O → Option R) (n : Int) :
    fnRun Try.prog T_slices_Grow_int_int cuts_slices_Grow_int_int Try.f51 0 [.v (.slice none 0 0), .v (.int .i64 n)] [] K =
    (fun (n : Int) (K0 : Nat → (List Int) → Option R) (K1 : (List Int) → Option R) =>
    bi (decide (n < 0))
     none
     (bi (decide ((IntKind.i64.wrap (n - 0)) > 0))
      (bi (decide (0 ≤ (0 : Int) ∧ (0 : Int) ≤ (0 : Int)))
       (bi (decide (1 ≤ IntKind.i64.wrap (n - 0) ∧ IntKind.i64.wrap (n - 0) ≤ 1073741824))
        (bi (decide (0 ≤ (0 : Int) ∧ (0 : Int) ≤ (((List.replicate (IntKind.i64.wrap (n - 0)).toNat (0 : Int)).length : Nat) : Int)))
         (K0 0 (List.replicate (IntKind.i64.wrap (n - 0)).toNat (0 : Int)))
         none)
        none)
       none)
      (K1 ([] : List Int)))) n (fun r0 r1 => K (.view 0 1 0 r0) [.row ⟨true, 3, (.int .i64), r1⟩]) (fun r0 => K (.own 0) [.row ⟨true, 3, (.int .i64), r0⟩]) := by kernel_rfl

theorem entry_slices_Grow_int_int {R : Type} (K : AV → List O → Option R) (n : Int) :
    fnRun Try.prog T_slices_Grow_int_int cuts_slices_Grow_int_int Try.f51 0 [.v (.slice none 0 0), .v (.int .i64 n)] [] K =
    l_slices_Grow_int_int n (fun r0 r1 => K (.view 0 1 0 r0) [.row ⟨true, 3, (.int .i64), r1⟩]) (fun r0 => K (.own 0) [.row ⟨true, 3, (.int .i64), r0⟩]) := gentry_slices_Grow_int_int K n

def S_slices_Grow_int_int (l_slices_Grow_int_int : {R : Type} → Int → (Nat → (List Int) → Option R) → ((List Int) → Option R) → Option R) : Sum := ⟨[0], fun {R} args ob K => match args, ob with
  | [.v (.slice none 0 0), .v (.int .i64 n)], [] => l_slices_Grow_int_int n (fun r0 r1 => K (.view 0 1 0 r0) [.row ⟨true, 3, (.int .i64), r1⟩]) (fun r0 => K (.own 0) [.row ⟨true, 3, (.int .i64), r0⟩])
  | _, _ => none⟩

theorem sound_slices_Grow_int_int : Sound Try.prog 51 (S_slices_Grow_int_int @l_slices_Grow_int_int) := by
  refine fn_sound (cuts := cuts_slices_Grow_int_int) (fn := Try.f51) (Γ := T_slices_Grow_int_int) wide right_T_slices_Grow_int_int Try.func51 fun {R} K r args ob h => ?_
  unfold S_slices_Grow_int_int at h
  dsimp only at h
  split at h
  · exact ⟨Nat.le_of_ble_eq_true (by kernel_rfl), 0, (entry_slices_Grow_int_int K _).trans h⟩
  · cases h

theorem call_slices_Grow_int_int : Callable Try.prog 51 := ⟨_, Try.func51, by kernel_rfl, by kernel_rfl⟩

def T_slices_Concat_int_int (l_slices_Grow_int_int : {R : Type} → Int → (Nat → (List Int) → Option R) → ((List Int) → Option R) → Option R) : FuncId → Option Sum := (addS G0 51 (S_slices_Grow_int_int @l_slices_Grow_int_int))

theorem right_T_slices_Concat_int_int : Right Try.prog (T_slices_Concat_int_int @l_slices_Grow_int_int) := (right_add right_G0 call_slices_Grow_int_int sound_slices_Grow_int_int)

abbrev cuts_slices_Concat_int_int : Cuts := [(3, [0, 3, 9, 10, 11]), (11, [6, 25, 26, 27])]

theorem gstep_slices_Concat_int_int_3 (l_slices_Grow_int_int : {R : Type} → Int → (Nat → (List Int) → Option R) → ((List Int) → Option R) → Option R) {R : Type} (g : List Item → St → Option R) (K : AV → List O → Option R) (slices : List (List Int)) (size : Int) (x9 : List (List Int)) (x10 : Int) (x11 : Int) :
    runSeg Try.prog (T_slices_Concat_int_int @l_slices_Grow_int_int) cuts_slices_Concat_int_int 0 g (finish Try.prog Try.f49 0 K) (at' Try.f49 3) ⟨fr0 36 [(0, .rd ⟨false, 22, (.sl 3 (.int .i64)), slices⟩), (3, .v (.int .i64 size)), (9, .rd ⟨false, 22, (.sl 3 (.int .i64)), x9⟩), (10, .v (.int .i64 x10)), (11, .v (.int .i64 x11))], []⟩ =
    (fun (g49_3 : (List (List Int)) → Int → (List (List Int)) → Int → Int → Option R) (g49_11 : Nat → (List (List Int)) → Int → Int → (List Int) → Option R) (g49_11b : (List (List Int)) → Int → Int → (List Int) → Option R) (K0 : Nat → (List Int) → Option R) (K1 : (List Int) → Option R) (slices : List (List Int)) (size : Int) (x9 : List (List Int)) (x10 : Int) (x11 : Int) =>
    bi (decide (x11 < x10))
     (bi (decide (0 ≤ x11 ∧ x11 < ((x9.length : Nat) : Int)))
      (bi (decide ((IntKind.i64.wrap (size + ((x9.getD x11.toNat []).length : Int))) < 0))
       none
       (g49_3 slices (IntKind.i64.wrap (size + ((x9.getD x11.toNat []).length : Int))) x9 x10 (IntKind.i64.wrap (x11 + 1))))
      none)
     (l_slices_Grow_int_int size
      (fun r1 r2 =>
       g49_11 r1 slices (slices.length : Int) 0 r2)
      (fun r3 =>
       g49_11b slices (slices.length : Int) 0 r3))) (fun slices size x9 x10 x11 => g (at' Try.f49 3) ⟨fr0 36 [(0, .rd ⟨false, 22, (.sl 3 (.int .i64)), slices⟩), (3, .v (.int .i64 size)), (9, .rd ⟨false, 22, (.sl 3 (.int .i64)), x9⟩), (10, .v (.int .i64 x10)), (11, .v (.int .i64 x11))], []⟩) (fun newslice x25 x26 x27 o0 => g (at' Try.f49 11) ⟨fr0 36 [(6, .view 0 1 0 newslice), (25, .rd ⟨false, 22, (.sl 3 (.int .i64)), x25⟩), (26, .v (.int .i64 x26)), (27, .v (.int .i64 x27))], [.row ⟨true, 3, (.int .i64), o0⟩]⟩) (fun x25 x26 x27 o0 => g (at' Try.f49 11) ⟨fr0 36 [(6, .own 0), (25, .rd ⟨false, 22, (.sl 3 (.int .i64)), x25⟩), (26, .v (.int .i64 x26)), (27, .v (.int .i64 x27))], [.row ⟨true, 3, (.int .i64), o0⟩]⟩) (fun r0 r1 => K (.view 0 1 0 r0) [.row ⟨true, 3, (.int .i64), r1⟩]) (fun r0 => K (.own 0) [.row ⟨true, 3, (.int .i64), r0⟩]) slices size x9 x10 x11 := by kernel_rfl

theorem step_slices_Concat_int_int_3 {R : Type} (g : List Item → St → Option R) (K : AV → List O → Option R) (slices : List (List Int)) (size : Int) (x9 : List (List Int)) (x10 : Int) (x11 : Int) :
    runSeg Try.prog (T_slices_Concat_int_int @l_slices_Grow_int_int) cuts_slices_Concat_int_int 0 g (finish Try.prog Try.f49 0 K) (at' Try.f49 3) ⟨fr0 36 [(0, .rd ⟨false, 22, (.sl 3 (.int .i64)), slices⟩), (3, .v (.int .i64 size)), (9, .rd ⟨false, 22, (.sl 3 (.int .i64)), x9⟩), (10, .v (.int .i64 x10)), (11, .v (.int .i64 x11))], []⟩ =
    s_slices_Concat_int_int_3 (fun slices size x9 x10 x11 => g (at' Try.f49 3) ⟨fr0 36 [(0, .rd ⟨false, 22, (.sl 3 (.int .i64)), slices⟩), (3, .v (.int .i64 size)), (9, .rd ⟨false, 22, (.sl 3 (.int .i64)), x9⟩), (10, .v (.int .i64 x10)), (11, .v (.int .i64 x11))], []⟩) (fun newslice x25 x26 x27 o0 => g (at' Try.f49 11) ⟨fr0 36 [(6, .view 0 1 0 newslice), (25, .rd ⟨false, 22, (.sl 3 (.int .i64)), x25⟩), (26, .v (.int .i64 x26)), (27, .v (.int .i64 x27))], [.row ⟨true, 3, (.int .i64), o0⟩]⟩) (fun x25 x26 x27 o0 => g (at' Try.f49 11) ⟨fr0 36 [(6, .own 0), (25, .rd ⟨false, 22, (.sl 3 (.int .i64)), x25⟩), (26, .v (.int .i64 x26)), (27, .v (.int .i64 x27))], [.row ⟨true, 3, (.int .i64), o0⟩]⟩) (fun r0 r1 => K (.view 0 1 0 r0) [.row ⟨true, 3, (.int .i64), r1⟩]) (fun r0 => K (.own 0) [.row ⟨true, 3, (.int .i64), r0⟩]) slices size x9 x10 x11 := gstep_slices_Concat_int_int_3 @l_slices_Grow_int_int g K slices size x9 x10 x11

theorem gstep_slices_Concat_int_int_11a (l_slices_Grow_int_int : {R : Type} → Int → (Nat → (List Int) → Option R) → ((List Int) → Option R) → Option R) {R : Type} (g : List Item → St → Option R) (K : AV → List O → Option R) (newslice : Nat) (x25 : List (List Int)) (x26 : Int) (x27 : Int) (o0 : List Int) :
    runSeg Try.prog (T_slices_Concat_int_int @l_slices_Grow_int_int) cuts_slices_Concat_int_int 0 g (finish Try.prog Try.f49 0 K) (at' Try.f49 11) ⟨fr0 36 [(6, .view 0 1 0 newslice), (25, .rd ⟨false, 22, (.sl 3 (.int .i64)), x25⟩), (26, .v (.int .i64 x26)), (27, .v (.int .i64 x27))], [.row ⟨true, 3, (.int .i64), o0⟩]⟩ =
    (fun (g49_3 : (List (List Int)) → Int → (List (List Int)) → Int → Int → Option R) (g49_11 : Nat → (List (List Int)) → Int → Int → (List Int) → Option R) (g49_11b : (List (List Int)) → Int → Int → (List Int) → Option R) (K0 : Nat → (List Int) → Option R) (K1 : (List Int) → Option R) (newslice : Nat) (x25 : List (List Int)) (x26 : Int) (x27 : Int) (o0 : List Int) =>
    bi (decide (x27 < x26))
     (bi (decide (0 ≤ x27 ∧ x27 < ((x25.length : Nat) : Int)))
      (bi (decide (((o0.take newslice).length + (x25.getD x27.toNat []).length) * 8 ≤ lim))
       (g49_11b x25 x26 (IntKind.i64.wrap (x27 + 1)) ((o0.take newslice) ++ (x25.getD x27.toNat [])))
       none)
      none)
     (K0 newslice o0)) (fun slices size x9 x10 x11 => g (at' Try.f49 3) ⟨fr0 36 [(0, .rd ⟨false, 22, (.sl 3 (.int .i64)), slices⟩), (3, .v (.int .i64 size)), (9, .rd ⟨false, 22, (.sl 3 (.int .i64)), x9⟩), (10, .v (.int .i64 x10)), (11, .v (.int .i64 x11))], []⟩) (fun newslice x25 x26 x27 o0 => g (at' Try.f49 11) ⟨fr0 36 [(6, .view 0 1 0 newslice), (25, .rd ⟨false, 22, (.sl 3 (.int .i64)), x25⟩), (26, .v (.int .i64 x26)), (27, .v (.int .i64 x27))], [.row ⟨true, 3, (.int .i64), o0⟩]⟩) (fun x25 x26 x27 o0 => g (at' Try.f49 11) ⟨fr0 36 [(6, .own 0), (25, .rd ⟨false, 22, (.sl 3 (.int .i64)), x25⟩), (26, .v (.int .i64 x26)), (27, .v (.int .i64 x27))], [.row ⟨true, 3, (.int .i64), o0⟩]⟩) (fun r0 r1 => K (.view 0 1 0 r0) [.row ⟨true, 3, (.int .i64), r1⟩]) (fun r0 => K (.own 0) [.row ⟨true, 3, (.int .i64), r0⟩]) newslice x25 x26 x27 o0 := by kernel_rfl

theorem step_slices_Concat_int_int_11a {R : Type} (g : List Item → St → Option R) (K : AV → List O → Option R) (newslice : Nat) (x25 : List (List Int)) (x26 : Int) (x27 : Int) (o0 : List Int) :
    runSeg Try.prog (T_slices_Concat_int_int @l_slices_Grow_int_int) cuts_slices_Concat_int_int 0 g (finish Try.prog Try.f49 0 K) (at' Try.f49 11) ⟨fr0 36 [(6, .view 0 1 0 newslice), (25, .rd ⟨false, 22, (.sl 3 (.int .i64)), x25⟩), (26, .v (.int .i64 x26)), (27, .v (.int .i64 x27))], [.row ⟨true, 3, (.int .i64), o0⟩]⟩ =
    s_slices_Concat_int_int_11a (fun slices size x9 x10 x11 => g (at' Try.f49 3) ⟨fr0 36 [(0, .rd ⟨false, 22, (.sl 3 (.int .i64)), slices⟩), (3, .v (.int .i64 size)), (9, .rd ⟨false, 22, (.sl 3 (.int .i64)), x9⟩), (10, .v (.int .i64 x10)), (11, .v (.int .i64 x11))], []⟩) (fun newslice x25 x26 x27 o0 => g (at' Try.f49 11) ⟨fr0 36 [(6, .view 0 1 0 newslice), (25, .rd ⟨false, 22, (.sl 3 (.int .i64)), x25⟩), (26, .v (.int .i64 x26)), (27, .v (.int .i64 x27))], [.row ⟨true, 3, (.int .i64), o0⟩]⟩) (fun x25 x26 x27 o0 => g (at' Try.f49 11) ⟨fr0 36 [(6, .own 0), (25, .rd ⟨false, 22, (.sl 3 (.int .i64)), x25⟩), (26, .v (.int .i64 x26)), (27, .v (.int .i64 x27))], [.row ⟨true, 3, (.int .i64), o0⟩]⟩) (fun r0 r1 => K (.view 0 1 0 r0) [.row ⟨true, 3, (.int .i64), r1⟩]) (fun r0 => K (.own 0) [.row ⟨true, 3, (.int .i64), r0⟩]) newslice x25 x26 x27 o0 := gstep_slices_Concat_int_int_11a @l_slices_Grow_int_int g K newslice x25 x26 x27 o0

theorem gstep_slices_Concat_int_int_11b (l_slices_Grow_int_int : {R : Type} → Int → (Nat → (List Int) → Option R) → ((List Int) → Option R) → Option R) {R : Type} (g : List Item → St → Option R) (K : AV → List O → Option R) (x25 : List (List Int)) (x26 : Int) (x27 : Int) (o0 : List Int) :
    runSeg Try.prog (T_slices_Concat_int_int @l_slices_Grow_int_int) cuts_slices_Concat_int_int 0 g (finish Try.prog Try.f49 0 K) (at' Try.f49 11) ⟨fr0 36 [(6, .own 0), (25, .rd ⟨false, 22, (.sl 3 (.int .i64)), x25⟩), (26, .v (.int .i64 x26)), (27, .v (.int .i64 x27))], [.row ⟨true, 3, (.int .i64), o0⟩]⟩ =
    (fun (g49_3 : (List (List Int)) → Int → (List (List Int)) → Int → Int → Option R) (g49_11 : Nat → (List (List Int)) → Int → Int → (List Int) → Option R) (g49_11b : (List (List Int)) → Int → Int → (List Int) → Option R) (K0 : Nat → (List Int) → Option R) (K1 : (List Int) → Option R) (x25 : List (List Int)) (x26 : Int) (x27 : Int) (o0 : List Int) =>
    bi (decide (x27 < x26))
     (bi (decide (0 ≤ x27 ∧ x27 < ((x25.length : Nat) : Int)))
      (bi (decide ((o0.length + (x25.getD x27.toNat []).length) * 8 ≤ lim))
       (g49_11b x25 x26 (IntKind.i64.wrap (x27 + 1)) (o0 ++ (x25.getD x27.toNat [])))
       none)
      none)
     (K1 o0)) (fun slices size x9 x10 x11 => g (at' Try.f49 3) ⟨fr0 36 [(0, .rd ⟨false, 22, (.sl 3 (.int .i64)), slices⟩), (3, .v (.int .i64 size)), (9, .rd ⟨false, 22, (.sl 3 (.int .i64)), x9⟩), (10, .v (.int .i64 x10)), (11, .v (.int .i64 x11))], []⟩) (fun newslice x25 x26 x27 o0 => g (at' Try.f49 11) ⟨fr0 36 [(6, .view 0 1 0 newslice), (25, .rd ⟨false, 22, (.sl 3 (.int .i64)), x25⟩), (26, .v (.int .i64 x26)), (27, .v (.int .i64 x27))], [.row ⟨true, 3, (.int .i64), o0⟩]⟩) (fun x25 x26 x27 o0 => g (at' Try.f49 11) ⟨fr0 36 [(6, .own 0), (25, .rd ⟨false, 22, (.sl 3 (.int .i64)), x25⟩), (26, .v (.int .i64 x26)), (27, .v (.int .i64 x27))], [.row ⟨true, 3, (.int .i64), o0⟩]⟩) (fun r0 r1 => K (.view 0 1 0 r0) [.row ⟨true, 3, (.int .i64), r1⟩]) (fun r0 => K (.own 0) [.row ⟨true, 3, (.int .i64), r0⟩]) x25 x26 x27 o0 := by kernel_rfl

theorem step_slices_Concat_int_int_11b {R : Type} (g : List Item → St → Option R) (K : AV → List O → Option R) (x25 : List (List Int)) (x26 : Int) (x27 : Int) (o0 : List Int) :
    runSeg Try.prog (T_slices_Concat_int_int @l_slices_Grow_int_int) cuts_slices_Concat_int_int 0 g (finish Try.prog Try.f49 0 K) (at' Try.f49 11) ⟨fr0 36 [(6, .own 0), (25, .rd ⟨false, 22, (.sl 3 (.int .i64)), x25⟩), (26, .v (.int .i64 x26)), (27, .v (.int .i64 x27))], [.row ⟨true, 3, (.int .i64), o0⟩]⟩ =
    s_slices_Concat_int_int_11b (fun slices size x9 x10 x11 => g (at' Try.f49 3) ⟨fr0 36 [(0, .rd ⟨false, 22, (.sl 3 (.int .i64)), slices⟩), (3, .v (.int .i64 size)), (9, .rd ⟨false, 22, (.sl 3 (.int .i64)), x9⟩), (10, .v (.int .i64 x10)), (11, .v (.int .i64 x11))], []⟩) (fun newslice x25 x26 x27 o0 => g (at' Try.f49 11) ⟨fr0 36 [(6, .view 0 1 0 newslice), (25, .rd ⟨false, 22, (.sl 3 (.int .i64)), x25⟩), (26, .v (.int .i64 x26)), (27, .v (.int .i64 x27))], [.row ⟨true, 3, (.int .i64), o0⟩]⟩) (fun x25 x26 x27 o0 => g (at' Try.f49 11) ⟨fr0 36 [(6, .own 0), (25, .rd ⟨false, 22, (.sl 3 (.int .i64)), x25⟩), (26, .v (.int .i64 x26)), (27, .v (.int .i64 x27))], [.row ⟨true, 3, (.int .i64), o0⟩]⟩) (fun r0 r1 => K (.view 0 1 0 r0) [.row ⟨true, 3, (.int .i64), r1⟩]) (fun r0 => K (.own 0) [.row ⟨true, 3, (.int .i64), r0⟩]) x25 x26 x27 o0 := gstep_slices_Concat_int_int_11b @l_slices_Grow_int_int g K x25 x26 x27 o0

theorem gentry_slices_Concat_int_int (l_slices_Grow_int_int : {R : Type} → Int → (Nat → (List Int) → Option R) → ((List Int) → Option R) → Option R) {R : Type} (fuel : Nat) (K : AV → List O → Option R) (slices : List (List Int)) :
    fnRun Try.prog (T_slices_Concat_int_int @l_slices_Grow_int_int) cuts_slices_Concat_int_int Try.f49 fuel [.rd ⟨false, 22, (.sl 3 (.int .i64)), slices⟩] [] K =
    (fun (g49_3 : (List (List Int)) → Int → (List (List Int)) → Int → Int → Option R) (g49_11 : Nat → (List (List Int)) → Int → Int → (List Int) → Option R) (g49_11b : (List (List Int)) → Int → Int → (List Int) → Option R) (K0 : Nat → (List Int) → Option R) (K1 : (List Int) → Option R) (slices : List (List Int)) =>
    g49_3 slices 0 slices (slices.length : Int) 0) (fun slices size x9 x10 x11 => (runO Try.prog (T_slices_Concat_int_int @l_slices_Grow_int_int) cuts_slices_Concat_int_int 0 (finish Try.prog Try.f49 0 K) fuel) (at' Try.f49 3) ⟨fr0 36 [(0, .rd ⟨false, 22, (.sl 3 (.int .i64)), slices⟩), (3, .v (.int .i64 size)), (9, .rd ⟨false, 22, (.sl 3 (.int .i64)), x9⟩), (10, .v (.int .i64 x10)), (11, .v (.int .i64 x11))], []⟩) (fun newslice x25 x26 x27 o0 => (runO Try.prog (T_slices_Concat_int_int @l_slices_Grow_int_int) cuts_slices_Concat_int_int 0 (finish Try.prog Try.f49 0 K) fuel) (at' Try.f49 11) ⟨fr0 36 [(6, .view 0 1 0 newslice), (25, .rd ⟨false, 22, (.sl 3 (.int .i64)), x25⟩), (26, .v (.int .i64 x26)), (27, .v (.int .i64 x27))], [.row ⟨true, 3, (.int .i64), o0⟩]⟩) (fun x25 x26 x27 o0 => (runO Try.prog (T_slices_Concat_int_int @l_slices_Grow_int_int) cuts_slices_Concat_int_int 0 (finish Try.prog Try.f49 0 K) fuel) (at' Try.f49 11) ⟨fr0 36 [(6, .own 0), (25, .rd ⟨false, 22, (.sl 3 (.int .i64)), x25⟩), (26, .v (.int .i64 x26)), (27, .v (.int .i64 x27))], [.row ⟨true, 3, (.int .i64), o0⟩]⟩) (fun r0 r1 => K (.view 0 1 0 r0) [.row ⟨true, 3, (.int .i64), r1⟩]) (fun r0 => K (.own 0) [.row ⟨true, 3, (.int .i64), r0⟩]) slices := by kernel_rfl

theorem entry_slices_Concat_int_int {R : Type} (fuel : Nat) (K : AV → List O → Option R) (slices : List (List Int)) :
    fnRun Try.prog (T_slices_Concat_int_int @l_slices_Grow_int_int) cuts_slices_Concat_int_int Try.f49 fuel [.rd ⟨false, 22, (.sl 3 (.int .i64)), slices⟩] [] K =
    e_slices_Concat_int_int (fun slices size x9 x10 x11 => (runO Try.prog (T_slices_Concat_int_int @l_slices_Grow_int_int) cuts_slices_Concat_int_int 0 (finish Try.prog Try.f49 0 K) fuel) (at' Try.f49 3) ⟨fr0 36 [(0, .rd ⟨false, 22, (.sl 3 (.int .i64)), slices⟩), (3, .v (.int .i64 size)), (9, .rd ⟨false, 22, (.sl 3 (.int .i64)), x9⟩), (10, .v (.int .i64 x10)), (11, .v (.int .i64 x11))], []⟩) (fun newslice x25 x26 x27 o0 => (runO Try.prog (T_slices_Concat_int_int @l_slices_Grow_int_int) cuts_slices_Concat_int_int 0 (finish Try.prog Try.f49 0 K) fuel) (at' Try.f49 11) ⟨fr0 36 [(6, .view 0 1 0 newslice), (25, .rd ⟨false, 22, (.sl 3 (.int .i64)), x25⟩), (26, .v (.int .i64 x26)), (27, .v (.int .i64 x27))], [.row ⟨true, 3, (.int .i64), o0⟩]⟩) (fun x25 x26 x27 o0 => (runO Try.prog (T_slices_Concat_int_int @l_slices_Grow_int_int) cuts_slices_Concat_int_int 0 (finish Try.prog Try.f49 0 K) fuel) (at' Try.f49 11) ⟨fr0 36 [(6, .own 0), (25, .rd ⟨false, 22, (.sl 3 (.int .i64)), x25⟩), (26, .v (.int .i64 x26)), (27, .v (.int .i64 x27))], [.row ⟨true, 3, (.int .i64), o0⟩]⟩) (fun r0 r1 => K (.view 0 1 0 r0) [.row ⟨true, 3, (.int .i64), r1⟩]) (fun r0 => K (.own 0) [.row ⟨true, 3, (.int .i64), r0⟩]) slices := gentry_slices_Concat_int_int @l_slices_Grow_int_int fuel K slices

theorem runs_slices_Concat_int_int {R : Type} (K : AV → List O → Option R) : ∀ fuel : Nat,
    (fun slices size x9 x10 x11 => (runO Try.prog (T_slices_Concat_int_int @l_slices_Grow_int_int) cuts_slices_Concat_int_int 0 (finish Try.prog Try.f49 0 K) fuel) (at' Try.f49 3) ⟨fr0 36 [(0, .rd ⟨false, 22, (.sl 3 (.int .i64)), slices⟩), (3, .v (.int .i64 size)), (9, .rd ⟨false, 22, (.sl 3 (.int .i64)), x9⟩), (10, .v (.int .i64 x10)), (11, .v (.int .i64 x11))], []⟩) = (run_slices_Concat_int_int (fun r0 r1 => K (.view 0 1 0 r0) [.row ⟨true, 3, (.int .i64), r1⟩]) (fun r0 => K (.own 0) [.row ⟨true, 3, (.int .i64), r0⟩]) fuel).1 ∧
    (fun newslice x25 x26 x27 o0 => (runO Try.prog (T_slices_Concat_int_int @l_slices_Grow_int_int) cuts_slices_Concat_int_int 0 (finish Try.prog Try.f49 0 K) fuel) (at' Try.f49 11) ⟨fr0 36 [(6, .view 0 1 0 newslice), (25, .rd ⟨false, 22, (.sl 3 (.int .i64)), x25⟩), (26, .v (.int .i64 x26)), (27, .v (.int .i64 x27))], [.row ⟨true, 3, (.int .i64), o0⟩]⟩) = (run_slices_Concat_int_int (fun r0 r1 => K (.view 0 1 0 r0) [.row ⟨true, 3, (.int .i64), r1⟩]) (fun r0 => K (.own 0) [.row ⟨true, 3, (.int .i64), r0⟩]) fuel).2.1 ∧
    (fun x25 x26 x27 o0 => (runO Try.prog (T_slices_Concat_int_int @l_slices_Grow_int_int) cuts_slices_Concat_int_int 0 (finish Try.prog Try.f49 0 K) fuel) (at' Try.f49 11) ⟨fr0 36 [(6, .own 0), (25, .rd ⟨false, 22, (.sl 3 (.int .i64)), x25⟩), (26, .v (.int .i64 x26)), (27, .v (.int .i64 x27))], [.row ⟨true, 3, (.int .i64), o0⟩]⟩) = (run_slices_Concat_int_int (fun r0 r1 => K (.view 0 1 0 r0) [.row ⟨true, 3, (.int .i64), r1⟩]) (fun r0 => K (.own 0) [.row ⟨true, 3, (.int .i64), r0⟩]) fuel).2.2
  | 0 => ⟨rfl, rfl, rfl⟩
  | fuel + 1 => by
    have ih := runs_slices_Concat_int_int K fuel
    refine ⟨?_, ?_, ?_⟩
    · funext slices size x9 x10 x11
      refine (step_slices_Concat_int_int_3 _ K slices size x9 x10 x11).trans ?_
      rw [ih.1, ih.2.1, ih.2.2]
      rfl
    · funext newslice x25 x26 x27 o0
      refine (step_slices_Concat_int_int_11a _ K newslice x25 x26 x27 o0).trans ?_
      rw [ih.1, ih.2.1, ih.2.2]
      rfl
    · funext x25 x26 x27 o0
      refine (step_slices_Concat_int_int_11b _ K x25 x26 x27 o0).trans ?_
      rw [ih.1, ih.2.1, ih.2.2]
      rfl

def S_slices_Concat_int_int (l_slices_Concat_int_int : {R : Type} → (List (List Int)) → (Nat → (List Int) → Option R) → ((List Int) → Option R) → Option R) : Sum := ⟨[], fun {R} args ob K => match args, ob with
  | [.rd ⟨false, 22, (.sl 3 (.int .i64)), slices⟩], [] => l_slices_Concat_int_int slices (fun r0 r1 => K (.view 0 1 0 r0) [.row ⟨true, 3, (.int .i64), r1⟩]) (fun r0 => K (.own 0) [.row ⟨true, 3, (.int .i64), r0⟩])
  | _, _ => none⟩

theorem sound_slices_Concat_int_int : Sound Try.prog 49 (S_slices_Concat_int_int @l_slices_Concat_int_int) := by
  refine fn_sound (cuts := cuts_slices_Concat_int_int) (fn := Try.f49) (Γ := (T_slices_Concat_int_int @l_slices_Grow_int_int)) wide right_T_slices_Concat_int_int Try.func49 fun {R} K r args ob h => ?_
  unfold S_slices_Concat_int_int at h
  dsimp only at h
  split at h
  · obtain ⟨n, hn⟩ := ok_slices_Concat_int_int _ _ _ h
    refine ⟨Nat.le_of_ble_eq_true (by kernel_rfl), n, (entry_slices_Concat_int_int n K _).trans ?_⟩
    rw [(runs_slices_Concat_int_int K n).1, (runs_slices_Concat_int_int K n).2.1, (runs_slices_Concat_int_int K n).2.2]
    exact hn
  · cases h

theorem call_slices_Concat_int_int : Callable Try.prog 49 := ⟨_, Try.func49, by kernel_rfl, by kernel_rfl⟩

def T_word_Join (l_slices_Concat_int_int : {R : Type} → (List (List Int)) → (Nat → (List Int) → Option R) → ((List Int) → Option R) → Option R) : FuncId → Option Sum := (addS G0 49 (S_slices_Concat_int_int @l_slices_Concat_int_int))

theorem right_T_word_Join : Right Try.prog (T_word_Join @l_slices_Concat_int_int) := (right_add right_G0 call_slices_Concat_int_int sound_slices_Concat_int_int)

abbrev cuts_word_Join : Cuts := []

theorem gentry_word_Join (l_slices_Concat_int_int : {R : Type} → (List (List Int)) → (Nat → (List Int) → Option R) → ((List Int) → Option R) → Option R) {R : Type} (K : AV → List O → Option R) (l : List (List Int)) :
    fnRun Try.prog (T_word_Join @l_slices_Concat_int_int) cuts_word_Join Try.f34 0 [.rd ⟨false, 22, (.sl 3 (.int .i64)), l⟩] [] K =
    (fun (l : List (List Int)) (K0 : Nat → (List Int) → Option R) (K1 : (List Int) → Option R) =>
    l_slices_Concat_int_int l
     (fun r1 r2 =>
      K0 r1 r2)
     (fun r3 =>
      K1 r3)) l (fun r0 r1 => K (.view 0 1 0 r0) [.row ⟨true, 3, (.int .i64), r1⟩]) (fun r0 => K (.own 0) [.row ⟨true, 3, (.int .i64), r0⟩]) := by kernel_rfl

theorem entry_word_Join {R : Type} (K : AV → List O → Option R) (l : List (List Int)) :
    fnRun Try.prog (T_word_Join @l_slices_Concat_int_int) cuts_word_Join Try.f34 0 [.rd ⟨false, 22, (.sl 3 (.int .i64)), l⟩] [] K =
    l_word_Join l (fun r0 r1 => K (.view 0 1 0 r0) [.row ⟨true, 3, (.int .i64), r1⟩]) (fun r0 => K (.own 0) [.row ⟨true, 3, (.int .i64), r0⟩]) := gentry_word_Join @l_slices_Concat_int_int K l

def S_word_Join (l_word_Join : {R : Type} → (List (List Int)) → (Nat → (List Int) → Option R) → ((List Int) → Option R) → Option R) : Sum := ⟨[], fun {R} args ob K => match args, ob with
  | [.rd ⟨false, 22, (.sl 3 (.int .i64)), l⟩], [] => l_word_Join l (fun r0 r1 => K (.view 0 1 0 r0) [.row ⟨true, 3, (.int .i64), r1⟩]) (fun r0 => K (.own 0) [.row ⟨true, 3, (.int .i64), r0⟩])
  | _, _ => none⟩

theorem sound_word_Join : Sound Try.prog 34 (S_word_Join @l_word_Join) := by
  refine fn_sound (cuts := cuts_word_Join) (fn := Try.f34) (Γ := (T_word_Join @l_slices_Concat_int_int)) wide right_T_word_Join Try.func34 fun {R} K r args ob h => ?_
  unfold S_word_Join at h
  dsimp only at h
  split at h
  · exact ⟨Nat.le_of_ble_eq_true (by kernel_rfl), 0, (entry_word_Join K _).trans h⟩
  · cases h

theorem call_word_Join : Callable Try.prog 34 := ⟨_, Try.func34, by kernel_rfl, by kernel_rfl⟩

def T_word_Prefixes (l_slices_Clone_int_int : {R : Type} → (List Int) → ((List Int) → Option R) → Option R) : FuncId → Option Sum := (addS G0 45 (S_slices_Clone_int_int @l_slices_Clone_int_int))

theorem right_T_word_Prefixes : Right Try.prog (T_word_Prefixes @l_slices_Clone_int_int) := (right_add right_G0 call_slices_Clone_int_int sound_slices_Clone_int_int)

abbrev cuts_word_Prefixes : Cuts := [(3, [0, 3, 7, 8])]

theorem gstep_word_Prefixes_3 (l_slices_Clone_int_int : {R : Type} → (List Int) → ((List Int) → Option R) → Option R) {R : Type} (g : List Item → St → Option R) (K : AV → List O → Option R) (w : List Int) (x7 : Int) (x8 : Int) (o0 : List (List Int)) :
    runSeg Try.prog (T_word_Prefixes @l_slices_Clone_int_int) cuts_word_Prefixes 0 g (finish Try.prog Try.f35 0 K) (at' Try.f35 3) ⟨fr0 20 [(0, .rd ⟨false, 3, (.int .i64), w⟩), (3, .nst 0), (7, .v (.int .i64 x7)), (8, .v (.int .i64 x8))], [.nst ⟨true, 22, (.sl 3 (.int .i64)), o0⟩]⟩ =
    (fun (g35_3 : (List Int) → Int → Int → (List (List Int)) → Option R) (K0 : (List (List Int)) → Option R) (w : List Int) (x7 : Int) (x8 : Int) (o0 : List (List Int)) =>
    bi (decide (x8 < x7))
     (bi (decide (0 ≤ x8 ∧ x8 ≤ ((w.length : Nat) : Int)))
      (l_slices_Clone_int_int (w.take x8.toNat)
       (fun r1 =>
        bi (decide ((o0.length + [r1].length) * 24 ≤ lim))
         (g35_3 w x7 (IntKind.i64.wrap (x8 + 1)) (o0 ++ [r1]))
         none))
      none)
     (K0 o0)) (fun w x7 x8 o0 => g (at' Try.f35 3) ⟨fr0 20 [(0, .rd ⟨false, 3, (.int .i64), w⟩), (3, .nst 0), (7, .v (.int .i64 x7)), (8, .v (.int .i64 x8))], [.nst ⟨true, 22, (.sl 3 (.int .i64)), o0⟩]⟩) (fun r0 => K (.nst 0) [.nst ⟨true, 22, (.sl 3 (.int .i64)), r0⟩]) w x7 x8 o0 := by kernel_rfl

theorem step_word_Prefixes_3 {R : Type} (g : List Item → St → Option R) (K : AV → List O → Option R) (w : List Int) (x7 : Int) (x8 : Int) (o0 : List (List Int)) :
    runSeg Try.prog (T_word_Prefixes @l_slices_Clone_int_int) cuts_word_Prefixes 0 g (finish Try.prog Try.f35 0 K) (at' Try.f35 3) ⟨fr0 20 [(0, .rd ⟨false, 3, (.int .i64), w⟩), (3, .nst 0), (7, .v (.int .i64 x7)), (8, .v (.int .i64 x8))], [.nst ⟨true, 22, (.sl 3 (.int .i64)), o0⟩]⟩ =
    s_word_Prefixes_3 (fun w x7 x8 o0 => g (at' Try.f35 3) ⟨fr0 20 [(0, .rd ⟨false, 3, (.int .i64), w⟩), (3, .nst 0), (7, .v (.int .i64 x7)), (8, .v (.int .i64 x8))], [.nst ⟨true, 22, (.sl 3 (.int .i64)), o0⟩]⟩) (fun r0 => K (.nst 0) [.nst ⟨true, 22, (.sl 3 (.int .i64)), r0⟩]) w x7 x8 o0 := gstep_word_Prefixes_3 @l_slices_Clone_int_int g K w x7 x8 o0

theorem gentry_word_Prefixes (l_slices_Clone_int_int : {R : Type} → (List Int) → ((List Int) → Option R) → Option R) {R : Type} (fuel : Nat) (K : AV → List O → Option R) (w : List Int) :
    fnRun Try.prog (T_word_Prefixes @l_slices_Clone_int_int) cuts_word_Prefixes Try.f35 fuel [.rd ⟨false, 3, (.int .i64), w⟩] [] K =
    (fun (g35_3 : (List Int) → Int → Int → (List (List Int)) → Option R) (K0 : (List (List Int)) → Option R) (w : List Int) =>
    g35_3 w (IntKind.i64.wrap ((w.length : Int) + 1)) 0 ([] : List (List Int))) (fun w x7 x8 o0 => (runO Try.prog (T_word_Prefixes @l_slices_Clone_int_int) cuts_word_Prefixes 0 (finish Try.prog Try.f35 0 K) fuel) (at' Try.f35 3) ⟨fr0 20 [(0, .rd ⟨false, 3, (.int .i64), w⟩), (3, .nst 0), (7, .v (.int .i64 x7)), (8, .v (.int .i64 x8))], [.nst ⟨true, 22, (.sl 3 (.int .i64)), o0⟩]⟩) (fun r0 => K (.nst 0) [.nst ⟨true, 22, (.sl 3 (.int .i64)), r0⟩]) w := by kernel_rfl

theorem entry_word_Prefixes {R : Type} (fuel : Nat) (K : AV → List O → Option R) (w : List Int) :
    fnRun Try.prog (T_word_Prefixes @l_slices_Clone_int_int) cuts_word_Prefixes Try.f35 fuel [.rd ⟨false, 3, (.int .i64), w⟩] [] K =
    e_word_Prefixes (fun w x7 x8 o0 => (runO Try.prog (T_word_Prefixes @l_slices_Clone_int_int) cuts_word_Prefixes 0 (finish Try.prog Try.f35 0 K) fuel) (at' Try.f35 3) ⟨fr0 20 [(0, .rd ⟨false, 3, (.int .i64), w⟩), (3, .nst 0), (7, .v (.int .i64 x7)), (8, .v (.int .i64 x8))], [.nst ⟨true, 22, (.sl 3 (.int .i64)), o0⟩]⟩) (fun r0 => K (.nst 0) [.nst ⟨true, 22, (.sl 3 (.int .i64)), r0⟩]) w := gentry_word_Prefixes @l_slices_Clone_int_int fuel K w

theorem runs_word_Prefixes {R : Type} (K : AV → List O → Option R) : ∀ fuel : Nat,
    (fun w x7 x8 o0 => (runO Try.prog (T_word_Prefixes @l_slices_Clone_int_int) cuts_word_Prefixes 0 (finish Try.prog Try.f35 0 K) fuel) (at' Try.f35 3) ⟨fr0 20 [(0, .rd ⟨false, 3, (.int .i64), w⟩), (3, .nst 0), (7, .v (.int .i64 x7)), (8, .v (.int .i64 x8))], [.nst ⟨true, 22, (.sl 3 (.int .i64)), o0⟩]⟩) = (run_word_Prefixes (fun r0 => K (.nst 0) [.nst ⟨true, 22, (.sl 3 (.int .i64)), r0⟩]) fuel)
  | 0 => rfl
  | fuel + 1 => by
    have ih := runs_word_Prefixes K fuel
    funext w x7 x8 o0
    refine (step_word_Prefixes_3 _ K w x7 x8 o0).trans ?_
    rw [ih]
    rfl

def S_word_Prefixes (l_word_Prefixes : {R : Type} → (List Int) → ((List (List Int)) → Option R) → Option R) : Sum := ⟨[], fun {R} args ob K => match args, ob with
  | [.rd ⟨false, 3, (.int .i64), w⟩], [] => l_word_Prefixes w (fun r0 => K (.nst 0) [.nst ⟨true, 22, (.sl 3 (.int .i64)), r0⟩])
  | _, _ => none⟩

theorem sound_word_Prefixes : Sound Try.prog 35 (S_word_Prefixes @l_word_Prefixes) := by
  refine fn_sound (cuts := cuts_word_Prefixes) (fn := Try.f35) (Γ := (T_word_Prefixes @l_slices_Clone_int_int)) wide right_T_word_Prefixes Try.func35 fun {R} K r args ob h => ?_
  unfold S_word_Prefixes at h
  dsimp only at h
  split at h
  · obtain ⟨n, hn⟩ := ok_word_Prefixes _ _ h
    refine ⟨Nat.le_of_ble_eq_true (by kernel_rfl), n, (entry_word_Prefixes n K _).trans ?_⟩
    rw [(runs_word_Prefixes K n)]
    exact hn
  · cases h

theorem call_word_Prefixes : Callable Try.prog 35 := ⟨_, Try.func35, by kernel_rfl, by kernel_rfl⟩

def T_word_Suffixes (l_slices_Clone_int_int : {R : Type} → (List Int) → ((List Int) → Option R) → Option R) : FuncId → Option Sum := (addS G0 45 (S_slices_Clone_int_int @l_slices_Clone_int_int))

theorem right_T_word_Suffixes : Right Try.prog (T_word_Suffixes @l_slices_Clone_int_int) := (right_add right_G0 call_slices_Clone_int_int sound_slices_Clone_int_int)

abbrev cuts_word_Suffixes : Cuts := [(3, [0, 3, 7, 8])]

theorem gstep_word_Suffixes_3 (l_slices_Clone_int_int : {R : Type} → (List Int) → ((List Int) → Option R) → Option R) {R : Type} (g : List Item → St → Option R) (K : AV → List O → Option R) (w : List Int) (x7 : Int) (x8 : Int) (o0 : List (List Int)) :
    runSeg Try.prog (T_word_Suffixes @l_slices_Clone_int_int) cuts_word_Suffixes 0 g (finish Try.prog Try.f36 0 K) (at' Try.f36 3) ⟨fr0 23 [(0, .rd ⟨false, 3, (.int .i64), w⟩), (3, .nst 0), (7, .v (.int .i64 x7)), (8, .v (.int .i64 x8))], [.nst ⟨true, 22, (.sl 3 (.int .i64)), o0⟩]⟩ =
    (fun (g36_3 : (List Int) → Int → Int → (List (List Int)) → Option R) (K0 : (List (List Int)) → Option R) (w : List Int) (x7 : Int) (x8 : Int) (o0 : List (List Int)) =>
    bi (decide (x8 < x7))
     (bi (decide (0 ≤ (IntKind.i64.wrap ((w.length : Int) - x8)) ∧ (IntKind.i64.wrap ((w.length : Int) - x8)) ≤ ((w.length : Nat) : Int)))
      (l_slices_Clone_int_int ((w.drop ((IntKind.i64.wrap ((w.length : Int) - x8)).toNat)).take (w.length - ((IntKind.i64.wrap ((w.length : Int) - x8)).toNat)))
       (fun r1 =>
        bi (decide ((o0.length + [r1].length) * 24 ≤ lim))
         (g36_3 w x7 (IntKind.i64.wrap (x8 + 1)) (o0 ++ [r1]))
         none))
      none)
     (K0 o0)) (fun w x7 x8 o0 => g (at' Try.f36 3) ⟨fr0 23 [(0, .rd ⟨false, 3, (.int .i64), w⟩), (3, .nst 0), (7, .v (.int .i64 x7)), (8, .v (.int .i64 x8))], [.nst ⟨true, 22, (.sl 3 (.int .i64)), o0⟩]⟩) (fun r0 => K (.nst 0) [.nst ⟨true, 22, (.sl 3 (.int .i64)), r0⟩]) w x7 x8 o0 := by kernel_rfl

theorem step_word_Suffixes_3 {R : Type} (g : List Item → St → Option R) (K : AV → List O → Option R) (w : List Int) (x7 : Int) (x8 : Int) (o0 : List (List Int)) :
    runSeg Try.prog (T_word_Suffixes @l_slices_Clone_int_int) cuts_word_Suffixes 0 g (finish Try.prog Try.f36 0 K) (at' Try.f36 3) ⟨fr0 23 [(0, .rd ⟨false, 3, (.int .i64), w⟩), (3, .nst 0), (7, .v (.int .i64 x7)), (8, .v (.int .i64 x8))], [.nst ⟨true, 22, (.sl 3 (.int .i64)), o0⟩]⟩ =
    s_word_Suffixes_3 (fun w x7 x8 o0 => g (at' Try.f36 3) ⟨fr0 23 [(0, .rd ⟨false, 3, (.int .i64), w⟩), (3, .nst 0), (7, .v (.int .i64 x7)), (8, .v (.int .i64 x8))], [.nst ⟨true, 22, (.sl 3 (.int .i64)), o0⟩]⟩) (fun r0 => K (.nst 0) [.nst ⟨true, 22, (.sl 3 (.int .i64)), r0⟩]) w x7 x8 o0 := gstep_word_Suffixes_3 @l_slices_Clone_int_int g K w x7 x8 o0

theorem gentry_word_Suffixes (l_slices_Clone_int_int : {R : Type} → (List Int) → ((List Int) → Option R) → Option R) {R : Type} (fuel : Nat) (K : AV → List O → Option R) (w : List Int) :
    fnRun Try.prog (T_word_Suffixes @l_slices_Clone_int_int) cuts_word_Suffixes Try.f36 fuel [.rd ⟨false, 3, (.int .i64), w⟩] [] K =
    (fun (g36_3 : (List Int) → Int → Int → (List (List Int)) → Option R) (K0 : (List (List Int)) → Option R) (w : List Int) =>
    g36_3 w (IntKind.i64.wrap ((w.length : Int) + 1)) 0 ([] : List (List Int))) (fun w x7 x8 o0 => (runO Try.prog (T_word_Suffixes @l_slices_Clone_int_int) cuts_word_Suffixes 0 (finish Try.prog Try.f36 0 K) fuel) (at' Try.f36 3) ⟨fr0 23 [(0, .rd ⟨false, 3, (.int .i64), w⟩), (3, .nst 0), (7, .v (.int .i64 x7)), (8, .v (.int .i64 x8))], [.nst ⟨true, 22, (.sl 3 (.int .i64)), o0⟩]⟩) (fun r0 => K (.nst 0) [.nst ⟨true, 22, (.sl 3 (.int .i64)), r0⟩]) w := by kernel_rfl

theorem entry_word_Suffixes {R : Type} (fuel : Nat) (K : AV → List O → Option R) (w : List Int) :
    fnRun Try.prog (T_word_Suffixes @l_slices_Clone_int_int) cuts_word_Suffixes Try.f36 fuel [.rd ⟨false, 3, (.int .i64), w⟩] [] K =
    e_word_Suffixes (fun w x7 x8 o0 => (runO Try.prog (T_word_Suffixes @l_slices_Clone_int_int) cuts_word_Suffixes 0 (finish Try.prog Try.f36 0 K) fuel) (at' Try.f36 3) ⟨fr0 23 [(0, .rd ⟨false, 3, (.int .i64), w⟩), (3, .nst 0), (7, .v (.int .i64 x7)), (8, .v (.int .i64 x8))], [.nst ⟨true, 22, (.sl 3 (.int .i64)), o0⟩]⟩) (fun r0 => K (.nst 0) [.nst ⟨true, 22, (.sl 3 (.int .i64)), r0⟩]) w := gentry_word_Suffixes @l_slices_Clone_int_int fuel K w

theorem runs_word_Suffixes {R : Type} (K : AV → List O → Option R) : ∀ fuel : Nat,
    (fun w x7 x8 o0 => (runO Try.prog (T_word_Suffixes @l_slices_Clone_int_int) cuts_word_Suffixes 0 (finish Try.prog Try.f36 0 K) fuel) (at' Try.f36 3) ⟨fr0 23 [(0, .rd ⟨false, 3, (.int .i64), w⟩), (3, .nst 0), (7, .v (.int .i64 x7)), (8, .v (.int .i64 x8))], [.nst ⟨true, 22, (.sl 3 (.int .i64)), o0⟩]⟩) = (run_word_Suffixes (fun r0 => K (.nst 0) [.nst ⟨true, 22, (.sl 3 (.int .i64)), r0⟩]) fuel)
  | 0 => rfl
  | fuel + 1 => by
    have ih := runs_word_Suffixes K fuel
    funext w x7 x8 o0
    refine (step_word_Suffixes_3 _ K w x7 x8 o0).trans ?_
    rw [ih]
    rfl

def S_word_Suffixes (l_word_Suffixes : {R : Type} → (List Int) → ((List (List Int)) → Option R) → Option R) : Sum := ⟨[], fun {R} args ob K => match args, ob with
  | [.rd ⟨false, 3, (.int .i64), w⟩], [] => l_word_Suffixes w (fun r0 => K (.nst 0) [.nst ⟨true, 22, (.sl 3 (.int .i64)), r0⟩])
  | _, _ => none⟩

theorem sound_word_Suffixes : Sound Try.prog 36 (S_word_Suffixes @l_word_Suffixes) := by
  refine fn_sound (cuts := cuts_word_Suffixes) (fn := Try.f36) (Γ := (T_word_Suffixes @l_slices_Clone_int_int)) wide right_T_word_Suffixes Try.func36 fun {R} K r args ob h => ?_
  unfold S_word_Suffixes at h
  dsimp only at h
  split at h
  · obtain ⟨n, hn⟩ := ok_word_Suffixes _ _ h
    refine ⟨Nat.le_of_ble_eq_true (by kernel_rfl), n, (entry_word_Suffixes n K _).trans ?_⟩
    rw [(runs_word_Suffixes K n)]
    exact hn
  · cases h

theorem call_word_Suffixes : Callable Try.prog 36 := ⟨_, Try.func36, by kernel_rfl, by kernel_rfl⟩

def T_tutorref01_Join : FuncId → Option Sum := G0

theorem right_T_tutorref01_Join : Right Try.prog T_tutorref01_Join := right_G0

abbrev cuts_tutorref01_Join : Cuts := []

theorem gentry_tutorref01_Join {R : Type} (K : AV → List O → Option R) (a : List Int) (b : List Int) :
    fnRun Try.prog T_tutorref01_Join cuts_tutorref01_Join Try.f33 0 [.rd ⟨false, 3, (.int .i64), a⟩, .rd ⟨false, 3, (.int .i64), b⟩] [] K =
    (fun (a : List Int) (b : List Int) (K0 : (List Int) → Option R) =>
    bi (decide ((([] : List Int).length + a.length) * 8 ≤ lim))
     (bi (decide (((([] : List Int) ++ a).length + b.length) * 8 ≤ lim))
      (K0 ((([] : List Int) ++ a) ++ b))
      none)
     none) a b (fun r0 => K (.own 0) [.row ⟨true, 3, (.int .i64), r0⟩]) := by kernel_rfl

theorem entry_tutorref01_Join {R : Type} (K : AV → List O → Option R) (a : List Int) (b : List Int) :
    fnRun Try.prog T_tutorref01_Join cuts_tutorref01_Join Try.f33 0 [.rd ⟨false, 3, (.int .i64), a⟩, .rd ⟨false, 3, (.int .i64), b⟩] [] K =
    l_tutorref01_Join a b (fun r0 => K (.own 0) [.row ⟨true, 3, (.int .i64), r0⟩]) := gentry_tutorref01_Join K a b

def S_tutorref01_Join (l_tutorref01_Join : {R : Type} → (List Int) → (List Int) → ((List Int) → Option R) → Option R) : Sum := ⟨[], fun {R} args ob K => match args, ob with
  | [.rd ⟨false, 3, (.int .i64), a⟩, .rd ⟨false, 3, (.int .i64), b⟩], [] => l_tutorref01_Join a b (fun r0 => K (.own 0) [.row ⟨true, 3, (.int .i64), r0⟩])
  | _, _ => none⟩

theorem sound_tutorref01_Join : Sound Try.prog 33 (S_tutorref01_Join @l_tutorref01_Join) := by
  refine fn_sound (cuts := cuts_tutorref01_Join) (fn := Try.f33) (Γ := T_tutorref01_Join) wide right_T_tutorref01_Join Try.func33 fun {R} K r args ob h => ?_
  unfold S_tutorref01_Join at h
  dsimp only at h
  split at h
  · exact ⟨Nat.le_of_ble_eq_true (by kernel_rfl), 0, (entry_tutorref01_Join K _ _).trans h⟩
  · cases h

theorem call_tutorref01_Join : Callable Try.prog 33 := ⟨_, Try.func33, by kernel_rfl, by kernel_rfl⟩

def T_tutorref01_Prefixes : FuncId → Option Sum := G0

theorem right_T_tutorref01_Prefixes : Right Try.prog T_tutorref01_Prefixes := right_G0

abbrev cuts_tutorref01_Prefixes : Cuts := [(3, [0, 3, 4])]

theorem gstep_tutorref01_Prefixes_3 {R : Type} (g : List Item → St → Option R) (K : AV → List O → Option R) (w : List Int) (i : Int) (o0 : List (List Int)) :
    runSeg Try.prog T_tutorref01_Prefixes cuts_tutorref01_Prefixes 0 g (finish Try.prog Try.f38 0 K) (at' Try.f38 3) ⟨fr0 20 [(0, .rd ⟨false, 3, (.int .i64), w⟩), (3, .nst 0), (4, .v (.int .i64 i))], [.nst ⟨true, 22, (.sl 3 (.int .i64)), o0⟩]⟩ =
    (fun (g38_3 : (List Int) → Int → (List (List Int)) → Option R) (K0 : (List (List Int)) → Option R) (w : List Int) (i : Int) (o0 : List (List Int)) =>
    bi (decide (i ≤ (w.length : Int)))
     (bi (decide (0 ≤ i ∧ i ≤ ((w.length : Nat) : Int)))
      (bi (decide ((([] : List Int).length + (w.take i.toNat).length) * 8 ≤ lim))
       (bi (decide ((o0.length + [([] : List Int) ++ (w.take i.toNat)].length) * 24 ≤ lim))
        (g38_3 w (IntKind.i64.wrap (i + 1)) (o0 ++ [([] : List Int) ++ (w.take i.toNat)]))
        none)
       none)
      none)
     (K0 o0)) (fun w i o0 => g (at' Try.f38 3) ⟨fr0 20 [(0, .rd ⟨false, 3, (.int .i64), w⟩), (3, .nst 0), (4, .v (.int .i64 i))], [.nst ⟨true, 22, (.sl 3 (.int .i64)), o0⟩]⟩) (fun r0 => K (.nst 0) [.nst ⟨true, 22, (.sl 3 (.int .i64)), r0⟩]) w i o0 := by kernel_rfl

theorem step_tutorref01_Prefixes_3 {R : Type} (g : List Item → St → Option R) (K : AV → List O → Option R) (w : List Int) (i : Int) (o0 : List (List Int)) :
    runSeg Try.prog T_tutorref01_Prefixes cuts_tutorref01_Prefixes 0 g (finish Try.prog Try.f38 0 K) (at' Try.f38 3) ⟨fr0 20 [(0, .rd ⟨false, 3, (.int .i64), w⟩), (3, .nst 0), (4, .v (.int .i64 i))], [.nst ⟨true, 22, (.sl 3 (.int .i64)), o0⟩]⟩ =
    s_tutorref01_Prefixes_3 (fun w i o0 => g (at' Try.f38 3) ⟨fr0 20 [(0, .rd ⟨false, 3, (.int .i64), w⟩), (3, .nst 0), (4, .v (.int .i64 i))], [.nst ⟨true, 22, (.sl 3 (.int .i64)), o0⟩]⟩) (fun r0 => K (.nst 0) [.nst ⟨true, 22, (.sl 3 (.int .i64)), r0⟩]) w i o0 := gstep_tutorref01_Prefixes_3 g K w i o0

theorem gentry_tutorref01_Prefixes {R : Type} (fuel : Nat) (K : AV → List O → Option R) (w : List Int) :
    fnRun Try.prog T_tutorref01_Prefixes cuts_tutorref01_Prefixes Try.f38 fuel [.rd ⟨false, 3, (.int .i64), w⟩] [] K =
    (fun (g38_3 : (List Int) → Int → (List (List Int)) → Option R) (K0 : (List (List Int)) → Option R) (w : List Int) =>
    g38_3 w 0 ([] : List (List Int))) (fun w i o0 => (runO Try.prog T_tutorref01_Prefixes cuts_tutorref01_Prefixes 0 (finish Try.prog Try.f38 0 K) fuel) (at' Try.f38 3) ⟨fr0 20 [(0, .rd ⟨false, 3, (.int .i64), w⟩), (3, .nst 0), (4, .v (.int .i64 i))], [.nst ⟨true, 22, (.sl 3 (.int .i64)), o0⟩]⟩) (fun r0 => K (.nst 0) [.nst ⟨true, 22, (.sl 3 (.int .i64)), r0⟩]) w := by kernel_rfl

theorem entry_tutorref01_Prefixes {R : Type} (fuel : Nat) (K : AV → List O → Option R) (w : List Int) :
    fnRun Try.prog T_tutorref01_Prefixes cuts_tutorref01_Prefixes Try.f38 fuel [.rd ⟨false, 3, (.int .i64), w⟩] [] K =
    e_tutorref01_Prefixes (fun w i o0 => (runO Try.prog T_tutorref01_Prefixes cuts_tutorref01_Prefixes 0 (finish Try.prog Try.f38 0 K) fuel) (at' Try.f38 3) ⟨fr0 20 [(0, .rd ⟨false, 3, (.int .i64), w⟩), (3, .nst 0), (4, .v (.int .i64 i))], [.nst ⟨true, 22, (.sl 3 (.int .i64)), o0⟩]⟩) (fun r0 => K (.nst 0) [.nst ⟨true, 22, (.sl 3 (.int .i64)), r0⟩]) w := gentry_tutorref01_Prefixes fuel K w

theorem runs_tutorref01_Prefixes {R : Type} (K : AV → List O → Option R) : ∀ fuel : Nat,
    (fun w i o0 => (runO Try.prog T_tutorref01_Prefixes cuts_tutorref01_Prefixes 0 (finish Try.prog Try.f38 0 K) fuel) (at' Try.f38 3) ⟨fr0 20 [(0, .rd ⟨false, 3, (.int .i64), w⟩), (3, .nst 0), (4, .v (.int .i64 i))], [.nst ⟨true, 22, (.sl 3 (.int .i64)), o0⟩]⟩) = (run_tutorref01_Prefixes (fun r0 => K (.nst 0) [.nst ⟨true, 22, (.sl 3 (.int .i64)), r0⟩]) fuel)
  | 0 => rfl
  | fuel + 1 => by
    have ih := runs_tutorref01_Prefixes K fuel
    funext w i o0
    refine (step_tutorref01_Prefixes_3 _ K w i o0).trans ?_
    rw [ih]
    rfl

def S_tutorref01_Prefixes (l_tutorref01_Prefixes : {R : Type} → (List Int) → ((List (List Int)) → Option R) → Option R) : Sum := ⟨[], fun {R} args ob K => match args, ob with
  | [.rd ⟨false, 3, (.int .i64), w⟩], [] => l_tutorref01_Prefixes w (fun r0 => K (.nst 0) [.nst ⟨true, 22, (.sl 3 (.int .i64)), r0⟩])
  | _, _ => none⟩

theorem sound_tutorref01_Prefixes : Sound Try.prog 38 (S_tutorref01_Prefixes @l_tutorref01_Prefixes) := by
  refine fn_sound (cuts := cuts_tutorref01_Prefixes) (fn := Try.f38) (Γ := T_tutorref01_Prefixes) wide right_T_tutorref01_Prefixes Try.func38 fun {R} K r args ob h => ?_
  unfold S_tutorref01_Prefixes at h
  dsimp only at h
  split at h
  · obtain ⟨n, hn⟩ := ok_tutorref01_Prefixes _ _ h
    refine ⟨Nat.le_of_ble_eq_true (by kernel_rfl), n, (entry_tutorref01_Prefixes n K _).trans ?_⟩
    rw [(runs_tutorref01_Prefixes K n)]
    exact hn
  · cases h

theorem call_tutorref01_Prefixes : Callable Try.prog 38 := ⟨_, Try.func38, by kernel_rfl, by kernel_rfl⟩

def T_tutorref01_Lists (l_tutorref01_Same : {R : Type} → (List Int) → (List Int) → (Bool → Option R) → Option R) : FuncId → Option Sum := (addS G0 22 (S_tutorref01_Same @l_tutorref01_Same))

theorem right_T_tutorref01_Lists : Right Try.prog (T_tutorref01_Lists @l_tutorref01_Same) := (right_add right_G0 call_tutorref01_Same sound_tutorref01_Same)

abbrev cuts_tutorref01_Lists : Cuts := [(4, [0, 1, 5])]

theorem gstep_tutorref01_Lists_4 (l_tutorref01_Same : {R : Type} → (List Int) → (List Int) → (Bool → Option R) → Option R) {R : Type} (g : List Item → St → Option R) (K : AV → List O → Option R) (a : List (List Int)) (b : List (List Int)) (i : Int) :
    runSeg Try.prog (T_tutorref01_Lists @l_tutorref01_Same) cuts_tutorref01_Lists 0 g (finish Try.prog Try.f37 0 K) (at' Try.f37 4) ⟨fr0 27 [(0, .rd ⟨false, 22, (.sl 3 (.int .i64)), a⟩), (1, .rd ⟨false, 22, (.sl 3 (.int .i64)), b⟩), (5, .v (.int .i64 i))], []⟩ =
    (fun (g37_4 : (List (List Int)) → (List (List Int)) → Int → Option R) (K0 : Bool → Option R) (a : List (List Int)) (b : List (List Int)) (i : Int) =>
    bi (decide (i < (a.length : Int)))
     (bi (decide (0 ≤ i ∧ i < ((a.length : Nat) : Int)))
      (bi (decide (0 ≤ i ∧ i < ((b.length : Nat) : Int)))
       (l_tutorref01_Same (a.getD i.toNat []) (b.getD i.toNat [])
        (fun r1 =>
         bi (!r1)
          (K0 false)
          (g37_4 a b (IntKind.i64.wrap (i + 1)))))
       none)
      none)
     (K0 true)) (fun a b i => g (at' Try.f37 4) ⟨fr0 27 [(0, .rd ⟨false, 22, (.sl 3 (.int .i64)), a⟩), (1, .rd ⟨false, 22, (.sl 3 (.int .i64)), b⟩), (5, .v (.int .i64 i))], []⟩) (fun r0 => K (.v (.bool r0)) []) a b i := by kernel_rfl

theorem step_tutorref01_Lists_4 {R : Type} (g : List Item → St → Option R) (K : AV → List O → Option R) (a : List (List Int)) (b : List (List Int)) (i : Int) :
    runSeg Try.prog (T_tutorref01_Lists @l_tutorref01_Same) cuts_tutorref01_Lists 0 g (finish Try.prog Try.f37 0 K) (at' Try.f37 4) ⟨fr0 27 [(0, .rd ⟨false, 22, (.sl 3 (.int .i64)), a⟩), (1, .rd ⟨false, 22, (.sl 3 (.int .i64)), b⟩), (5, .v (.int .i64 i))], []⟩ =
    s_tutorref01_Lists_4 (fun a b i => g (at' Try.f37 4) ⟨fr0 27 [(0, .rd ⟨false, 22, (.sl 3 (.int .i64)), a⟩), (1, .rd ⟨false, 22, (.sl 3 (.int .i64)), b⟩), (5, .v (.int .i64 i))], []⟩) (fun r0 => K (.v (.bool r0)) []) a b i := gstep_tutorref01_Lists_4 @l_tutorref01_Same g K a b i

theorem gentry_tutorref01_Lists (l_tutorref01_Same : {R : Type} → (List Int) → (List Int) → (Bool → Option R) → Option R) {R : Type} (fuel : Nat) (K : AV → List O → Option R) (a : List (List Int)) (b : List (List Int)) :
    fnRun Try.prog (T_tutorref01_Lists @l_tutorref01_Same) cuts_tutorref01_Lists Try.f37 fuel [.rd ⟨false, 22, (.sl 3 (.int .i64)), a⟩, .rd ⟨false, 22, (.sl 3 (.int .i64)), b⟩] [] K =
    (fun (g37_4 : (List (List Int)) → (List (List Int)) → Int → Option R) (K0 : Bool → Option R) (a : List (List Int)) (b : List (List Int)) =>
    bi ((a.length : Int) != (b.length : Int))
     (K0 false)
     (g37_4 a b 0)) (fun a b i => (runO Try.prog (T_tutorref01_Lists @l_tutorref01_Same) cuts_tutorref01_Lists 0 (finish Try.prog Try.f37 0 K) fuel) (at' Try.f37 4) ⟨fr0 27 [(0, .rd ⟨false, 22, (.sl 3 (.int .i64)), a⟩), (1, .rd ⟨false, 22, (.sl 3 (.int .i64)), b⟩), (5, .v (.int .i64 i))], []⟩) (fun r0 => K (.v (.bool r0)) []) a b := by kernel_rfl

theorem entry_tutorref01_Lists {R : Type} (fuel : Nat) (K : AV → List O → Option R) (a : List (List Int)) (b : List (List Int)) :
    fnRun Try.prog (T_tutorref01_Lists @l_tutorref01_Same) cuts_tutorref01_Lists Try.f37 fuel [.rd ⟨false, 22, (.sl 3 (.int .i64)), a⟩, .rd ⟨false, 22, (.sl 3 (.int .i64)), b⟩] [] K =
    e_tutorref01_Lists (fun a b i => (runO Try.prog (T_tutorref01_Lists @l_tutorref01_Same) cuts_tutorref01_Lists 0 (finish Try.prog Try.f37 0 K) fuel) (at' Try.f37 4) ⟨fr0 27 [(0, .rd ⟨false, 22, (.sl 3 (.int .i64)), a⟩), (1, .rd ⟨false, 22, (.sl 3 (.int .i64)), b⟩), (5, .v (.int .i64 i))], []⟩) (fun r0 => K (.v (.bool r0)) []) a b := gentry_tutorref01_Lists @l_tutorref01_Same fuel K a b

theorem runs_tutorref01_Lists {R : Type} (K : AV → List O → Option R) : ∀ fuel : Nat,
    (fun a b i => (runO Try.prog (T_tutorref01_Lists @l_tutorref01_Same) cuts_tutorref01_Lists 0 (finish Try.prog Try.f37 0 K) fuel) (at' Try.f37 4) ⟨fr0 27 [(0, .rd ⟨false, 22, (.sl 3 (.int .i64)), a⟩), (1, .rd ⟨false, 22, (.sl 3 (.int .i64)), b⟩), (5, .v (.int .i64 i))], []⟩) = (run_tutorref01_Lists (fun r0 => K (.v (.bool r0)) []) fuel)
  | 0 => rfl
  | fuel + 1 => by
    have ih := runs_tutorref01_Lists K fuel
    funext a b i
    refine (step_tutorref01_Lists_4 _ K a b i).trans ?_
    rw [ih]
    rfl

def S_tutorref01_Lists (l_tutorref01_Lists : {R : Type} → (List (List Int)) → (List (List Int)) → (Bool → Option R) → Option R) : Sum := ⟨[], fun {R} args ob K => match args, ob with
  | [.rd ⟨false, 22, (.sl 3 (.int .i64)), a⟩, .rd ⟨false, 22, (.sl 3 (.int .i64)), b⟩], [] => l_tutorref01_Lists a b (fun r0 => K (.v (.bool r0)) [])
  | _, _ => none⟩

theorem sound_tutorref01_Lists : Sound Try.prog 37 (S_tutorref01_Lists @l_tutorref01_Lists) := by
  refine fn_sound (cuts := cuts_tutorref01_Lists) (fn := Try.f37) (Γ := (T_tutorref01_Lists @l_tutorref01_Same)) wide right_T_tutorref01_Lists Try.func37 fun {R} K r args ob h => ?_
  unfold S_tutorref01_Lists at h
  dsimp only at h
  split at h
  · obtain ⟨n, hn⟩ := ok_tutorref01_Lists _ _ _ h
    refine ⟨Nat.le_of_ble_eq_true (by kernel_rfl), n, (entry_tutorref01_Lists n K _ _).trans ?_⟩
    rw [(runs_tutorref01_Lists K n)]
    exact hn
  · cases h

theorem call_tutorref01_Lists : Callable Try.prog 37 := ⟨_, Try.func37, by kernel_rfl, by kernel_rfl⟩

def T_tutorref01_Suffixes : FuncId → Option Sum := G0

theorem right_T_tutorref01_Suffixes : Right Try.prog T_tutorref01_Suffixes := right_G0

abbrev cuts_tutorref01_Suffixes : Cuts := [(3, [0, 3, 4])]

theorem gstep_tutorref01_Suffixes_3 {R : Type} (g : List Item → St → Option R) (K : AV → List O → Option R) (w : List Int) (i : Int) (o0 : List (List Int)) :
    runSeg Try.prog T_tutorref01_Suffixes cuts_tutorref01_Suffixes 0 g (finish Try.prog Try.f39 0 K) (at' Try.f39 3) ⟨fr0 20 [(0, .rd ⟨false, 3, (.int .i64), w⟩), (3, .nst 0), (4, .v (.int .i64 i))], [.nst ⟨true, 22, (.sl 3 (.int .i64)), o0⟩]⟩ =
    (fun (g39_3 : (List Int) → Int → (List (List Int)) → Option R) (K0 : (List (List Int)) → Option R) (w : List Int) (i : Int) (o0 : List (List Int)) =>
    bi (decide (i ≥ 0))
     (bi (decide (0 ≤ i ∧ i ≤ ((w.length : Nat) : Int)))
      (bi (decide ((([] : List Int).length + ((w.drop i.toNat).take (w.length - i.toNat)).length) * 8 ≤ lim))
       (bi (decide ((o0.length + [([] : List Int) ++ ((w.drop i.toNat).take (w.length - i.toNat))].length) * 24 ≤ lim))
        (g39_3 w (IntKind.i64.wrap (i - 1)) (o0 ++ [([] : List Int) ++ ((w.drop i.toNat).take (w.length - i.toNat))]))
        none)
       none)
      none)
     (K0 o0)) (fun w i o0 => g (at' Try.f39 3) ⟨fr0 20 [(0, .rd ⟨false, 3, (.int .i64), w⟩), (3, .nst 0), (4, .v (.int .i64 i))], [.nst ⟨true, 22, (.sl 3 (.int .i64)), o0⟩]⟩) (fun r0 => K (.nst 0) [.nst ⟨true, 22, (.sl 3 (.int .i64)), r0⟩]) w i o0 := by kernel_rfl

theorem step_tutorref01_Suffixes_3 {R : Type} (g : List Item → St → Option R) (K : AV → List O → Option R) (w : List Int) (i : Int) (o0 : List (List Int)) :
    runSeg Try.prog T_tutorref01_Suffixes cuts_tutorref01_Suffixes 0 g (finish Try.prog Try.f39 0 K) (at' Try.f39 3) ⟨fr0 20 [(0, .rd ⟨false, 3, (.int .i64), w⟩), (3, .nst 0), (4, .v (.int .i64 i))], [.nst ⟨true, 22, (.sl 3 (.int .i64)), o0⟩]⟩ =
    s_tutorref01_Suffixes_3 (fun w i o0 => g (at' Try.f39 3) ⟨fr0 20 [(0, .rd ⟨false, 3, (.int .i64), w⟩), (3, .nst 0), (4, .v (.int .i64 i))], [.nst ⟨true, 22, (.sl 3 (.int .i64)), o0⟩]⟩) (fun r0 => K (.nst 0) [.nst ⟨true, 22, (.sl 3 (.int .i64)), r0⟩]) w i o0 := gstep_tutorref01_Suffixes_3 g K w i o0

theorem gentry_tutorref01_Suffixes {R : Type} (fuel : Nat) (K : AV → List O → Option R) (w : List Int) :
    fnRun Try.prog T_tutorref01_Suffixes cuts_tutorref01_Suffixes Try.f39 fuel [.rd ⟨false, 3, (.int .i64), w⟩] [] K =
    (fun (g39_3 : (List Int) → Int → (List (List Int)) → Option R) (K0 : (List (List Int)) → Option R) (w : List Int) =>
    g39_3 w (w.length : Int) ([] : List (List Int))) (fun w i o0 => (runO Try.prog T_tutorref01_Suffixes cuts_tutorref01_Suffixes 0 (finish Try.prog Try.f39 0 K) fuel) (at' Try.f39 3) ⟨fr0 20 [(0, .rd ⟨false, 3, (.int .i64), w⟩), (3, .nst 0), (4, .v (.int .i64 i))], [.nst ⟨true, 22, (.sl 3 (.int .i64)), o0⟩]⟩) (fun r0 => K (.nst 0) [.nst ⟨true, 22, (.sl 3 (.int .i64)), r0⟩]) w := by kernel_rfl

theorem entry_tutorref01_Suffixes {R : Type} (fuel : Nat) (K : AV → List O → Option R) (w : List Int) :
    fnRun Try.prog T_tutorref01_Suffixes cuts_tutorref01_Suffixes Try.f39 fuel [.rd ⟨false, 3, (.int .i64), w⟩] [] K =
    e_tutorref01_Suffixes (fun w i o0 => (runO Try.prog T_tutorref01_Suffixes cuts_tutorref01_Suffixes 0 (finish Try.prog Try.f39 0 K) fuel) (at' Try.f39 3) ⟨fr0 20 [(0, .rd ⟨false, 3, (.int .i64), w⟩), (3, .nst 0), (4, .v (.int .i64 i))], [.nst ⟨true, 22, (.sl 3 (.int .i64)), o0⟩]⟩) (fun r0 => K (.nst 0) [.nst ⟨true, 22, (.sl 3 (.int .i64)), r0⟩]) w := gentry_tutorref01_Suffixes fuel K w

theorem runs_tutorref01_Suffixes {R : Type} (K : AV → List O → Option R) : ∀ fuel : Nat,
    (fun w i o0 => (runO Try.prog T_tutorref01_Suffixes cuts_tutorref01_Suffixes 0 (finish Try.prog Try.f39 0 K) fuel) (at' Try.f39 3) ⟨fr0 20 [(0, .rd ⟨false, 3, (.int .i64), w⟩), (3, .nst 0), (4, .v (.int .i64 i))], [.nst ⟨true, 22, (.sl 3 (.int .i64)), o0⟩]⟩) = (run_tutorref01_Suffixes (fun r0 => K (.nst 0) [.nst ⟨true, 22, (.sl 3 (.int .i64)), r0⟩]) fuel)
  | 0 => rfl
  | fuel + 1 => by
    have ih := runs_tutorref01_Suffixes K fuel
    funext w i o0
    refine (step_tutorref01_Suffixes_3 _ K w i o0).trans ?_
    rw [ih]
    rfl

def S_tutorref01_Suffixes (l_tutorref01_Suffixes : {R : Type} → (List Int) → ((List (List Int)) → Option R) → Option R) : Sum := ⟨[], fun {R} args ob K => match args, ob with
  | [.rd ⟨false, 3, (.int .i64), w⟩], [] => l_tutorref01_Suffixes w (fun r0 => K (.nst 0) [.nst ⟨true, 22, (.sl 3 (.int .i64)), r0⟩])
  | _, _ => none⟩

theorem sound_tutorref01_Suffixes : Sound Try.prog 39 (S_tutorref01_Suffixes @l_tutorref01_Suffixes) := by
  refine fn_sound (cuts := cuts_tutorref01_Suffixes) (fn := Try.f39) (Γ := T_tutorref01_Suffixes) wide right_T_tutorref01_Suffixes Try.func39 fun {R} K r args ob h => ?_
  unfold S_tutorref01_Suffixes at h
  dsimp only at h
  split at h
  · obtain ⟨n, hn⟩ := ok_tutorref01_Suffixes _ _ h
    refine ⟨Nat.le_of_ble_eq_true (by kernel_rfl), n, (entry_tutorref01_Suffixes n K _).trans ?_⟩
    rw [(runs_tutorref01_Suffixes K n)]
    exact hn
  · cases h

theorem call_tutorref01_Suffixes : Callable Try.prog 39 := ⟨_, Try.func39, by kernel_rfl, by kernel_rfl⟩

def T_tutorref01_Apart : FuncId → Option Sum := G0

theorem right_T_tutorref01_Apart : Right Try.prog T_tutorref01_Apart := right_G0

abbrev cuts_tutorref01_Apart : Cuts := [(2, [0, 3]), (5, [0, 3, 4]), (9, [0, 5]), (13, [0, 5, 6, 7]), (17, [0, 8]), (20, [0, 8, 9])]

theorem gstep_tutorref01_Apart_2 {R : Type} (g : List Item → St → Option R) (K : AV → List O → Option R) (i : Int) (o0 : List (List Int)) :
    runSeg Try.prog T_tutorref01_Apart cuts_tutorref01_Apart 1 g (finish Try.prog Try.f40 1 K) (at' Try.f40 2) ⟨fr0 77 [(0, .nst 0), (3, .v (.int .i64 i))], [.nst ⟨false, 22, (.sl 3 (.int .i64)), o0⟩]⟩ =
    (fun (g40_2 : Int → (List (List Int)) → Option R) (g40_5 : Int → Int → (List (List Int)) → Option R) (g40_9 : Int → (List (List Int)) → Option R) (g40_13 : Int → Nat → Int → (List (List Int)) → Option R) (g40_17 : Int → (List (List Int)) → Option R) (g40_13b : Int → Int → (List (List Int)) → Nat → Nat → Option R) (g40_20 : Int → Int → (List (List Int)) → Option R) (K0 : Bool → (List (List Int)) → Option R) (i : Int) (o0 : List (List Int)) =>
    bi (decide (i < (o0.length : Int)))
     (g40_5 i 0 o0)
     (g40_9 0 o0)) (fun i o0 => g (at' Try.f40 2) ⟨fr0 77 [(0, .nst 0), (3, .v (.int .i64 i))], [.nst ⟨false, 22, (.sl 3 (.int .i64)), o0⟩]⟩) (fun i k o0 => g (at' Try.f40 5) ⟨fr0 77 [(0, .nst 0), (3, .v (.int .i64 i)), (4, .v (.int .i64 k))], [.nst ⟨false, 22, (.sl 3 (.int .i64)), o0⟩]⟩) (fun i o0 => g (at' Try.f40 9) ⟨fr0 77 [(0, .nst 0), (5, .v (.int .i64 i))], [.nst ⟨false, 22, (.sl 3 (.int .i64)), o0⟩]⟩) (fun i x k o0 => g (at' Try.f40 13) ⟨fr0 77 [(0, .nst 0), (5, .v (.int .i64 i)), (6, .inn 0 x), (7, .v (.int .i64 k))], [.nst ⟨false, 22, (.sl 3 (.int .i64)), o0⟩]⟩) (fun i o0 => g (at' Try.f40 17) ⟨fr0 77 [(0, .nst 0), (8, .v (.int .i64 i))], [.nst ⟨false, 22, (.sl 3 (.int .i64)), o0⟩]⟩) (fun i k o0 o1 o1_1 => g (at' Try.f40 13) ⟨fr0 77 [(0, .nst 0), (5, .v (.int .i64 i)), (6, .grn 1), (7, .v (.int .i64 k))], [.nst ⟨false, 22, (.sl 3 (.int .i64)), o0⟩, .grn 0 o1 3 1 o1_1]⟩) (fun i k o0 => g (at' Try.f40 20) ⟨fr0 77 [(0, .nst 0), (8, .v (.int .i64 i)), (9, .v (.int .i64 k))], [.nst ⟨false, 22, (.sl 3 (.int .i64)), o0⟩]⟩) (fun r0 r1 => K (.v (.bool r0)) [.nst ⟨false, 22, (.sl 3 (.int .i64)), r1⟩]) i o0 := by kernel_rfl

theorem step_tutorref01_Apart_2 {R : Type} (g : List Item → St → Option R) (K : AV → List O → Option R) (i : Int) (o0 : List (List Int)) :
    runSeg Try.prog T_tutorref01_Apart cuts_tutorref01_Apart 1 g (finish Try.prog Try.f40 1 K) (at' Try.f40 2) ⟨fr0 77 [(0, .nst 0), (3, .v (.int .i64 i))], [.nst ⟨false, 22, (.sl 3 (.int .i64)), o0⟩]⟩ =
    s_tutorref01_Apart_2 (fun i o0 => g (at' Try.f40 2) ⟨fr0 77 [(0, .nst 0), (3, .v (.int .i64 i))], [.nst ⟨false, 22, (.sl 3 (.int .i64)), o0⟩]⟩) (fun i k o0 => g (at' Try.f40 5) ⟨fr0 77 [(0, .nst 0), (3, .v (.int .i64 i)), (4, .v (.int .i64 k))], [.nst ⟨false, 22, (.sl 3 (.int .i64)), o0⟩]⟩) (fun i o0 => g (at' Try.f40 9) ⟨fr0 77 [(0, .nst 0), (5, .v (.int .i64 i))], [.nst ⟨false, 22, (.sl 3 (.int .i64)), o0⟩]⟩) (fun i x k o0 => g (at' Try.f40 13) ⟨fr0 77 [(0, .nst 0), (5, .v (.int .i64 i)), (6, .inn 0 x), (7, .v (.int .i64 k))], [.nst ⟨false, 22, (.sl 3 (.int .i64)), o0⟩]⟩) (fun i o0 => g (at' Try.f40 17) ⟨fr0 77 [(0, .nst 0), (8, .v (.int .i64 i))], [.nst ⟨false, 22, (.sl 3 (.int .i64)), o0⟩]⟩) (fun i k o0 o1 o1_1 => g (at' Try.f40 13) ⟨fr0 77 [(0, .nst 0), (5, .v (.int .i64 i)), (6, .grn 1), (7, .v (.int .i64 k))], [.nst ⟨false, 22, (.sl 3 (.int .i64)), o0⟩, .grn 0 o1 3 1 o1_1]⟩) (fun i k o0 => g (at' Try.f40 20) ⟨fr0 77 [(0, .nst 0), (8, .v (.int .i64 i)), (9, .v (.int .i64 k))], [.nst ⟨false, 22, (.sl 3 (.int .i64)), o0⟩]⟩) (fun r0 r1 => K (.v (.bool r0)) [.nst ⟨false, 22, (.sl 3 (.int .i64)), r1⟩]) i o0 := gstep_tutorref01_Apart_2 g K i o0

theorem gstep_tutorref01_Apart_5 {R : Type} (g : List Item → St → Option R) (K : AV → List O → Option R) (i : Int) (k : Int) (o0 : List (List Int)) :
    runSeg Try.prog T_tutorref01_Apart cuts_tutorref01_Apart 1 g (finish Try.prog Try.f40 1 K) (at' Try.f40 5) ⟨fr0 77 [(0, .nst 0), (3, .v (.int .i64 i)), (4, .v (.int .i64 k))], [.nst ⟨false, 22, (.sl 3 (.int .i64)), o0⟩]⟩ =
    (fun (g40_2 : Int → (List (List Int)) → Option R) (g40_5 : Int → Int → (List (List Int)) → Option R) (g40_9 : Int → (List (List Int)) → Option R) (g40_13 : Int → Nat → Int → (List (List Int)) → Option R) (g40_17 : Int → (List (List Int)) → Option R) (g40_13b : Int → Int → (List (List Int)) → Nat → Nat → Option R) (g40_20 : Int → Int → (List (List Int)) → Option R) (K0 : Bool → (List (List Int)) → Option R) (i : Int) (k : Int) (o0 : List (List Int)) =>
    bi (decide (0 ≤ i ∧ i < ((o0.length : Nat) : Int)))
     (bi (decide (k < ((o0.getD i.toNat []).length : Int)))
      (bi (decide (0 ≤ i ∧ i < ((o0.length : Nat) : Int)))
       (bi (decide (0 ≤ k ∧ k < (((o0.getD i.toNat []).length : Nat) : Int)))
        (g40_5 i (IntKind.i64.wrap (k + 1)) (o0.set i.toNat ((o0.getD i.toNat []).set k.toNat (IntKind.i64.wrap ((-1000) - i)))))
        none)
       none)
      (g40_2 (IntKind.i64.wrap (i + 1)) o0))
     none) (fun i o0 => g (at' Try.f40 2) ⟨fr0 77 [(0, .nst 0), (3, .v (.int .i64 i))], [.nst ⟨false, 22, (.sl 3 (.int .i64)), o0⟩]⟩) (fun i k o0 => g (at' Try.f40 5) ⟨fr0 77 [(0, .nst 0), (3, .v (.int .i64 i)), (4, .v (.int .i64 k))], [.nst ⟨false, 22, (.sl 3 (.int .i64)), o0⟩]⟩) (fun i o0 => g (at' Try.f40 9) ⟨fr0 77 [(0, .nst 0), (5, .v (.int .i64 i))], [.nst ⟨false, 22, (.sl 3 (.int .i64)), o0⟩]⟩) (fun i x k o0 => g (at' Try.f40 13) ⟨fr0 77 [(0, .nst 0), (5, .v (.int .i64 i)), (6, .inn 0 x), (7, .v (.int .i64 k))], [.nst ⟨false, 22, (.sl 3 (.int .i64)), o0⟩]⟩) (fun i o0 => g (at' Try.f40 17) ⟨fr0 77 [(0, .nst 0), (8, .v (.int .i64 i))], [.nst ⟨false, 22, (.sl 3 (.int .i64)), o0⟩]⟩) (fun i k o0 o1 o1_1 => g (at' Try.f40 13) ⟨fr0 77 [(0, .nst 0), (5, .v (.int .i64 i)), (6, .grn 1), (7, .v (.int .i64 k))], [.nst ⟨false, 22, (.sl 3 (.int .i64)), o0⟩, .grn 0 o1 3 1 o1_1]⟩) (fun i k o0 => g (at' Try.f40 20) ⟨fr0 77 [(0, .nst 0), (8, .v (.int .i64 i)), (9, .v (.int .i64 k))], [.nst ⟨false, 22, (.sl 3 (.int .i64)), o0⟩]⟩) (fun r0 r1 => K (.v (.bool r0)) [.nst ⟨false, 22, (.sl 3 (.int .i64)), r1⟩]) i k o0 := by kernel_rfl

theorem step_tutorref01_Apart_5 {R : Type} (g : List Item → St → Option R) (K : AV → List O → Option R) (i : Int) (k : Int) (o0 : List (List Int)) :
    runSeg Try.prog T_tutorref01_Apart cuts_tutorref01_Apart 1 g (finish Try.prog Try.f40 1 K) (at' Try.f40 5) ⟨fr0 77 [(0, .nst 0), (3, .v (.int .i64 i)), (4, .v (.int .i64 k))], [.nst ⟨false, 22, (.sl 3 (.int .i64)), o0⟩]⟩ =
    s_tutorref01_Apart_5 (fun i o0 => g (at' Try.f40 2) ⟨fr0 77 [(0, .nst 0), (3, .v (.int .i64 i))], [.nst ⟨false, 22, (.sl 3 (.int .i64)), o0⟩]⟩) (fun i k o0 => g (at' Try.f40 5) ⟨fr0 77 [(0, .nst 0), (3, .v (.int .i64 i)), (4, .v (.int .i64 k))], [.nst ⟨false, 22, (.sl 3 (.int .i64)), o0⟩]⟩) (fun i o0 => g (at' Try.f40 9) ⟨fr0 77 [(0, .nst 0), (5, .v (.int .i64 i))], [.nst ⟨false, 22, (.sl 3 (.int .i64)), o0⟩]⟩) (fun i x k o0 => g (at' Try.f40 13) ⟨fr0 77 [(0, .nst 0), (5, .v (.int .i64 i)), (6, .inn 0 x), (7, .v (.int .i64 k))], [.nst ⟨false, 22, (.sl 3 (.int .i64)), o0⟩]⟩) (fun i o0 => g (at' Try.f40 17) ⟨fr0 77 [(0, .nst 0), (8, .v (.int .i64 i))], [.nst ⟨false, 22, (.sl 3 (.int .i64)), o0⟩]⟩) (fun i k o0 o1 o1_1 => g (at' Try.f40 13) ⟨fr0 77 [(0, .nst 0), (5, .v (.int .i64 i)), (6, .grn 1), (7, .v (.int .i64 k))], [.nst ⟨false, 22, (.sl 3 (.int .i64)), o0⟩, .grn 0 o1 3 1 o1_1]⟩) (fun i k o0 => g (at' Try.f40 20) ⟨fr0 77 [(0, .nst 0), (8, .v (.int .i64 i)), (9, .v (.int .i64 k))], [.nst ⟨false, 22, (.sl 3 (.int .i64)), o0⟩]⟩) (fun r0 r1 => K (.v (.bool r0)) [.nst ⟨false, 22, (.sl 3 (.int .i64)), r1⟩]) i k o0 := gstep_tutorref01_Apart_5 g K i k o0

theorem gstep_tutorref01_Apart_9 {R : Type} (g : List Item → St → Option R) (K : AV → List O → Option R) (i : Int) (o0 : List (List Int)) :
    runSeg Try.prog T_tutorref01_Apart cuts_tutorref01_Apart 1 g (finish Try.prog Try.f40 1 K) (at' Try.f40 9) ⟨fr0 77 [(0, .nst 0), (5, .v (.int .i64 i))], [.nst ⟨false, 22, (.sl 3 (.int .i64)), o0⟩]⟩ =
    (fun (g40_2 : Int → (List (List Int)) → Option R) (g40_5 : Int → Int → (List (List Int)) → Option R) (g40_9 : Int → (List (List Int)) → Option R) (g40_13 : Int → Nat → Int → (List (List Int)) → Option R) (g40_17 : Int → (List (List Int)) → Option R) (g40_13b : Int → Int → (List (List Int)) → Nat → Nat → Option R) (g40_20 : Int → Int → (List (List Int)) → Option R) (K0 : Bool → (List (List Int)) → Option R) (i : Int) (o0 : List (List Int)) =>
    bi (decide (i < (o0.length : Int)))
     (bi (decide (0 ≤ i ∧ i < ((o0.length : Nat) : Int)))
      (g40_13 i i.toNat 0 o0)
      none)
     (g40_17 0 o0)) (fun i o0 => g (at' Try.f40 2) ⟨fr0 77 [(0, .nst 0), (3, .v (.int .i64 i))], [.nst ⟨false, 22, (.sl 3 (.int .i64)), o0⟩]⟩) (fun i k o0 => g (at' Try.f40 5) ⟨fr0 77 [(0, .nst 0), (3, .v (.int .i64 i)), (4, .v (.int .i64 k))], [.nst ⟨false, 22, (.sl 3 (.int .i64)), o0⟩]⟩) (fun i o0 => g (at' Try.f40 9) ⟨fr0 77 [(0, .nst 0), (5, .v (.int .i64 i))], [.nst ⟨false, 22, (.sl 3 (.int .i64)), o0⟩]⟩) (fun i x k o0 => g (at' Try.f40 13) ⟨fr0 77 [(0, .nst 0), (5, .v (.int .i64 i)), (6, .inn 0 x), (7, .v (.int .i64 k))], [.nst ⟨false, 22, (.sl 3 (.int .i64)), o0⟩]⟩) (fun i o0 => g (at' Try.f40 17) ⟨fr0 77 [(0, .nst 0), (8, .v (.int .i64 i))], [.nst ⟨false, 22, (.sl 3 (.int .i64)), o0⟩]⟩) (fun i k o0 o1 o1_1 => g (at' Try.f40 13) ⟨fr0 77 [(0, .nst 0), (5, .v (.int .i64 i)), (6, .grn 1), (7, .v (.int .i64 k))], [.nst ⟨false, 22, (.sl 3 (.int .i64)), o0⟩, .grn 0 o1 3 1 o1_1]⟩) (fun i k o0 => g (at' Try.f40 20) ⟨fr0 77 [(0, .nst 0), (8, .v (.int .i64 i)), (9, .v (.int .i64 k))], [.nst ⟨false, 22, (.sl 3 (.int .i64)), o0⟩]⟩) (fun r0 r1 => K (.v (.bool r0)) [.nst ⟨false, 22, (.sl 3 (.int .i64)), r1⟩]) i o0 := by kernel_rfl

theorem step_tutorref01_Apart_9 {R : Type} (g : List Item → St → Option R) (K : AV → List O → Option R) (i : Int) (o0 : List (List Int)) :
    runSeg Try.prog T_tutorref01_Apart cuts_tutorref01_Apart 1 g (finish Try.prog Try.f40 1 K) (at' Try.f40 9) ⟨fr0 77 [(0, .nst 0), (5, .v (.int .i64 i))], [.nst ⟨false, 22, (.sl 3 (.int .i64)), o0⟩]⟩ =
    s_tutorref01_Apart_9 (fun i o0 => g (at' Try.f40 2) ⟨fr0 77 [(0, .nst 0), (3, .v (.int .i64 i))], [.nst ⟨false, 22, (.sl 3 (.int .i64)), o0⟩]⟩) (fun i k o0 => g (at' Try.f40 5) ⟨fr0 77 [(0, .nst 0), (3, .v (.int .i64 i)), (4, .v (.int .i64 k))], [.nst ⟨false, 22, (.sl 3 (.int .i64)), o0⟩]⟩) (fun i o0 => g (at' Try.f40 9) ⟨fr0 77 [(0, .nst 0), (5, .v (.int .i64 i))], [.nst ⟨false, 22, (.sl 3 (.int .i64)), o0⟩]⟩) (fun i x k o0 => g (at' Try.f40 13) ⟨fr0 77 [(0, .nst 0), (5, .v (.int .i64 i)), (6, .inn 0 x), (7, .v (.int .i64 k))], [.nst ⟨false, 22, (.sl 3 (.int .i64)), o0⟩]⟩) (fun i o0 => g (at' Try.f40 17) ⟨fr0 77 [(0, .nst 0), (8, .v (.int .i64 i))], [.nst ⟨false, 22, (.sl 3 (.int .i64)), o0⟩]⟩) (fun i k o0 o1 o1_1 => g (at' Try.f40 13) ⟨fr0 77 [(0, .nst 0), (5, .v (.int .i64 i)), (6, .grn 1), (7, .v (.int .i64 k))], [.nst ⟨false, 22, (.sl 3 (.int .i64)), o0⟩, .grn 0 o1 3 1 o1_1]⟩) (fun i k o0 => g (at' Try.f40 20) ⟨fr0 77 [(0, .nst 0), (8, .v (.int .i64 i)), (9, .v (.int .i64 k))], [.nst ⟨false, 22, (.sl 3 (.int .i64)), o0⟩]⟩) (fun r0 r1 => K (.v (.bool r0)) [.nst ⟨false, 22, (.sl 3 (.int .i64)), r1⟩]) i o0 := gstep_tutorref01_Apart_9 g K i o0

theorem gstep_tutorref01_Apart_13a {R : Type} (g : List Item → St → Option R) (K : AV → List O → Option R) (i : Int) (x : Nat) (k : Int) (o0 : List (List Int)) :
    runSeg Try.prog T_tutorref01_Apart cuts_tutorref01_Apart 1 g (finish Try.prog Try.f40 1 K) (at' Try.f40 13) ⟨fr0 77 [(0, .nst 0), (5, .v (.int .i64 i)), (6, .inn 0 x), (7, .v (.int .i64 k))], [.nst ⟨false, 22, (.sl 3 (.int .i64)), o0⟩]⟩ =
    (fun (g40_2 : Int → (List (List Int)) → Option R) (g40_5 : Int → Int → (List (List Int)) → Option R) (g40_9 : Int → (List (List Int)) → Option R) (g40_13 : Int → Nat → Int → (List (List Int)) → Option R) (g40_17 : Int → (List (List Int)) → Option R) (g40_13b : Int → Int → (List (List Int)) → Nat → Nat → Option R) (g40_20 : Int → Int → (List (List Int)) → Option R) (K0 : Bool → (List (List Int)) → Option R) (i : Int) (x : Nat) (k : Int) (o0 : List (List Int)) =>
    bi (decide (k < 6))
     (bi (decide (((o0.getD x []).length + [IntKind.i64.wrap ((-5000) - i)].length) * 8 ≤ lim))
      (g40_13b i (IntKind.i64.wrap (k + 1)) o0 x ((o0.getD x []).length + [IntKind.i64.wrap ((-5000) - i)].length))
      none)
     (g40_9 (IntKind.i64.wrap (i + 1)) o0)) (fun i o0 => g (at' Try.f40 2) ⟨fr0 77 [(0, .nst 0), (3, .v (.int .i64 i))], [.nst ⟨false, 22, (.sl 3 (.int .i64)), o0⟩]⟩) (fun i k o0 => g (at' Try.f40 5) ⟨fr0 77 [(0, .nst 0), (3, .v (.int .i64 i)), (4, .v (.int .i64 k))], [.nst ⟨false, 22, (.sl 3 (.int .i64)), o0⟩]⟩) (fun i o0 => g (at' Try.f40 9) ⟨fr0 77 [(0, .nst 0), (5, .v (.int .i64 i))], [.nst ⟨false, 22, (.sl 3 (.int .i64)), o0⟩]⟩) (fun i x k o0 => g (at' Try.f40 13) ⟨fr0 77 [(0, .nst 0), (5, .v (.int .i64 i)), (6, .inn 0 x), (7, .v (.int .i64 k))], [.nst ⟨false, 22, (.sl 3 (.int .i64)), o0⟩]⟩) (fun i o0 => g (at' Try.f40 17) ⟨fr0 77 [(0, .nst 0), (8, .v (.int .i64 i))], [.nst ⟨false, 22, (.sl 3 (.int .i64)), o0⟩]⟩) (fun i k o0 o1 o1_1 => g (at' Try.f40 13) ⟨fr0 77 [(0, .nst 0), (5, .v (.int .i64 i)), (6, .grn 1), (7, .v (.int .i64 k))], [.nst ⟨false, 22, (.sl 3 (.int .i64)), o0⟩, .grn 0 o1 3 1 o1_1]⟩) (fun i k o0 => g (at' Try.f40 20) ⟨fr0 77 [(0, .nst 0), (8, .v (.int .i64 i)), (9, .v (.int .i64 k))], [.nst ⟨false, 22, (.sl 3 (.int .i64)), o0⟩]⟩) (fun r0 r1 => K (.v (.bool r0)) [.nst ⟨false, 22, (.sl 3 (.int .i64)), r1⟩]) i x k o0 := by kernel_rfl

theorem step_tutorref01_Apart_13a {R : Type} (g : List Item → St → Option R) (K : AV → List O → Option R) (i : Int) (x : Nat) (k : Int) (o0 : List (List Int)) :
    runSeg Try.prog T_tutorref01_Apart cuts_tutorref01_Apart 1 g (finish Try.prog Try.f40 1 K) (at' Try.f40 13) ⟨fr0 77 [(0, .nst 0), (5, .v (.int .i64 i)), (6, .inn 0 x), (7, .v (.int .i64 k))], [.nst ⟨false, 22, (.sl 3 (.int .i64)), o0⟩]⟩ =
    s_tutorref01_Apart_13a (fun i o0 => g (at' Try.f40 2) ⟨fr0 77 [(0, .nst 0), (3, .v (.int .i64 i))], [.nst ⟨false, 22, (.sl 3 (.int .i64)), o0⟩]⟩) (fun i k o0 => g (at' Try.f40 5) ⟨fr0 77 [(0, .nst 0), (3, .v (.int .i64 i)), (4, .v (.int .i64 k))], [.nst ⟨false, 22, (.sl 3 (.int .i64)), o0⟩]⟩) (fun i o0 => g (at' Try.f40 9) ⟨fr0 77 [(0, .nst 0), (5, .v (.int .i64 i))], [.nst ⟨false, 22, (.sl 3 (.int .i64)), o0⟩]⟩) (fun i x k o0 => g (at' Try.f40 13) ⟨fr0 77 [(0, .nst 0), (5, .v (.int .i64 i)), (6, .inn 0 x), (7, .v (.int .i64 k))], [.nst ⟨false, 22, (.sl 3 (.int .i64)), o0⟩]⟩) (fun i o0 => g (at' Try.f40 17) ⟨fr0 77 [(0, .nst 0), (8, .v (.int .i64 i))], [.nst ⟨false, 22, (.sl 3 (.int .i64)), o0⟩]⟩) (fun i k o0 o1 o1_1 => g (at' Try.f40 13) ⟨fr0 77 [(0, .nst 0), (5, .v (.int .i64 i)), (6, .grn 1), (7, .v (.int .i64 k))], [.nst ⟨false, 22, (.sl 3 (.int .i64)), o0⟩, .grn 0 o1 3 1 o1_1]⟩) (fun i k o0 => g (at' Try.f40 20) ⟨fr0 77 [(0, .nst 0), (8, .v (.int .i64 i)), (9, .v (.int .i64 k))], [.nst ⟨false, 22, (.sl 3 (.int .i64)), o0⟩]⟩) (fun r0 r1 => K (.v (.bool r0)) [.nst ⟨false, 22, (.sl 3 (.int .i64)), r1⟩]) i x k o0 := gstep_tutorref01_Apart_13a g K i x k o0

theorem gstep_tutorref01_Apart_17 {R : Type} (g : List Item → St → Option R) (K : AV → List O → Option R) (i : Int) (o0 : List (List Int)) :
    runSeg Try.prog T_tutorref01_Apart cuts_tutorref01_Apart 1 g (finish Try.prog Try.f40 1 K) (at' Try.f40 17) ⟨fr0 77 [(0, .nst 0), (8, .v (.int .i64 i))], [.nst ⟨false, 22, (.sl 3 (.int .i64)), o0⟩]⟩ =
    (fun (g40_2 : Int → (List (List Int)) → Option R) (g40_5 : Int → Int → (List (List Int)) → Option R) (g40_9 : Int → (List (List Int)) → Option R) (g40_13 : Int → Nat → Int → (List (List Int)) → Option R) (g40_17 : Int → (List (List Int)) → Option R) (g40_13b : Int → Int → (List (List Int)) → Nat → Nat → Option R) (g40_20 : Int → Int → (List (List Int)) → Option R) (K0 : Bool → (List (List Int)) → Option R) (i : Int) (o0 : List (List Int)) =>
    bi (decide (i < (o0.length : Int)))
     (g40_20 i 0 o0)
     (K0 true o0)) (fun i o0 => g (at' Try.f40 2) ⟨fr0 77 [(0, .nst 0), (3, .v (.int .i64 i))], [.nst ⟨false, 22, (.sl 3 (.int .i64)), o0⟩]⟩) (fun i k o0 => g (at' Try.f40 5) ⟨fr0 77 [(0, .nst 0), (3, .v (.int .i64 i)), (4, .v (.int .i64 k))], [.nst ⟨false, 22, (.sl 3 (.int .i64)), o0⟩]⟩) (fun i o0 => g (at' Try.f40 9) ⟨fr0 77 [(0, .nst 0), (5, .v (.int .i64 i))], [.nst ⟨false, 22, (.sl 3 (.int .i64)), o0⟩]⟩) (fun i x k o0 => g (at' Try.f40 13) ⟨fr0 77 [(0, .nst 0), (5, .v (.int .i64 i)), (6, .inn 0 x), (7, .v (.int .i64 k))], [.nst ⟨false, 22, (.sl 3 (.int .i64)), o0⟩]⟩) (fun i o0 => g (at' Try.f40 17) ⟨fr0 77 [(0, .nst 0), (8, .v (.int .i64 i))], [.nst ⟨false, 22, (.sl 3 (.int .i64)), o0⟩]⟩) (fun i k o0 o1 o1_1 => g (at' Try.f40 13) ⟨fr0 77 [(0, .nst 0), (5, .v (.int .i64 i)), (6, .grn 1), (7, .v (.int .i64 k))], [.nst ⟨false, 22, (.sl 3 (.int .i64)), o0⟩, .grn 0 o1 3 1 o1_1]⟩) (fun i k o0 => g (at' Try.f40 20) ⟨fr0 77 [(0, .nst 0), (8, .v (.int .i64 i)), (9, .v (.int .i64 k))], [.nst ⟨false, 22, (.sl 3 (.int .i64)), o0⟩]⟩) (fun r0 r1 => K (.v (.bool r0)) [.nst ⟨false, 22, (.sl 3 (.int .i64)), r1⟩]) i o0 := by kernel_rfl

theorem step_tutorref01_Apart_17 {R : Type} (g : List Item → St → Option R) (K : AV → List O → Option R) (i : Int) (o0 : List (List Int)) :
    runSeg Try.prog T_tutorref01_Apart cuts_tutorref01_Apart 1 g (finish Try.prog Try.f40 1 K) (at' Try.f40 17) ⟨fr0 77 [(0, .nst 0), (8, .v (.int .i64 i))], [.nst ⟨false, 22, (.sl 3 (.int .i64)), o0⟩]⟩ =
    s_tutorref01_Apart_17 (fun i o0 => g (at' Try.f40 2) ⟨fr0 77 [(0, .nst 0), (3, .v (.int .i64 i))], [.nst ⟨false, 22, (.sl 3 (.int .i64)), o0⟩]⟩) (fun i k o0 => g (at' Try.f40 5) ⟨fr0 77 [(0, .nst 0), (3, .v (.int .i64 i)), (4, .v (.int .i64 k))], [.nst ⟨false, 22, (.sl 3 (.int .i64)), o0⟩]⟩) (fun i o0 => g (at' Try.f40 9) ⟨fr0 77 [(0, .nst 0), (5, .v (.int .i64 i))], [.nst ⟨false, 22, (.sl 3 (.int .i64)), o0⟩]⟩) (fun i x k o0 => g (at' Try.f40 13) ⟨fr0 77 [(0, .nst 0), (5, .v (.int .i64 i)), (6, .inn 0 x), (7, .v (.int .i64 k))], [.nst ⟨false, 22, (.sl 3 (.int .i64)), o0⟩]⟩) (fun i o0 => g (at' Try.f40 17) ⟨fr0 77 [(0, .nst 0), (8, .v (.int .i64 i))], [.nst ⟨false, 22, (.sl 3 (.int .i64)), o0⟩]⟩) (fun i k o0 o1 o1_1 => g (at' Try.f40 13) ⟨fr0 77 [(0, .nst 0), (5, .v (.int .i64 i)), (6, .grn 1), (7, .v (.int .i64 k))], [.nst ⟨false, 22, (.sl 3 (.int .i64)), o0⟩, .grn 0 o1 3 1 o1_1]⟩) (fun i k o0 => g (at' Try.f40 20) ⟨fr0 77 [(0, .nst 0), (8, .v (.int .i64 i)), (9, .v (.int .i64 k))], [.nst ⟨false, 22, (.sl 3 (.int .i64)), o0⟩]⟩) (fun r0 r1 => K (.v (.bool r0)) [.nst ⟨false, 22, (.sl 3 (.int .i64)), r1⟩]) i o0 := gstep_tutorref01_Apart_17 g K i o0

theorem gstep_tutorref01_Apart_13b {R : Type} (g : List Item → St → Option R) (K : AV → List O → Option R) (i : Int) (k : Int) (o0 : List (List Int)) (o1 : Nat) (o1_1 : Nat) :
    runSeg Try.prog T_tutorref01_Apart cuts_tutorref01_Apart 1 g (finish Try.prog Try.f40 1 K) (at' Try.f40 13) ⟨fr0 77 [(0, .nst 0), (5, .v (.int .i64 i)), (6, .grn 1), (7, .v (.int .i64 k))], [.nst ⟨false, 22, (.sl 3 (.int .i64)), o0⟩, .grn 0 o1 3 1 o1_1]⟩ =
    (fun (g40_2 : Int → (List (List Int)) → Option R) (g40_5 : Int → Int → (List (List Int)) → Option R) (g40_9 : Int → (List (List Int)) → Option R) (g40_13 : Int → Nat → Int → (List (List Int)) → Option R) (g40_17 : Int → (List (List Int)) → Option R) (g40_13b : Int → Int → (List (List Int)) → Nat → Nat → Option R) (g40_20 : Int → Int → (List (List Int)) → Option R) (K0 : Bool → (List (List Int)) → Option R) (i : Int) (k : Int) (o0 : List (List Int)) (o1 : Nat) (o1_1 : Nat) =>
    bi (decide (k < 6))
     (bi (decide ((o1_1 + [IntKind.i64.wrap ((-5000) - i)].length) * 8 ≤ lim))
      (g40_13b i (IntKind.i64.wrap (k + 1)) o0 o1 (o1_1 + [IntKind.i64.wrap ((-5000) - i)].length))
      none)
     (g40_9 (IntKind.i64.wrap (i + 1)) o0)) (fun i o0 => g (at' Try.f40 2) ⟨fr0 77 [(0, .nst 0), (3, .v (.int .i64 i))], [.nst ⟨false, 22, (.sl 3 (.int .i64)), o0⟩]⟩) (fun i k o0 => g (at' Try.f40 5) ⟨fr0 77 [(0, .nst 0), (3, .v (.int .i64 i)), (4, .v (.int .i64 k))], [.nst ⟨false, 22, (.sl 3 (.int .i64)), o0⟩]⟩) (fun i o0 => g (at' Try.f40 9) ⟨fr0 77 [(0, .nst 0), (5, .v (.int .i64 i))], [.nst ⟨false, 22, (.sl 3 (.int .i64)), o0⟩]⟩) (fun i x k o0 => g (at' Try.f40 13) ⟨fr0 77 [(0, .nst 0), (5, .v (.int .i64 i)), (6, .inn 0 x), (7, .v (.int .i64 k))], [.nst ⟨false, 22, (.sl 3 (.int .i64)), o0⟩]⟩) (fun i o0 => g (at' Try.f40 17) ⟨fr0 77 [(0, .nst 0), (8, .v (.int .i64 i))], [.nst ⟨false, 22, (.sl 3 (.int .i64)), o0⟩]⟩) (fun i k o0 o1 o1_1 => g (at' Try.f40 13) ⟨fr0 77 [(0, .nst 0), (5, .v (.int .i64 i)), (6, .grn 1), (7, .v (.int .i64 k))], [.nst ⟨false, 22, (.sl 3 (.int .i64)), o0⟩, .grn 0 o1 3 1 o1_1]⟩) (fun i k o0 => g (at' Try.f40 20) ⟨fr0 77 [(0, .nst 0), (8, .v (.int .i64 i)), (9, .v (.int .i64 k))], [.nst ⟨false, 22, (.sl 3 (.int .i64)), o0⟩]⟩) (fun r0 r1 => K (.v (.bool r0)) [.nst ⟨false, 22, (.sl 3 (.int .i64)), r1⟩]) i k o0 o1 o1_1 := by kernel_rfl

theorem step_tutorref01_Apart_13b {R : Type} (g : List Item → St → Option R) (K : AV → List O → Option R) (i : Int) (k : Int) (o0 : List (List Int)) (o1 : Nat) (o1_1 : Nat) :
    runSeg Try.prog T_tutorref01_Apart cuts_tutorref01_Apart 1 g (finish Try.prog Try.f40 1 K) (at' Try.f40 13) ⟨fr0 77 [(0, .nst 0), (5, .v (.int .i64 i)), (6, .grn 1), (7, .v (.int .i64 k))], [.nst ⟨false, 22, (.sl 3 (.int .i64)), o0⟩, .grn 0 o1 3 1 o1_1]⟩ =
    s_tutorref01_Apart_13b (fun i o0 => g (at' Try.f40 2) ⟨fr0 77 [(0, .nst 0), (3, .v (.int .i64 i))], [.nst ⟨false, 22, (.sl 3 (.int .i64)), o0⟩]⟩) (fun i k o0 => g (at' Try.f40 5) ⟨fr0 77 [(0, .nst 0), (3, .v (.int .i64 i)), (4, .v (.int .i64 k))], [.nst ⟨false, 22, (.sl 3 (.int .i64)), o0⟩]⟩) (fun i o0 => g (at' Try.f40 9) ⟨fr0 77 [(0, .nst 0), (5, .v (.int .i64 i))], [.nst ⟨false, 22, (.sl 3 (.int .i64)), o0⟩]⟩) (fun i x k o0 => g (at' Try.f40 13) ⟨fr0 77 [(0, .nst 0), (5, .v (.int .i64 i)), (6, .inn 0 x), (7, .v (.int .i64 k))], [.nst ⟨false, 22, (.sl 3 (.int .i64)), o0⟩]⟩) (fun i o0 => g (at' Try.f40 17) ⟨fr0 77 [(0, .nst 0), (8, .v (.int .i64 i))], [.nst ⟨false, 22, (.sl 3 (.int .i64)), o0⟩]⟩) (fun i k o0 o1 o1_1 => g (at' Try.f40 13) ⟨fr0 77 [(0, .nst 0), (5, .v (.int .i64 i)), (6, .grn 1), (7, .v (.int .i64 k))], [.nst ⟨false, 22, (.sl 3 (.int .i64)), o0⟩, .grn 0 o1 3 1 o1_1]⟩) (fun i k o0 => g (at' Try.f40 20) ⟨fr0 77 [(0, .nst 0), (8, .v (.int .i64 i)), (9, .v (.int .i64 k))], [.nst ⟨false, 22, (.sl 3 (.int .i64)), o0⟩]⟩) (fun r0 r1 => K (.v (.bool r0)) [.nst ⟨false, 22, (.sl 3 (.int .i64)), r1⟩]) i k o0 o1 o1_1 := gstep_tutorref01_Apart_13b g K i k o0 o1 o1_1

theorem gstep_tutorref01_Apart_20 {R : Type} (g : List Item → St → Option R) (K : AV → List O → Option R) (i : Int) (k : Int) (o0 : List (List Int)) :
    runSeg Try.prog T_tutorref01_Apart cuts_tutorref01_Apart 1 g (finish Try.prog Try.f40 1 K) (at' Try.f40 20) ⟨fr0 77 [(0, .nst 0), (8, .v (.int .i64 i)), (9, .v (.int .i64 k))], [.nst ⟨false, 22, (.sl 3 (.int .i64)), o0⟩]⟩ =
    (fun (g40_2 : Int → (List (List Int)) → Option R) (g40_5 : Int → Int → (List (List Int)) → Option R) (g40_9 : Int → (List (List Int)) → Option R) (g40_13 : Int → Nat → Int → (List (List Int)) → Option R) (g40_17 : Int → (List (List Int)) → Option R) (g40_13b : Int → Int → (List (List Int)) → Nat → Nat → Option R) (g40_20 : Int → Int → (List (List Int)) → Option R) (K0 : Bool → (List (List Int)) → Option R) (i : Int) (k : Int) (o0 : List (List Int)) =>
    bi (decide (0 ≤ i ∧ i < ((o0.length : Nat) : Int)))
     (bi (decide (k < ((o0.getD i.toNat []).length : Int)))
      (bi (decide (0 ≤ i ∧ i < ((o0.length : Nat) : Int)))
       (bi (decide (0 ≤ k ∧ k < (((o0.getD i.toNat []).length : Nat) : Int)))
        (bi (((o0.getD i.toNat []).getD k.toNat 0) != (IntKind.i64.wrap ((-1000) - i)))
         (K0 false o0)
         (g40_20 i (IntKind.i64.wrap (k + 1)) o0))
        none)
       none)
      (g40_17 (IntKind.i64.wrap (i + 1)) o0))
     none) (fun i o0 => g (at' Try.f40 2) ⟨fr0 77 [(0, .nst 0), (3, .v (.int .i64 i))], [.nst ⟨false, 22, (.sl 3 (.int .i64)), o0⟩]⟩) (fun i k o0 => g (at' Try.f40 5) ⟨fr0 77 [(0, .nst 0), (3, .v (.int .i64 i)), (4, .v (.int .i64 k))], [.nst ⟨false, 22, (.sl 3 (.int .i64)), o0⟩]⟩) (fun i o0 => g (at' Try.f40 9) ⟨fr0 77 [(0, .nst 0), (5, .v (.int .i64 i))], [.nst ⟨false, 22, (.sl 3 (.int .i64)), o0⟩]⟩) (fun i x k o0 => g (at' Try.f40 13) ⟨fr0 77 [(0, .nst 0), (5, .v (.int .i64 i)), (6, .inn 0 x), (7, .v (.int .i64 k))], [.nst ⟨false, 22, (.sl 3 (.int .i64)), o0⟩]⟩) (fun i o0 => g (at' Try.f40 17) ⟨fr0 77 [(0, .nst 0), (8, .v (.int .i64 i))], [.nst ⟨false, 22, (.sl 3 (.int .i64)), o0⟩]⟩) (fun i k o0 o1 o1_1 => g (at' Try.f40 13) ⟨fr0 77 [(0, .nst 0), (5, .v (.int .i64 i)), (6, .grn 1), (7, .v (.int .i64 k))], [.nst ⟨false, 22, (.sl 3 (.int .i64)), o0⟩, .grn 0 o1 3 1 o1_1]⟩) (fun i k o0 => g (at' Try.f40 20) ⟨fr0 77 [(0, .nst 0), (8, .v (.int .i64 i)), (9, .v (.int .i64 k))], [.nst ⟨false, 22, (.sl 3 (.int .i64)), o0⟩]⟩) (fun r0 r1 => K (.v (.bool r0)) [.nst ⟨false, 22, (.sl 3 (.int .i64)), r1⟩]) i k o0 := by kernel_rfl

theorem step_tutorref01_Apart_20 {R : Type} (g : List Item → St → Option R) (K : AV → List O → Option R) (i : Int) (k : Int) (o0 : List (List Int)) :
    runSeg Try.prog T_tutorref01_Apart cuts_tutorref01_Apart 1 g (finish Try.prog Try.f40 1 K) (at' Try.f40 20) ⟨fr0 77 [(0, .nst 0), (8, .v (.int .i64 i)), (9, .v (.int .i64 k))], [.nst ⟨false, 22, (.sl 3 (.int .i64)), o0⟩]⟩ =
    s_tutorref01_Apart_20 (fun i o0 => g (at' Try.f40 2) ⟨fr0 77 [(0, .nst 0), (3, .v (.int .i64 i))], [.nst ⟨false, 22, (.sl 3 (.int .i64)), o0⟩]⟩) (fun i k o0 => g (at' Try.f40 5) ⟨fr0 77 [(0, .nst 0), (3, .v (.int .i64 i)), (4, .v (.int .i64 k))], [.nst ⟨false, 22, (.sl 3 (.int .i64)), o0⟩]⟩) (fun i o0 => g (at' Try.f40 9) ⟨fr0 77 [(0, .nst 0), (5, .v (.int .i64 i))], [.nst ⟨false, 22, (.sl 3 (.int .i64)), o0⟩]⟩) (fun i x k o0 => g (at' Try.f40 13) ⟨fr0 77 [(0, .nst 0), (5, .v (.int .i64 i)), (6, .inn 0 x), (7, .v (.int .i64 k))], [.nst ⟨false, 22, (.sl 3 (.int .i64)), o0⟩]⟩) (fun i o0 => g (at' Try.f40 17) ⟨fr0 77 [(0, .nst 0), (8, .v (.int .i64 i))], [.nst ⟨false, 22, (.sl 3 (.int .i64)), o0⟩]⟩) (fun i k o0 o1 o1_1 => g (at' Try.f40 13) ⟨fr0 77 [(0, .nst 0), (5, .v (.int .i64 i)), (6, .grn 1), (7, .v (.int .i64 k))], [.nst ⟨false, 22, (.sl 3 (.int .i64)), o0⟩, .grn 0 o1 3 1 o1_1]⟩) (fun i k o0 => g (at' Try.f40 20) ⟨fr0 77 [(0, .nst 0), (8, .v (.int .i64 i)), (9, .v (.int .i64 k))], [.nst ⟨false, 22, (.sl 3 (.int .i64)), o0⟩]⟩) (fun r0 r1 => K (.v (.bool r0)) [.nst ⟨false, 22, (.sl 3 (.int .i64)), r1⟩]) i k o0 := gstep_tutorref01_Apart_20 g K i k o0

theorem gentry_tutorref01_Apart {R : Type} (fuel : Nat) (K : AV → List O → Option R) (o0 : List (List Int)) :
    fnRun Try.prog T_tutorref01_Apart cuts_tutorref01_Apart Try.f40 fuel [.nst 0] [.nst ⟨false, 22, (.sl 3 (.int .i64)), o0⟩] K =
    (fun (g40_2 : Int → (List (List Int)) → Option R) (g40_5 : Int → Int → (List (List Int)) → Option R) (g40_9 : Int → (List (List Int)) → Option R) (g40_13 : Int → Nat → Int → (List (List Int)) → Option R) (g40_17 : Int → (List (List Int)) → Option R) (g40_13b : Int → Int → (List (List Int)) → Nat → Nat → Option R) (g40_20 : Int → Int → (List (List Int)) → Option R) (K0 : Bool → (List (List Int)) → Option R) (o0 : List (List Int)) =>
    g40_2 0 o0) (fun i o0 => (runO Try.prog T_tutorref01_Apart cuts_tutorref01_Apart 1 (finish Try.prog Try.f40 1 K) fuel) (at' Try.f40 2) ⟨fr0 77 [(0, .nst 0), (3, .v (.int .i64 i))], [.nst ⟨false, 22, (.sl 3 (.int .i64)), o0⟩]⟩) (fun i k o0 => (runO Try.prog T_tutorref01_Apart cuts_tutorref01_Apart 1 (finish Try.prog Try.f40 1 K) fuel) (at' Try.f40 5) ⟨fr0 77 [(0, .nst 0), (3, .v (.int .i64 i)), (4, .v (.int .i64 k))], [.nst ⟨false, 22, (.sl 3 (.int .i64)), o0⟩]⟩) (fun i o0 => (runO Try.prog T_tutorref01_Apart cuts_tutorref01_Apart 1 (finish Try.prog Try.f40 1 K) fuel) (at' Try.f40 9) ⟨fr0 77 [(0, .nst 0), (5, .v (.int .i64 i))], [.nst ⟨false, 22, (.sl 3 (.int .i64)), o0⟩]⟩) (fun i x k o0 => (runO Try.prog T_tutorref01_Apart cuts_tutorref01_Apart 1 (finish Try.prog Try.f40 1 K) fuel) (at' Try.f40 13) ⟨fr0 77 [(0, .nst 0), (5, .v (.int .i64 i)), (6, .inn 0 x), (7, .v (.int .i64 k))], [.nst ⟨false, 22, (.sl 3 (.int .i64)), o0⟩]⟩) (fun i o0 => (runO Try.prog T_tutorref01_Apart cuts_tutorref01_Apart 1 (finish Try.prog Try.f40 1 K) fuel) (at' Try.f40 17) ⟨fr0 77 [(0, .nst 0), (8, .v (.int .i64 i))], [.nst ⟨false, 22, (.sl 3 (.int .i64)), o0⟩]⟩) (fun i k o0 o1 o1_1 => (runO Try.prog T_tutorref01_Apart cuts_tutorref01_Apart 1 (finish Try.prog Try.f40 1 K) fuel) (at' Try.f40 13) ⟨fr0 77 [(0, .nst 0), (5, .v (.int .i64 i)), (6, .grn 1), (7, .v (.int .i64 k))], [.nst ⟨false, 22, (.sl 3 (.int .i64)), o0⟩, .grn 0 o1 3 1 o1_1]⟩) (fun i k o0 => (runO Try.prog T_tutorref01_Apart cuts_tutorref01_Apart 1 (finish Try.prog Try.f40 1 K) fuel) (at' Try.f40 20) ⟨fr0 77 [(0, .nst 0), (8, .v (.int .i64 i)), (9, .v (.int .i64 k))], [.nst ⟨false, 22, (.sl 3 (.int .i64)), o0⟩]⟩) (fun r0 r1 => K (.v (.bool r0)) [.nst ⟨false, 22, (.sl 3 (.int .i64)), r1⟩]) o0 := by kernel_rfl

theorem entry_tutorref01_Apart {R : Type} (fuel : Nat) (K : AV → List O → Option R) (o0 : List (List Int)) :
    fnRun Try.prog T_tutorref01_Apart cuts_tutorref01_Apart Try.f40 fuel [.nst 0] [.nst ⟨false, 22, (.sl 3 (.int .i64)), o0⟩] K =
    e_tutorref01_Apart (fun i o0 => (runO Try.prog T_tutorref01_Apart cuts_tutorref01_Apart 1 (finish Try.prog Try.f40 1 K) fuel) (at' Try.f40 2) ⟨fr0 77 [(0, .nst 0), (3, .v (.int .i64 i))], [.nst ⟨false, 22, (.sl 3 (.int .i64)), o0⟩]⟩) (fun i k o0 => (runO Try.prog T_tutorref01_Apart cuts_tutorref01_Apart 1 (finish Try.prog Try.f40 1 K) fuel) (at' Try.f40 5) ⟨fr0 77 [(0, .nst 0), (3, .v (.int .i64 i)), (4, .v (.int .i64 k))], [.nst ⟨false, 22, (.sl 3 (.int .i64)), o0⟩]⟩) (fun i o0 => (runO Try.prog T_tutorref01_Apart cuts_tutorref01_Apart 1 (finish Try.prog Try.f40 1 K) fuel) (at' Try.f40 9) ⟨fr0 77 [(0, .nst 0), (5, .v (.int .i64 i))], [.nst ⟨false, 22, (.sl 3 (.int .i64)), o0⟩]⟩) (fun i x k o0 => (runO Try.prog T_tutorref01_Apart cuts_tutorref01_Apart 1 (finish Try.prog Try.f40 1 K) fuel) (at' Try.f40 13) ⟨fr0 77 [(0, .nst 0), (5, .v (.int .i64 i)), (6, .inn 0 x), (7, .v (.int .i64 k))], [.nst ⟨false, 22, (.sl 3 (.int .i64)), o0⟩]⟩) (fun i o0 => (runO Try.prog T_tutorref01_Apart cuts_tutorref01_Apart 1 (finish Try.prog Try.f40 1 K) fuel) (at' Try.f40 17) ⟨fr0 77 [(0, .nst 0), (8, .v (.int .i64 i))], [.nst ⟨false, 22, (.sl 3 (.int .i64)), o0⟩]⟩) (fun i k o0 o1 o1_1 => (runO Try.prog T_tutorref01_Apart cuts_tutorref01_Apart 1 (finish Try.prog Try.f40 1 K) fuel) (at' Try.f40 13) ⟨fr0 77 [(0, .nst 0), (5, .v (.int .i64 i)), (6, .grn 1), (7, .v (.int .i64 k))], [.nst ⟨false, 22, (.sl 3 (.int .i64)), o0⟩, .grn 0 o1 3 1 o1_1]⟩) (fun i k o0 => (runO Try.prog T_tutorref01_Apart cuts_tutorref01_Apart 1 (finish Try.prog Try.f40 1 K) fuel) (at' Try.f40 20) ⟨fr0 77 [(0, .nst 0), (8, .v (.int .i64 i)), (9, .v (.int .i64 k))], [.nst ⟨false, 22, (.sl 3 (.int .i64)), o0⟩]⟩) (fun r0 r1 => K (.v (.bool r0)) [.nst ⟨false, 22, (.sl 3 (.int .i64)), r1⟩]) o0 := gentry_tutorref01_Apart fuel K o0

theorem runs_tutorref01_Apart {R : Type} (K : AV → List O → Option R) : ∀ fuel : Nat,
    (fun i o0 => (runO Try.prog T_tutorref01_Apart cuts_tutorref01_Apart 1 (finish Try.prog Try.f40 1 K) fuel) (at' Try.f40 2) ⟨fr0 77 [(0, .nst 0), (3, .v (.int .i64 i))], [.nst ⟨false, 22, (.sl 3 (.int .i64)), o0⟩]⟩) = (run_tutorref01_Apart (fun r0 r1 => K (.v (.bool r0)) [.nst ⟨false, 22, (.sl 3 (.int .i64)), r1⟩]) fuel).1 ∧
    (fun i k o0 => (runO Try.prog T_tutorref01_Apart cuts_tutorref01_Apart 1 (finish Try.prog Try.f40 1 K) fuel) (at' Try.f40 5) ⟨fr0 77 [(0, .nst 0), (3, .v (.int .i64 i)), (4, .v (.int .i64 k))], [.nst ⟨false, 22, (.sl 3 (.int .i64)), o0⟩]⟩) = (run_tutorref01_Apart (fun r0 r1 => K (.v (.bool r0)) [.nst ⟨false, 22, (.sl 3 (.int .i64)), r1⟩]) fuel).2.1 ∧
    (fun i o0 => (runO Try.prog T_tutorref01_Apart cuts_tutorref01_Apart 1 (finish Try.prog Try.f40 1 K) fuel) (at' Try.f40 9) ⟨fr0 77 [(0, .nst 0), (5, .v (.int .i64 i))], [.nst ⟨false, 22, (.sl 3 (.int .i64)), o0⟩]⟩) = (run_tutorref01_Apart (fun r0 r1 => K (.v (.bool r0)) [.nst ⟨false, 22, (.sl 3 (.int .i64)), r1⟩]) fuel).2.2.1 ∧
    (fun i x k o0 => (runO Try.prog T_tutorref01_Apart cuts_tutorref01_Apart 1 (finish Try.prog Try.f40 1 K) fuel) (at' Try.f40 13) ⟨fr0 77 [(0, .nst 0), (5, .v (.int .i64 i)), (6, .inn 0 x), (7, .v (.int .i64 k))], [.nst ⟨false, 22, (.sl 3 (.int .i64)), o0⟩]⟩) = (run_tutorref01_Apart (fun r0 r1 => K (.v (.bool r0)) [.nst ⟨false, 22, (.sl 3 (.int .i64)), r1⟩]) fuel).2.2.2.1 ∧
    (fun i o0 => (runO Try.prog T_tutorref01_Apart cuts_tutorref01_Apart 1 (finish Try.prog Try.f40 1 K) fuel) (at' Try.f40 17) ⟨fr0 77 [(0, .nst 0), (8, .v (.int .i64 i))], [.nst ⟨false, 22, (.sl 3 (.int .i64)), o0⟩]⟩) = (run_tutorref01_Apart (fun r0 r1 => K (.v (.bool r0)) [.nst ⟨false, 22, (.sl 3 (.int .i64)), r1⟩]) fuel).2.2.2.2.1 ∧
    (fun i k o0 o1 o1_1 => (runO Try.prog T_tutorref01_Apart cuts_tutorref01_Apart 1 (finish Try.prog Try.f40 1 K) fuel) (at' Try.f40 13) ⟨fr0 77 [(0, .nst 0), (5, .v (.int .i64 i)), (6, .grn 1), (7, .v (.int .i64 k))], [.nst ⟨false, 22, (.sl 3 (.int .i64)), o0⟩, .grn 0 o1 3 1 o1_1]⟩) = (run_tutorref01_Apart (fun r0 r1 => K (.v (.bool r0)) [.nst ⟨false, 22, (.sl 3 (.int .i64)), r1⟩]) fuel).2.2.2.2.2.1 ∧
    (fun i k o0 => (runO Try.prog T_tutorref01_Apart cuts_tutorref01_Apart 1 (finish Try.prog Try.f40 1 K) fuel) (at' Try.f40 20) ⟨fr0 77 [(0, .nst 0), (8, .v (.int .i64 i)), (9, .v (.int .i64 k))], [.nst ⟨false, 22, (.sl 3 (.int .i64)), o0⟩]⟩) = (run_tutorref01_Apart (fun r0 r1 => K (.v (.bool r0)) [.nst ⟨false, 22, (.sl 3 (.int .i64)), r1⟩]) fuel).2.2.2.2.2.2
  | 0 => ⟨rfl, rfl, rfl, rfl, rfl, rfl, rfl⟩
  | fuel + 1 => by
    have ih := runs_tutorref01_Apart K fuel
    refine ⟨?_, ?_, ?_, ?_, ?_, ?_, ?_⟩
    · funext i o0
      refine (step_tutorref01_Apart_2 _ K i o0).trans ?_
      rw [ih.1, ih.2.1, ih.2.2.1, ih.2.2.2.1, ih.2.2.2.2.1, ih.2.2.2.2.2.1, ih.2.2.2.2.2.2]
      rfl
    · funext i k o0
      refine (step_tutorref01_Apart_5 _ K i k o0).trans ?_
      rw [ih.1, ih.2.1, ih.2.2.1, ih.2.2.2.1, ih.2.2.2.2.1, ih.2.2.2.2.2.1, ih.2.2.2.2.2.2]
      rfl
    · funext i o0
      refine (step_tutorref01_Apart_9 _ K i o0).trans ?_
      rw [ih.1, ih.2.1, ih.2.2.1, ih.2.2.2.1, ih.2.2.2.2.1, ih.2.2.2.2.2.1, ih.2.2.2.2.2.2]
      rfl
    · funext i x k o0
      refine (step_tutorref01_Apart_13a _ K i x k o0).trans ?_
      rw [ih.1, ih.2.1, ih.2.2.1, ih.2.2.2.1, ih.2.2.2.2.1, ih.2.2.2.2.2.1, ih.2.2.2.2.2.2]
      rfl
    · funext i o0
      refine (step_tutorref01_Apart_17 _ K i o0).trans ?_
      rw [ih.1, ih.2.1, ih.2.2.1, ih.2.2.2.1, ih.2.2.2.2.1, ih.2.2.2.2.2.1, ih.2.2.2.2.2.2]
      rfl
    · funext i k o0 o1 o1_1
      refine (step_tutorref01_Apart_13b _ K i k o0 o1 o1_1).trans ?_
      rw [ih.1, ih.2.1, ih.2.2.1, ih.2.2.2.1, ih.2.2.2.2.1, ih.2.2.2.2.2.1, ih.2.2.2.2.2.2]
      rfl
    · funext i k o0
      refine (step_tutorref01_Apart_20 _ K i k o0).trans ?_
      rw [ih.1, ih.2.1, ih.2.2.1, ih.2.2.2.1, ih.2.2.2.2.1, ih.2.2.2.2.2.1, ih.2.2.2.2.2.2]
      rfl

def S_tutorref01_Apart (l_tutorref01_Apart : {R : Type} → (List (List Int)) → (Bool → (List (List Int)) → Option R) → Option R) : Sum := ⟨[0], fun {R} args ob K => match args, ob with
  | [.nst 0], [.nst ⟨false, 22, (.sl 3 (.int .i64)), o0⟩] => l_tutorref01_Apart o0 (fun r0 r1 => K (.v (.bool r0)) [.nst ⟨false, 22, (.sl 3 (.int .i64)), r1⟩])
  | _, _ => none⟩

theorem sound_tutorref01_Apart : Sound Try.prog 40 (S_tutorref01_Apart @l_tutorref01_Apart) := by
  refine fn_sound (cuts := cuts_tutorref01_Apart) (fn := Try.f40) (Γ := T_tutorref01_Apart) wide right_T_tutorref01_Apart Try.func40 fun {R} K r args ob h => ?_
  unfold S_tutorref01_Apart at h
  dsimp only at h
  split at h
  · obtain ⟨n, hn⟩ := ok_tutorref01_Apart _ _ h
    refine ⟨Nat.le_of_ble_eq_true (by kernel_rfl), n, (entry_tutorref01_Apart n K _).trans ?_⟩
    rw [(runs_tutorref01_Apart K n).1, (runs_tutorref01_Apart K n).2.1, (runs_tutorref01_Apart K n).2.2.1, (runs_tutorref01_Apart K n).2.2.2.1, (runs_tutorref01_Apart K n).2.2.2.2.1, (runs_tutorref01_Apart K n).2.2.2.2.2.1, (runs_tutorref01_Apart K n).2.2.2.2.2.2]
    exact hn
  · cases h

theorem call_tutorref01_Apart : Callable Try.prog 40 := ⟨_, Try.func40, by kernel_rfl, by kernel_rfl⟩

def T_tutorref01_Kept (l_tutorref01_Same : {R : Type} → (List Int) → (List Int) → (Bool → Option R) → Option R) : FuncId → Option Sum := (addS G0 22 (S_tutorref01_Same @l_tutorref01_Same))

theorem right_T_tutorref01_Kept : Right Try.prog (T_tutorref01_Kept @l_tutorref01_Same) := (right_add right_G0 call_tutorref01_Same sound_tutorref01_Same)

abbrev cuts_tutorref01_Kept : Cuts := []

theorem gentry_tutorref01_Kept (l_tutorref01_Same : {R : Type} → (List Int) → (List Int) → (Bool → Option R) → Option R) {R : Type} (K : AV → List O → Option R) (b : Nat) (a : List Int) (o0 : List Int) :
    fnRun Try.prog (T_tutorref01_Kept @l_tutorref01_Same) cuts_tutorref01_Kept Try.f16 0 [.view 0 1 0 b, .rd ⟨false, 3, (.int .i64), a⟩] [.frz ⟨false, 3, (.int .i64), o0⟩] K =
    (fun (b : Nat) (a : List Int) (o0 : List Int) (K0 : Bool → (List Int) → Option R) =>
    bi (decide (0 ≤ (IntKind.i64.wrap (((b : Nat) : Int) + 2)) ∧ (IntKind.i64.wrap (((b : Nat) : Int) + 2)) ≤ ((o0.length - 0 : Nat) : Int)))
     (l_tutorref01_Same (o0.take b) a
      (fun r1 =>
       bi r1
        (bi (decide (0 ≤ ((b : Nat) : Int) ∧ ((b : Nat) : Int) < (((IntKind.i64.wrap (((b : Nat) : Int) + 2)).toNat : Nat) : Int)))
         (bi (((o0.take ((IntKind.i64.wrap (((b : Nat) : Int) + 2)).toNat)).getD (((b : Nat) : Int).toNat) 0) == (-771))
          (bi (decide (0 ≤ (IntKind.i64.wrap (((b : Nat) : Int) + 1)) ∧ (IntKind.i64.wrap (((b : Nat) : Int) + 1)) < (((IntKind.i64.wrap (((b : Nat) : Int) + 2)).toNat : Nat) : Int)))
           (K0 (((o0.take ((IntKind.i64.wrap (((b : Nat) : Int) + 2)).toNat)).getD ((IntKind.i64.wrap (((b : Nat) : Int) + 1)).toNat) 0) == (-772)) o0)
           none)
          (K0 false o0))
         none)
        (K0 false o0)))
     none) b a o0 (fun r0 r1 => K (.v (.bool r0)) [.frz ⟨false, 3, (.int .i64), r1⟩]) := by kernel_rfl

theorem entry_tutorref01_Kept {R : Type} (K : AV → List O → Option R) (b : Nat) (a : List Int) (o0 : List Int) :
    fnRun Try.prog (T_tutorref01_Kept @l_tutorref01_Same) cuts_tutorref01_Kept Try.f16 0 [.view 0 1 0 b, .rd ⟨false, 3, (.int .i64), a⟩] [.frz ⟨false, 3, (.int .i64), o0⟩] K =
    l_tutorref01_Kept b a o0 (fun r0 r1 => K (.v (.bool r0)) [.frz ⟨false, 3, (.int .i64), r1⟩]) := gentry_tutorref01_Kept @l_tutorref01_Same K b a o0

def S_tutorref01_Kept (l_tutorref01_Kept : {R : Type} → Nat → (List Int) → (List Int) → (Bool → (List Int) → Option R) → Option R) : Sum := ⟨[0], fun {R} args ob K => match args, ob with
  | [.view 0 1 0 b, .rd ⟨false, 3, (.int .i64), a⟩], [.frz ⟨false, 3, (.int .i64), o0⟩] => l_tutorref01_Kept b a o0 (fun r0 r1 => K (.v (.bool r0)) [.frz ⟨false, 3, (.int .i64), r1⟩])
  | _, _ => none⟩

theorem sound_tutorref01_Kept : Sound Try.prog 16 (S_tutorref01_Kept @l_tutorref01_Kept) := by
  refine fn_sound (cuts := cuts_tutorref01_Kept) (fn := Try.f16) (Γ := (T_tutorref01_Kept @l_tutorref01_Same)) wide right_T_tutorref01_Kept Try.func16 fun {R} K r args ob h => ?_
  unfold S_tutorref01_Kept at h
  dsimp only at h
  split at h
  · exact ⟨Nat.le_of_ble_eq_true (by kernel_rfl), 0, (entry_tutorref01_Kept K _ _ _).trans h⟩
  · cases h

theorem call_tutorref01_Kept : Callable Try.prog 16 := ⟨_, Try.func16, by kernel_rfl, by kernel_rfl⟩

def T_tutorlaw01_WordParts (l_tutorlaw01_live : {R : Type} → (Bool → Option R) → Option R) (l_tutorref01_Kept : {R : Type} → Nat → (List Int) → (List Int) → (Bool → (List Int) → Option R) → Option R) (l_tutorref01_Apart : {R : Type} → (List (List Int)) → (Bool → (List (List Int)) → Option R) → Option R) (l_word_Join : {R : Type} → (List (List Int)) → (Nat → (List Int) → Option R) → ((List Int) → Option R) → Option R) (l_tutorref01_Lists : {R : Type} → (List (List Int)) → (List (List Int)) → (Bool → Option R) → Option R) (l_tutorref01_Suffixes : {R : Type} → (List Int) → ((List (List Int)) → Option R) → Option R) (l_tutorref01_Prefixes : {R : Type} → (List Int) → ((List (List Int)) → Option R) → Option R) (l_tutorref01_Same : {R : Type} → (List Int) → (List Int) → (Bool → Option R) → Option R) (l_tutorref01_Join : {R : Type} → (List Int) → (List Int) → ((List Int) → Option R) → Option R) (l_word_Suffixes : {R : Type} → (List Int) → ((List (List Int)) → Option R) → Option R) (l_word_Prefixes : {R : Type} → (List Int) → ((List (List Int)) → Option R) → Option R) (l_tutorref01_Lent : {R : Type} → (List Int) → (Nat → (List Int) → Option R) → Option R) : FuncId → Option Sum := (addS (addS (addS (addS (addS (addS (addS (addS (addS (addS (addS (addS G0 17 (S_tutorlaw01_live @l_tutorlaw01_live)) 16 (S_tutorref01_Kept @l_tutorref01_Kept)) 40 (S_tutorref01_Apart @l_tutorref01_Apart)) 34 (S_word_Join @l_word_Join)) 37 (S_tutorref01_Lists @l_tutorref01_Lists)) 39 (S_tutorref01_Suffixes @l_tutorref01_Suffixes)) 38 (S_tutorref01_Prefixes @l_tutorref01_Prefixes)) 22 (S_tutorref01_Same @l_tutorref01_Same)) 33 (S_tutorref01_Join @l_tutorref01_Join)) 36 (S_word_Suffixes @l_word_Suffixes)) 35 (S_word_Prefixes @l_word_Prefixes)) 12 (S_tutorref01_Lent @l_tutorref01_Lent))

theorem right_T_tutorlaw01_WordParts : Right Try.prog (T_tutorlaw01_WordParts @l_tutorlaw01_live @l_tutorref01_Kept @l_tutorref01_Apart @l_word_Join @l_tutorref01_Lists @l_tutorref01_Suffixes @l_tutorref01_Prefixes @l_tutorref01_Same @l_tutorref01_Join @l_word_Suffixes @l_word_Prefixes @l_tutorref01_Lent) := (right_add (right_add (right_add (right_add (right_add (right_add (right_add (right_add (right_add (right_add (right_add (right_add right_G0 call_tutorlaw01_live sound_tutorlaw01_live) call_tutorref01_Kept sound_tutorref01_Kept) call_tutorref01_Apart sound_tutorref01_Apart) call_word_Join sound_word_Join) call_tutorref01_Lists sound_tutorref01_Lists) call_tutorref01_Suffixes sound_tutorref01_Suffixes) call_tutorref01_Prefixes sound_tutorref01_Prefixes) call_tutorref01_Same sound_tutorref01_Same) call_tutorref01_Join sound_tutorref01_Join) call_word_Suffixes sound_word_Suffixes) call_word_Prefixes sound_word_Prefixes) call_tutorref01_Lent sound_tutorref01_Lent)

abbrev cuts_tutorlaw01_WordParts : Cuts := []

theorem gentry_tutorlaw01_WordParts (l_tutorlaw01_live : {R : Type} → (Bool → Option R) → Option R) (l_tutorref01_Kept : {R : Type} → Nat → (List Int) → (List Int) → (Bool → (List Int) → Option R) → Option R) (l_tutorref01_Apart : {R : Type} → (List (List Int)) → (Bool → (List (List Int)) → Option R) → Option R) (l_word_Join : {R : Type} → (List (List Int)) → (Nat → (List Int) → Option R) → ((List Int) → Option R) → Option R) (l_tutorref01_Lists : {R : Type} → (List (List Int)) → (List (List Int)) → (Bool → Option R) → Option R) (l_tutorref01_Suffixes : {R : Type} → (List Int) → ((List (List Int)) → Option R) → Option R) (l_tutorref01_Prefixes : {R : Type} → (List Int) → ((List (List Int)) → Option R) → Option R) (l_tutorref01_Same : {R : Type} → (List Int) → (List Int) → (Bool → Option R) → Option R) (l_tutorref01_Join : {R : Type} → (List Int) → (List Int) → ((List Int) → Option R) → Option R) (l_word_Suffixes : {R : Type} → (List Int) → ((List (List Int)) → Option R) → Option R) (l_word_Prefixes : {R : Type} → (List Int) → ((List (List Int)) → Option R) → Option R) (l_tutorref01_Lent : {R : Type} → (List Int) → (Nat → (List Int) → Option R) → Option R) {R : Type} (K : AV → List O → Option R) (a : List Int) (b : List Int) (c : List Int) :
    fnRun Try.prog (T_tutorlaw01_WordParts @l_tutorlaw01_live @l_tutorref01_Kept @l_tutorref01_Apart @l_word_Join @l_tutorref01_Lists @l_tutorref01_Suffixes @l_tutorref01_Prefixes @l_tutorref01_Same @l_tutorref01_Join @l_word_Suffixes @l_word_Prefixes @l_tutorref01_Lent) cuts_tutorlaw01_WordParts Try.f11 0 [.rd ⟨false, 3, (.int .i64), a⟩, .rd ⟨false, 3, (.int .i64), b⟩, .rd ⟨false, 3, (.int .i64), c⟩] [] K =
    (fun (a : List Int) (b : List Int) (c : List Int) (K0 : Bool → Option R) =>
    bi (decide ((a.length : Int) > 300))
     (l_tutorlaw01_live
      (fun r1 =>
       K0 r1))
     (bi (decide ((b.length : Int) > 300))
      (l_tutorlaw01_live
       (fun r2 =>
        K0 r2))
      (bi (decide ((c.length : Int) > 300))
       (l_tutorlaw01_live
        (fun r3 =>
         K0 r3))
       (l_tutorref01_Lent a
        (fun r4 r5 =>
         l_word_Join [r5.take r4, b, c]
          (fun r6 r7 =>
           l_word_Prefixes (r5.take r4)
            (fun r8 =>
             l_word_Suffixes (r5.take r4)
              (fun r9 =>
               l_tutorref01_Join a b
                (fun r10 =>
                 l_tutorref01_Join r10 c
                  (fun r11 =>
                   l_tutorref01_Same (r7.take r6) r11
                    (fun r12 =>
                     bi (!r12)
                      (K0 false)
                      (l_tutorref01_Prefixes a
                       (fun r13 =>
                        l_tutorref01_Lists r8 r13
                         (fun r14 =>
                          bi (!r14)
                           (K0 false)
                           (l_tutorref01_Suffixes a
                            (fun r15 =>
                             l_tutorref01_Lists r9 r15
                              (fun r16 =>
                               bi (!r16)
                                (K0 false)
                                (l_word_Join ([] : List (List Int))
                                 (fun r17 r18 =>
                                  bi (((r17 : Nat) : Int) != 0)
                                   (K0 false)
                                   (bi (decide ((r8.length + r9.length) * 24 ≤ lim))
                                    (bi (decide (((r8 ++ r9).length + [r7.take r6].length) * 24 ≤ lim))
                                     (l_tutorref01_Apart ((r8 ++ r9) ++ [r7.take r6])
                                      (fun r19 r20 =>
                                       bi r19
                                        (l_tutorref01_Kept r4 a r5
                                         (fun r21 r22 =>
                                          bi r21
                                           (l_tutorlaw01_live
                                            (fun r23 =>
                                             K0 r23))
                                           (K0 false)))
                                        (K0 false)))
                                     none)
                                    none))
                                 (fun r24 =>
                                  bi ((r24.length : Int) != 0)
                                   (K0 false)
                                   (bi (decide ((r8.length + r9.length) * 24 ≤ lim))
                                    (bi (decide (((r8 ++ r9).length + [r7.take r6].length) * 24 ≤ lim))
                                     (l_tutorref01_Apart ((r8 ++ r9) ++ [r7.take r6])
                                      (fun r25 r26 =>
                                       bi r25
                                        (l_tutorref01_Kept r4 a r5
                                         (fun r27 r28 =>
                                          bi r27
                                           (l_tutorlaw01_live
                                            (fun r29 =>
                                             K0 r29))
                                           (K0 false)))
                                        (K0 false)))
                                     none)
                                    none)))))))))))))))
          (fun r30 =>
           l_word_Prefixes (r5.take r4)
            (fun r31 =>
             l_word_Suffixes (r5.take r4)
              (fun r32 =>
               l_tutorref01_Join a b
                (fun r33 =>
                 l_tutorref01_Join r33 c
                  (fun r34 =>
                   l_tutorref01_Same r30 r34
                    (fun r35 =>
                     bi (!r35)
                      (K0 false)
                      (l_tutorref01_Prefixes a
                       (fun r36 =>
                        l_tutorref01_Lists r31 r36
                         (fun r37 =>
                          bi (!r37)
                           (K0 false)
                           (l_tutorref01_Suffixes a
                            (fun r38 =>
                             l_tutorref01_Lists r32 r38
                              (fun r39 =>
                               bi (!r39)
                                (K0 false)
                                (l_word_Join ([] : List (List Int))
                                 (fun r40 r41 =>
                                  bi (((r40 : Nat) : Int) != 0)
                                   (K0 false)
                                   (bi (decide ((r31.length + r32.length) * 24 ≤ lim))
                                    (bi (decide (((r31 ++ r32).length + [r30].length) * 24 ≤ lim))
                                     (l_tutorref01_Apart ((r31 ++ r32) ++ [r30])
                                      (fun r42 r43 =>
                                       bi r42
                                        (l_tutorref01_Kept r4 a r5
                                         (fun r44 r45 =>
                                          bi r44
                                           (l_tutorlaw01_live
                                            (fun r46 =>
                                             K0 r46))
                                           (K0 false)))
                                        (K0 false)))
                                     none)
                                    none))
                                 (fun r47 =>
                                  bi ((r47.length : Int) != 0)
                                   (K0 false)
                                   (bi (decide ((r31.length + r32.length) * 24 ≤ lim))
                                    (bi (decide (((r31 ++ r32).length + [r30].length) * 24 ≤ lim))
                                     (l_tutorref01_Apart ((r31 ++ r32) ++ [r30])
                                      (fun r48 r49 =>
                                       bi r48
                                        (l_tutorref01_Kept r4 a r5
                                         (fun r50 r51 =>
                                          bi r50
                                           (l_tutorlaw01_live
                                            (fun r52 =>
                                             K0 r52))
                                           (K0 false)))
                                        (K0 false)))
                                     none)
                                    none)))))))))))))))))))) a b c (fun r0 => K (.v (.bool r0)) []) := by kernel_rfl

theorem entry_tutorlaw01_WordParts {R : Type} (K : AV → List O → Option R) (a : List Int) (b : List Int) (c : List Int) :
    fnRun Try.prog (T_tutorlaw01_WordParts @l_tutorlaw01_live @l_tutorref01_Kept @l_tutorref01_Apart @l_word_Join @l_tutorref01_Lists @l_tutorref01_Suffixes @l_tutorref01_Prefixes @l_tutorref01_Same @l_tutorref01_Join @l_word_Suffixes @l_word_Prefixes @l_tutorref01_Lent) cuts_tutorlaw01_WordParts Try.f11 0 [.rd ⟨false, 3, (.int .i64), a⟩, .rd ⟨false, 3, (.int .i64), b⟩, .rd ⟨false, 3, (.int .i64), c⟩] [] K =
    l_tutorlaw01_WordParts a b c (fun r0 => K (.v (.bool r0)) []) := gentry_tutorlaw01_WordParts @l_tutorlaw01_live @l_tutorref01_Kept @l_tutorref01_Apart @l_word_Join @l_tutorref01_Lists @l_tutorref01_Suffixes @l_tutorref01_Prefixes @l_tutorref01_Same @l_tutorref01_Join @l_word_Suffixes @l_word_Prefixes @l_tutorref01_Lent K a b c

def S_tutorlaw01_WordParts (l_tutorlaw01_WordParts : {R : Type} → (List Int) → (List Int) → (List Int) → (Bool → Option R) → Option R) : Sum := ⟨[], fun {R} args ob K => match args, ob with
  | [.rd ⟨false, 3, (.int .i64), a⟩, .rd ⟨false, 3, (.int .i64), b⟩, .rd ⟨false, 3, (.int .i64), c⟩], [] => l_tutorlaw01_WordParts a b c (fun r0 => K (.v (.bool r0)) [])
  | _, _ => none⟩

theorem sound_tutorlaw01_WordParts : Sound Try.prog 11 (S_tutorlaw01_WordParts @l_tutorlaw01_WordParts) := by
  refine fn_sound (cuts := cuts_tutorlaw01_WordParts) (fn := Try.f11) (Γ := (T_tutorlaw01_WordParts @l_tutorlaw01_live @l_tutorref01_Kept @l_tutorref01_Apart @l_word_Join @l_tutorref01_Lists @l_tutorref01_Suffixes @l_tutorref01_Prefixes @l_tutorref01_Same @l_tutorref01_Join @l_word_Suffixes @l_word_Prefixes @l_tutorref01_Lent)) wide right_T_tutorlaw01_WordParts Try.func11 fun {R} K r args ob h => ?_
  unfold S_tutorlaw01_WordParts at h
  dsimp only at h
  split at h
  · exact ⟨Nat.le_of_ble_eq_true (by kernel_rfl), 0, (entry_tutorlaw01_WordParts K _ _ _).trans h⟩
  · cases h

theorem call_tutorlaw01_WordParts : Callable Try.prog 11 := ⟨_, Try.func11, by kernel_rfl, by kernel_rfl⟩

end
end Go.Ev
