/- Each function of the program is its tree. -/
import Derived.Test.YtifkaepdialfjaaProg
import Derived.Test.YtifkaepdialfjaaEvFn
import Derived.Test.YtifkaepdialfjaaTeachChecksPure
namespace Go.Ev
open Go.Proofs
noncomputable section
set_option linter.unusedVariables false
set_option linter.unusedSimpArgs false
set_option maxRecDepth 100000
set_option maxHeartbeats 4000000

theorem wide : Tables.follows Try.prog.toTables .mixedOrders = true := by kernel_rfl

def G0 : FuncId → Option Sum := fun _ => none
theorem right_G0 : Right Try.prog G0 := fun f S h => by cases h

def T_text_Number : FuncId → Option Sum := G0

theorem right_T_text_Number : Right Try.prog T_text_Number := right_G0

abbrev cuts_text_Number : Cuts := [(4, [0, 1, 4, 7])]

theorem gstep_text_Number_4 {R : Type} (g : List Item → St → Option R) (K : AV → List O → Option R) (b : List Int) (vat : Int) (n : Int) (i : Int) :
    runSeg Try.prog T_text_Number cuts_text_Number 0 g (finish Try.prog Try.f41 0 K) (at' Try.f41 4) ⟨fr0 70 [(0, .rd ⟨false, 5, (.int .u8), b⟩), (1, .v (.int .i64 vat)), (4, .v (.int .i64 n)), (7, .v (.int .i64 i))], []⟩ =
    (fun (g41_4 : (List Int) → Int → Int → Int → Option R) (K0 : Int → Int → Int → Option R) (b : List Int) (vat : Int) (n : Int) (i : Int) =>
    bi (decide (i < (b.length : Int)))
     (bi (decide (0 ≤ i ∧ i < ((b.length : Nat) : Int)))
      (bi (decide ((b.getD i.toNat 0) ≥ 48))
       (bi (decide (0 ≤ i ∧ i < ((b.length : Nat) : Int)))
        (bi (decide ((b.getD i.toNat 0) ≤ 57))
         (bi ((IntKind.i64.wrap (i - vat)) == 4)
          (K0 0 i 6)
          (bi ((IntKind.i64.wrap (i - vat)) == 1)
           (bi (decide (0 ≤ vat ∧ vat < ((b.length : Nat) : Int)))
            (bi ((b.getD vat.toNat 0) == 48)
             (K0 0 i 6)
             (bi (decide (0 ≤ i ∧ i < ((b.length : Nat) : Int)))
              (g41_4 b vat (IntKind.i64.wrap ((IntKind.i64.wrap (10 * n)) + (IntKind.i64.wrap (IntKind.u8.wrap ((b.getD i.toNat 0) - 48))))) (IntKind.i64.wrap (i + 1)))
              none))
            none)
           (bi (decide (0 ≤ i ∧ i < ((b.length : Nat) : Int)))
            (g41_4 b vat (IntKind.i64.wrap ((IntKind.i64.wrap (10 * n)) + (IntKind.i64.wrap (IntKind.u8.wrap ((b.getD i.toNat 0) - 48))))) (IntKind.i64.wrap (i + 1)))
            none)))
         (bi (i == vat)
          (K0 0 vat 6)
          (K0 n i 0)))
        none)
       (bi (i == vat)
        (K0 0 vat 6)
        (K0 n i 0)))
      none)
     (bi (i == vat)
      (K0 0 vat 6)
      (K0 n i 0))) (fun b vat n i => g (at' Try.f41 4) ⟨fr0 70 [(0, .rd ⟨false, 5, (.int .u8), b⟩), (1, .v (.int .i64 vat)), (4, .v (.int .i64 n)), (7, .v (.int .i64 i))], []⟩) (fun r0 r1 r2 => K (.tup [.v (.int .i64 r0), .v (.int .i64 r1), .v (.int .i64 r2)]) []) b vat n i := by kernel_rfl

theorem step_text_Number_4 {R : Type} (g : List Item → St → Option R) (K : AV → List O → Option R) (b : List Int) (vat : Int) (n : Int) (i : Int) :
    runSeg Try.prog T_text_Number cuts_text_Number 0 g (finish Try.prog Try.f41 0 K) (at' Try.f41 4) ⟨fr0 70 [(0, .rd ⟨false, 5, (.int .u8), b⟩), (1, .v (.int .i64 vat)), (4, .v (.int .i64 n)), (7, .v (.int .i64 i))], []⟩ =
    s_text_Number_4 (fun b vat n i => g (at' Try.f41 4) ⟨fr0 70 [(0, .rd ⟨false, 5, (.int .u8), b⟩), (1, .v (.int .i64 vat)), (4, .v (.int .i64 n)), (7, .v (.int .i64 i))], []⟩) (fun r0 r1 r2 => K (.tup [.v (.int .i64 r0), .v (.int .i64 r1), .v (.int .i64 r2)]) []) b vat n i := gstep_text_Number_4 g K b vat n i

theorem gentry_text_Number {R : Type} (fuel : Nat) (K : AV → List O → Option R) (b : List Int) (vat : Int) :
    fnRun Try.prog T_text_Number cuts_text_Number Try.f41 fuel [.rd ⟨false, 5, (.int .u8), b⟩, .v (.int .i64 vat)] [] K =
    (fun (g41_4 : (List Int) → Int → Int → Int → Option R) (K0 : Int → Int → Int → Option R) (b : List Int) (vat : Int) =>
    bi (decide (vat < 0))
     (K0 0 0 1)
     (bi (decide (vat > (b.length : Int)))
      (K0 0 0 1)
      (g41_4 b vat 0 vat))) (fun b vat n i => (runO Try.prog T_text_Number cuts_text_Number 0 (finish Try.prog Try.f41 0 K) fuel) (at' Try.f41 4) ⟨fr0 70 [(0, .rd ⟨false, 5, (.int .u8), b⟩), (1, .v (.int .i64 vat)), (4, .v (.int .i64 n)), (7, .v (.int .i64 i))], []⟩) (fun r0 r1 r2 => K (.tup [.v (.int .i64 r0), .v (.int .i64 r1), .v (.int .i64 r2)]) []) b vat := by kernel_rfl

theorem entry_text_Number {R : Type} (fuel : Nat) (K : AV → List O → Option R) (b : List Int) (vat : Int) :
    fnRun Try.prog T_text_Number cuts_text_Number Try.f41 fuel [.rd ⟨false, 5, (.int .u8), b⟩, .v (.int .i64 vat)] [] K =
    e_text_Number (fun b vat n i => (runO Try.prog T_text_Number cuts_text_Number 0 (finish Try.prog Try.f41 0 K) fuel) (at' Try.f41 4) ⟨fr0 70 [(0, .rd ⟨false, 5, (.int .u8), b⟩), (1, .v (.int .i64 vat)), (4, .v (.int .i64 n)), (7, .v (.int .i64 i))], []⟩) (fun r0 r1 r2 => K (.tup [.v (.int .i64 r0), .v (.int .i64 r1), .v (.int .i64 r2)]) []) b vat := gentry_text_Number fuel K b vat

theorem runs_text_Number {R : Type} (K : AV → List O → Option R) : ∀ fuel : Nat,
    (fun b vat n i => (runO Try.prog T_text_Number cuts_text_Number 0 (finish Try.prog Try.f41 0 K) fuel) (at' Try.f41 4) ⟨fr0 70 [(0, .rd ⟨false, 5, (.int .u8), b⟩), (1, .v (.int .i64 vat)), (4, .v (.int .i64 n)), (7, .v (.int .i64 i))], []⟩) = (run_text_Number (fun r0 r1 r2 => K (.tup [.v (.int .i64 r0), .v (.int .i64 r1), .v (.int .i64 r2)]) []) fuel)
  | 0 => rfl
  | fuel + 1 => by
    have ih := runs_text_Number K fuel
    funext b vat n i
    refine (step_text_Number_4 _ K b vat n i).trans ?_
    rw [ih]
    rfl

def S_text_Number (l_text_Number : {R : Type} → (List Int) → Int → (Int → Int → Int → Option R) → Option R) : Sum := ⟨[], fun {R} args ob K => match args, ob with
  | [.rd ⟨false, 5, (.int .u8), b⟩, .v (.int .i64 vat)], [] => l_text_Number b vat (fun r0 r1 r2 => K (.tup [.v (.int .i64 r0), .v (.int .i64 r1), .v (.int .i64 r2)]) [])
  | _, _ => none⟩

theorem sound_text_Number : Sound Try.prog 41 (S_text_Number @l_text_Number) := by
  refine fn_sound (cuts := cuts_text_Number) (fn := Try.f41) (Γ := T_text_Number) wide right_T_text_Number Try.func41 fun {R} K r args ob h => ?_
  unfold S_text_Number at h
  dsimp only at h
  split at h
  · obtain ⟨n, hn⟩ := ok_text_Number _ _ _ h
    refine ⟨Nat.le_of_ble_eq_true (by kernel_rfl), n, (entry_text_Number n K _ _).trans ?_⟩
    rw [(runs_text_Number K n)]
    exact hn
  · cases h

theorem call_text_Number : Callable Try.prog 41 := ⟨_, Try.func41, by kernel_rfl, by kernel_rfl⟩

def T_teach_numbers (l_text_Number : {R : Type} → (List Int) → Int → (Int → Int → Int → Option R) → Option R) : FuncId → Option Sum := (addS G0 41 (S_text_Number @l_text_Number))

theorem right_T_teach_numbers : Right Try.prog (T_teach_numbers @l_text_Number) := (right_add right_G0 call_text_Number sound_text_Number)

abbrev cuts_teach_numbers : Cuts := [(1, [0, 1, 4])]

theorem gstep_teach_numbers_1 (l_text_Number : {R : Type} → (List Int) → Int → (Int → Int → Int → Option R) → Option R) {R : Type} (g : List Item → St → Option R) (K : AV → List O → Option R) (b : List Int) (vat : Int) (o0 : List Int) :
    runSeg Try.prog (T_teach_numbers @l_text_Number) cuts_teach_numbers 0 g (finish Try.prog Try.f29 0 K) (at' Try.f29 1) ⟨fr0 54 [(0, .rd ⟨false, 5, (.int .u8), b⟩), (1, .v (.int .i64 vat)), (4, .own 0)], [.row ⟨true, 3, (.int .i64), o0⟩]⟩ =
    (fun (g29_1 : (List Int) → Int → (List Int) → Option R) (K0 : Int → Int → (List Int) → Option R) (b : List Int) (vat : Int) (o0 : List Int) =>
    bi (vat == (b.length : Int))
     (K0 6 vat ([] : List Int))
     (bi (decide (0 ≤ vat ∧ vat < ((b.length : Nat) : Int)))
      (bi ((b.getD vat.toNat 0) == 10)
       (K0 0 (IntKind.i64.wrap (vat + 1)) o0)
       (bi (decide (0 ≤ vat ∧ vat < ((b.length : Nat) : Int)))
        (bi ((b.getD vat.toNat 0) != 32)
         (K0 6 vat ([] : List Int))
         (bi ((o0.length : Int) == 4096)
          (K0 2 vat ([] : List Int))
          (l_text_Number b (IntKind.i64.wrap (vat + 1))
           (fun r1 r2 r3 =>
            bi (r3 != 0)
             (K0 r3 r2 ([] : List Int))
             (bi (decide ((o0.length + [r1].length) * 8 ≤ lim))
              (g29_1 b r2 (o0 ++ [r1]))
              none)))))
        none))
      none)) (fun b vat o0 => g (at' Try.f29 1) ⟨fr0 54 [(0, .rd ⟨false, 5, (.int .u8), b⟩), (1, .v (.int .i64 vat)), (4, .own 0)], [.row ⟨true, 3, (.int .i64), o0⟩]⟩) (fun r0 r1 r2 => K (.tup [.own 0, .v (.int .i64 r0), .v (.int .i64 r1)]) [.row ⟨true, 3, (.int .i64), r2⟩]) b vat o0 := by kernel_rfl

theorem step_teach_numbers_1 {R : Type} (g : List Item → St → Option R) (K : AV → List O → Option R) (b : List Int) (vat : Int) (o0 : List Int) :
    runSeg Try.prog (T_teach_numbers @l_text_Number) cuts_teach_numbers 0 g (finish Try.prog Try.f29 0 K) (at' Try.f29 1) ⟨fr0 54 [(0, .rd ⟨false, 5, (.int .u8), b⟩), (1, .v (.int .i64 vat)), (4, .own 0)], [.row ⟨true, 3, (.int .i64), o0⟩]⟩ =
    s_teach_numbers_1 (fun b vat o0 => g (at' Try.f29 1) ⟨fr0 54 [(0, .rd ⟨false, 5, (.int .u8), b⟩), (1, .v (.int .i64 vat)), (4, .own 0)], [.row ⟨true, 3, (.int .i64), o0⟩]⟩) (fun r0 r1 r2 => K (.tup [.own 0, .v (.int .i64 r0), .v (.int .i64 r1)]) [.row ⟨true, 3, (.int .i64), r2⟩]) b vat o0 := gstep_teach_numbers_1 @l_text_Number g K b vat o0

theorem gentry_teach_numbers (l_text_Number : {R : Type} → (List Int) → Int → (Int → Int → Int → Option R) → Option R) {R : Type} (fuel : Nat) (K : AV → List O → Option R) (b : List Int) (vat : Int) :
    fnRun Try.prog (T_teach_numbers @l_text_Number) cuts_teach_numbers Try.f29 fuel [.rd ⟨false, 5, (.int .u8), b⟩, .v (.int .i64 vat)] [] K =
    (fun (g29_1 : (List Int) → Int → (List Int) → Option R) (K0 : Int → Int → (List Int) → Option R) (b : List Int) (vat : Int) =>
    g29_1 b vat ([] : List Int)) (fun b vat o0 => (runO Try.prog (T_teach_numbers @l_text_Number) cuts_teach_numbers 0 (finish Try.prog Try.f29 0 K) fuel) (at' Try.f29 1) ⟨fr0 54 [(0, .rd ⟨false, 5, (.int .u8), b⟩), (1, .v (.int .i64 vat)), (4, .own 0)], [.row ⟨true, 3, (.int .i64), o0⟩]⟩) (fun r0 r1 r2 => K (.tup [.own 0, .v (.int .i64 r0), .v (.int .i64 r1)]) [.row ⟨true, 3, (.int .i64), r2⟩]) b vat := by kernel_rfl

theorem entry_teach_numbers {R : Type} (fuel : Nat) (K : AV → List O → Option R) (b : List Int) (vat : Int) :
    fnRun Try.prog (T_teach_numbers @l_text_Number) cuts_teach_numbers Try.f29 fuel [.rd ⟨false, 5, (.int .u8), b⟩, .v (.int .i64 vat)] [] K =
    e_teach_numbers (fun b vat o0 => (runO Try.prog (T_teach_numbers @l_text_Number) cuts_teach_numbers 0 (finish Try.prog Try.f29 0 K) fuel) (at' Try.f29 1) ⟨fr0 54 [(0, .rd ⟨false, 5, (.int .u8), b⟩), (1, .v (.int .i64 vat)), (4, .own 0)], [.row ⟨true, 3, (.int .i64), o0⟩]⟩) (fun r0 r1 r2 => K (.tup [.own 0, .v (.int .i64 r0), .v (.int .i64 r1)]) [.row ⟨true, 3, (.int .i64), r2⟩]) b vat := gentry_teach_numbers @l_text_Number fuel K b vat

theorem runs_teach_numbers {R : Type} (K : AV → List O → Option R) : ∀ fuel : Nat,
    (fun b vat o0 => (runO Try.prog (T_teach_numbers @l_text_Number) cuts_teach_numbers 0 (finish Try.prog Try.f29 0 K) fuel) (at' Try.f29 1) ⟨fr0 54 [(0, .rd ⟨false, 5, (.int .u8), b⟩), (1, .v (.int .i64 vat)), (4, .own 0)], [.row ⟨true, 3, (.int .i64), o0⟩]⟩) = (run_teach_numbers (fun r0 r1 r2 => K (.tup [.own 0, .v (.int .i64 r0), .v (.int .i64 r1)]) [.row ⟨true, 3, (.int .i64), r2⟩]) fuel)
  | 0 => rfl
  | fuel + 1 => by
    have ih := runs_teach_numbers K fuel
    funext b vat o0
    refine (step_teach_numbers_1 _ K b vat o0).trans ?_
    rw [ih]
    rfl

def S_teach_numbers (l_teach_numbers : {R : Type} → (List Int) → Int → (Int → Int → (List Int) → Option R) → Option R) : Sum := ⟨[], fun {R} args ob K => match args, ob with
  | [.rd ⟨false, 5, (.int .u8), b⟩, .v (.int .i64 vat)], [] => l_teach_numbers b vat (fun r0 r1 r2 => K (.tup [.own 0, .v (.int .i64 r0), .v (.int .i64 r1)]) [.row ⟨true, 3, (.int .i64), r2⟩])
  | _, _ => none⟩

theorem sound_teach_numbers : Sound Try.prog 29 (S_teach_numbers @l_teach_numbers) := by
  refine fn_sound (cuts := cuts_teach_numbers) (fn := Try.f29) (Γ := (T_teach_numbers @l_text_Number)) wide right_T_teach_numbers Try.func29 fun {R} K r args ob h => ?_
  unfold S_teach_numbers at h
  dsimp only at h
  split at h
  · obtain ⟨n, hn⟩ := ok_teach_numbers _ _ _ h
    refine ⟨Nat.le_of_ble_eq_true (by kernel_rfl), n, (entry_teach_numbers n K _ _).trans ?_⟩
    rw [(runs_teach_numbers K n)]
    exact hn
  · cases h

theorem call_teach_numbers : Callable Try.prog 29 := ⟨_, Try.func29, by kernel_rfl, by kernel_rfl⟩

def T_teach_Parse (l_teach_numbers : {R : Type} → (List Int) → Int → (Int → Int → (List Int) → Option R) → Option R) : FuncId → Option Sum := (addS G0 29 (S_teach_numbers @l_teach_numbers))

theorem right_T_teach_Parse : Right Try.prog (T_teach_Parse @l_teach_numbers) := (right_add right_G0 call_teach_numbers sound_teach_numbers)

abbrev cuts_teach_Parse : Cuts := [(3, [0, 2, 4])]

theorem gstep_teach_Parse_3 (l_teach_numbers : {R : Type} → (List Int) → Int → (Int → Int → (List Int) → Option R) → Option R) {R : Type} (g : List Item → St → Option R) (K : AV → List O → Option R) (b : List Int) (vat : Int) (o0 : List (Int × (List Int × List Int))) :
    runSeg Try.prog (T_teach_Parse @l_teach_numbers) cuts_teach_Parse 0 g (finish Try.prog Try.f18 0 K) (at' Try.f18 3) ⟨fr0 82 [(0, .rd ⟨false, 5, (.int .u8), b⟩), (2, .own 0), (4, .v (.int .i64 vat))], [.row ⟨true, 28, (.pr (.int .i64) (.pr (.sl 3 (.int .i64)) (.sl 3 (.int .i64)))), o0⟩]⟩ =
    (fun (g18_3 : (List Int) → Int → (List (Int × (List Int × List Int))) → Option R) (K0 : Int → Int → (List (Int × (List Int × List Int))) → Option R) (b : List Int) (vat : Int) (o0 : List (Int × (List Int × List Int))) =>
    bi (decide (vat < (b.length : Int)))
     (bi ((o0.length : Int) == 65536)
      (K0 3 vat ([] : List (Int × (List Int × List Int))))
      (bi (decide (0 ≤ vat ∧ vat < ((b.length : Nat) : Int)))
       (bi ((b.getD vat.toNat 0) == 111)
        (l_teach_numbers b (IntKind.i64.wrap (vat + 1))
         (fun r1 r2 r3 =>
          bi (r1 != 0)
           (K0 r1 r2 ([] : List (Int × (List Int × List Int))))
           (bi (decide ((o0.length + [(1, (r3, ([] : List Int)))].length) * 56 ≤ lim))
            (g18_3 b r2 (o0 ++ [(1, (r3, ([] : List Int)))]))
            none)))
        (bi ((b.getD vat.toNat 0) == 121)
         (bi (decide ((IntKind.i64.wrap (vat + 1)) < (b.length : Int)))
          (bi (decide (0 ≤ (IntKind.i64.wrap (vat + 1)) ∧ (IntKind.i64.wrap (vat + 1)) < ((b.length : Nat) : Int)))
           (bi ((b.getD ((IntKind.i64.wrap (vat + 1)).toNat) 0) != 10)
            (K0 6 (IntKind.i64.wrap (vat + 1)) ([] : List (Int × (List Int × List Int))))
            (l_teach_numbers b (IntKind.i64.wrap (vat + 1))
             (fun r4 r5 r6 =>
              bi (r4 != 0)
               (K0 r4 r5 ([] : List (Int × (List Int × List Int))))
               (bi (decide ((o0.length + [(2, (([] : List Int), r6))].length) * 56 ≤ lim))
                (g18_3 b r5 (o0 ++ [(2, (([] : List Int), r6))]))
                none))))
           none)
          (l_teach_numbers b (IntKind.i64.wrap (vat + 1))
           (fun r7 r8 r9 =>
            bi (r7 != 0)
             (K0 r7 r8 ([] : List (Int × (List Int × List Int))))
             (bi (decide ((o0.length + [(2, (([] : List Int), r9))].length) * 56 ≤ lim))
              (g18_3 b r8 (o0 ++ [(2, (([] : List Int), r9))]))
              none))))
         (bi ((b.getD vat.toNat 0) == 110)
          (l_teach_numbers b (IntKind.i64.wrap (vat + 1))
           (fun r10 r11 r12 =>
            bi (r10 != 0)
             (K0 r10 r11 ([] : List (Int × (List Int × List Int))))
             (bi (decide ((o0.length + [(3, (([] : List Int), r12))].length) * 56 ≤ lim))
              (g18_3 b r11 (o0 ++ [(3, (([] : List Int), r12))]))
              none)))
          (K0 6 vat ([] : List (Int × (List Int × List Int)))))))
       none))
     (K0 0 (b.length : Int) o0)) (fun b vat o0 => g (at' Try.f18 3) ⟨fr0 82 [(0, .rd ⟨false, 5, (.int .u8), b⟩), (2, .own 0), (4, .v (.int .i64 vat))], [.row ⟨true, 28, (.pr (.int .i64) (.pr (.sl 3 (.int .i64)) (.sl 3 (.int .i64)))), o0⟩]⟩) (fun r0 r1 r2 => K (.tup [.own 0, .v (.int .i64 r0), .v (.int .i64 r1)]) [.row ⟨true, 28, (.pr (.int .i64) (.pr (.sl 3 (.int .i64)) (.sl 3 (.int .i64)))), r2⟩]) b vat o0 := by kernel_rfl

theorem step_teach_Parse_3 {R : Type} (g : List Item → St → Option R) (K : AV → List O → Option R) (b : List Int) (vat : Int) (o0 : List (Int × (List Int × List Int))) :
    runSeg Try.prog (T_teach_Parse @l_teach_numbers) cuts_teach_Parse 0 g (finish Try.prog Try.f18 0 K) (at' Try.f18 3) ⟨fr0 82 [(0, .rd ⟨false, 5, (.int .u8), b⟩), (2, .own 0), (4, .v (.int .i64 vat))], [.row ⟨true, 28, (.pr (.int .i64) (.pr (.sl 3 (.int .i64)) (.sl 3 (.int .i64)))), o0⟩]⟩ =
    s_teach_Parse_3 (fun b vat o0 => g (at' Try.f18 3) ⟨fr0 82 [(0, .rd ⟨false, 5, (.int .u8), b⟩), (2, .own 0), (4, .v (.int .i64 vat))], [.row ⟨true, 28, (.pr (.int .i64) (.pr (.sl 3 (.int .i64)) (.sl 3 (.int .i64)))), o0⟩]⟩) (fun r0 r1 r2 => K (.tup [.own 0, .v (.int .i64 r0), .v (.int .i64 r1)]) [.row ⟨true, 28, (.pr (.int .i64) (.pr (.sl 3 (.int .i64)) (.sl 3 (.int .i64)))), r2⟩]) b vat o0 := gstep_teach_Parse_3 @l_teach_numbers g K b vat o0

theorem gentry_teach_Parse (l_teach_numbers : {R : Type} → (List Int) → Int → (Int → Int → (List Int) → Option R) → Option R) {R : Type} (fuel : Nat) (K : AV → List O → Option R) (b : List Int) :
    fnRun Try.prog (T_teach_Parse @l_teach_numbers) cuts_teach_Parse Try.f18 fuel [.rd ⟨false, 5, (.int .u8), b⟩] [] K =
    (fun (g18_3 : (List Int) → Int → (List (Int × (List Int × List Int))) → Option R) (K0 : Int → Int → (List (Int × (List Int × List Int))) → Option R) (b : List Int) =>
    bi (decide ((b.length : Int) > 16777216))
     (K0 2 0 ([] : List (Int × (List Int × List Int))))
     (g18_3 b 0 ([] : List (Int × (List Int × List Int))))) (fun b vat o0 => (runO Try.prog (T_teach_Parse @l_teach_numbers) cuts_teach_Parse 0 (finish Try.prog Try.f18 0 K) fuel) (at' Try.f18 3) ⟨fr0 82 [(0, .rd ⟨false, 5, (.int .u8), b⟩), (2, .own 0), (4, .v (.int .i64 vat))], [.row ⟨true, 28, (.pr (.int .i64) (.pr (.sl 3 (.int .i64)) (.sl 3 (.int .i64)))), o0⟩]⟩) (fun r0 r1 r2 => K (.tup [.own 0, .v (.int .i64 r0), .v (.int .i64 r1)]) [.row ⟨true, 28, (.pr (.int .i64) (.pr (.sl 3 (.int .i64)) (.sl 3 (.int .i64)))), r2⟩]) b := by kernel_rfl

theorem entry_teach_Parse {R : Type} (fuel : Nat) (K : AV → List O → Option R) (b : List Int) :
    fnRun Try.prog (T_teach_Parse @l_teach_numbers) cuts_teach_Parse Try.f18 fuel [.rd ⟨false, 5, (.int .u8), b⟩] [] K =
    e_teach_Parse (fun b vat o0 => (runO Try.prog (T_teach_Parse @l_teach_numbers) cuts_teach_Parse 0 (finish Try.prog Try.f18 0 K) fuel) (at' Try.f18 3) ⟨fr0 82 [(0, .rd ⟨false, 5, (.int .u8), b⟩), (2, .own 0), (4, .v (.int .i64 vat))], [.row ⟨true, 28, (.pr (.int .i64) (.pr (.sl 3 (.int .i64)) (.sl 3 (.int .i64)))), o0⟩]⟩) (fun r0 r1 r2 => K (.tup [.own 0, .v (.int .i64 r0), .v (.int .i64 r1)]) [.row ⟨true, 28, (.pr (.int .i64) (.pr (.sl 3 (.int .i64)) (.sl 3 (.int .i64)))), r2⟩]) b := gentry_teach_Parse @l_teach_numbers fuel K b

theorem runs_teach_Parse {R : Type} (K : AV → List O → Option R) : ∀ fuel : Nat,
    (fun b vat o0 => (runO Try.prog (T_teach_Parse @l_teach_numbers) cuts_teach_Parse 0 (finish Try.prog Try.f18 0 K) fuel) (at' Try.f18 3) ⟨fr0 82 [(0, .rd ⟨false, 5, (.int .u8), b⟩), (2, .own 0), (4, .v (.int .i64 vat))], [.row ⟨true, 28, (.pr (.int .i64) (.pr (.sl 3 (.int .i64)) (.sl 3 (.int .i64)))), o0⟩]⟩) = (run_teach_Parse (fun r0 r1 r2 => K (.tup [.own 0, .v (.int .i64 r0), .v (.int .i64 r1)]) [.row ⟨true, 28, (.pr (.int .i64) (.pr (.sl 3 (.int .i64)) (.sl 3 (.int .i64)))), r2⟩]) fuel)
  | 0 => rfl
  | fuel + 1 => by
    have ih := runs_teach_Parse K fuel
    funext b vat o0
    refine (step_teach_Parse_3 _ K b vat o0).trans ?_
    rw [ih]
    rfl

def S_teach_Parse (l_teach_Parse : {R : Type} → (List Int) → (Int → Int → (List (Int × (List Int × List Int))) → Option R) → Option R) : Sum := ⟨[], fun {R} args ob K => match args, ob with
  | [.rd ⟨false, 5, (.int .u8), b⟩], [] => l_teach_Parse b (fun r0 r1 r2 => K (.tup [.own 0, .v (.int .i64 r0), .v (.int .i64 r1)]) [.row ⟨true, 28, (.pr (.int .i64) (.pr (.sl 3 (.int .i64)) (.sl 3 (.int .i64)))), r2⟩])
  | _, _ => none⟩

theorem sound_teach_Parse : Sound Try.prog 18 (S_teach_Parse @l_teach_Parse) := by
  refine fn_sound (cuts := cuts_teach_Parse) (fn := Try.f18) (Γ := (T_teach_Parse @l_teach_numbers)) wide right_T_teach_Parse Try.func18 fun {R} K r args ob h => ?_
  unfold S_teach_Parse at h
  dsimp only at h
  split at h
  · obtain ⟨n, hn⟩ := ok_teach_Parse _ _ h
    refine ⟨Nat.le_of_ble_eq_true (by kernel_rfl), n, (entry_teach_Parse n K _).trans ?_⟩
    rw [(runs_teach_Parse K n)]
    exact hn
  · cases h

theorem call_teach_Parse : Callable Try.prog 18 := ⟨_, Try.func18, by kernel_rfl, by kernel_rfl⟩

def T_tutorlaw10_num : FuncId → Option Sum := G0

theorem right_T_tutorlaw10_num : Right Try.prog T_tutorlaw10_num := right_G0

abbrev cuts_tutorlaw10_num : Cuts := []

theorem gentry_tutorlaw10_num {R : Type} (K : AV → List O → Option R) (e : Int) :
    fnRun Try.prog T_tutorlaw10_num cuts_tutorlaw10_num Try.f8 0 [.v (.int .i64 e)] [] K =
    (fun (e : Int) (K0 : Int → Option R) =>
    K0 e) e (fun r0 => K (.v (.int .i64 r0)) []) := by kernel_rfl

theorem entry_tutorlaw10_num {R : Type} (K : AV → List O → Option R) (e : Int) :
    fnRun Try.prog T_tutorlaw10_num cuts_tutorlaw10_num Try.f8 0 [.v (.int .i64 e)] [] K =
    l_tutorlaw10_num e (fun r0 => K (.v (.int .i64 r0)) []) := gentry_tutorlaw10_num K e

def S_tutorlaw10_num (l_tutorlaw10_num : {R : Type} → Int → (Int → Option R) → Option R) : Sum := ⟨[], fun {R} args ob K => match args, ob with
  | [.v (.int .i64 e)], [] => l_tutorlaw10_num e (fun r0 => K (.v (.int .i64 r0)) [])
  | _, _ => none⟩

theorem sound_tutorlaw10_num : Sound Try.prog 8 (S_tutorlaw10_num @l_tutorlaw10_num) := by
  refine fn_sound (cuts := cuts_tutorlaw10_num) (fn := Try.f8) (Γ := T_tutorlaw10_num) wide right_T_tutorlaw10_num Try.func8 fun {R} K r args ob h => ?_
  unfold S_tutorlaw10_num at h
  dsimp only at h
  split at h
  · exact ⟨Nat.le_of_ble_eq_true (by kernel_rfl), 0, (entry_tutorlaw10_num K _).trans h⟩
  · cases h

theorem call_tutorlaw10_num : Callable Try.prog 8 := ⟨_, Try.func8, by kernel_rfl, by kernel_rfl⟩

def T_tutorref01_Same : FuncId → Option Sum := G0

theorem right_T_tutorref01_Same : Right Try.prog T_tutorref01_Same := right_G0

abbrev cuts_tutorref01_Same : Cuts := [(4, [0, 1, 5])]

theorem gstep_tutorref01_Same_4 {R : Type} (g : List Item → St → Option R) (K : AV → List O → Option R) (a : List Int) (b : List Int) (i : Int) :
    runSeg Try.prog T_tutorref01_Same cuts_tutorref01_Same 0 g (finish Try.prog Try.f17 0 K) (at' Try.f17 4) ⟨fr0 26 [(0, .rd ⟨false, 3, (.int .i64), a⟩), (1, .rd ⟨false, 3, (.int .i64), b⟩), (5, .v (.int .i64 i))], []⟩ =
    (fun (g17_4 : (List Int) → (List Int) → Int → Option R) (K0 : Bool → Option R) (a : List Int) (b : List Int) (i : Int) =>
    bi (decide (i < (a.length : Int)))
     (bi (decide (0 ≤ i ∧ i < ((a.length : Nat) : Int)))
      (bi (decide (0 ≤ i ∧ i < ((b.length : Nat) : Int)))
       (bi ((a.getD i.toNat 0) != (b.getD i.toNat 0))
        (K0 false)
        (g17_4 a b (IntKind.i64.wrap (i + 1))))
       none)
      none)
     (K0 true)) (fun a b i => g (at' Try.f17 4) ⟨fr0 26 [(0, .rd ⟨false, 3, (.int .i64), a⟩), (1, .rd ⟨false, 3, (.int .i64), b⟩), (5, .v (.int .i64 i))], []⟩) (fun r0 => K (.v (.bool r0)) []) a b i := by kernel_rfl

theorem step_tutorref01_Same_4 {R : Type} (g : List Item → St → Option R) (K : AV → List O → Option R) (a : List Int) (b : List Int) (i : Int) :
    runSeg Try.prog T_tutorref01_Same cuts_tutorref01_Same 0 g (finish Try.prog Try.f17 0 K) (at' Try.f17 4) ⟨fr0 26 [(0, .rd ⟨false, 3, (.int .i64), a⟩), (1, .rd ⟨false, 3, (.int .i64), b⟩), (5, .v (.int .i64 i))], []⟩ =
    s_tutorref01_Same_4 (fun a b i => g (at' Try.f17 4) ⟨fr0 26 [(0, .rd ⟨false, 3, (.int .i64), a⟩), (1, .rd ⟨false, 3, (.int .i64), b⟩), (5, .v (.int .i64 i))], []⟩) (fun r0 => K (.v (.bool r0)) []) a b i := gstep_tutorref01_Same_4 g K a b i

theorem gentry_tutorref01_Same {R : Type} (fuel : Nat) (K : AV → List O → Option R) (a : List Int) (b : List Int) :
    fnRun Try.prog T_tutorref01_Same cuts_tutorref01_Same Try.f17 fuel [.rd ⟨false, 3, (.int .i64), a⟩, .rd ⟨false, 3, (.int .i64), b⟩] [] K =
    (fun (g17_4 : (List Int) → (List Int) → Int → Option R) (K0 : Bool → Option R) (a : List Int) (b : List Int) =>
    bi ((a.length : Int) != (b.length : Int))
     (K0 false)
     (g17_4 a b 0)) (fun a b i => (runO Try.prog T_tutorref01_Same cuts_tutorref01_Same 0 (finish Try.prog Try.f17 0 K) fuel) (at' Try.f17 4) ⟨fr0 26 [(0, .rd ⟨false, 3, (.int .i64), a⟩), (1, .rd ⟨false, 3, (.int .i64), b⟩), (5, .v (.int .i64 i))], []⟩) (fun r0 => K (.v (.bool r0)) []) a b := by kernel_rfl

theorem entry_tutorref01_Same {R : Type} (fuel : Nat) (K : AV → List O → Option R) (a : List Int) (b : List Int) :
    fnRun Try.prog T_tutorref01_Same cuts_tutorref01_Same Try.f17 fuel [.rd ⟨false, 3, (.int .i64), a⟩, .rd ⟨false, 3, (.int .i64), b⟩] [] K =
    e_tutorref01_Same (fun a b i => (runO Try.prog T_tutorref01_Same cuts_tutorref01_Same 0 (finish Try.prog Try.f17 0 K) fuel) (at' Try.f17 4) ⟨fr0 26 [(0, .rd ⟨false, 3, (.int .i64), a⟩), (1, .rd ⟨false, 3, (.int .i64), b⟩), (5, .v (.int .i64 i))], []⟩) (fun r0 => K (.v (.bool r0)) []) a b := gentry_tutorref01_Same fuel K a b

theorem runs_tutorref01_Same {R : Type} (K : AV → List O → Option R) : ∀ fuel : Nat,
    (fun a b i => (runO Try.prog T_tutorref01_Same cuts_tutorref01_Same 0 (finish Try.prog Try.f17 0 K) fuel) (at' Try.f17 4) ⟨fr0 26 [(0, .rd ⟨false, 3, (.int .i64), a⟩), (1, .rd ⟨false, 3, (.int .i64), b⟩), (5, .v (.int .i64 i))], []⟩) = (run_tutorref01_Same (fun r0 => K (.v (.bool r0)) []) fuel)
  | 0 => rfl
  | fuel + 1 => by
    have ih := runs_tutorref01_Same K fuel
    funext a b i
    refine (step_tutorref01_Same_4 _ K a b i).trans ?_
    rw [ih]
    rfl

def S_tutorref01_Same (l_tutorref01_Same : {R : Type} → (List Int) → (List Int) → (Bool → Option R) → Option R) : Sum := ⟨[], fun {R} args ob K => match args, ob with
  | [.rd ⟨false, 3, (.int .i64), a⟩, .rd ⟨false, 3, (.int .i64), b⟩], [] => l_tutorref01_Same a b (fun r0 => K (.v (.bool r0)) [])
  | _, _ => none⟩

theorem sound_tutorref01_Same : Sound Try.prog 17 (S_tutorref01_Same @l_tutorref01_Same) := by
  refine fn_sound (cuts := cuts_tutorref01_Same) (fn := Try.f17) (Γ := T_tutorref01_Same) wide right_T_tutorref01_Same Try.func17 fun {R} K r args ob h => ?_
  unfold S_tutorref01_Same at h
  dsimp only at h
  split at h
  · obtain ⟨n, hn⟩ := ok_tutorref01_Same _ _ _ h
    refine ⟨Nat.le_of_ble_eq_true (by kernel_rfl), n, (entry_tutorref01_Same n K _ _).trans ?_⟩
    rw [(runs_tutorref01_Same K n)]
    exact hn
  · cases h

theorem call_tutorref01_Same : Callable Try.prog 17 := ⟨_, Try.func17, by kernel_rfl, by kernel_rfl⟩

def T_teach_of : FuncId → Option Sum := G0

theorem right_T_teach_of : Right Try.prog T_teach_of := right_G0

abbrev cuts_teach_of : Cuts := []

theorem gentry_teach_of {R : Type} (K : AV → List O → Option R) (a : Int) (a_1 : List Int) (a_2 : List Int) :
    fnRun Try.prog T_teach_of cuts_teach_of Try.f19 0 [.agg [.v (.int .i64 a), .rd ⟨false, 3, (.int .i64), a_1⟩, .rd ⟨false, 3, (.int .i64), a_2⟩]] [] K =
    (fun (a : Int) (a_1 : List Int) (a_2 : List Int) (K0 : (List Int) → Option R) (K1 : Option R) (K2 : (List Int) → Option R) (K3 : Option R) =>
    bi (a == 1)
     (K0 a_1)
     (bi (a == 2)
      K1
      (bi (a == 3)
       (K2 a_2)
       K3))) a a_1 a_2 (fun r0 => K (.ifc 57 (.agg [.rd ⟨false, 3, (.int .i64), r0⟩])) []) (K (.ifc 60 (.agg [])) []) (fun r0 => K (.ifc 62 (.agg [.rd ⟨false, 3, (.int .i64), r0⟩])) []) (K (.v (.nilIface)) []) := by kernel_rfl

theorem entry_teach_of {R : Type} (K : AV → List O → Option R) (a : Int) (a_1 : List Int) (a_2 : List Int) :
    fnRun Try.prog T_teach_of cuts_teach_of Try.f19 0 [.agg [.v (.int .i64 a), .rd ⟨false, 3, (.int .i64), a_1⟩, .rd ⟨false, 3, (.int .i64), a_2⟩]] [] K =
    l_teach_of a a_1 a_2 (fun r0 => K (.ifc 57 (.agg [.rd ⟨false, 3, (.int .i64), r0⟩])) []) (K (.ifc 60 (.agg [])) []) (fun r0 => K (.ifc 62 (.agg [.rd ⟨false, 3, (.int .i64), r0⟩])) []) (K (.v (.nilIface)) []) := gentry_teach_of K a a_1 a_2

def S_teach_of (l_teach_of : {R : Type} → Int → (List Int) → (List Int) → ((List Int) → Option R) → (Option R) → ((List Int) → Option R) → (Option R) → Option R) : Sum := ⟨[], fun {R} args ob K => match args, ob with
  | [.agg [.v (.int .i64 a), .rd ⟨false, 3, (.int .i64), a_1⟩, .rd ⟨false, 3, (.int .i64), a_2⟩]], [] => l_teach_of a a_1 a_2 (fun r0 => K (.ifc 57 (.agg [.rd ⟨false, 3, (.int .i64), r0⟩])) []) (K (.ifc 60 (.agg [])) []) (fun r0 => K (.ifc 62 (.agg [.rd ⟨false, 3, (.int .i64), r0⟩])) []) (K (.v (.nilIface)) [])
  | _, _ => none⟩

theorem sound_teach_of : Sound Try.prog 19 (S_teach_of @l_teach_of) := by
  refine fn_sound (cuts := cuts_teach_of) (fn := Try.f19) (Γ := T_teach_of) wide right_T_teach_of Try.func19 fun {R} K r args ob h => ?_
  unfold S_teach_of at h
  dsimp only at h
  split at h
  · exact ⟨Nat.le_of_ble_eq_true (by kernel_rfl), 0, (entry_teach_of K _ _ _).trans h⟩
  · cases h

theorem call_teach_of : Callable Try.prog 19 := ⟨_, Try.func19, by kernel_rfl, by kernel_rfl⟩

def T_teach_member_1 : FuncId → Option Sum := G0

theorem right_T_teach_member_1 : Right Try.prog T_teach_member_1 := right_G0

abbrev cuts_teach_member_1 : Cuts := []

theorem gentry_teach_member_1 {R : Type} (K : AV → List O → Option R) (o : Int) (o0 : Int) :
    fnRun Try.prog T_teach_member_1 cuts_teach_member_1 Try.f31 0 [.v (.int .i64 o), .ptr 0 0] [.box 3 [.v (.int .i64 o0)]] K =
    (fun (o : Int) (o0 : Int) (K0 : Bool → Int → Option R) =>
    bi (decide (o < 0))
     (K0 true o0)
     (K0 (decide (o ≥ o0)) o0)) o o0 (fun r0 r1 => K (.v (.bool r0)) [.box 3 [.v (.int .i64 r1)]]) := by kernel_rfl

theorem entry_teach_member_1 {R : Type} (K : AV → List O → Option R) (o : Int) (o0 : Int) :
    fnRun Try.prog T_teach_member_1 cuts_teach_member_1 Try.f31 0 [.v (.int .i64 o), .ptr 0 0] [.box 3 [.v (.int .i64 o0)]] K =
    l_teach_member_1 o o0 (fun r0 r1 => K (.v (.bool r0)) [.box 3 [.v (.int .i64 r1)]]) := gentry_teach_member_1 K o o0

def S_teach_member_1 (l_teach_member_1 : {R : Type} → Int → Int → (Bool → Int → Option R) → Option R) : Sum := ⟨[], fun {R} args ob K => match args, ob with
  | [.v (.int .i64 o), .ptr 0 0], [.box 3 [.v (.int .i64 o0)]] => l_teach_member_1 o o0 (fun r0 r1 => K (.v (.bool r0)) [.box 3 [.v (.int .i64 r1)]])
  | _, _ => none⟩

theorem sound_teach_member_1 : Sound Try.prog 31 (S_teach_member_1 @l_teach_member_1) := by
  refine fn_sound (cuts := cuts_teach_member_1) (fn := Try.f31) (Γ := T_teach_member_1) wide right_T_teach_member_1 Try.func31 fun {R} K r args ob h => ?_
  unfold S_teach_member_1 at h
  dsimp only at h
  split at h
  · exact ⟨Nat.le_of_ble_eq_true (by kernel_rfl), 0, (entry_teach_member_1 K _ _).trans h⟩
  · cases h

theorem call_teach_member_1 : Callable Try.prog 31 := ⟨_, Try.func31, by kernel_rfl, by kernel_rfl⟩

def T_slices_IndexFunc_int_int (l_teach_member_1 : {R : Type} → Int → Int → (Bool → Int → Option R) → Option R) : FuncId → Option Sum := (addS G0 31 (S_teach_member_1 @l_teach_member_1))

theorem right_T_slices_IndexFunc_int_int : Right Try.prog (T_slices_IndexFunc_int_int @l_teach_member_1) := (right_add right_G0 call_teach_member_1 sound_teach_member_1)

abbrev cuts_slices_IndexFunc_int_int_f31 : Cuts := [(2, [0, 1, 7, 8])]

theorem gstep_slices_IndexFunc_int_int_f31_2 (l_teach_member_1 : {R : Type} → Int → Int → (Bool → Int → Option R) → Option R) {R : Type} (g : List Item → St → Option R) (K : AV → List O → Option R) (s : List Int) (x7 : Int) (x8 : Int) (o0 : Int) :
    runSeg Try.prog (T_slices_IndexFunc_int_int @l_teach_member_1) cuts_slices_IndexFunc_int_int_f31 1 g (finish Try.prog Try.f42 1 K) (at' Try.f42 2) ⟨fr0 19 [(0, .rd ⟨false, 3, (.int .i64), s⟩), (1, .clo 31 [.ptr 0 0]), (7, .v (.int .i64 x7)), (8, .v (.int .i64 x8))], [.box 3 [.v (.int .i64 o0)]]⟩ =
    (fun (g42_2 : (List Int) → Int → Int → Int → Option R) (K0 : Int → Int → Option R) (s : List Int) (x7 : Int) (x8 : Int) (o0 : Int) =>
    bi (decide (x8 < x7))
     (bi (decide (0 ≤ x8 ∧ x8 < ((s.length : Nat) : Int)))
      (l_teach_member_1 (s.getD x8.toNat 0) o0
       (fun r1 r2 =>
        bi r1
         (K0 x8 r2)
         (g42_2 s x7 (IntKind.i64.wrap (x8 + 1)) r2)))
      none)
     (K0 (-1) o0)) (fun s x7 x8 o0 => g (at' Try.f42 2) ⟨fr0 19 [(0, .rd ⟨false, 3, (.int .i64), s⟩), (1, .clo 31 [.ptr 0 0]), (7, .v (.int .i64 x7)), (8, .v (.int .i64 x8))], [.box 3 [.v (.int .i64 o0)]]⟩) (fun r0 r1 => K (.v (.int .i64 r0)) [.box 3 [.v (.int .i64 r1)]]) s x7 x8 o0 := by kernel_rfl

theorem step_slices_IndexFunc_int_int_f31_2 {R : Type} (g : List Item → St → Option R) (K : AV → List O → Option R) (s : List Int) (x7 : Int) (x8 : Int) (o0 : Int) :
    runSeg Try.prog (T_slices_IndexFunc_int_int @l_teach_member_1) cuts_slices_IndexFunc_int_int_f31 1 g (finish Try.prog Try.f42 1 K) (at' Try.f42 2) ⟨fr0 19 [(0, .rd ⟨false, 3, (.int .i64), s⟩), (1, .clo 31 [.ptr 0 0]), (7, .v (.int .i64 x7)), (8, .v (.int .i64 x8))], [.box 3 [.v (.int .i64 o0)]]⟩ =
    s_slices_IndexFunc_int_int_f31_2 (fun s x7 x8 o0 => g (at' Try.f42 2) ⟨fr0 19 [(0, .rd ⟨false, 3, (.int .i64), s⟩), (1, .clo 31 [.ptr 0 0]), (7, .v (.int .i64 x7)), (8, .v (.int .i64 x8))], [.box 3 [.v (.int .i64 o0)]]⟩) (fun r0 r1 => K (.v (.int .i64 r0)) [.box 3 [.v (.int .i64 r1)]]) s x7 x8 o0 := gstep_slices_IndexFunc_int_int_f31_2 @l_teach_member_1 g K s x7 x8 o0

theorem gentry_slices_IndexFunc_int_int_f31 (l_teach_member_1 : {R : Type} → Int → Int → (Bool → Int → Option R) → Option R) {R : Type} (fuel : Nat) (K : AV → List O → Option R) (s : List Int) (o0 : Int) :
    fnRun Try.prog (T_slices_IndexFunc_int_int @l_teach_member_1) cuts_slices_IndexFunc_int_int_f31 Try.f42 fuel [.rd ⟨false, 3, (.int .i64), s⟩, .clo 31 [.ptr 0 0]] [.box 3 [.v (.int .i64 o0)]] K =
    (fun (g42_2 : (List Int) → Int → Int → Int → Option R) (K0 : Int → Int → Option R) (s : List Int) (o0 : Int) =>
    g42_2 s (s.length : Int) 0 o0) (fun s x7 x8 o0 => (runO Try.prog (T_slices_IndexFunc_int_int @l_teach_member_1) cuts_slices_IndexFunc_int_int_f31 1 (finish Try.prog Try.f42 1 K) fuel) (at' Try.f42 2) ⟨fr0 19 [(0, .rd ⟨false, 3, (.int .i64), s⟩), (1, .clo 31 [.ptr 0 0]), (7, .v (.int .i64 x7)), (8, .v (.int .i64 x8))], [.box 3 [.v (.int .i64 o0)]]⟩) (fun r0 r1 => K (.v (.int .i64 r0)) [.box 3 [.v (.int .i64 r1)]]) s o0 := by kernel_rfl

theorem entry_slices_IndexFunc_int_int_f31 {R : Type} (fuel : Nat) (K : AV → List O → Option R) (s : List Int) (o0 : Int) :
    fnRun Try.prog (T_slices_IndexFunc_int_int @l_teach_member_1) cuts_slices_IndexFunc_int_int_f31 Try.f42 fuel [.rd ⟨false, 3, (.int .i64), s⟩, .clo 31 [.ptr 0 0]] [.box 3 [.v (.int .i64 o0)]] K =
    e_slices_IndexFunc_int_int_f31 (fun s x7 x8 o0 => (runO Try.prog (T_slices_IndexFunc_int_int @l_teach_member_1) cuts_slices_IndexFunc_int_int_f31 1 (finish Try.prog Try.f42 1 K) fuel) (at' Try.f42 2) ⟨fr0 19 [(0, .rd ⟨false, 3, (.int .i64), s⟩), (1, .clo 31 [.ptr 0 0]), (7, .v (.int .i64 x7)), (8, .v (.int .i64 x8))], [.box 3 [.v (.int .i64 o0)]]⟩) (fun r0 r1 => K (.v (.int .i64 r0)) [.box 3 [.v (.int .i64 r1)]]) s o0 := gentry_slices_IndexFunc_int_int_f31 @l_teach_member_1 fuel K s o0

theorem runs_slices_IndexFunc_int_int_f31 {R : Type} (K : AV → List O → Option R) : ∀ fuel : Nat,
    (fun s x7 x8 o0 => (runO Try.prog (T_slices_IndexFunc_int_int @l_teach_member_1) cuts_slices_IndexFunc_int_int_f31 1 (finish Try.prog Try.f42 1 K) fuel) (at' Try.f42 2) ⟨fr0 19 [(0, .rd ⟨false, 3, (.int .i64), s⟩), (1, .clo 31 [.ptr 0 0]), (7, .v (.int .i64 x7)), (8, .v (.int .i64 x8))], [.box 3 [.v (.int .i64 o0)]]⟩) = (run_slices_IndexFunc_int_int_f31 (fun r0 r1 => K (.v (.int .i64 r0)) [.box 3 [.v (.int .i64 r1)]]) fuel)
  | 0 => rfl
  | fuel + 1 => by
    have ih := runs_slices_IndexFunc_int_int_f31 K fuel
    funext s x7 x8 o0
    refine (step_slices_IndexFunc_int_int_f31_2 _ K s x7 x8 o0).trans ?_
    rw [ih]
    rfl

def S_slices_IndexFunc_int_int (l_slices_IndexFunc_int_int_f31 : {R : Type} → (List Int) → Int → (Int → Int → Option R) → Option R) : Sum := ⟨[], fun {R} args ob K => match args, ob with
  | [.rd ⟨false, 3, (.int .i64), s⟩, .clo 31 [.ptr 0 0]], [.box 3 [.v (.int .i64 o0)]] => l_slices_IndexFunc_int_int_f31 s o0 (fun r0 r1 => K (.v (.int .i64 r0)) [.box 3 [.v (.int .i64 r1)]])
  | _, _ => none⟩

theorem sound_slices_IndexFunc_int_int : Sound Try.prog 42 (S_slices_IndexFunc_int_int @l_slices_IndexFunc_int_int_f31) := by
  refine fn_sound (cuts := cuts_slices_IndexFunc_int_int_f31) (fn := Try.f42) (Γ := (T_slices_IndexFunc_int_int @l_teach_member_1)) wide right_T_slices_IndexFunc_int_int Try.func42 fun {R} K r args ob h => ?_
  unfold S_slices_IndexFunc_int_int at h
  dsimp only at h
  split at h
  · obtain ⟨n, hn⟩ := ok_slices_IndexFunc_int_int_f31 _ _ _ h
    refine ⟨Nat.le_of_ble_eq_true (by kernel_rfl), n, (entry_slices_IndexFunc_int_int_f31 n K _ _).trans ?_⟩
    rw [(runs_slices_IndexFunc_int_int_f31 K n)]
    exact hn
  · cases h

theorem call_slices_IndexFunc_int_int : Callable Try.prog 42 := ⟨_, Try.func42, by kernel_rfl, by kernel_rfl⟩

def T_slices_ContainsFunc_int_int (l_slices_IndexFunc_int_int_f31 : {R : Type} → (List Int) → Int → (Int → Int → Option R) → Option R) : FuncId → Option Sum := (addS G0 42 (S_slices_IndexFunc_int_int @l_slices_IndexFunc_int_int_f31))

theorem right_T_slices_ContainsFunc_int_int : Right Try.prog (T_slices_ContainsFunc_int_int @l_slices_IndexFunc_int_int_f31) := (right_add right_G0 call_slices_IndexFunc_int_int sound_slices_IndexFunc_int_int)

abbrev cuts_slices_ContainsFunc_int_int_f31 : Cuts := []

theorem gentry_slices_ContainsFunc_int_int_f31 (l_slices_IndexFunc_int_int_f31 : {R : Type} → (List Int) → Int → (Int → Int → Option R) → Option R) {R : Type} (K : AV → List O → Option R) (s : List Int) (o0 : Int) :
    fnRun Try.prog (T_slices_ContainsFunc_int_int @l_slices_IndexFunc_int_int_f31) cuts_slices_ContainsFunc_int_int_f31 Try.f30 0 [.rd ⟨false, 3, (.int .i64), s⟩, .clo 31 [.ptr 0 0]] [.box 3 [.v (.int .i64 o0)]] K =
    (fun (s : List Int) (o0 : Int) (K0 : Bool → Int → Option R) =>
    l_slices_IndexFunc_int_int_f31 s o0
     (fun r1 r2 =>
      K0 (decide (r1 ≥ 0)) r2)) s o0 (fun r0 r1 => K (.v (.bool r0)) [.box 3 [.v (.int .i64 r1)]]) := by kernel_rfl

theorem entry_slices_ContainsFunc_int_int_f31 {R : Type} (K : AV → List O → Option R) (s : List Int) (o0 : Int) :
    fnRun Try.prog (T_slices_ContainsFunc_int_int @l_slices_IndexFunc_int_int_f31) cuts_slices_ContainsFunc_int_int_f31 Try.f30 0 [.rd ⟨false, 3, (.int .i64), s⟩, .clo 31 [.ptr 0 0]] [.box 3 [.v (.int .i64 o0)]] K =
    l_slices_ContainsFunc_int_int_f31 s o0 (fun r0 r1 => K (.v (.bool r0)) [.box 3 [.v (.int .i64 r1)]]) := gentry_slices_ContainsFunc_int_int_f31 @l_slices_IndexFunc_int_int_f31 K s o0

def S_slices_ContainsFunc_int_int (l_slices_ContainsFunc_int_int_f31 : {R : Type} → (List Int) → Int → (Bool → Int → Option R) → Option R) : Sum := ⟨[], fun {R} args ob K => match args, ob with
  | [.rd ⟨false, 3, (.int .i64), s⟩, .clo 31 [.ptr 0 0]], [.box 3 [.v (.int .i64 o0)]] => l_slices_ContainsFunc_int_int_f31 s o0 (fun r0 r1 => K (.v (.bool r0)) [.box 3 [.v (.int .i64 r1)]])
  | _, _ => none⟩

theorem sound_slices_ContainsFunc_int_int : Sound Try.prog 30 (S_slices_ContainsFunc_int_int @l_slices_ContainsFunc_int_int_f31) := by
  refine fn_sound (cuts := cuts_slices_ContainsFunc_int_int_f31) (fn := Try.f30) (Γ := (T_slices_ContainsFunc_int_int @l_slices_IndexFunc_int_int_f31)) wide right_T_slices_ContainsFunc_int_int Try.func30 fun {R} K r args ob h => ?_
  unfold S_slices_ContainsFunc_int_int at h
  dsimp only at h
  split at h
  · exact ⟨Nat.le_of_ble_eq_true (by kernel_rfl), 0, (entry_slices_ContainsFunc_int_int_f31 K _ _).trans h⟩
  · cases h

theorem call_slices_ContainsFunc_int_int : Callable Try.prog 30 := ⟨_, Try.func30, by kernel_rfl, by kernel_rfl⟩

def T_teach_member (l_slices_ContainsFunc_int_int_f31 : {R : Type} → (List Int) → Int → (Bool → Int → Option R) → Option R) : FuncId → Option Sum := (addS G0 30 (S_slices_ContainsFunc_int_int @l_slices_ContainsFunc_int_int_f31))

theorem right_T_teach_member : Right Try.prog (T_teach_member @l_slices_ContainsFunc_int_int_f31) := (right_add right_G0 call_slices_ContainsFunc_int_int sound_slices_ContainsFunc_int_int)

abbrev cuts_teach_member : Cuts := []

theorem gentry_teach_member (l_slices_ContainsFunc_int_int_f31 : {R : Type} → (List Int) → Int → (Bool → Int → Option R) → Option R) {R : Type} (K : AV → List O → Option R) (q : Int) (q_1 : List Int) (q_2 : Int) (q_3 : Int) (q_4 : Int) (q_5 : Int) (q_6 : List Int) (q_7 : List Int) (out : List Int) :
    fnRun Try.prog (T_teach_member @l_slices_ContainsFunc_int_int_f31) cuts_teach_member Try.f20 0 [.agg [.v (.int .i64 q), .rd ⟨false, 3, (.int .i64), q_1⟩, .v (.int .i64 q_2), .v (.int .i64 q_3), .v (.int .i64 q_4), .v (.int .i64 q_5), .rd ⟨false, 3, (.int .i64), q_6⟩, .rd ⟨false, 3, (.int .i64), q_7⟩], .rd ⟨false, 3, (.int .i64), out⟩] [] K =
    (fun (q : Int) (q_1 : List Int) (q_2 : Int) (q_3 : Int) (q_4 : Int) (q_5 : Int) (q_6 : List Int) (q_7 : List Int) (out : List Int) (K0 : Bool → Option R) =>
    bi (q_2 == 1)
     (bi ((out.length : Int) == 1)
      (l_slices_ContainsFunc_int_int_f31 out 2
       (fun r1 r2 =>
        K0 (!r1)))
      (K0 false))
     (bi (q_2 == 2)
      (bi ((out.length : Int) == (q_1.length : Int))
       (l_slices_ContainsFunc_int_int_f31 out q_4
        (fun r3 r4 =>
         K0 (!r3)))
       (K0 false))
      (K0 false))) q q_1 q_2 q_3 q_4 q_5 q_6 q_7 out (fun r0 => K (.v (.bool r0)) []) := by kernel_rfl

theorem entry_teach_member {R : Type} (K : AV → List O → Option R) (q : Int) (q_1 : List Int) (q_2 : Int) (q_3 : Int) (q_4 : Int) (q_5 : Int) (q_6 : List Int) (q_7 : List Int) (out : List Int) :
    fnRun Try.prog (T_teach_member @l_slices_ContainsFunc_int_int_f31) cuts_teach_member Try.f20 0 [.agg [.v (.int .i64 q), .rd ⟨false, 3, (.int .i64), q_1⟩, .v (.int .i64 q_2), .v (.int .i64 q_3), .v (.int .i64 q_4), .v (.int .i64 q_5), .rd ⟨false, 3, (.int .i64), q_6⟩, .rd ⟨false, 3, (.int .i64), q_7⟩], .rd ⟨false, 3, (.int .i64), out⟩] [] K =
    l_teach_member q q_1 q_2 q_3 q_4 q_5 q_6 q_7 out (fun r0 => K (.v (.bool r0)) []) := gentry_teach_member @l_slices_ContainsFunc_int_int_f31 K q q_1 q_2 q_3 q_4 q_5 q_6 q_7 out

def S_teach_member (l_teach_member : {R : Type} → Int → (List Int) → Int → Int → Int → Int → (List Int) → (List Int) → (List Int) → (Bool → Option R) → Option R) : Sum := ⟨[], fun {R} args ob K => match args, ob with
  | [.agg [.v (.int .i64 q), .rd ⟨false, 3, (.int .i64), q_1⟩, .v (.int .i64 q_2), .v (.int .i64 q_3), .v (.int .i64 q_4), .v (.int .i64 q_5), .rd ⟨false, 3, (.int .i64), q_6⟩, .rd ⟨false, 3, (.int .i64), q_7⟩], .rd ⟨false, 3, (.int .i64), out⟩], [] => l_teach_member q q_1 q_2 q_3 q_4 q_5 q_6 q_7 out (fun r0 => K (.v (.bool r0)) [])
  | _, _ => none⟩

theorem sound_teach_member : Sound Try.prog 20 (S_teach_member @l_teach_member) := by
  refine fn_sound (cuts := cuts_teach_member) (fn := Try.f20) (Γ := (T_teach_member @l_slices_ContainsFunc_int_int_f31)) wide right_T_teach_member Try.func20 fun {R} K r args ob h => ?_
  unfold S_teach_member at h
  dsimp only at h
  split at h
  · exact ⟨Nat.le_of_ble_eq_true (by kernel_rfl), 0, (entry_teach_member K _ _ _ _ _ _ _ _ _).trans h⟩
  · cases h

theorem call_teach_member : Callable Try.prog 20 := ⟨_, Try.func20, by kernel_rfl, by kernel_rfl⟩

def T_word_alphabet : FuncId → Option Sum := G0

theorem right_T_word_alphabet : Right Try.prog T_word_alphabet := right_G0

abbrev cuts_word_alphabet : Cuts := []

theorem gentry_word_alphabet {R : Type} (K : AV → List O → Option R) (k : Int) :
    fnRun Try.prog T_word_alphabet cuts_word_alphabet Try.f32 0 [.v (.int .i64 k)] [] K =
    (fun (k : Int) (K0 : Bool → Option R) =>
    bi (decide (k ≥ 1))
     (K0 (decide (k ≤ 64)))
     (K0 false)) k (fun r0 => K (.v (.bool r0)) []) := by kernel_rfl

theorem entry_word_alphabet {R : Type} (K : AV → List O → Option R) (k : Int) :
    fnRun Try.prog T_word_alphabet cuts_word_alphabet Try.f32 0 [.v (.int .i64 k)] [] K =
    l_word_alphabet k (fun r0 => K (.v (.bool r0)) []) := gentry_word_alphabet K k

def S_word_alphabet (l_word_alphabet : {R : Type} → Int → (Bool → Option R) → Option R) : Sum := ⟨[], fun {R} args ob K => match args, ob with
  | [.v (.int .i64 k)], [] => l_word_alphabet k (fun r0 => K (.v (.bool r0)) [])
  | _, _ => none⟩

theorem sound_word_alphabet : Sound Try.prog 32 (S_word_alphabet @l_word_alphabet) := by
  refine fn_sound (cuts := cuts_word_alphabet) (fn := Try.f32) (Γ := T_word_alphabet) wide right_T_word_alphabet Try.func32 fun {R} K r args ob h => ?_
  unfold S_word_alphabet at h
  dsimp only at h
  split at h
  · exact ⟨Nat.le_of_ble_eq_true (by kernel_rfl), 0, (entry_word_alphabet K _).trans h⟩
  · cases h

theorem call_word_alphabet : Callable Try.prog 32 := ⟨_, Try.func32, by kernel_rfl, by kernel_rfl⟩

def T_word_Check (l_word_alphabet : {R : Type} → Int → (Bool → Option R) → Option R) : FuncId → Option Sum := (addS G0 32 (S_word_alphabet @l_word_alphabet))

theorem right_T_word_Check : Right Try.prog (T_word_Check @l_word_alphabet) := (right_add right_G0 call_word_alphabet sound_word_alphabet)

abbrev cuts_word_Check : Cuts := [(6, [0, 1, 16, 17])]

theorem gstep_word_Check_6 (l_word_alphabet : {R : Type} → Int → (Bool → Option R) → Option R) {R : Type} (g : List Item → St → Option R) (K : AV → List O → Option R) (w : List Int) (k : Int) (x16 : Int) (x17 : Int) :
    runSeg Try.prog (T_word_Check @l_word_alphabet) cuts_word_Check 0 g (finish Try.prog Try.f21 0 K) (at' Try.f21 6) ⟨fr0 35 [(0, .rd ⟨false, 3, (.int .i64), w⟩), (1, .v (.int .i64 k)), (16, .v (.int .i64 x16)), (17, .v (.int .i64 x17))], []⟩ =
    (fun (g21_6 : (List Int) → Int → Int → Int → Option R) (K0 : Int → Int → Option R) (w : List Int) (k : Int) (x16 : Int) (x17 : Int) =>
    bi (decide (x17 < x16))
     (bi (decide (0 ≤ x17 ∧ x17 < ((w.length : Nat) : Int)))
      (bi (decide ((w.getD x17.toNat 0) < 0))
       (K0 x17 10)
       (bi (decide (0 ≤ x17 ∧ x17 < ((w.length : Nat) : Int)))
        (bi (decide ((w.getD x17.toNat 0) ≥ k))
         (K0 x17 10)
         (g21_6 w k x16 (IntKind.i64.wrap (x17 + 1))))
        none))
      none)
     (K0 0 0)) (fun w k x16 x17 => g (at' Try.f21 6) ⟨fr0 35 [(0, .rd ⟨false, 3, (.int .i64), w⟩), (1, .v (.int .i64 k)), (16, .v (.int .i64 x16)), (17, .v (.int .i64 x17))], []⟩) (fun r0 r1 => K (.tup [.v (.int .i64 r0), .v (.int .i64 r1)]) []) w k x16 x17 := by kernel_rfl

theorem step_word_Check_6 {R : Type} (g : List Item → St → Option R) (K : AV → List O → Option R) (w : List Int) (k : Int) (x16 : Int) (x17 : Int) :
    runSeg Try.prog (T_word_Check @l_word_alphabet) cuts_word_Check 0 g (finish Try.prog Try.f21 0 K) (at' Try.f21 6) ⟨fr0 35 [(0, .rd ⟨false, 3, (.int .i64), w⟩), (1, .v (.int .i64 k)), (16, .v (.int .i64 x16)), (17, .v (.int .i64 x17))], []⟩ =
    s_word_Check_6 (fun w k x16 x17 => g (at' Try.f21 6) ⟨fr0 35 [(0, .rd ⟨false, 3, (.int .i64), w⟩), (1, .v (.int .i64 k)), (16, .v (.int .i64 x16)), (17, .v (.int .i64 x17))], []⟩) (fun r0 r1 => K (.tup [.v (.int .i64 r0), .v (.int .i64 r1)]) []) w k x16 x17 := gstep_word_Check_6 @l_word_alphabet g K w k x16 x17

theorem gentry_word_Check (l_word_alphabet : {R : Type} → Int → (Bool → Option R) → Option R) {R : Type} (fuel : Nat) (K : AV → List O → Option R) (w : List Int) (k : Int) :
    fnRun Try.prog (T_word_Check @l_word_alphabet) cuts_word_Check Try.f21 fuel [.rd ⟨false, 3, (.int .i64), w⟩, .v (.int .i64 k)] [] K =
    (fun (g21_6 : (List Int) → Int → Int → Int → Option R) (K0 : Int → Int → Option R) (w : List Int) (k : Int) =>
    l_word_alphabet k
     (fun r1 =>
      bi (!r1)
       (K0 0 1)
       (bi (decide ((w.length : Int) > 4096))
        (K0 0 2)
        (g21_6 w k (w.length : Int) 0)))) (fun w k x16 x17 => (runO Try.prog (T_word_Check @l_word_alphabet) cuts_word_Check 0 (finish Try.prog Try.f21 0 K) fuel) (at' Try.f21 6) ⟨fr0 35 [(0, .rd ⟨false, 3, (.int .i64), w⟩), (1, .v (.int .i64 k)), (16, .v (.int .i64 x16)), (17, .v (.int .i64 x17))], []⟩) (fun r0 r1 => K (.tup [.v (.int .i64 r0), .v (.int .i64 r1)]) []) w k := by kernel_rfl

theorem entry_word_Check {R : Type} (fuel : Nat) (K : AV → List O → Option R) (w : List Int) (k : Int) :
    fnRun Try.prog (T_word_Check @l_word_alphabet) cuts_word_Check Try.f21 fuel [.rd ⟨false, 3, (.int .i64), w⟩, .v (.int .i64 k)] [] K =
    e_word_Check (fun w k x16 x17 => (runO Try.prog (T_word_Check @l_word_alphabet) cuts_word_Check 0 (finish Try.prog Try.f21 0 K) fuel) (at' Try.f21 6) ⟨fr0 35 [(0, .rd ⟨false, 3, (.int .i64), w⟩), (1, .v (.int .i64 k)), (16, .v (.int .i64 x16)), (17, .v (.int .i64 x17))], []⟩) (fun r0 r1 => K (.tup [.v (.int .i64 r0), .v (.int .i64 r1)]) []) w k := gentry_word_Check @l_word_alphabet fuel K w k

theorem runs_word_Check {R : Type} (K : AV → List O → Option R) : ∀ fuel : Nat,
    (fun w k x16 x17 => (runO Try.prog (T_word_Check @l_word_alphabet) cuts_word_Check 0 (finish Try.prog Try.f21 0 K) fuel) (at' Try.f21 6) ⟨fr0 35 [(0, .rd ⟨false, 3, (.int .i64), w⟩), (1, .v (.int .i64 k)), (16, .v (.int .i64 x16)), (17, .v (.int .i64 x17))], []⟩) = (run_word_Check (fun r0 r1 => K (.tup [.v (.int .i64 r0), .v (.int .i64 r1)]) []) fuel)
  | 0 => rfl
  | fuel + 1 => by
    have ih := runs_word_Check K fuel
    funext w k x16 x17
    refine (step_word_Check_6 _ K w k x16 x17).trans ?_
    rw [ih]
    rfl

def S_word_Check (l_word_Check : {R : Type} → (List Int) → Int → (Int → Int → Option R) → Option R) : Sum := ⟨[], fun {R} args ob K => match args, ob with
  | [.rd ⟨false, 3, (.int .i64), w⟩, .v (.int .i64 k)], [] => l_word_Check w k (fun r0 r1 => K (.tup [.v (.int .i64 r0), .v (.int .i64 r1)]) [])
  | _, _ => none⟩

theorem sound_word_Check : Sound Try.prog 21 (S_word_Check @l_word_Check) := by
  refine fn_sound (cuts := cuts_word_Check) (fn := Try.f21) (Γ := (T_word_Check @l_word_alphabet)) wide right_T_word_Check Try.func21 fun {R} K r args ob h => ?_
  unfold S_word_Check at h
  dsimp only at h
  split at h
  · obtain ⟨n, hn⟩ := ok_word_Check _ _ _ h
    refine ⟨Nat.le_of_ble_eq_true (by kernel_rfl), n, (entry_word_Check n K _ _).trans ?_⟩
    rw [(runs_word_Check K n)]
    exact hn
  · cases h

theorem call_word_Check : Callable Try.prog 21 := ⟨_, Try.func21, by kernel_rfl, by kernel_rfl⟩

def T_teach_Check (l_teach_member : {R : Type} → Int → (List Int) → Int → Int → Int → Int → (List Int) → (List Int) → (List Int) → (Bool → Option R) → Option R) (l_word_Check : {R : Type} → (List Int) → Int → (Int → Int → Option R) → Option R) (l_teach_of : {R : Type} → Int → (List Int) → (List Int) → ((List Int) → Option R) → (Option R) → ((List Int) → Option R) → (Option R) → Option R) : FuncId → Option Sum := (addS (addS (addS G0 20 (S_teach_member @l_teach_member)) 21 (S_word_Check @l_word_Check)) 19 (S_teach_of @l_teach_of))

theorem right_T_teach_Check : Right Try.prog (T_teach_Check @l_teach_member @l_word_Check @l_teach_of) := (right_add (right_add (right_add right_G0 call_teach_member sound_teach_member) call_word_Check sound_word_Check) call_teach_of sound_teach_of)

abbrev cuts_teach_Check : Cuts := []

theorem gentry_teach_Check (l_teach_member : {R : Type} → Int → (List Int) → Int → Int → Int → Int → (List Int) → (List Int) → (List Int) → (Bool → Option R) → Option R) (l_word_Check : {R : Type} → (List Int) → Int → (Int → Int → Option R) → Option R) (l_teach_of : {R : Type} → Int → (List Int) → (List Int) → ((List Int) → Option R) → (Option R) → ((List Int) → Option R) → (Option R) → Option R) {R : Type} (K : AV → List O → Option R) (q : Int) (q_1 : List Int) (q_2 : Int) (q_3 : Int) (q_4 : Int) (q_5 : Int) (q_6 : List Int) (q_7 : List Int) (a : Int) (a_1 : List Int) (a_2 : List Int) :
    fnRun Try.prog (T_teach_Check @l_teach_member @l_word_Check @l_teach_of) cuts_teach_Check Try.f9 0 [.agg [.v (.int .i64 q), .rd ⟨false, 3, (.int .i64), q_1⟩, .v (.int .i64 q_2), .v (.int .i64 q_3), .v (.int .i64 q_4), .v (.int .i64 q_5), .rd ⟨false, 3, (.int .i64), q_6⟩, .rd ⟨false, 3, (.int .i64), q_7⟩], .agg [.v (.int .i64 a), .rd ⟨false, 3, (.int .i64), a_1⟩, .rd ⟨false, 3, (.int .i64), a_2⟩]] [] K =
    (fun (q : Int) (q_1 : List Int) (q_2 : Int) (q_3 : Int) (q_4 : Int) (q_5 : Int) (q_6 : List Int) (q_7 : List Int) (a : Int) (a_1 : List Int) (a_2 : List Int) (K0 : Int → Option R) =>
    bi (q != 1)
     (bi (q != 2)
      (K0 30)
      (l_teach_of a a_1 a_2
       (fun r1 =>
        bi (q == 1)
         (bi ((a_2.length : Int) == 0)
          (l_teach_member q q_1 q_2 q_3 q_4 q_5 q_6 q_7 r1
           (fun r2 =>
            bi (!r2)
             (K0 100)
             (K0 0)))
          (K0 100))
         (K0 100))
       (bi (q == 2)
        (bi (!((IntKind.i64.wrap ((a_2.length : Int) + (a_1.length : Int))) == 0))
         (K0 100)
         (K0 0))
        (K0 100))
       (fun r3 =>
        l_word_Check r3 q_3
         (fun r4 r5 =>
          bi (q == 2)
           (bi ((a_1.length : Int) == 0)
            (bi (!(r5 == 0))
             (K0 100)
             (K0 0))
            (K0 100))
           (K0 100)))
       (K0 100)))
     (l_teach_of a a_1 a_2
      (fun r6 =>
       bi (q == 1)
        (bi ((a_2.length : Int) == 0)
         (l_teach_member q q_1 q_2 q_3 q_4 q_5 q_6 q_7 r6
          (fun r7 =>
           bi (!r7)
            (K0 100)
            (K0 0)))
         (K0 100))
        (K0 100))
      (bi (q == 2)
       (bi (!((IntKind.i64.wrap ((a_2.length : Int) + (a_1.length : Int))) == 0))
        (K0 100)
        (K0 0))
       (K0 100))
      (fun r8 =>
       l_word_Check r8 q_3
        (fun r9 r10 =>
         bi (q == 2)
          (bi ((a_1.length : Int) == 0)
           (bi (!(r10 == 0))
            (K0 100)
            (K0 0))
           (K0 100))
          (K0 100)))
      (K0 100))) q q_1 q_2 q_3 q_4 q_5 q_6 q_7 a a_1 a_2 (fun r0 => K (.v (.int .i64 r0)) []) := by kernel_rfl

theorem entry_teach_Check {R : Type} (K : AV → List O → Option R) (q : Int) (q_1 : List Int) (q_2 : Int) (q_3 : Int) (q_4 : Int) (q_5 : Int) (q_6 : List Int) (q_7 : List Int) (a : Int) (a_1 : List Int) (a_2 : List Int) :
    fnRun Try.prog (T_teach_Check @l_teach_member @l_word_Check @l_teach_of) cuts_teach_Check Try.f9 0 [.agg [.v (.int .i64 q), .rd ⟨false, 3, (.int .i64), q_1⟩, .v (.int .i64 q_2), .v (.int .i64 q_3), .v (.int .i64 q_4), .v (.int .i64 q_5), .rd ⟨false, 3, (.int .i64), q_6⟩, .rd ⟨false, 3, (.int .i64), q_7⟩], .agg [.v (.int .i64 a), .rd ⟨false, 3, (.int .i64), a_1⟩, .rd ⟨false, 3, (.int .i64), a_2⟩]] [] K =
    l_teach_Check q q_1 q_2 q_3 q_4 q_5 q_6 q_7 a a_1 a_2 (fun r0 => K (.v (.int .i64 r0)) []) := gentry_teach_Check @l_teach_member @l_word_Check @l_teach_of K q q_1 q_2 q_3 q_4 q_5 q_6 q_7 a a_1 a_2

def S_teach_Check (l_teach_Check : {R : Type} → Int → (List Int) → Int → Int → Int → Int → (List Int) → (List Int) → Int → (List Int) → (List Int) → (Int → Option R) → Option R) : Sum := ⟨[], fun {R} args ob K => match args, ob with
  | [.agg [.v (.int .i64 q), .rd ⟨false, 3, (.int .i64), q_1⟩, .v (.int .i64 q_2), .v (.int .i64 q_3), .v (.int .i64 q_4), .v (.int .i64 q_5), .rd ⟨false, 3, (.int .i64), q_6⟩, .rd ⟨false, 3, (.int .i64), q_7⟩], .agg [.v (.int .i64 a), .rd ⟨false, 3, (.int .i64), a_1⟩, .rd ⟨false, 3, (.int .i64), a_2⟩]], [] => l_teach_Check q q_1 q_2 q_3 q_4 q_5 q_6 q_7 a a_1 a_2 (fun r0 => K (.v (.int .i64 r0)) [])
  | _, _ => none⟩

theorem sound_teach_Check : Sound Try.prog 9 (S_teach_Check @l_teach_Check) := by
  refine fn_sound (cuts := cuts_teach_Check) (fn := Try.f9) (Γ := (T_teach_Check @l_teach_member @l_word_Check @l_teach_of)) wide right_T_teach_Check Try.func9 fun {R} K r args ob h => ?_
  unfold S_teach_Check at h
  dsimp only at h
  split at h
  · exact ⟨Nat.le_of_ble_eq_true (by kernel_rfl), 0, (entry_teach_Check K _ _ _ _ _ _ _ _ _ _ _).trans h⟩
  · cases h

theorem call_teach_Check : Callable Try.prog 9 := ⟨_, Try.func9, by kernel_rfl, by kernel_rfl⟩

def T_tutorlaw10_live (l_tutorlaw10_num : {R : Type} → Int → (Int → Option R) → Option R) (l_teach_Check : {R : Type} → Int → (List Int) → Int → Int → Int → Int → (List Int) → (List Int) → Int → (List Int) → (List Int) → (Int → Option R) → Option R) (l_tutorref01_Same : {R : Type} → (List Int) → (List Int) → (Bool → Option R) → Option R) (l_teach_Parse : {R : Type} → (List Int) → (Int → Int → (List (Int × (List Int × List Int))) → Option R) → Option R) : FuncId → Option Sum := (addS (addS (addS (addS G0 8 (S_tutorlaw10_num @l_tutorlaw10_num)) 9 (S_teach_Check @l_teach_Check)) 17 (S_tutorref01_Same @l_tutorref01_Same)) 18 (S_teach_Parse @l_teach_Parse))

theorem right_T_tutorlaw10_live : Right Try.prog (T_tutorlaw10_live @l_tutorlaw10_num @l_teach_Check @l_tutorref01_Same @l_teach_Parse) := (right_add (right_add (right_add (right_add right_G0 call_tutorlaw10_num sound_tutorlaw10_num) call_teach_Check sound_teach_Check) call_tutorref01_Same sound_tutorref01_Same) call_teach_Parse sound_teach_Parse)

abbrev cuts_tutorlaw10_live : Cuts := []

theorem gentry_tutorlaw10_live (l_tutorlaw10_num : {R : Type} → Int → (Int → Option R) → Option R) (l_teach_Check : {R : Type} → Int → (List Int) → Int → Int → Int → Int → (List Int) → (List Int) → Int → (List Int) → (List Int) → (Int → Option R) → Option R) (l_tutorref01_Same : {R : Type} → (List Int) → (List Int) → (Bool → Option R) → Option R) (l_teach_Parse : {R : Type} → (List Int) → (Int → Int → (List (Int × (List Int × List Int))) → Option R) → Option R) {R : Type} (K : AV → List O → Option R)  :
    fnRun Try.prog (T_tutorlaw10_live @l_tutorlaw10_num @l_teach_Check @l_tutorref01_Same @l_teach_Parse) cuts_tutorlaw10_live Try.f7 0 [] [] K =
    (fun  (K0 : Bool → Option R) =>
    bi (decide (0 < [111, 32, 48, 32, 49, 10, 121, 10, 110, 32, 50, 10].length))
     (l_teach_Parse [111, 32, 48, 32, 49, 10, 121, 10, 110, 32, 50, 10]
      (fun r1 r2 r3 =>
       bi (decide (0 < [111, 32, 48, 49, 10].length))
        (l_teach_Parse [111, 32, 48, 49, 10]
         (fun r4 r5 r6 =>
          l_tutorlaw10_num r1
           (fun r7 =>
            bi (r7 == 0)
             (bi (r2 == 12)
              (bi ((r3.length : Int) == 3)
               (bi (decide (0 ≤ (0 : Int) ∧ (0 : Int) < ((r3.length : Nat) : Int)))
                (l_tutorref01_Same (((r3.getD 0 (0, ([], []))).2).1) [0, 1]
                 (fun r8 =>
                  bi r8
                   (bi (decide (0 ≤ (1 : Int) ∧ (1 : Int) < ((r3.length : Nat) : Int)))
                    (bi (((r3.getD 1 (0, ([], []))).1) == 2)
                     (bi (decide (0 ≤ (2 : Int) ∧ (2 : Int) < ((r3.length : Nat) : Int)))
                      (l_tutorref01_Same (((r3.getD 2 (0, ([], []))).2).2) [2]
                       (fun r9 =>
                        bi r9
                         (l_tutorlaw10_num r4
                          (fun r10 =>
                           bi (r10 == 6)
                            (bi (r5 == 3)
                             (l_teach_Check 1 ([] : List Int) 1 0 2 0 ([] : List Int) ([] : List Int) 1 [2] ([] : List Int)
                              (fun r11 =>
                               l_tutorlaw10_num r11
                                (fun r12 =>
                                 K0 (r12 == 100))))
                             (K0 false))
                            (K0 false)))
                         (K0 false)))
                      none)
                     (K0 false))
                    none)
                   (K0 false)))
                none)
               (K0 false))
              (K0 false))
             (K0 false))))
        none))
     none)  (fun r0 => K (.v (.bool r0)) []) := by kernel_rfl

theorem entry_tutorlaw10_live {R : Type} (K : AV → List O → Option R)  :
    fnRun Try.prog (T_tutorlaw10_live @l_tutorlaw10_num @l_teach_Check @l_tutorref01_Same @l_teach_Parse) cuts_tutorlaw10_live Try.f7 0 [] [] K =
    l_tutorlaw10_live  (fun r0 => K (.v (.bool r0)) []) := gentry_tutorlaw10_live @l_tutorlaw10_num @l_teach_Check @l_tutorref01_Same @l_teach_Parse K 

def S_tutorlaw10_live (l_tutorlaw10_live : {R : Type} → (Bool → Option R) → Option R) : Sum := ⟨[], fun {R} args ob K => match args, ob with
  | [], [] => l_tutorlaw10_live  (fun r0 => K (.v (.bool r0)) [])
  | _, _ => none⟩

theorem sound_tutorlaw10_live : Sound Try.prog 7 (S_tutorlaw10_live @l_tutorlaw10_live) := by
  refine fn_sound (cuts := cuts_tutorlaw10_live) (fn := Try.f7) (Γ := (T_tutorlaw10_live @l_tutorlaw10_num @l_teach_Check @l_tutorref01_Same @l_teach_Parse)) wide right_T_tutorlaw10_live Try.func7 fun {R} K r args ob h => ?_
  unfold S_tutorlaw10_live at h
  dsimp only at h
  split at h
  · exact ⟨Nat.le_of_ble_eq_true (by kernel_rfl), 0, (entry_tutorlaw10_live K).trans h⟩
  · cases h

theorem call_tutorlaw10_live : Callable Try.prog 7 := ⟨_, Try.func7, by kernel_rfl, by kernel_rfl⟩

def T_tutorref10_Huge : FuncId → Option Sum := G0

theorem right_T_tutorref10_Huge : Right Try.prog T_tutorref10_Huge := right_G0

abbrev cuts_tutorref10_Huge : Cuts := [(5, [0, 1, 5, 6])]

theorem gstep_tutorref10_Huge_5 {R : Type} (g : List Item → St → Option R) (K : AV → List O → Option R) (l : List (Int × (List Int × List Int))) (most : Int) (n : Int) (i : Int) :
    runSeg Try.prog T_tutorref10_Huge cuts_tutorref10_Huge 0 g (finish Try.prog Try.f6 0 K) (at' Try.f6 5) ⟨fr0 53 [(0, .rd ⟨false, 28, (.pr (.int .i64) (.pr (.sl 3 (.int .i64)) (.sl 3 (.int .i64)))), l⟩), (1, .v (.int .i64 most)), (5, .v (.int .i64 n)), (6, .v (.int .i64 i))], []⟩ =
    (fun (g6_5 : (List (Int × (List Int × List Int))) → Int → Int → Int → Option R) (K0 : Bool → Option R) (l : List (Int × (List Int × List Int))) (most : Int) (n : Int) (i : Int) =>
    bi (decide (i < (l.length : Int)))
     (bi (decide (0 ≤ i ∧ i < ((l.length : Nat) : Int)))
      (bi (decide (((((l.getD i.toNat (0, ([], []))).2).1).length : Int) > (IntKind.i64.wrap (most - n))))
       (K0 true)
       (bi (decide (0 ≤ i ∧ i < ((l.length : Nat) : Int)))
        (bi (decide (0 ≤ i ∧ i < ((l.length : Nat) : Int)))
         (bi (decide (((((l.getD i.toNat (0, ([], []))).2).2).length : Int) > (IntKind.i64.wrap (most - (IntKind.i64.wrap (n + ((((l.getD i.toNat (0, ([], []))).2).1).length : Int)))))))
          (K0 true)
          (bi (decide (0 ≤ i ∧ i < ((l.length : Nat) : Int)))
           (g6_5 l most (IntKind.i64.wrap ((IntKind.i64.wrap (n + ((((l.getD i.toNat (0, ([], []))).2).1).length : Int))) + ((((l.getD i.toNat (0, ([], []))).2).2).length : Int))) (IntKind.i64.wrap (i + 1)))
           none))
         none)
        none))
      none)
     (K0 false)) (fun l most n i => g (at' Try.f6 5) ⟨fr0 53 [(0, .rd ⟨false, 28, (.pr (.int .i64) (.pr (.sl 3 (.int .i64)) (.sl 3 (.int .i64)))), l⟩), (1, .v (.int .i64 most)), (5, .v (.int .i64 n)), (6, .v (.int .i64 i))], []⟩) (fun r0 => K (.v (.bool r0)) []) l most n i := by kernel_rfl

theorem step_tutorref10_Huge_5 {R : Type} (g : List Item → St → Option R) (K : AV → List O → Option R) (l : List (Int × (List Int × List Int))) (most : Int) (n : Int) (i : Int) :
    runSeg Try.prog T_tutorref10_Huge cuts_tutorref10_Huge 0 g (finish Try.prog Try.f6 0 K) (at' Try.f6 5) ⟨fr0 53 [(0, .rd ⟨false, 28, (.pr (.int .i64) (.pr (.sl 3 (.int .i64)) (.sl 3 (.int .i64)))), l⟩), (1, .v (.int .i64 most)), (5, .v (.int .i64 n)), (6, .v (.int .i64 i))], []⟩ =
    s_tutorref10_Huge_5 (fun l most n i => g (at' Try.f6 5) ⟨fr0 53 [(0, .rd ⟨false, 28, (.pr (.int .i64) (.pr (.sl 3 (.int .i64)) (.sl 3 (.int .i64)))), l⟩), (1, .v (.int .i64 most)), (5, .v (.int .i64 n)), (6, .v (.int .i64 i))], []⟩) (fun r0 => K (.v (.bool r0)) []) l most n i := gstep_tutorref10_Huge_5 g K l most n i

theorem gentry_tutorref10_Huge {R : Type} (fuel : Nat) (K : AV → List O → Option R) (l : List (Int × (List Int × List Int))) (most : Int) :
    fnRun Try.prog T_tutorref10_Huge cuts_tutorref10_Huge Try.f6 fuel [.rd ⟨false, 28, (.pr (.int .i64) (.pr (.sl 3 (.int .i64)) (.sl 3 (.int .i64)))), l⟩, .v (.int .i64 most)] [] K =
    (fun (g6_5 : (List (Int × (List Int × List Int))) → Int → Int → Int → Option R) (K0 : Bool → Option R) (l : List (Int × (List Int × List Int))) (most : Int) =>
    bi (decide ((l.length : Int) > most))
     (K0 true)
     (g6_5 l most 0 0)) (fun l most n i => (runO Try.prog T_tutorref10_Huge cuts_tutorref10_Huge 0 (finish Try.prog Try.f6 0 K) fuel) (at' Try.f6 5) ⟨fr0 53 [(0, .rd ⟨false, 28, (.pr (.int .i64) (.pr (.sl 3 (.int .i64)) (.sl 3 (.int .i64)))), l⟩), (1, .v (.int .i64 most)), (5, .v (.int .i64 n)), (6, .v (.int .i64 i))], []⟩) (fun r0 => K (.v (.bool r0)) []) l most := by kernel_rfl

theorem entry_tutorref10_Huge {R : Type} (fuel : Nat) (K : AV → List O → Option R) (l : List (Int × (List Int × List Int))) (most : Int) :
    fnRun Try.prog T_tutorref10_Huge cuts_tutorref10_Huge Try.f6 fuel [.rd ⟨false, 28, (.pr (.int .i64) (.pr (.sl 3 (.int .i64)) (.sl 3 (.int .i64)))), l⟩, .v (.int .i64 most)] [] K =
    e_tutorref10_Huge (fun l most n i => (runO Try.prog T_tutorref10_Huge cuts_tutorref10_Huge 0 (finish Try.prog Try.f6 0 K) fuel) (at' Try.f6 5) ⟨fr0 53 [(0, .rd ⟨false, 28, (.pr (.int .i64) (.pr (.sl 3 (.int .i64)) (.sl 3 (.int .i64)))), l⟩), (1, .v (.int .i64 most)), (5, .v (.int .i64 n)), (6, .v (.int .i64 i))], []⟩) (fun r0 => K (.v (.bool r0)) []) l most := gentry_tutorref10_Huge fuel K l most

theorem runs_tutorref10_Huge {R : Type} (K : AV → List O → Option R) : ∀ fuel : Nat,
    (fun l most n i => (runO Try.prog T_tutorref10_Huge cuts_tutorref10_Huge 0 (finish Try.prog Try.f6 0 K) fuel) (at' Try.f6 5) ⟨fr0 53 [(0, .rd ⟨false, 28, (.pr (.int .i64) (.pr (.sl 3 (.int .i64)) (.sl 3 (.int .i64)))), l⟩), (1, .v (.int .i64 most)), (5, .v (.int .i64 n)), (6, .v (.int .i64 i))], []⟩) = (run_tutorref10_Huge (fun r0 => K (.v (.bool r0)) []) fuel)
  | 0 => rfl
  | fuel + 1 => by
    have ih := runs_tutorref10_Huge K fuel
    funext l most n i
    refine (step_tutorref10_Huge_5 _ K l most n i).trans ?_
    rw [ih]
    rfl

def S_tutorref10_Huge (l_tutorref10_Huge : {R : Type} → (List (Int × (List Int × List Int))) → Int → (Bool → Option R) → Option R) : Sum := ⟨[], fun {R} args ob K => match args, ob with
  | [.rd ⟨false, 28, (.pr (.int .i64) (.pr (.sl 3 (.int .i64)) (.sl 3 (.int .i64)))), l⟩, .v (.int .i64 most)], [] => l_tutorref10_Huge l most (fun r0 => K (.v (.bool r0)) [])
  | _, _ => none⟩

theorem sound_tutorref10_Huge : Sound Try.prog 6 (S_tutorref10_Huge @l_tutorref10_Huge) := by
  refine fn_sound (cuts := cuts_tutorref10_Huge) (fn := Try.f6) (Γ := T_tutorref10_Huge) wide right_T_tutorref10_Huge Try.func6 fun {R} K r args ob h => ?_
  unfold S_tutorref10_Huge at h
  dsimp only at h
  split at h
  · obtain ⟨n, hn⟩ := ok_tutorref10_Huge _ _ _ h
    refine ⟨Nat.le_of_ble_eq_true (by kernel_rfl), n, (entry_tutorref10_Huge n K _ _).trans ?_⟩
    rw [(runs_tutorref10_Huge K n)]
    exact hn
  · cases h

theorem call_tutorref10_Huge : Callable Try.prog 6 := ⟨_, Try.func6, by kernel_rfl, by kernel_rfl⟩

def T_tutorref01_Check : FuncId → Option Sum := G0

theorem right_T_tutorref01_Check : Right Try.prog T_tutorref01_Check := right_G0

abbrev cuts_tutorref01_Check : Cuts := [(6, [0, 1, 6])]

theorem gstep_tutorref01_Check_6 {R : Type} (g : List Item → St → Option R) (K : AV → List O → Option R) (w : List Int) (k : Int) (i : Int) :
    runSeg Try.prog T_tutorref01_Check cuts_tutorref01_Check 0 g (finish Try.prog Try.f22 0 K) (at' Try.f22 6) ⟨fr0 36 [(0, .rd ⟨false, 3, (.int .i64), w⟩), (1, .v (.int .i64 k)), (6, .v (.int .i64 i))], []⟩ =
    (fun (g22_6 : (List Int) → Int → Int → Option R) (K0 : Int → Int → Option R) (w : List Int) (k : Int) (i : Int) =>
    bi (decide (i < (w.length : Int)))
     (bi (decide (0 ≤ i ∧ i < ((w.length : Nat) : Int)))
      (bi (decide ((w.getD i.toNat 0) < 0))
       (K0 i 10)
       (bi (decide (0 ≤ i ∧ i < ((w.length : Nat) : Int)))
        (bi (decide ((w.getD i.toNat 0) ≥ k))
         (K0 i 10)
         (g22_6 w k (IntKind.i64.wrap (i + 1))))
        none))
      none)
     (K0 0 0)) (fun w k i => g (at' Try.f22 6) ⟨fr0 36 [(0, .rd ⟨false, 3, (.int .i64), w⟩), (1, .v (.int .i64 k)), (6, .v (.int .i64 i))], []⟩) (fun r0 r1 => K (.tup [.v (.int .i64 r0), .v (.int .i64 r1)]) []) w k i := by kernel_rfl

theorem step_tutorref01_Check_6 {R : Type} (g : List Item → St → Option R) (K : AV → List O → Option R) (w : List Int) (k : Int) (i : Int) :
    runSeg Try.prog T_tutorref01_Check cuts_tutorref01_Check 0 g (finish Try.prog Try.f22 0 K) (at' Try.f22 6) ⟨fr0 36 [(0, .rd ⟨false, 3, (.int .i64), w⟩), (1, .v (.int .i64 k)), (6, .v (.int .i64 i))], []⟩ =
    s_tutorref01_Check_6 (fun w k i => g (at' Try.f22 6) ⟨fr0 36 [(0, .rd ⟨false, 3, (.int .i64), w⟩), (1, .v (.int .i64 k)), (6, .v (.int .i64 i))], []⟩) (fun r0 r1 => K (.tup [.v (.int .i64 r0), .v (.int .i64 r1)]) []) w k i := gstep_tutorref01_Check_6 g K w k i

theorem gentry_tutorref01_Check {R : Type} (fuel : Nat) (K : AV → List O → Option R) (w : List Int) (k : Int) :
    fnRun Try.prog T_tutorref01_Check cuts_tutorref01_Check Try.f22 fuel [.rd ⟨false, 3, (.int .i64), w⟩, .v (.int .i64 k)] [] K =
    (fun (g22_6 : (List Int) → Int → Int → Option R) (K0 : Int → Int → Option R) (w : List Int) (k : Int) =>
    bi (decide (k < 1))
     (K0 0 1)
     (bi (decide (k > 64))
      (K0 0 1)
      (bi (decide ((w.length : Int) > 4096))
       (K0 0 2)
       (g22_6 w k 0)))) (fun w k i => (runO Try.prog T_tutorref01_Check cuts_tutorref01_Check 0 (finish Try.prog Try.f22 0 K) fuel) (at' Try.f22 6) ⟨fr0 36 [(0, .rd ⟨false, 3, (.int .i64), w⟩), (1, .v (.int .i64 k)), (6, .v (.int .i64 i))], []⟩) (fun r0 r1 => K (.tup [.v (.int .i64 r0), .v (.int .i64 r1)]) []) w k := by kernel_rfl

theorem entry_tutorref01_Check {R : Type} (fuel : Nat) (K : AV → List O → Option R) (w : List Int) (k : Int) :
    fnRun Try.prog T_tutorref01_Check cuts_tutorref01_Check Try.f22 fuel [.rd ⟨false, 3, (.int .i64), w⟩, .v (.int .i64 k)] [] K =
    e_tutorref01_Check (fun w k i => (runO Try.prog T_tutorref01_Check cuts_tutorref01_Check 0 (finish Try.prog Try.f22 0 K) fuel) (at' Try.f22 6) ⟨fr0 36 [(0, .rd ⟨false, 3, (.int .i64), w⟩), (1, .v (.int .i64 k)), (6, .v (.int .i64 i))], []⟩) (fun r0 r1 => K (.tup [.v (.int .i64 r0), .v (.int .i64 r1)]) []) w k := gentry_tutorref01_Check fuel K w k

theorem runs_tutorref01_Check {R : Type} (K : AV → List O → Option R) : ∀ fuel : Nat,
    (fun w k i => (runO Try.prog T_tutorref01_Check cuts_tutorref01_Check 0 (finish Try.prog Try.f22 0 K) fuel) (at' Try.f22 6) ⟨fr0 36 [(0, .rd ⟨false, 3, (.int .i64), w⟩), (1, .v (.int .i64 k)), (6, .v (.int .i64 i))], []⟩) = (run_tutorref01_Check (fun r0 r1 => K (.tup [.v (.int .i64 r0), .v (.int .i64 r1)]) []) fuel)
  | 0 => rfl
  | fuel + 1 => by
    have ih := runs_tutorref01_Check K fuel
    funext w k i
    refine (step_tutorref01_Check_6 _ K w k i).trans ?_
    rw [ih]
    rfl

def S_tutorref01_Check (l_tutorref01_Check : {R : Type} → (List Int) → Int → (Int → Int → Option R) → Option R) : Sum := ⟨[], fun {R} args ob K => match args, ob with
  | [.rd ⟨false, 3, (.int .i64), w⟩, .v (.int .i64 k)], [] => l_tutorref01_Check w k (fun r0 r1 => K (.tup [.v (.int .i64 r0), .v (.int .i64 r1)]) [])
  | _, _ => none⟩

theorem sound_tutorref01_Check : Sound Try.prog 22 (S_tutorref01_Check @l_tutorref01_Check) := by
  refine fn_sound (cuts := cuts_tutorref01_Check) (fn := Try.f22) (Γ := T_tutorref01_Check) wide right_T_tutorref01_Check Try.func22 fun {R} K r args ob h => ?_
  unfold S_tutorref01_Check at h
  dsimp only at h
  split at h
  · obtain ⟨n, hn⟩ := ok_tutorref01_Check _ _ _ h
    refine ⟨Nat.le_of_ble_eq_true (by kernel_rfl), n, (entry_tutorref01_Check n K _ _).trans ?_⟩
    rw [(runs_tutorref01_Check K n)]
    exact hn
  · cases h

theorem call_tutorref01_Check : Callable Try.prog 22 := ⟨_, Try.func22, by kernel_rfl, by kernel_rfl⟩

def T_tutorref10_Check (l_tutorref01_Check : {R : Type} → (List Int) → Int → (Int → Int → Option R) → Option R) : FuncId → Option Sum := (addS G0 22 (S_tutorref01_Check @l_tutorref01_Check))

theorem right_T_tutorref10_Check : Right Try.prog (T_tutorref10_Check @l_tutorref01_Check) := (right_add right_G0 call_tutorref01_Check sound_tutorref01_Check)

abbrev cuts_tutorref10_Check : Cuts := [(14, [3, 8, 9])]

theorem gstep_tutorref10_Check_14 (l_tutorref01_Check : {R : Type} → (List Int) → Int → (Int → Int → Option R) → Option R) {R : Type} (g : List Item → St → Option R) (K : AV → List O → Option R) (most : Int) (i : Int) (o0 : Int) (o0_1 : List Int) (o0_2 : List Int) :
    runSeg Try.prog (T_tutorref10_Check @l_tutorref01_Check) cuts_tutorref10_Check 0 g (finish Try.prog Try.f10 0 K) (at' Try.f10 14) ⟨fr0 114 [(3, .ptr 0 0), (8, .v (.int .i64 most)), (9, .v (.int .i64 i))], [.box 28 [.v (.int .i64 o0), .rd ⟨false, 3, (.int .i64), o0_1⟩, .rd ⟨false, 3, (.int .i64), o0_2⟩]]⟩ =
    (fun (g10_14 : Int → Int → Int → (List Int) → (List Int) → Option R) (K0 : Int → Option R) (most : Int) (i : Int) (o0 : Int) (o0_1 : List Int) (o0_2 : List Int) =>
    bi (decide (i < (o0_1.length : Int)))
     (bi (decide (0 ≤ i ∧ i < ((o0_1.length : Nat) : Int)))
      (bi (decide ((o0_1.getD i.toNat 0) < 0))
       (K0 100)
       (bi (decide (0 ≤ i ∧ i < ((o0_1.length : Nat) : Int)))
        (bi (decide ((o0_1.getD i.toNat 0) ≥ most))
         (K0 100)
         (g10_14 most (IntKind.i64.wrap (i + 1)) o0 o0_1 o0_2))
        none))
      none)
     (K0 0)) (fun most i o0 o0_1 o0_2 => g (at' Try.f10 14) ⟨fr0 114 [(3, .ptr 0 0), (8, .v (.int .i64 most)), (9, .v (.int .i64 i))], [.box 28 [.v (.int .i64 o0), .rd ⟨false, 3, (.int .i64), o0_1⟩, .rd ⟨false, 3, (.int .i64), o0_2⟩]]⟩) (fun r0 => K (.v (.int .i64 r0)) []) most i o0 o0_1 o0_2 := by kernel_rfl

theorem step_tutorref10_Check_14 {R : Type} (g : List Item → St → Option R) (K : AV → List O → Option R) (most : Int) (i : Int) (o0 : Int) (o0_1 : List Int) (o0_2 : List Int) :
    runSeg Try.prog (T_tutorref10_Check @l_tutorref01_Check) cuts_tutorref10_Check 0 g (finish Try.prog Try.f10 0 K) (at' Try.f10 14) ⟨fr0 114 [(3, .ptr 0 0), (8, .v (.int .i64 most)), (9, .v (.int .i64 i))], [.box 28 [.v (.int .i64 o0), .rd ⟨false, 3, (.int .i64), o0_1⟩, .rd ⟨false, 3, (.int .i64), o0_2⟩]]⟩ =
    s_tutorref10_Check_14 (fun most i o0 o0_1 o0_2 => g (at' Try.f10 14) ⟨fr0 114 [(3, .ptr 0 0), (8, .v (.int .i64 most)), (9, .v (.int .i64 i))], [.box 28 [.v (.int .i64 o0), .rd ⟨false, 3, (.int .i64), o0_1⟩, .rd ⟨false, 3, (.int .i64), o0_2⟩]]⟩) (fun r0 => K (.v (.int .i64 r0)) []) most i o0 o0_1 o0_2 := gstep_tutorref10_Check_14 @l_tutorref01_Check g K most i o0 o0_1 o0_2

theorem gentry_tutorref10_Check (l_tutorref01_Check : {R : Type} → (List Int) → Int → (Int → Int → Option R) → Option R) {R : Type} (fuel : Nat) (K : AV → List O → Option R) (q : Int) (q_1 : List Int) (q_2 : Int) (q_3 : Int) (q_4 : Int) (q_5 : Int) (q_6 : List Int) (q_7 : List Int) (a : Int) (a_1 : List Int) (a_2 : List Int) :
    fnRun Try.prog (T_tutorref10_Check @l_tutorref01_Check) cuts_tutorref10_Check Try.f10 fuel [.agg [.v (.int .i64 q), .rd ⟨false, 3, (.int .i64), q_1⟩, .v (.int .i64 q_2), .v (.int .i64 q_3), .v (.int .i64 q_4), .v (.int .i64 q_5), .rd ⟨false, 3, (.int .i64), q_6⟩, .rd ⟨false, 3, (.int .i64), q_7⟩], .agg [.v (.int .i64 a), .rd ⟨false, 3, (.int .i64), a_1⟩, .rd ⟨false, 3, (.int .i64), a_2⟩]] [] K =
    (fun (g10_14 : Int → Int → Int → (List Int) → (List Int) → Option R) (K0 : Int → Option R) (q : Int) (q_1 : List Int) (q_2 : Int) (q_3 : Int) (q_4 : Int) (q_5 : Int) (q_6 : List Int) (q_7 : List Int) (a : Int) (a_1 : List Int) (a_2 : List Int) =>
    bi (q != 1)
     (bi (q != 2)
      (K0 30)
      (bi (q == 2)
       (l_tutorref01_Check a_2 q_3
        (fun r1 r2 =>
         bi ((a_1.length : Int) == 0)
          (bi (a == 2)
           (bi ((a_2.length : Int) == 0)
            (K0 0)
            (bi (a == 3)
             (bi (r2 == 0)
              (K0 0)
              (K0 100))
             (K0 100)))
           (bi (a == 3)
            (bi (r2 == 0)
             (K0 0)
             (K0 100))
            (K0 100)))
          (K0 100)))
       (bi (q_2 == 1)
        (bi (a != 1)
         (K0 100)
         (bi (decide ((a_2.length : Int) > 0))
          (K0 100)
          (bi (q_2 != 1)
           (bi (q_2 != 2)
            (K0 100)
            (bi ((a_1.length : Int) != 1)
             (K0 100)
             (g10_14 2 0 a a_1 a_2)))
           (bi ((a_1.length : Int) != 1)
            (K0 100)
            (g10_14 2 0 a a_1 a_2)))))
        (bi (a != 1)
         (K0 100)
         (bi (decide ((a_2.length : Int) > 0))
          (K0 100)
          (bi (q_2 != 1)
           (bi (q_2 != 2)
            (K0 100)
            (bi ((a_1.length : Int) != (q_1.length : Int))
             (K0 100)
             (g10_14 q_4 0 a a_1 a_2)))
           (bi ((a_1.length : Int) != (q_1.length : Int))
            (K0 100)
            (g10_14 q_4 0 a a_1 a_2))))))))
     (bi (q == 2)
      (l_tutorref01_Check a_2 q_3
       (fun r3 r4 =>
        bi ((a_1.length : Int) == 0)
         (bi (a == 2)
          (bi ((a_2.length : Int) == 0)
           (K0 0)
           (bi (a == 3)
            (bi (r4 == 0)
             (K0 0)
             (K0 100))
            (K0 100)))
          (bi (a == 3)
           (bi (r4 == 0)
            (K0 0)
            (K0 100))
           (K0 100)))
         (K0 100)))
      (bi (q_2 == 1)
       (bi (a != 1)
        (K0 100)
        (bi (decide ((a_2.length : Int) > 0))
         (K0 100)
         (bi (q_2 != 1)
          (bi (q_2 != 2)
           (K0 100)
           (bi ((a_1.length : Int) != 1)
            (K0 100)
            (g10_14 2 0 a a_1 a_2)))
          (bi ((a_1.length : Int) != 1)
           (K0 100)
           (g10_14 2 0 a a_1 a_2)))))
       (bi (a != 1)
        (K0 100)
        (bi (decide ((a_2.length : Int) > 0))
         (K0 100)
         (bi (q_2 != 1)
          (bi (q_2 != 2)
           (K0 100)
           (bi ((a_1.length : Int) != (q_1.length : Int))
            (K0 100)
            (g10_14 q_4 0 a a_1 a_2)))
          (bi ((a_1.length : Int) != (q_1.length : Int))
           (K0 100)
           (g10_14 q_4 0 a a_1 a_2)))))))) (fun most i o0 o0_1 o0_2 => (runO Try.prog (T_tutorref10_Check @l_tutorref01_Check) cuts_tutorref10_Check 0 (finish Try.prog Try.f10 0 K) fuel) (at' Try.f10 14) ⟨fr0 114 [(3, .ptr 0 0), (8, .v (.int .i64 most)), (9, .v (.int .i64 i))], [.box 28 [.v (.int .i64 o0), .rd ⟨false, 3, (.int .i64), o0_1⟩, .rd ⟨false, 3, (.int .i64), o0_2⟩]]⟩) (fun r0 => K (.v (.int .i64 r0)) []) q q_1 q_2 q_3 q_4 q_5 q_6 q_7 a a_1 a_2 := by kernel_rfl

theorem entry_tutorref10_Check {R : Type} (fuel : Nat) (K : AV → List O → Option R) (q : Int) (q_1 : List Int) (q_2 : Int) (q_3 : Int) (q_4 : Int) (q_5 : Int) (q_6 : List Int) (q_7 : List Int) (a : Int) (a_1 : List Int) (a_2 : List Int) :
    fnRun Try.prog (T_tutorref10_Check @l_tutorref01_Check) cuts_tutorref10_Check Try.f10 fuel [.agg [.v (.int .i64 q), .rd ⟨false, 3, (.int .i64), q_1⟩, .v (.int .i64 q_2), .v (.int .i64 q_3), .v (.int .i64 q_4), .v (.int .i64 q_5), .rd ⟨false, 3, (.int .i64), q_6⟩, .rd ⟨false, 3, (.int .i64), q_7⟩], .agg [.v (.int .i64 a), .rd ⟨false, 3, (.int .i64), a_1⟩, .rd ⟨false, 3, (.int .i64), a_2⟩]] [] K =
    e_tutorref10_Check (fun most i o0 o0_1 o0_2 => (runO Try.prog (T_tutorref10_Check @l_tutorref01_Check) cuts_tutorref10_Check 0 (finish Try.prog Try.f10 0 K) fuel) (at' Try.f10 14) ⟨fr0 114 [(3, .ptr 0 0), (8, .v (.int .i64 most)), (9, .v (.int .i64 i))], [.box 28 [.v (.int .i64 o0), .rd ⟨false, 3, (.int .i64), o0_1⟩, .rd ⟨false, 3, (.int .i64), o0_2⟩]]⟩) (fun r0 => K (.v (.int .i64 r0)) []) q q_1 q_2 q_3 q_4 q_5 q_6 q_7 a a_1 a_2 := gentry_tutorref10_Check @l_tutorref01_Check fuel K q q_1 q_2 q_3 q_4 q_5 q_6 q_7 a a_1 a_2

theorem runs_tutorref10_Check {R : Type} (K : AV → List O → Option R) : ∀ fuel : Nat,
    (fun most i o0 o0_1 o0_2 => (runO Try.prog (T_tutorref10_Check @l_tutorref01_Check) cuts_tutorref10_Check 0 (finish Try.prog Try.f10 0 K) fuel) (at' Try.f10 14) ⟨fr0 114 [(3, .ptr 0 0), (8, .v (.int .i64 most)), (9, .v (.int .i64 i))], [.box 28 [.v (.int .i64 o0), .rd ⟨false, 3, (.int .i64), o0_1⟩, .rd ⟨false, 3, (.int .i64), o0_2⟩]]⟩) = (run_tutorref10_Check (fun r0 => K (.v (.int .i64 r0)) []) fuel)
  | 0 => rfl
  | fuel + 1 => by
    have ih := runs_tutorref10_Check K fuel
    funext most i o0 o0_1 o0_2
    refine (step_tutorref10_Check_14 _ K most i o0 o0_1 o0_2).trans ?_
    rw [ih]
    rfl

def S_tutorref10_Check (l_tutorref10_Check : {R : Type} → Int → (List Int) → Int → Int → Int → Int → (List Int) → (List Int) → Int → (List Int) → (List Int) → (Int → Option R) → Option R) : Sum := ⟨[], fun {R} args ob K => match args, ob with
  | [.agg [.v (.int .i64 q), .rd ⟨false, 3, (.int .i64), q_1⟩, .v (.int .i64 q_2), .v (.int .i64 q_3), .v (.int .i64 q_4), .v (.int .i64 q_5), .rd ⟨false, 3, (.int .i64), q_6⟩, .rd ⟨false, 3, (.int .i64), q_7⟩], .agg [.v (.int .i64 a), .rd ⟨false, 3, (.int .i64), a_1⟩, .rd ⟨false, 3, (.int .i64), a_2⟩]], [] => l_tutorref10_Check q q_1 q_2 q_3 q_4 q_5 q_6 q_7 a a_1 a_2 (fun r0 => K (.v (.int .i64 r0)) [])
  | _, _ => none⟩

theorem sound_tutorref10_Check : Sound Try.prog 10 (S_tutorref10_Check @l_tutorref10_Check) := by
  refine fn_sound (cuts := cuts_tutorref10_Check) (fn := Try.f10) (Γ := (T_tutorref10_Check @l_tutorref01_Check)) wide right_T_tutorref10_Check Try.func10 fun {R} K r args ob h => ?_
  unfold S_tutorref10_Check at h
  dsimp only at h
  split at h
  · obtain ⟨n, hn⟩ := ok_tutorref10_Check _ _ _ _ _ _ _ _ _ _ _ _ h
    refine ⟨Nat.le_of_ble_eq_true (by kernel_rfl), n, (entry_tutorref10_Check n K _ _ _ _ _ _ _ _ _ _ _).trans ?_⟩
    rw [(runs_tutorref10_Check K n)]
    exact hn
  · cases h

theorem call_tutorref10_Check : Callable Try.prog 10 := ⟨_, Try.func10, by kernel_rfl, by kernel_rfl⟩

def T_tutorlaw10_TeachChecks (l_tutorlaw10_live : {R : Type} → (Bool → Option R) → Option R) (l_tutorref10_Check : {R : Type} → Int → (List Int) → Int → Int → Int → Int → (List Int) → (List Int) → Int → (List Int) → (List Int) → (Int → Option R) → Option R) (l_tutorlaw10_num : {R : Type} → Int → (Int → Option R) → Option R) (l_teach_Check : {R : Type} → Int → (List Int) → Int → Int → Int → Int → (List Int) → (List Int) → Int → (List Int) → (List Int) → (Int → Option R) → Option R) (l_tutorref10_Huge : {R : Type} → (List (Int × (List Int × List Int))) → Int → (Bool → Option R) → Option R) : FuncId → Option Sum := (addS (addS (addS (addS (addS G0 7 (S_tutorlaw10_live @l_tutorlaw10_live)) 10 (S_tutorref10_Check @l_tutorref10_Check)) 8 (S_tutorlaw10_num @l_tutorlaw10_num)) 9 (S_teach_Check @l_teach_Check)) 6 (S_tutorref10_Huge @l_tutorref10_Huge))

theorem right_T_tutorlaw10_TeachChecks : Right Try.prog (T_tutorlaw10_TeachChecks @l_tutorlaw10_live @l_tutorref10_Check @l_tutorlaw10_num @l_teach_Check @l_tutorref10_Huge) := (right_add (right_add (right_add (right_add (right_add right_G0 call_tutorlaw10_live sound_tutorlaw10_live) call_tutorref10_Check sound_tutorref10_Check) call_tutorlaw10_num sound_tutorlaw10_num) call_teach_Check sound_teach_Check) call_tutorref10_Huge sound_tutorref10_Huge)

abbrev cuts_tutorlaw10_TeachChecks : Cuts := []

theorem gentry_tutorlaw10_TeachChecks (l_tutorlaw10_live : {R : Type} → (Bool → Option R) → Option R) (l_tutorref10_Check : {R : Type} → Int → (List Int) → Int → Int → Int → Int → (List Int) → (List Int) → Int → (List Int) → (List Int) → (Int → Option R) → Option R) (l_tutorlaw10_num : {R : Type} → Int → (Int → Option R) → Option R) (l_teach_Check : {R : Type} → Int → (List Int) → Int → Int → Int → Int → (List Int) → (List Int) → Int → (List Int) → (List Int) → (Int → Option R) → Option R) (l_tutorref10_Huge : {R : Type} → (List (Int × (List Int × List Int))) → Int → (Bool → Option R) → Option R) {R : Type} (K : AV → List O → Option R) (q : Int) (q_1 : List Int) (q_2 : Int) (q_3 : Int) (q_4 : Int) (q_5 : Int) (q_6 : List Int) (q_7 : List Int) (a : Int) (a_1 : List Int) (a_2 : List Int) :
    fnRun Try.prog (T_tutorlaw10_TeachChecks @l_tutorlaw10_live @l_tutorref10_Check @l_tutorlaw10_num @l_teach_Check @l_tutorref10_Huge) cuts_tutorlaw10_TeachChecks Try.f3 0 [.agg [.v (.int .i64 q), .rd ⟨false, 3, (.int .i64), q_1⟩, .v (.int .i64 q_2), .v (.int .i64 q_3), .v (.int .i64 q_4), .v (.int .i64 q_5), .rd ⟨false, 3, (.int .i64), q_6⟩, .rd ⟨false, 3, (.int .i64), q_7⟩], .agg [.v (.int .i64 a), .rd ⟨false, 3, (.int .i64), a_1⟩, .rd ⟨false, 3, (.int .i64), a_2⟩]] [] K =
    (fun (q : Int) (q_1 : List Int) (q_2 : Int) (q_3 : Int) (q_4 : Int) (q_5 : Int) (q_6 : List Int) (q_7 : List Int) (a : Int) (a_1 : List Int) (a_2 : List Int) (K0 : Bool → Option R) =>
    bi (decide ((q_1.length : Int) > 20000))
     (l_tutorlaw10_live
      (fun r1 =>
       K0 r1))
     (l_tutorref10_Huge [(a, (a_1, a_2))] 20000
      (fun r2 =>
       bi r2
        (l_tutorlaw10_live
         (fun r3 =>
          K0 r3))
        (l_teach_Check q q_1 q_2 q_3 q_4 q_5 q_6 q_7 a a_1 a_2
         (fun r4 =>
          l_tutorlaw10_num r4
           (fun r5 =>
            l_tutorref10_Check q q_1 q_2 q_3 q_4 q_5 q_6 q_7 a a_1 a_2
             (fun r6 =>
              bi (r5 == r6)
               (l_tutorlaw10_live
                (fun r7 =>
                 K0 r7))
               (K0 false)))))))) q q_1 q_2 q_3 q_4 q_5 q_6 q_7 a a_1 a_2 (fun r0 => K (.v (.bool r0)) []) := by kernel_rfl

theorem entry_tutorlaw10_TeachChecks {R : Type} (K : AV → List O → Option R) (q : Int) (q_1 : List Int) (q_2 : Int) (q_3 : Int) (q_4 : Int) (q_5 : Int) (q_6 : List Int) (q_7 : List Int) (a : Int) (a_1 : List Int) (a_2 : List Int) :
    fnRun Try.prog (T_tutorlaw10_TeachChecks @l_tutorlaw10_live @l_tutorref10_Check @l_tutorlaw10_num @l_teach_Check @l_tutorref10_Huge) cuts_tutorlaw10_TeachChecks Try.f3 0 [.agg [.v (.int .i64 q), .rd ⟨false, 3, (.int .i64), q_1⟩, .v (.int .i64 q_2), .v (.int .i64 q_3), .v (.int .i64 q_4), .v (.int .i64 q_5), .rd ⟨false, 3, (.int .i64), q_6⟩, .rd ⟨false, 3, (.int .i64), q_7⟩], .agg [.v (.int .i64 a), .rd ⟨false, 3, (.int .i64), a_1⟩, .rd ⟨false, 3, (.int .i64), a_2⟩]] [] K =
    l_tutorlaw10_TeachChecks q q_1 q_2 q_3 q_4 q_5 q_6 q_7 a a_1 a_2 (fun r0 => K (.v (.bool r0)) []) := gentry_tutorlaw10_TeachChecks @l_tutorlaw10_live @l_tutorref10_Check @l_tutorlaw10_num @l_teach_Check @l_tutorref10_Huge K q q_1 q_2 q_3 q_4 q_5 q_6 q_7 a a_1 a_2

def S_tutorlaw10_TeachChecks (l_tutorlaw10_TeachChecks : {R : Type} → Int → (List Int) → Int → Int → Int → Int → (List Int) → (List Int) → Int → (List Int) → (List Int) → (Bool → Option R) → Option R) : Sum := ⟨[], fun {R} args ob K => match args, ob with
  | [.agg [.v (.int .i64 q), .rd ⟨false, 3, (.int .i64), q_1⟩, .v (.int .i64 q_2), .v (.int .i64 q_3), .v (.int .i64 q_4), .v (.int .i64 q_5), .rd ⟨false, 3, (.int .i64), q_6⟩, .rd ⟨false, 3, (.int .i64), q_7⟩], .agg [.v (.int .i64 a), .rd ⟨false, 3, (.int .i64), a_1⟩, .rd ⟨false, 3, (.int .i64), a_2⟩]], [] => l_tutorlaw10_TeachChecks q q_1 q_2 q_3 q_4 q_5 q_6 q_7 a a_1 a_2 (fun r0 => K (.v (.bool r0)) [])
  | _, _ => none⟩

theorem sound_tutorlaw10_TeachChecks : Sound Try.prog 3 (S_tutorlaw10_TeachChecks @l_tutorlaw10_TeachChecks) := by
  refine fn_sound (cuts := cuts_tutorlaw10_TeachChecks) (fn := Try.f3) (Γ := (T_tutorlaw10_TeachChecks @l_tutorlaw10_live @l_tutorref10_Check @l_tutorlaw10_num @l_teach_Check @l_tutorref10_Huge)) wide right_T_tutorlaw10_TeachChecks Try.func3 fun {R} K r args ob h => ?_
  unfold S_tutorlaw10_TeachChecks at h
  dsimp only at h
  split at h
  · exact ⟨Nat.le_of_ble_eq_true (by kernel_rfl), 0, (entry_tutorlaw10_TeachChecks K _ _ _ _ _ _ _ _ _ _ _).trans h⟩
  · cases h

theorem call_tutorlaw10_TeachChecks : Callable Try.prog 3 := ⟨_, Try.func3, by kernel_rfl, by kernel_rfl⟩

end
end Go.Ev
