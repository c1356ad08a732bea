/- Each function of the program is its tree. -/
import Derived.Test.YtifkaepdialfjaaProg
import Derived.Test.YtifkaepdialfjaaEvFn
import Derived.Test.YtifkaepdialfjaaTeachTruePure
namespace Go.Ev
open Go.Proofs
noncomputable section
set_option linter.unusedVariables false
set_option linter.unusedSimpArgs false
set_option maxRecDepth 100000
set_option maxHeartbeats 4000000

theorem wide : Tables.follows Try.prog.toTables .mixedOrders = true := by kernel_rfl

def G0 : FuncId → Option Sum := fun _ => none
theorem right_G0 : Right Try.prog G0 := fun f S h => by cases h

def T_tutorref03_Big : FuncId → Option Sum := G0

theorem right_T_tutorref03_Big : Right Try.prog T_tutorref03_Big := right_G0

abbrev cuts_tutorref03_Big : Cuts := []

theorem gentry_tutorref03_Big {R : Type} (K : AV → List O → Option R) (m : Int) (m_1 : Int) (m_2 : Int) (m_3 : Int) (m_4 : List Int) (m_5 : List Int) (states : Int) :
    fnRun Try.prog T_tutorref03_Big cuts_tutorref03_Big Try.f11 0 [.agg [.v (.int .i64 m), .v (.int .i64 m_1), .v (.int .i64 m_2), .v (.int .i64 m_3), .rd ⟨false, 3, (.int .i64), m_4⟩, .rd ⟨false, 3, (.int .i64), m_5⟩], .v (.int .i64 states)] [] K =
    (fun (m : Int) (m_1 : Int) (m_2 : Int) (m_3 : Int) (m_4 : List Int) (m_5 : List Int) (states : Int) (K0 : Bool → Option R) =>
    bi (decide (m_3 > states))
     (K0 true)
     (bi (decide ((m_4.length : Int) > 70000))
      (K0 true)
      (K0 (decide ((m_5.length : Int) > 70000))))) m m_1 m_2 m_3 m_4 m_5 states (fun r0 => K (.v (.bool r0)) []) := by kernel_rfl

theorem entry_tutorref03_Big {R : Type} (K : AV → List O → Option R) (m : Int) (m_1 : Int) (m_2 : Int) (m_3 : Int) (m_4 : List Int) (m_5 : List Int) (states : Int) :
    fnRun Try.prog T_tutorref03_Big cuts_tutorref03_Big Try.f11 0 [.agg [.v (.int .i64 m), .v (.int .i64 m_1), .v (.int .i64 m_2), .v (.int .i64 m_3), .rd ⟨false, 3, (.int .i64), m_4⟩, .rd ⟨false, 3, (.int .i64), m_5⟩], .v (.int .i64 states)] [] K =
    l_tutorref03_Big m m_1 m_2 m_3 m_4 m_5 states (fun r0 => K (.v (.bool r0)) []) := gentry_tutorref03_Big K m m_1 m_2 m_3 m_4 m_5 states

def S_tutorref03_Big (l_tutorref03_Big : {R : Type} → Int → Int → Int → Int → (List Int) → (List Int) → Int → (Bool → Option R) → Option R) : Sum := ⟨[], fun {R} args ob K => match args, ob with
  | [.agg [.v (.int .i64 m), .v (.int .i64 m_1), .v (.int .i64 m_2), .v (.int .i64 m_3), .rd ⟨false, 3, (.int .i64), m_4⟩, .rd ⟨false, 3, (.int .i64), m_5⟩], .v (.int .i64 states)], [] => l_tutorref03_Big m m_1 m_2 m_3 m_4 m_5 states (fun r0 => K (.v (.bool r0)) [])
  | _, _ => none⟩

theorem sound_tutorref03_Big : Sound Try.prog 11 (S_tutorref03_Big @l_tutorref03_Big) := by
  refine fn_sound (cuts := cuts_tutorref03_Big) (fn := Try.f11) (Γ := T_tutorref03_Big) wide right_T_tutorref03_Big Try.func11 fun {R} K r args ob h => ?_
  unfold S_tutorref03_Big at h
  dsimp only at h
  split at h
  · exact ⟨Nat.le_of_ble_eq_true (by kernel_rfl), 0, (entry_tutorref03_Big K _ _ _ _ _ _ _).trans h⟩
  · cases h

theorem call_tutorref03_Big : Callable Try.prog 11 := ⟨_, Try.func11, by kernel_rfl, by kernel_rfl⟩

def T_text_Number : FuncId → Option Sum := G0

theorem right_T_text_Number : Right Try.prog T_text_Number := right_G0

abbrev cuts_text_Number : Cuts := [(4, [0, 1, 4, 7])]

theorem gstep_text_Number_4 {R : Type} (g : List Item → St → Option R) (K : AV → List O → Option R) (b : List Int) (vat : Int) (n : Int) (i : Int) :
    runSeg Try.prog T_text_Number cuts_text_Number 0 g (finish Try.prog Try.f41 0 K) (at' Try.f41 4) ⟨fr0 70 [(0, .rd ⟨false, 5, (.int .u8), b⟩), (1, .v (.int .i64 vat)), (4, .v (.int .i64 n)), (7, .v (.int .i64 i))], []⟩ =
    (fun (g41_4 : (List Int) → Int → Int → Int → Option R) (K0 : Int → Int → Int → Option R) (b : List Int) (vat : Int) (n : Int) (i : Int) =>
    bi (decide (i < (b.length : Int)))
     (bi (decide (0 ≤ i ∧ i < ((b.length : Nat) : Int)))
      (bi (decide ((b.getD i.toNat 0) ≥ 48))
       (bi (decide (0 ≤ i ∧ i < ((b.length : Nat) : Int)))
        (bi (decide ((b.getD i.toNat 0) ≤ 57))
         (bi ((IntKind.i64.wrap (i - vat)) == 4)
          (K0 0 i 6)
          (bi ((IntKind.i64.wrap (i - vat)) == 1)
           (bi (decide (0 ≤ vat ∧ vat < ((b.length : Nat) : Int)))
            (bi ((b.getD vat.toNat 0) == 48)
             (K0 0 i 6)
             (bi (decide (0 ≤ i ∧ i < ((b.length : Nat) : Int)))
              (g41_4 b vat (IntKind.i64.wrap ((IntKind.i64.wrap (10 * n)) + (IntKind.i64.wrap (IntKind.u8.wrap ((b.getD i.toNat 0) - 48))))) (IntKind.i64.wrap (i + 1)))
              none))
            none)
           (bi (decide (0 ≤ i ∧ i < ((b.length : Nat) : Int)))
            (g41_4 b vat (IntKind.i64.wrap ((IntKind.i64.wrap (10 * n)) + (IntKind.i64.wrap (IntKind.u8.wrap ((b.getD i.toNat 0) - 48))))) (IntKind.i64.wrap (i + 1)))
            none)))
         (bi (i == vat)
          (K0 0 vat 6)
          (K0 n i 0)))
        none)
       (bi (i == vat)
        (K0 0 vat 6)
        (K0 n i 0)))
      none)
     (bi (i == vat)
      (K0 0 vat 6)
      (K0 n i 0))) (fun b vat n i => g (at' Try.f41 4) ⟨fr0 70 [(0, .rd ⟨false, 5, (.int .u8), b⟩), (1, .v (.int .i64 vat)), (4, .v (.int .i64 n)), (7, .v (.int .i64 i))], []⟩) (fun r0 r1 r2 => K (.tup [.v (.int .i64 r0), .v (.int .i64 r1), .v (.int .i64 r2)]) []) b vat n i := by kernel_rfl

theorem step_text_Number_4 {R : Type} (g : List Item → St → Option R) (K : AV → List O → Option R) (b : List Int) (vat : Int) (n : Int) (i : Int) :
    runSeg Try.prog T_text_Number cuts_text_Number 0 g (finish Try.prog Try.f41 0 K) (at' Try.f41 4) ⟨fr0 70 [(0, .rd ⟨false, 5, (.int .u8), b⟩), (1, .v (.int .i64 vat)), (4, .v (.int .i64 n)), (7, .v (.int .i64 i))], []⟩ =
    s_text_Number_4 (fun b vat n i => g (at' Try.f41 4) ⟨fr0 70 [(0, .rd ⟨false, 5, (.int .u8), b⟩), (1, .v (.int .i64 vat)), (4, .v (.int .i64 n)), (7, .v (.int .i64 i))], []⟩) (fun r0 r1 r2 => K (.tup [.v (.int .i64 r0), .v (.int .i64 r1), .v (.int .i64 r2)]) []) b vat n i := gstep_text_Number_4 g K b vat n i

theorem gentry_text_Number {R : Type} (fuel : Nat) (K : AV → List O → Option R) (b : List Int) (vat : Int) :
    fnRun Try.prog T_text_Number cuts_text_Number Try.f41 fuel [.rd ⟨false, 5, (.int .u8), b⟩, .v (.int .i64 vat)] [] K =
    (fun (g41_4 : (List Int) → Int → Int → Int → Option R) (K0 : Int → Int → Int → Option R) (b : List Int) (vat : Int) =>
    bi (decide (vat < 0))
     (K0 0 0 1)
     (bi (decide (vat > (b.length : Int)))
      (K0 0 0 1)
      (g41_4 b vat 0 vat))) (fun b vat n i => (runO Try.prog T_text_Number cuts_text_Number 0 (finish Try.prog Try.f41 0 K) fuel) (at' Try.f41 4) ⟨fr0 70 [(0, .rd ⟨false, 5, (.int .u8), b⟩), (1, .v (.int .i64 vat)), (4, .v (.int .i64 n)), (7, .v (.int .i64 i))], []⟩) (fun r0 r1 r2 => K (.tup [.v (.int .i64 r0), .v (.int .i64 r1), .v (.int .i64 r2)]) []) b vat := by kernel_rfl

theorem entry_text_Number {R : Type} (fuel : Nat) (K : AV → List O → Option R) (b : List Int) (vat : Int) :
    fnRun Try.prog T_text_Number cuts_text_Number Try.f41 fuel [.rd ⟨false, 5, (.int .u8), b⟩, .v (.int .i64 vat)] [] K =
    e_text_Number (fun b vat n i => (runO Try.prog T_text_Number cuts_text_Number 0 (finish Try.prog Try.f41 0 K) fuel) (at' Try.f41 4) ⟨fr0 70 [(0, .rd ⟨false, 5, (.int .u8), b⟩), (1, .v (.int .i64 vat)), (4, .v (.int .i64 n)), (7, .v (.int .i64 i))], []⟩) (fun r0 r1 r2 => K (.tup [.v (.int .i64 r0), .v (.int .i64 r1), .v (.int .i64 r2)]) []) b vat := gentry_text_Number fuel K b vat

theorem runs_text_Number {R : Type} (K : AV → List O → Option R) : ∀ fuel : Nat,
    (fun b vat n i => (runO Try.prog T_text_Number cuts_text_Number 0 (finish Try.prog Try.f41 0 K) fuel) (at' Try.f41 4) ⟨fr0 70 [(0, .rd ⟨false, 5, (.int .u8), b⟩), (1, .v (.int .i64 vat)), (4, .v (.int .i64 n)), (7, .v (.int .i64 i))], []⟩) = (run_text_Number (fun r0 r1 r2 => K (.tup [.v (.int .i64 r0), .v (.int .i64 r1), .v (.int .i64 r2)]) []) fuel)
  | 0 => rfl
  | fuel + 1 => by
    have ih := runs_text_Number K fuel
    funext b vat n i
    refine (step_text_Number_4 _ K b vat n i).trans ?_
    rw [ih]
    rfl

def S_text_Number (l_text_Number : {R : Type} → (List Int) → Int → (Int → Int → Int → Option R) → Option R) : Sum := ⟨[], fun {R} args ob K => match args, ob with
  | [.rd ⟨false, 5, (.int .u8), b⟩, .v (.int .i64 vat)], [] => l_text_Number b vat (fun r0 r1 r2 => K (.tup [.v (.int .i64 r0), .v (.int .i64 r1), .v (.int .i64 r2)]) [])
  | _, _ => none⟩

theorem sound_text_Number : Sound Try.prog 41 (S_text_Number @l_text_Number) := by
  refine fn_sound (cuts := cuts_text_Number) (fn := Try.f41) (Γ := T_text_Number) wide right_T_text_Number Try.func41 fun {R} K r args ob h => ?_
  unfold S_text_Number at h
  dsimp only at h
  split at h
  · obtain ⟨n, hn⟩ := ok_text_Number _ _ _ h
    refine ⟨Nat.le_of_ble_eq_true (by kernel_rfl), n, (entry_text_Number n K _ _).trans ?_⟩
    rw [(runs_text_Number K n)]
    exact hn
  · cases h

theorem call_text_Number : Callable Try.prog 41 := ⟨_, Try.func41, by kernel_rfl, by kernel_rfl⟩

def T_teach_numbers (l_text_Number : {R : Type} → (List Int) → Int → (Int → Int → Int → Option R) → Option R) : FuncId → Option Sum := (addS G0 41 (S_text_Number @l_text_Number))

theorem right_T_teach_numbers : Right Try.prog (T_teach_numbers @l_text_Number) := (right_add right_G0 call_text_Number sound_text_Number)

abbrev cuts_teach_numbers : Cuts := [(1, [0, 1, 4])]

theorem gstep_teach_numbers_1 (l_text_Number : {R : Type} → (List Int) → Int → (Int → Int → Int → Option R) → Option R) {R : Type} (g : List Item → St → Option R) (K : AV → List O → Option R) (b : List Int) (vat : Int) (o0 : List Int) :
    runSeg Try.prog (T_teach_numbers @l_text_Number) cuts_teach_numbers 0 g (finish Try.prog Try.f29 0 K) (at' Try.f29 1) ⟨fr0 54 [(0, .rd ⟨false, 5, (.int .u8), b⟩), (1, .v (.int .i64 vat)), (4, .own 0)], [.row ⟨true, 3, (.int .i64), o0⟩]⟩ =
    (fun (g29_1 : (List Int) → Int → (List Int) → Option R) (K0 : Int → Int → (List Int) → Option R) (b : List Int) (vat : Int) (o0 : List Int) =>
    bi (vat == (b.length : Int))
     (K0 6 vat ([] : List Int))
     (bi (decide (0 ≤ vat ∧ vat < ((b.length : Nat) : Int)))
      (bi ((b.getD vat.toNat 0) == 10)
       (K0 0 (IntKind.i64.wrap (vat + 1)) o0)
       (bi (decide (0 ≤ vat ∧ vat < ((b.length : Nat) : Int)))
        (bi ((b.getD vat.toNat 0) != 32)
         (K0 6 vat ([] : List Int))
         (bi ((o0.length : Int) == 4096)
          (K0 2 vat ([] : List Int))
          (l_text_Number b (IntKind.i64.wrap (vat + 1))
           (fun r1 r2 r3 =>
            bi (r3 != 0)
             (K0 r3 r2 ([] : List Int))
             (bi (decide ((o0.length + [r1].length) * 8 ≤ lim))
              (g29_1 b r2 (o0 ++ [r1]))
              none)))))
        none))
      none)) (fun b vat o0 => g (at' Try.f29 1) ⟨fr0 54 [(0, .rd ⟨false, 5, (.int .u8), b⟩), (1, .v (.int .i64 vat)), (4, .own 0)], [.row ⟨true, 3, (.int .i64), o0⟩]⟩) (fun r0 r1 r2 => K (.tup [.own 0, .v (.int .i64 r0), .v (.int .i64 r1)]) [.row ⟨true, 3, (.int .i64), r2⟩]) b vat o0 := by kernel_rfl

theorem step_teach_numbers_1 {R : Type} (g : List Item → St → Option R) (K : AV → List O → Option R) (b : List Int) (vat : Int) (o0 : List Int) :
    runSeg Try.prog (T_teach_numbers @l_text_Number) cuts_teach_numbers 0 g (finish Try.prog Try.f29 0 K) (at' Try.f29 1) ⟨fr0 54 [(0, .rd ⟨false, 5, (.int .u8), b⟩), (1, .v (.int .i64 vat)), (4, .own 0)], [.row ⟨true, 3, (.int .i64), o0⟩]⟩ =
    s_teach_numbers_1 (fun b vat o0 => g (at' Try.f29 1) ⟨fr0 54 [(0, .rd ⟨false, 5, (.int .u8), b⟩), (1, .v (.int .i64 vat)), (4, .own 0)], [.row ⟨true, 3, (.int .i64), o0⟩]⟩) (fun r0 r1 r2 => K (.tup [.own 0, .v (.int .i64 r0), .v (.int .i64 r1)]) [.row ⟨true, 3, (.int .i64), r2⟩]) b vat o0 := gstep_teach_numbers_1 @l_text_Number g K b vat o0

theorem gentry_teach_numbers (l_text_Number : {R : Type} → (List Int) → Int → (Int → Int → Int → Option R) → Option R) {R : Type} (fuel : Nat) (K : AV → List O → Option R) (b : List Int) (vat : Int) :
    fnRun Try.prog (T_teach_numbers @l_text_Number) cuts_teach_numbers Try.f29 fuel [.rd ⟨false, 5, (.int .u8), b⟩, .v (.int .i64 vat)] [] K =
    (fun (g29_1 : (List Int) → Int → (List Int) → Option R) (K0 : Int → Int → (List Int) → Option R) (b : List Int) (vat : Int) =>
    g29_1 b vat ([] : List Int)) (fun b vat o0 => (runO Try.prog (T_teach_numbers @l_text_Number) cuts_teach_numbers 0 (finish Try.prog Try.f29 0 K) fuel) (at' Try.f29 1) ⟨fr0 54 [(0, .rd ⟨false, 5, (.int .u8), b⟩), (1, .v (.int .i64 vat)), (4, .own 0)], [.row ⟨true, 3, (.int .i64), o0⟩]⟩) (fun r0 r1 r2 => K (.tup [.own 0, .v (.int .i64 r0), .v (.int .i64 r1)]) [.row ⟨true, 3, (.int .i64), r2⟩]) b vat := by kernel_rfl

theorem entry_teach_numbers {R : Type} (fuel : Nat) (K : AV → List O → Option R) (b : List Int) (vat : Int) :
    fnRun Try.prog (T_teach_numbers @l_text_Number) cuts_teach_numbers Try.f29 fuel [.rd ⟨false, 5, (.int .u8), b⟩, .v (.int .i64 vat)] [] K =
    e_teach_numbers (fun b vat o0 => (runO Try.prog (T_teach_numbers @l_text_Number) cuts_teach_numbers 0 (finish Try.prog Try.f29 0 K) fuel) (at' Try.f29 1) ⟨fr0 54 [(0, .rd ⟨false, 5, (.int .u8), b⟩), (1, .v (.int .i64 vat)), (4, .own 0)], [.row ⟨true, 3, (.int .i64), o0⟩]⟩) (fun r0 r1 r2 => K (.tup [.own 0, .v (.int .i64 r0), .v (.int .i64 r1)]) [.row ⟨true, 3, (.int .i64), r2⟩]) b vat := gentry_teach_numbers @l_text_Number fuel K b vat

theorem runs_teach_numbers {R : Type} (K : AV → List O → Option R) : ∀ fuel : Nat,
    (fun b vat o0 => (runO Try.prog (T_teach_numbers @l_text_Number) cuts_teach_numbers 0 (finish Try.prog Try.f29 0 K) fuel) (at' Try.f29 1) ⟨fr0 54 [(0, .rd ⟨false, 5, (.int .u8), b⟩), (1, .v (.int .i64 vat)), (4, .own 0)], [.row ⟨true, 3, (.int .i64), o0⟩]⟩) = (run_teach_numbers (fun r0 r1 r2 => K (.tup [.own 0, .v (.int .i64 r0), .v (.int .i64 r1)]) [.row ⟨true, 3, (.int .i64), r2⟩]) fuel)
  | 0 => rfl
  | fuel + 1 => by
    have ih := runs_teach_numbers K fuel
    funext b vat o0
    refine (step_teach_numbers_1 _ K b vat o0).trans ?_
    rw [ih]
    rfl

def S_teach_numbers (l_teach_numbers : {R : Type} → (List Int) → Int → (Int → Int → (List Int) → Option R) → Option R) : Sum := ⟨[], fun {R} args ob K => match args, ob with
  | [.rd ⟨false, 5, (.int .u8), b⟩, .v (.int .i64 vat)], [] => l_teach_numbers b vat (fun r0 r1 r2 => K (.tup [.own 0, .v (.int .i64 r0), .v (.int .i64 r1)]) [.row ⟨true, 3, (.int .i64), r2⟩])
  | _, _ => none⟩

theorem sound_teach_numbers : Sound Try.prog 29 (S_teach_numbers @l_teach_numbers) := by
  refine fn_sound (cuts := cuts_teach_numbers) (fn := Try.f29) (Γ := (T_teach_numbers @l_text_Number)) wide right_T_teach_numbers Try.func29 fun {R} K r args ob h => ?_
  unfold S_teach_numbers at h
  dsimp only at h
  split at h
  · obtain ⟨n, hn⟩ := ok_teach_numbers _ _ _ h
    refine ⟨Nat.le_of_ble_eq_true (by kernel_rfl), n, (entry_teach_numbers n K _ _).trans ?_⟩
    rw [(runs_teach_numbers K n)]
    exact hn
  · cases h

theorem call_teach_numbers : Callable Try.prog 29 := ⟨_, Try.func29, by kernel_rfl, by kernel_rfl⟩

def T_teach_Parse (l_teach_numbers : {R : Type} → (List Int) → Int → (Int → Int → (List Int) → Option R) → Option R) : FuncId → Option Sum := (addS G0 29 (S_teach_numbers @l_teach_numbers))

theorem right_T_teach_Parse : Right Try.prog (T_teach_Parse @l_teach_numbers) := (right_add right_G0 call_teach_numbers sound_teach_numbers)

abbrev cuts_teach_Parse : Cuts := [(3, [0, 2, 4])]

theorem gstep_teach_Parse_3 (l_teach_numbers : {R : Type} → (List Int) → Int → (Int → Int → (List Int) → Option R) → Option R) {R : Type} (g : List Item → St → Option R) (K : AV → List O → Option R) (b : List Int) (vat : Int) (o0 : List (Int × (List Int × List Int))) :
    runSeg Try.prog (T_teach_Parse @l_teach_numbers) cuts_teach_Parse 0 g (finish Try.prog Try.f18 0 K) (at' Try.f18 3) ⟨fr0 82 [(0, .rd ⟨false, 5, (.int .u8), b⟩), (2, .own 0), (4, .v (.int .i64 vat))], [.row ⟨true, 28, (.pr (.int .i64) (.pr (.sl 3 (.int .i64)) (.sl 3 (.int .i64)))), o0⟩]⟩ =
    (fun (g18_3 : (List Int) → Int → (List (Int × (List Int × List Int))) → Option R) (K0 : Int → Int → (List (Int × (List Int × List Int))) → Option R) (b : List Int) (vat : Int) (o0 : List (Int × (List Int × List Int))) =>
    bi (decide (vat < (b.length : Int)))
     (bi ((o0.length : Int) == 65536)
      (K0 3 vat ([] : List (Int × (List Int × List Int))))
      (bi (decide (0 ≤ vat ∧ vat < ((b.length : Nat) : Int)))
       (bi ((b.getD vat.toNat 0) == 111)
        (l_teach_numbers b (IntKind.i64.wrap (vat + 1))
         (fun r1 r2 r3 =>
          bi (r1 != 0)
           (K0 r1 r2 ([] : List (Int × (List Int × List Int))))
           (bi (decide ((o0.length + [(1, (r3, ([] : List Int)))].length) * 56 ≤ lim))
            (g18_3 b r2 (o0 ++ [(1, (r3, ([] : List Int)))]))
            none)))
        (bi ((b.getD vat.toNat 0) == 121)
         (bi (decide ((IntKind.i64.wrap (vat + 1)) < (b.length : Int)))
          (bi (decide (0 ≤ (IntKind.i64.wrap (vat + 1)) ∧ (IntKind.i64.wrap (vat + 1)) < ((b.length : Nat) : Int)))
           (bi ((b.getD ((IntKind.i64.wrap (vat + 1)).toNat) 0) != 10)
            (K0 6 (IntKind.i64.wrap (vat + 1)) ([] : List (Int × (List Int × List Int))))
            (l_teach_numbers b (IntKind.i64.wrap (vat + 1))
             (fun r4 r5 r6 =>
              bi (r4 != 0)
               (K0 r4 r5 ([] : List (Int × (List Int × List Int))))
               (bi (decide ((o0.length + [(2, (([] : List Int), r6))].length) * 56 ≤ lim))
                (g18_3 b r5 (o0 ++ [(2, (([] : List Int), r6))]))
                none))))
           none)
          (l_teach_numbers b (IntKind.i64.wrap (vat + 1))
           (fun r7 r8 r9 =>
            bi (r7 != 0)
             (K0 r7 r8 ([] : List (Int × (List Int × List Int))))
             (bi (decide ((o0.length + [(2, (([] : List Int), r9))].length) * 56 ≤ lim))
              (g18_3 b r8 (o0 ++ [(2, (([] : List Int), r9))]))
              none))))
         (bi ((b.getD vat.toNat 0) == 110)
          (l_teach_numbers b (IntKind.i64.wrap (vat + 1))
           (fun r10 r11 r12 =>
            bi (r10 != 0)
             (K0 r10 r11 ([] : List (Int × (List Int × List Int))))
             (bi (decide ((o0.length + [(3, (([] : List Int), r12))].length) * 56 ≤ lim))
              (g18_3 b r11 (o0 ++ [(3, (([] : List Int), r12))]))
              none)))
          (K0 6 vat ([] : List (Int × (List Int × List Int)))))))
       none))
     (K0 0 (b.length : Int) o0)) (fun b vat o0 => g (at' Try.f18 3) ⟨fr0 82 [(0, .rd ⟨false, 5, (.int .u8), b⟩), (2, .own 0), (4, .v (.int .i64 vat))], [.row ⟨true, 28, (.pr (.int .i64) (.pr (.sl 3 (.int .i64)) (.sl 3 (.int .i64)))), o0⟩]⟩) (fun r0 r1 r2 => K (.tup [.own 0, .v (.int .i64 r0), .v (.int .i64 r1)]) [.row ⟨true, 28, (.pr (.int .i64) (.pr (.sl 3 (.int .i64)) (.sl 3 (.int .i64)))), r2⟩]) b vat o0 := by kernel_rfl

theorem step_teach_Parse_3 {R : Type} (g : List Item → St → Option R) (K : AV → List O → Option R) (b : List Int) (vat : Int) (o0 : List (Int × (List Int × List Int))) :
    runSeg Try.prog (T_teach_Parse @l_teach_numbers) cuts_teach_Parse 0 g (finish Try.prog Try.f18 0 K) (at' Try.f18 3) ⟨fr0 82 [(0, .rd ⟨false, 5, (.int .u8), b⟩), (2, .own 0), (4, .v (.int .i64 vat))], [.row ⟨true, 28, (.pr (.int .i64) (.pr (.sl 3 (.int .i64)) (.sl 3 (.int .i64)))), o0⟩]⟩ =
    s_teach_Parse_3 (fun b vat o0 => g (at' Try.f18 3) ⟨fr0 82 [(0, .rd ⟨false, 5, (.int .u8), b⟩), (2, .own 0), (4, .v (.int .i64 vat))], [.row ⟨true, 28, (.pr (.int .i64) (.pr (.sl 3 (.int .i64)) (.sl 3 (.int .i64)))), o0⟩]⟩) (fun r0 r1 r2 => K (.tup [.own 0, .v (.int .i64 r0), .v (.int .i64 r1)]) [.row ⟨true, 28, (.pr (.int .i64) (.pr (.sl 3 (.int .i64)) (.sl 3 (.int .i64)))), r2⟩]) b vat o0 := gstep_teach_Parse_3 @l_teach_numbers g K b vat o0

theorem gentry_teach_Parse (l_teach_numbers : {R : Type} → (List Int) → Int → (Int → Int → (List Int) → Option R) → Option R) {R : Type} (fuel : Nat) (K : AV → List O → Option R) (b : List Int) :
    fnRun Try.prog (T_teach_Parse @l_teach_numbers) cuts_teach_Parse Try.f18 fuel [.rd ⟨false, 5, (.int .u8), b⟩] [] K =
    (fun (g18_3 : (List Int) → Int → (List (Int × (List Int × List Int))) → Option R) (K0 : Int → Int → (List (Int × (List Int × List Int))) → Option R) (b : List Int) =>
    bi (decide ((b.length : Int) > 16777216))
     (K0 2 0 ([] : List (Int × (List Int × List Int))))
     (g18_3 b 0 ([] : List (Int × (List Int × List Int))))) (fun b vat o0 => (runO Try.prog (T_teach_Parse @l_teach_numbers) cuts_teach_Parse 0 (finish Try.prog Try.f18 0 K) fuel) (at' Try.f18 3) ⟨fr0 82 [(0, .rd ⟨false, 5, (.int .u8), b⟩), (2, .own 0), (4, .v (.int .i64 vat))], [.row ⟨true, 28, (.pr (.int .i64) (.pr (.sl 3 (.int .i64)) (.sl 3 (.int .i64)))), o0⟩]⟩) (fun r0 r1 r2 => K (.tup [.own 0, .v (.int .i64 r0), .v (.int .i64 r1)]) [.row ⟨true, 28, (.pr (.int .i64) (.pr (.sl 3 (.int .i64)) (.sl 3 (.int .i64)))), r2⟩]) b := by kernel_rfl

theorem entry_teach_Parse {R : Type} (fuel : Nat) (K : AV → List O → Option R) (b : List Int) :
    fnRun Try.prog (T_teach_Parse @l_teach_numbers) cuts_teach_Parse Try.f18 fuel [.rd ⟨false, 5, (.int .u8), b⟩] [] K =
    e_teach_Parse (fun b vat o0 => (runO Try.prog (T_teach_Parse @l_teach_numbers) cuts_teach_Parse 0 (finish Try.prog Try.f18 0 K) fuel) (at' Try.f18 3) ⟨fr0 82 [(0, .rd ⟨false, 5, (.int .u8), b⟩), (2, .own 0), (4, .v (.int .i64 vat))], [.row ⟨true, 28, (.pr (.int .i64) (.pr (.sl 3 (.int .i64)) (.sl 3 (.int .i64)))), o0⟩]⟩) (fun r0 r1 r2 => K (.tup [.own 0, .v (.int .i64 r0), .v (.int .i64 r1)]) [.row ⟨true, 28, (.pr (.int .i64) (.pr (.sl 3 (.int .i64)) (.sl 3 (.int .i64)))), r2⟩]) b := gentry_teach_Parse @l_teach_numbers fuel K b

theorem runs_teach_Parse {R : Type} (K : AV → List O → Option R) : ∀ fuel : Nat,
    (fun b vat o0 => (runO Try.prog (T_teach_Parse @l_teach_numbers) cuts_teach_Parse 0 (finish Try.prog Try.f18 0 K) fuel) (at' Try.f18 3) ⟨fr0 82 [(0, .rd ⟨false, 5, (.int .u8), b⟩), (2, .own 0), (4, .v (.int .i64 vat))], [.row ⟨true, 28, (.pr (.int .i64) (.pr (.sl 3 (.int .i64)) (.sl 3 (.int .i64)))), o0⟩]⟩) = (run_teach_Parse (fun r0 r1 r2 => K (.tup [.own 0, .v (.int .i64 r0), .v (.int .i64 r1)]) [.row ⟨true, 28, (.pr (.int .i64) (.pr (.sl 3 (.int .i64)) (.sl 3 (.int .i64)))), r2⟩]) fuel)
  | 0 => rfl
  | fuel + 1 => by
    have ih := runs_teach_Parse K fuel
    funext b vat o0
    refine (step_teach_Parse_3 _ K b vat o0).trans ?_
    rw [ih]
    rfl

def S_teach_Parse (l_teach_Parse : {R : Type} → (List Int) → (Int → Int → (List (Int × (List Int × List Int))) → Option R) → Option R) : Sum := ⟨[], fun {R} args ob K => match args, ob with
  | [.rd ⟨false, 5, (.int .u8), b⟩], [] => l_teach_Parse b (fun r0 r1 r2 => K (.tup [.own 0, .v (.int .i64 r0), .v (.int .i64 r1)]) [.row ⟨true, 28, (.pr (.int .i64) (.pr (.sl 3 (.int .i64)) (.sl 3 (.int .i64)))), r2⟩])
  | _, _ => none⟩

theorem sound_teach_Parse : Sound Try.prog 18 (S_teach_Parse @l_teach_Parse) := by
  refine fn_sound (cuts := cuts_teach_Parse) (fn := Try.f18) (Γ := (T_teach_Parse @l_teach_numbers)) wide right_T_teach_Parse Try.func18 fun {R} K r args ob h => ?_
  unfold S_teach_Parse at h
  dsimp only at h
  split at h
  · obtain ⟨n, hn⟩ := ok_teach_Parse _ _ h
    refine ⟨Nat.le_of_ble_eq_true (by kernel_rfl), n, (entry_teach_Parse n K _).trans ?_⟩
    rw [(runs_teach_Parse K n)]
    exact hn
  · cases h

theorem call_teach_Parse : Callable Try.prog 18 := ⟨_, Try.func18, by kernel_rfl, by kernel_rfl⟩

def T_tutorlaw10_num : FuncId → Option Sum := G0

theorem right_T_tutorlaw10_num : Right Try.prog T_tutorlaw10_num := right_G0

abbrev cuts_tutorlaw10_num : Cuts := []

theorem gentry_tutorlaw10_num {R : Type} (K : AV → List O → Option R) (e : Int) :
    fnRun Try.prog T_tutorlaw10_num cuts_tutorlaw10_num Try.f8 0 [.v (.int .i64 e)] [] K =
    (fun (e : Int) (K0 : Int → Option R) =>
    K0 e) e (fun r0 => K (.v (.int .i64 r0)) []) := by kernel_rfl

theorem entry_tutorlaw10_num {R : Type} (K : AV → List O → Option R) (e : Int) :
    fnRun Try.prog T_tutorlaw10_num cuts_tutorlaw10_num Try.f8 0 [.v (.int .i64 e)] [] K =
    l_tutorlaw10_num e (fun r0 => K (.v (.int .i64 r0)) []) := gentry_tutorlaw10_num K e

def S_tutorlaw10_num (l_tutorlaw10_num : {R : Type} → Int → (Int → Option R) → Option R) : Sum := ⟨[], fun {R} args ob K => match args, ob with
  | [.v (.int .i64 e)], [] => l_tutorlaw10_num e (fun r0 => K (.v (.int .i64 r0)) [])
  | _, _ => none⟩

theorem sound_tutorlaw10_num : Sound Try.prog 8 (S_tutorlaw10_num @l_tutorlaw10_num) := by
  refine fn_sound (cuts := cuts_tutorlaw10_num) (fn := Try.f8) (Γ := T_tutorlaw10_num) wide right_T_tutorlaw10_num Try.func8 fun {R} K r args ob h => ?_
  unfold S_tutorlaw10_num at h
  dsimp only at h
  split at h
  · exact ⟨Nat.le_of_ble_eq_true (by kernel_rfl), 0, (entry_tutorlaw10_num K _).trans h⟩
  · cases h

theorem call_tutorlaw10_num : Callable Try.prog 8 := ⟨_, Try.func8, by kernel_rfl, by kernel_rfl⟩

def T_tutorref01_Same : FuncId → Option Sum := G0

theorem right_T_tutorref01_Same : Right Try.prog T_tutorref01_Same := right_G0

abbrev cuts_tutorref01_Same : Cuts := [(4, [0, 1, 5])]

theorem gstep_tutorref01_Same_4 {R : Type} (g : List Item → St → Option R) (K : AV → List O → Option R) (a : List Int) (b : List Int) (i : Int) :
    runSeg Try.prog T_tutorref01_Same cuts_tutorref01_Same 0 g (finish Try.prog Try.f17 0 K) (at' Try.f17 4) ⟨fr0 26 [(0, .rd ⟨false, 3, (.int .i64), a⟩), (1, .rd ⟨false, 3, (.int .i64), b⟩), (5, .v (.int .i64 i))], []⟩ =
    (fun (g17_4 : (List Int) → (List Int) → Int → Option R) (K0 : Bool → Option R) (a : List Int) (b : List Int) (i : Int) =>
    bi (decide (i < (a.length : Int)))
     (bi (decide (0 ≤ i ∧ i < ((a.length : Nat) : Int)))
      (bi (decide (0 ≤ i ∧ i < ((b.length : Nat) : Int)))
       (bi ((a.getD i.toNat 0) != (b.getD i.toNat 0))
        (K0 false)
        (g17_4 a b (IntKind.i64.wrap (i + 1))))
       none)
      none)
     (K0 true)) (fun a b i => g (at' Try.f17 4) ⟨fr0 26 [(0, .rd ⟨false, 3, (.int .i64), a⟩), (1, .rd ⟨false, 3, (.int .i64), b⟩), (5, .v (.int .i64 i))], []⟩) (fun r0 => K (.v (.bool r0)) []) a b i := by kernel_rfl

theorem step_tutorref01_Same_4 {R : Type} (g : List Item → St → Option R) (K : AV → List O → Option R) (a : List Int) (b : List Int) (i : Int) :
    runSeg Try.prog T_tutorref01_Same cuts_tutorref01_Same 0 g (finish Try.prog Try.f17 0 K) (at' Try.f17 4) ⟨fr0 26 [(0, .rd ⟨false, 3, (.int .i64), a⟩), (1, .rd ⟨false, 3, (.int .i64), b⟩), (5, .v (.int .i64 i))], []⟩ =
    s_tutorref01_Same_4 (fun a b i => g (at' Try.f17 4) ⟨fr0 26 [(0, .rd ⟨false, 3, (.int .i64), a⟩), (1, .rd ⟨false, 3, (.int .i64), b⟩), (5, .v (.int .i64 i))], []⟩) (fun r0 => K (.v (.bool r0)) []) a b i := gstep_tutorref01_Same_4 g K a b i

theorem gentry_tutorref01_Same {R : Type} (fuel : Nat) (K : AV → List O → Option R) (a : List Int) (b : List Int) :
    fnRun Try.prog T_tutorref01_Same cuts_tutorref01_Same Try.f17 fuel [.rd ⟨false, 3, (.int .i64), a⟩, .rd ⟨false, 3, (.int .i64), b⟩] [] K =
    (fun (g17_4 : (List Int) → (List Int) → Int → Option R) (K0 : Bool → Option R) (a : List Int) (b : List Int) =>
    bi ((a.length : Int) != (b.length : Int))
     (K0 false)
     (g17_4 a b 0)) (fun a b i => (runO Try.prog T_tutorref01_Same cuts_tutorref01_Same 0 (finish Try.prog Try.f17 0 K) fuel) (at' Try.f17 4) ⟨fr0 26 [(0, .rd ⟨false, 3, (.int .i64), a⟩), (1, .rd ⟨false, 3, (.int .i64), b⟩), (5, .v (.int .i64 i))], []⟩) (fun r0 => K (.v (.bool r0)) []) a b := by kernel_rfl

theorem entry_tutorref01_Same {R : Type} (fuel : Nat) (K : AV → List O → Option R) (a : List Int) (b : List Int) :
    fnRun Try.prog T_tutorref01_Same cuts_tutorref01_Same Try.f17 fuel [.rd ⟨false, 3, (.int .i64), a⟩, .rd ⟨false, 3, (.int .i64), b⟩] [] K =
    e_tutorref01_Same (fun a b i => (runO Try.prog T_tutorref01_Same cuts_tutorref01_Same 0 (finish Try.prog Try.f17 0 K) fuel) (at' Try.f17 4) ⟨fr0 26 [(0, .rd ⟨false, 3, (.int .i64), a⟩), (1, .rd ⟨false, 3, (.int .i64), b⟩), (5, .v (.int .i64 i))], []⟩) (fun r0 => K (.v (.bool r0)) []) a b := gentry_tutorref01_Same fuel K a b

theorem runs_tutorref01_Same {R : Type} (K : AV → List O → Option R) : ∀ fuel : Nat,
    (fun a b i => (runO Try.prog T_tutorref01_Same cuts_tutorref01_Same 0 (finish Try.prog Try.f17 0 K) fuel) (at' Try.f17 4) ⟨fr0 26 [(0, .rd ⟨false, 3, (.int .i64), a⟩), (1, .rd ⟨false, 3, (.int .i64), b⟩), (5, .v (.int .i64 i))], []⟩) = (run_tutorref01_Same (fun r0 => K (.v (.bool r0)) []) fuel)
  | 0 => rfl
  | fuel + 1 => by
    have ih := runs_tutorref01_Same K fuel
    funext a b i
    refine (step_tutorref01_Same_4 _ K a b i).trans ?_
    rw [ih]
    rfl

def S_tutorref01_Same (l_tutorref01_Same : {R : Type} → (List Int) → (List Int) → (Bool → Option R) → Option R) : Sum := ⟨[], fun {R} args ob K => match args, ob with
  | [.rd ⟨false, 3, (.int .i64), a⟩, .rd ⟨false, 3, (.int .i64), b⟩], [] => l_tutorref01_Same a b (fun r0 => K (.v (.bool r0)) [])
  | _, _ => none⟩

theorem sound_tutorref01_Same : Sound Try.prog 17 (S_tutorref01_Same @l_tutorref01_Same) := by
  refine fn_sound (cuts := cuts_tutorref01_Same) (fn := Try.f17) (Γ := T_tutorref01_Same) wide right_T_tutorref01_Same Try.func17 fun {R} K r args ob h => ?_
  unfold S_tutorref01_Same at h
  dsimp only at h
  split at h
  · obtain ⟨n, hn⟩ := ok_tutorref01_Same _ _ _ h
    refine ⟨Nat.le_of_ble_eq_true (by kernel_rfl), n, (entry_tutorref01_Same n K _ _).trans ?_⟩
    rw [(runs_tutorref01_Same K n)]
    exact hn
  · cases h

theorem call_tutorref01_Same : Callable Try.prog 17 := ⟨_, Try.func17, by kernel_rfl, by kernel_rfl⟩

def T_teach_of : FuncId → Option Sum := G0

theorem right_T_teach_of : Right Try.prog T_teach_of := right_G0

abbrev cuts_teach_of : Cuts := []

theorem gentry_teach_of {R : Type} (K : AV → List O → Option R) (a : Int) (a_1 : List Int) (a_2 : List Int) :
    fnRun Try.prog T_teach_of cuts_teach_of Try.f19 0 [.agg [.v (.int .i64 a), .rd ⟨false, 3, (.int .i64), a_1⟩, .rd ⟨false, 3, (.int .i64), a_2⟩]] [] K =
    (fun (a : Int) (a_1 : List Int) (a_2 : List Int) (K0 : (List Int) → Option R) (K1 : Option R) (K2 : (List Int) → Option R) (K3 : Option R) =>
    bi (a == 1)
     (K0 a_1)
     (bi (a == 2)
      K1
      (bi (a == 3)
       (K2 a_2)
       K3))) a a_1 a_2 (fun r0 => K (.ifc 57 (.agg [.rd ⟨false, 3, (.int .i64), r0⟩])) []) (K (.ifc 60 (.agg [])) []) (fun r0 => K (.ifc 62 (.agg [.rd ⟨false, 3, (.int .i64), r0⟩])) []) (K (.v (.nilIface)) []) := by kernel_rfl

theorem entry_teach_of {R : Type} (K : AV → List O → Option R) (a : Int) (a_1 : List Int) (a_2 : List Int) :
    fnRun Try.prog T_teach_of cuts_teach_of Try.f19 0 [.agg [.v (.int .i64 a), .rd ⟨false, 3, (.int .i64), a_1⟩, .rd ⟨false, 3, (.int .i64), a_2⟩]] [] K =
    l_teach_of a a_1 a_2 (fun r0 => K (.ifc 57 (.agg [.rd ⟨false, 3, (.int .i64), r0⟩])) []) (K (.ifc 60 (.agg [])) []) (fun r0 => K (.ifc 62 (.agg [.rd ⟨false, 3, (.int .i64), r0⟩])) []) (K (.v (.nilIface)) []) := gentry_teach_of K a a_1 a_2

def S_teach_of (l_teach_of : {R : Type} → Int → (List Int) → (List Int) → ((List Int) → Option R) → (Option R) → ((List Int) → Option R) → (Option R) → Option R) : Sum := ⟨[], fun {R} args ob K => match args, ob with
  | [.agg [.v (.int .i64 a), .rd ⟨false, 3, (.int .i64), a_1⟩, .rd ⟨false, 3, (.int .i64), a_2⟩]], [] => l_teach_of a a_1 a_2 (fun r0 => K (.ifc 57 (.agg [.rd ⟨false, 3, (.int .i64), r0⟩])) []) (K (.ifc 60 (.agg [])) []) (fun r0 => K (.ifc 62 (.agg [.rd ⟨false, 3, (.int .i64), r0⟩])) []) (K (.v (.nilIface)) [])
  | _, _ => none⟩

theorem sound_teach_of : Sound Try.prog 19 (S_teach_of @l_teach_of) := by
  refine fn_sound (cuts := cuts_teach_of) (fn := Try.f19) (Γ := T_teach_of) wide right_T_teach_of Try.func19 fun {R} K r args ob h => ?_
  unfold S_teach_of at h
  dsimp only at h
  split at h
  · exact ⟨Nat.le_of_ble_eq_true (by kernel_rfl), 0, (entry_teach_of K _ _ _).trans h⟩
  · cases h

theorem call_teach_of : Callable Try.prog 19 := ⟨_, Try.func19, by kernel_rfl, by kernel_rfl⟩

def T_teach_member_1 : FuncId → Option Sum := G0

theorem right_T_teach_member_1 : Right Try.prog T_teach_member_1 := right_G0

abbrev cuts_teach_member_1 : Cuts := []

theorem gentry_teach_member_1 {R : Type} (K : AV → List O → Option R) (o : Int) (o0 : Int) :
    fnRun Try.prog T_teach_member_1 cuts_teach_member_1 Try.f31 0 [.v (.int .i64 o), .ptr 0 0] [.box 3 [.v (.int .i64 o0)]] K =
    (fun (o : Int) (o0 : Int) (K0 : Bool → Int → Option R) =>
    bi (decide (o < 0))
     (K0 true o0)
     (K0 (decide (o ≥ o0)) o0)) o o0 (fun r0 r1 => K (.v (.bool r0)) [.box 3 [.v (.int .i64 r1)]]) := by kernel_rfl

theorem entry_teach_member_1 {R : Type} (K : AV → List O → Option R) (o : Int) (o0 : Int) :
    fnRun Try.prog T_teach_member_1 cuts_teach_member_1 Try.f31 0 [.v (.int .i64 o), .ptr 0 0] [.box 3 [.v (.int .i64 o0)]] K =
    l_teach_member_1 o o0 (fun r0 r1 => K (.v (.bool r0)) [.box 3 [.v (.int .i64 r1)]]) := gentry_teach_member_1 K o o0

def S_teach_member_1 (l_teach_member_1 : {R : Type} → Int → Int → (Bool → Int → Option R) → Option R) : Sum := ⟨[], fun {R} args ob K => match args, ob with
  | [.v (.int .i64 o), .ptr 0 0], [.box 3 [.v (.int .i64 o0)]] => l_teach_member_1 o o0 (fun r0 r1 => K (.v (.bool r0)) [.box 3 [.v (.int .i64 r1)]])
  | _, _ => none⟩

theorem sound_teach_member_1 : Sound Try.prog 31 (S_teach_member_1 @l_teach_member_1) := by
  refine fn_sound (cuts := cuts_teach_member_1) (fn := Try.f31) (Γ := T_teach_member_1) wide right_T_teach_member_1 Try.func31 fun {R} K r args ob h => ?_
  unfold S_teach_member_1 at h
  dsimp only at h
  split at h
  · exact ⟨Nat.le_of_ble_eq_true (by kernel_rfl), 0, (entry_teach_member_1 K _ _).trans h⟩
  · cases h

theorem call_teach_member_1 : Callable Try.prog 31 := ⟨_, Try.func31, by kernel_rfl, by kernel_rfl⟩

def T_slices_IndexFunc_int_int (l_teach_member_1 : {R : Type} → Int → Int → (Bool → Int → Option R) → Option R) : FuncId → Option Sum := (addS G0 31 (S_teach_member_1 @l_teach_member_1))

theorem right_T_slices_IndexFunc_int_int : Right Try.prog (T_slices_IndexFunc_int_int @l_teach_member_1) := (right_add right_G0 call_teach_member_1 sound_teach_member_1)

abbrev cuts_slices_IndexFunc_int_int_f31 : Cuts := [(2, [0, 1, 7, 8])]

theorem gstep_slices_IndexFunc_int_int_f31_2 (l_teach_member_1 : {R : Type} → Int → Int → (Bool → Int → Option R) → Option R) {R : Type} (g : List Item → St → Option R) (K : AV → List O → Option R) (s : List Int) (x7 : Int) (x8 : Int) (o0 : Int) :
    runSeg Try.prog (T_slices_IndexFunc_int_int @l_teach_member_1) cuts_slices_IndexFunc_int_int_f31 1 g (finish Try.prog Try.f42 1 K) (at' Try.f42 2) ⟨fr0 19 [(0, .rd ⟨false, 3, (.int .i64), s⟩), (1, .clo 31 [.ptr 0 0]), (7, .v (.int .i64 x7)), (8, .v (.int .i64 x8))], [.box 3 [.v (.int .i64 o0)]]⟩ =
    (fun (g42_2 : (List Int) → Int → Int → Int → Option R) (K0 : Int → Int → Option R) (s : List Int) (x7 : Int) (x8 : Int) (o0 : Int) =>
    bi (decide (x8 < x7))
     (bi (decide (0 ≤ x8 ∧ x8 < ((s.length : Nat) : Int)))
      (l_teach_member_1 (s.getD x8.toNat 0) o0
       (fun r1 r2 =>
        bi r1
         (K0 x8 r2)
         (g42_2 s x7 (IntKind.i64.wrap (x8 + 1)) r2)))
      none)
     (K0 (-1) o0)) (fun s x7 x8 o0 => g (at' Try.f42 2) ⟨fr0 19 [(0, .rd ⟨false, 3, (.int .i64), s⟩), (1, .clo 31 [.ptr 0 0]), (7, .v (.int .i64 x7)), (8, .v (.int .i64 x8))], [.box 3 [.v (.int .i64 o0)]]⟩) (fun r0 r1 => K (.v (.int .i64 r0)) [.box 3 [.v (.int .i64 r1)]]) s x7 x8 o0 := by kernel_rfl

theorem step_slices_IndexFunc_int_int_f31_2 {R : Type} (g : List Item → St → Option R) (K : AV → List O → Option R) (s : List Int) (x7 : Int) (x8 : Int) (o0 : Int) :
    runSeg Try.prog (T_slices_IndexFunc_int_int @l_teach_member_1) cuts_slices_IndexFunc_int_int_f31 1 g (finish Try.prog Try.f42 1 K) (at' Try.f42 2) ⟨fr0 19 [(0, .rd ⟨false, 3, (.int .i64), s⟩), (1, .clo 31 [.ptr 0 0]), (7, .v (.int .i64 x7)), (8, .v (.int .i64 x8))], [.box 3 [.v (.int .i64 o0)]]⟩ =
    s_slices_IndexFunc_int_int_f31_2 (fun s x7 x8 o0 => g (at' Try.f42 2) ⟨fr0 19 [(0, .rd ⟨false, 3, (.int .i64), s⟩), (1, .clo 31 [.ptr 0 0]), (7, .v (.int .i64 x7)), (8, .v (.int .i64 x8))], [.box 3 [.v (.int .i64 o0)]]⟩) (fun r0 r1 => K (.v (.int .i64 r0)) [.box 3 [.v (.int .i64 r1)]]) s x7 x8 o0 := gstep_slices_IndexFunc_int_int_f31_2 @l_teach_member_1 g K s x7 x8 o0

theorem gentry_slices_IndexFunc_int_int_f31 (l_teach_member_1 : {R : Type} → Int → Int → (Bool → Int → Option R) → Option R) {R : Type} (fuel : Nat) (K : AV → List O → Option R) (s : List Int) (o0 : Int) :
    fnRun Try.prog (T_slices_IndexFunc_int_int @l_teach_member_1) cuts_slices_IndexFunc_int_int_f31 Try.f42 fuel [.rd ⟨false, 3, (.int .i64), s⟩, .clo 31 [.ptr 0 0]] [.box 3 [.v (.int .i64 o0)]] K =
    (fun (g42_2 : (List Int) → Int → Int → Int → Option R) (K0 : Int → Int → Option R) (s : List Int) (o0 : Int) =>
    g42_2 s (s.length : Int) 0 o0) (fun s x7 x8 o0 => (runO Try.prog (T_slices_IndexFunc_int_int @l_teach_member_1) cuts_slices_IndexFunc_int_int_f31 1 (finish Try.prog Try.f42 1 K) fuel) (at' Try.f42 2) ⟨fr0 19 [(0, .rd ⟨false, 3, (.int .i64), s⟩), (1, .clo 31 [.ptr 0 0]), (7, .v (.int .i64 x7)), (8, .v (.int .i64 x8))], [.box 3 [.v (.int .i64 o0)]]⟩) (fun r0 r1 => K (.v (.int .i64 r0)) [.box 3 [.v (.int .i64 r1)]]) s o0 := by kernel_rfl

theorem entry_slices_IndexFunc_int_int_f31 {R : Type} (fuel : Nat) (K : AV → List O → Option R) (s : List Int) (o0 : Int) :
    fnRun Try.prog (T_slices_IndexFunc_int_int @l_teach_member_1) cuts_slices_IndexFunc_int_int_f31 Try.f42 fuel [.rd ⟨false, 3, (.int .i64), s⟩, .clo 31 [.ptr 0 0]] [.box 3 [.v (.int .i64 o0)]] K =
    e_slices_IndexFunc_int_int_f31 (fun s x7 x8 o0 => (runO Try.prog (T_slices_IndexFunc_int_int @l_teach_member_1) cuts_slices_IndexFunc_int_int_f31 1 (finish Try.prog Try.f42 1 K) fuel) (at' Try.f42 2) ⟨fr0 19 [(0, .rd ⟨false, 3, (.int .i64), s⟩), (1, .clo 31 [.ptr 0 0]), (7, .v (.int .i64 x7)), (8, .v (.int .i64 x8))], [.box 3 [.v (.int .i64 o0)]]⟩) (fun r0 r1 => K (.v (.int .i64 r0)) [.box 3 [.v (.int .i64 r1)]]) s o0 := gentry_slices_IndexFunc_int_int_f31 @l_teach_member_1 fuel K s o0

theorem runs_slices_IndexFunc_int_int_f31 {R : Type} (K : AV → List O → Option R) : ∀ fuel : Nat,
    (fun s x7 x8 o0 => (runO Try.prog (T_slices_IndexFunc_int_int @l_teach_member_1) cuts_slices_IndexFunc_int_int_f31 1 (finish Try.prog Try.f42 1 K) fuel) (at' Try.f42 2) ⟨fr0 19 [(0, .rd ⟨false, 3, (.int .i64), s⟩), (1, .clo 31 [.ptr 0 0]), (7, .v (.int .i64 x7)), (8, .v (.int .i64 x8))], [.box 3 [.v (.int .i64 o0)]]⟩) = (run_slices_IndexFunc_int_int_f31 (fun r0 r1 => K (.v (.int .i64 r0)) [.box 3 [.v (.int .i64 r1)]]) fuel)
  | 0 => rfl
  | fuel + 1 => by
    have ih := runs_slices_IndexFunc_int_int_f31 K fuel
    funext s x7 x8 o0
    refine (step_slices_IndexFunc_int_int_f31_2 _ K s x7 x8 o0).trans ?_
    rw [ih]
    rfl

def S_slices_IndexFunc_int_int (l_slices_IndexFunc_int_int_f31 : {R : Type} → (List Int) → Int → (Int → Int → Option R) → Option R) : Sum := ⟨[], fun {R} args ob K => match args, ob with
  | [.rd ⟨false, 3, (.int .i64), s⟩, .clo 31 [.ptr 0 0]], [.box 3 [.v (.int .i64 o0)]] => l_slices_IndexFunc_int_int_f31 s o0 (fun r0 r1 => K (.v (.int .i64 r0)) [.box 3 [.v (.int .i64 r1)]])
  | _, _ => none⟩

theorem sound_slices_IndexFunc_int_int : Sound Try.prog 42 (S_slices_IndexFunc_int_int @l_slices_IndexFunc_int_int_f31) := by
  refine fn_sound (cuts := cuts_slices_IndexFunc_int_int_f31) (fn := Try.f42) (Γ := (T_slices_IndexFunc_int_int @l_teach_member_1)) wide right_T_slices_IndexFunc_int_int Try.func42 fun {R} K r args ob h => ?_
  unfold S_slices_IndexFunc_int_int at h
  dsimp only at h
  split at h
  · obtain ⟨n, hn⟩ := ok_slices_IndexFunc_int_int_f31 _ _ _ h
    refine ⟨Nat.le_of_ble_eq_true (by kernel_rfl), n, (entry_slices_IndexFunc_int_int_f31 n K _ _).trans ?_⟩
    rw [(runs_slices_IndexFunc_int_int_f31 K n)]
    exact hn
  · cases h

theorem call_slices_IndexFunc_int_int : Callable Try.prog 42 := ⟨_, Try.func42, by kernel_rfl, by kernel_rfl⟩

def T_slices_ContainsFunc_int_int (l_slices_IndexFunc_int_int_f31 : {R : Type} → (List Int) → Int → (Int → Int → Option R) → Option R) : FuncId → Option Sum := (addS G0 42 (S_slices_IndexFunc_int_int @l_slices_IndexFunc_int_int_f31))

theorem right_T_slices_ContainsFunc_int_int : Right Try.prog (T_slices_ContainsFunc_int_int @l_slices_IndexFunc_int_int_f31) := (right_add right_G0 call_slices_IndexFunc_int_int sound_slices_IndexFunc_int_int)

abbrev cuts_slices_ContainsFunc_int_int_f31 : Cuts := []

theorem gentry_slices_ContainsFunc_int_int_f31 (l_slices_IndexFunc_int_int_f31 : {R : Type} → (List Int) → Int → (Int → Int → Option R) → Option R) {R : Type} (K : AV → List O → Option R) (s : List Int) (o0 : Int) :
    fnRun Try.prog (T_slices_ContainsFunc_int_int @l_slices_IndexFunc_int_int_f31) cuts_slices_ContainsFunc_int_int_f31 Try.f30 0 [.rd ⟨false, 3, (.int .i64), s⟩, .clo 31 [.ptr 0 0]] [.box 3 [.v (.int .i64 o0)]] K =
    (fun (s : List Int) (o0 : Int) (K0 : Bool → Int → Option R) =>
    l_slices_IndexFunc_int_int_f31 s o0
     (fun r1 r2 =>
      K0 (decide (r1 ≥ 0)) r2)) s o0 (fun r0 r1 => K (.v (.bool r0)) [.box 3 [.v (.int .i64 r1)]]) := by kernel_rfl

theorem entry_slices_ContainsFunc_int_int_f31 {R : Type} (K : AV → List O → Option R) (s : List Int) (o0 : Int) :
    fnRun Try.prog (T_slices_ContainsFunc_int_int @l_slices_IndexFunc_int_int_f31) cuts_slices_ContainsFunc_int_int_f31 Try.f30 0 [.rd ⟨false, 3, (.int .i64), s⟩, .clo 31 [.ptr 0 0]] [.box 3 [.v (.int .i64 o0)]] K =
    l_slices_ContainsFunc_int_int_f31 s o0 (fun r0 r1 => K (.v (.bool r0)) [.box 3 [.v (.int .i64 r1)]]) := gentry_slices_ContainsFunc_int_int_f31 @l_slices_IndexFunc_int_int_f31 K s o0

def S_slices_ContainsFunc_int_int (l_slices_ContainsFunc_int_int_f31 : {R : Type} → (List Int) → Int → (Bool → Int → Option R) → Option R) : Sum := ⟨[], fun {R} args ob K => match args, ob with
  | [.rd ⟨false, 3, (.int .i64), s⟩, .clo 31 [.ptr 0 0]], [.box 3 [.v (.int .i64 o0)]] => l_slices_ContainsFunc_int_int_f31 s o0 (fun r0 r1 => K (.v (.bool r0)) [.box 3 [.v (.int .i64 r1)]])
  | _, _ => none⟩

theorem sound_slices_ContainsFunc_int_int : Sound Try.prog 30 (S_slices_ContainsFunc_int_int @l_slices_ContainsFunc_int_int_f31) := by
  refine fn_sound (cuts := cuts_slices_ContainsFunc_int_int_f31) (fn := Try.f30) (Γ := (T_slices_ContainsFunc_int_int @l_slices_IndexFunc_int_int_f31)) wide right_T_slices_ContainsFunc_int_int Try.func30 fun {R} K r args ob h => ?_
  unfold S_slices_ContainsFunc_int_int at h
  dsimp only at h
  split at h
  · exact ⟨Nat.le_of_ble_eq_true (by kernel_rfl), 0, (entry_slices_ContainsFunc_int_int_f31 K _ _).trans h⟩
  · cases h

theorem call_slices_ContainsFunc_int_int : Callable Try.prog 30 := ⟨_, Try.func30, by kernel_rfl, by kernel_rfl⟩

def T_teach_member (l_slices_ContainsFunc_int_int_f31 : {R : Type} → (List Int) → Int → (Bool → Int → Option R) → Option R) : FuncId → Option Sum := (addS G0 30 (S_slices_ContainsFunc_int_int @l_slices_ContainsFunc_int_int_f31))

theorem right_T_teach_member : Right Try.prog (T_teach_member @l_slices_ContainsFunc_int_int_f31) := (right_add right_G0 call_slices_ContainsFunc_int_int sound_slices_ContainsFunc_int_int)

abbrev cuts_teach_member : Cuts := []

theorem gentry_teach_member (l_slices_ContainsFunc_int_int_f31 : {R : Type} → (List Int) → Int → (Bool → Int → Option R) → Option R) {R : Type} (K : AV → List O → Option R) (q : Int) (q_1 : List Int) (q_2 : Int) (q_3 : Int) (q_4 : Int) (q_5 : Int) (q_6 : List Int) (q_7 : List Int) (out : List Int) :
    fnRun Try.prog (T_teach_member @l_slices_ContainsFunc_int_int_f31) cuts_teach_member Try.f20 0 [.agg [.v (.int .i64 q), .rd ⟨false, 3, (.int .i64), q_1⟩, .v (.int .i64 q_2), .v (.int .i64 q_3), .v (.int .i64 q_4), .v (.int .i64 q_5), .rd ⟨false, 3, (.int .i64), q_6⟩, .rd ⟨false, 3, (.int .i64), q_7⟩], .rd ⟨false, 3, (.int .i64), out⟩] [] K =
    (fun (q : Int) (q_1 : List Int) (q_2 : Int) (q_3 : Int) (q_4 : Int) (q_5 : Int) (q_6 : List Int) (q_7 : List Int) (out : List Int) (K0 : Bool → Option R) =>
    bi (q_2 == 1)
     (bi ((out.length : Int) == 1)
      (l_slices_ContainsFunc_int_int_f31 out 2
       (fun r1 r2 =>
        K0 (!r1)))
      (K0 false))
     (bi (q_2 == 2)
      (bi ((out.length : Int) == (q_1.length : Int))
       (l_slices_ContainsFunc_int_int_f31 out q_4
        (fun r3 r4 =>
         K0 (!r3)))
       (K0 false))
      (K0 false))) q q_1 q_2 q_3 q_4 q_5 q_6 q_7 out (fun r0 => K (.v (.bool r0)) []) := by kernel_rfl

theorem entry_teach_member {R : Type} (K : AV → List O → Option R) (q : Int) (q_1 : List Int) (q_2 : Int) (q_3 : Int) (q_4 : Int) (q_5 : Int) (q_6 : List Int) (q_7 : List Int) (out : List Int) :
    fnRun Try.prog (T_teach_member @l_slices_ContainsFunc_int_int_f31) cuts_teach_member Try.f20 0 [.agg [.v (.int .i64 q), .rd ⟨false, 3, (.int .i64), q_1⟩, .v (.int .i64 q_2), .v (.int .i64 q_3), .v (.int .i64 q_4), .v (.int .i64 q_5), .rd ⟨false, 3, (.int .i64), q_6⟩, .rd ⟨false, 3, (.int .i64), q_7⟩], .rd ⟨false, 3, (.int .i64), out⟩] [] K =
    l_teach_member q q_1 q_2 q_3 q_4 q_5 q_6 q_7 out (fun r0 => K (.v (.bool r0)) []) := gentry_teach_member @l_slices_ContainsFunc_int_int_f31 K q q_1 q_2 q_3 q_4 q_5 q_6 q_7 out

def S_teach_member (l_teach_member : {R : Type} → Int → (List Int) → Int → Int → Int → Int → (List Int) → (List Int) → (List Int) → (Bool → Option R) → Option R) : Sum := ⟨[], fun {R} args ob K => match args, ob with
  | [.agg [.v (.int .i64 q), .rd ⟨false, 3, (.int .i64), q_1⟩, .v (.int .i64 q_2), .v (.int .i64 q_3), .v (.int .i64 q_4), .v (.int .i64 q_5), .rd ⟨false, 3, (.int .i64), q_6⟩, .rd ⟨false, 3, (.int .i64), q_7⟩], .rd ⟨false, 3, (.int .i64), out⟩], [] => l_teach_member q q_1 q_2 q_3 q_4 q_5 q_6 q_7 out (fun r0 => K (.v (.bool r0)) [])
  | _, _ => none⟩

theorem sound_teach_member : Sound Try.prog 20 (S_teach_member @l_teach_member) := by
  refine fn_sound (cuts := cuts_teach_member) (fn := Try.f20) (Γ := (T_teach_member @l_slices_ContainsFunc_int_int_f31)) wide right_T_teach_member Try.func20 fun {R} K r args ob h => ?_
  unfold S_teach_member at h
  dsimp only at h
  split at h
  · exact ⟨Nat.le_of_ble_eq_true (by kernel_rfl), 0, (entry_teach_member K _ _ _ _ _ _ _ _ _).trans h⟩
  · cases h

theorem call_teach_member : Callable Try.prog 20 := ⟨_, Try.func20, by kernel_rfl, by kernel_rfl⟩

def T_word_alphabet : FuncId → Option Sum := G0

theorem right_T_word_alphabet : Right Try.prog T_word_alphabet := right_G0

abbrev cuts_word_alphabet : Cuts := []

theorem gentry_word_alphabet {R : Type} (K : AV → List O → Option R) (k : Int) :
    fnRun Try.prog T_word_alphabet cuts_word_alphabet Try.f32 0 [.v (.int .i64 k)] [] K =
    (fun (k : Int) (K0 : Bool → Option R) =>
    bi (decide (k ≥ 1))
     (K0 (decide (k ≤ 64)))
     (K0 false)) k (fun r0 => K (.v (.bool r0)) []) := by kernel_rfl

theorem entry_word_alphabet {R : Type} (K : AV → List O → Option R) (k : Int) :
    fnRun Try.prog T_word_alphabet cuts_word_alphabet Try.f32 0 [.v (.int .i64 k)] [] K =
    l_word_alphabet k (fun r0 => K (.v (.bool r0)) []) := gentry_word_alphabet K k

def S_word_alphabet (l_word_alphabet : {R : Type} → Int → (Bool → Option R) → Option R) : Sum := ⟨[], fun {R} args ob K => match args, ob with
  | [.v (.int .i64 k)], [] => l_word_alphabet k (fun r0 => K (.v (.bool r0)) [])
  | _, _ => none⟩

theorem sound_word_alphabet : Sound Try.prog 32 (S_word_alphabet @l_word_alphabet) := by
  refine fn_sound (cuts := cuts_word_alphabet) (fn := Try.f32) (Γ := T_word_alphabet) wide right_T_word_alphabet Try.func32 fun {R} K r args ob h => ?_
  unfold S_word_alphabet at h
  dsimp only at h
  split at h
  · exact ⟨Nat.le_of_ble_eq_true (by kernel_rfl), 0, (entry_word_alphabet K _).trans h⟩
  · cases h

theorem call_word_alphabet : Callable Try.prog 32 := ⟨_, Try.func32, by kernel_rfl, by kernel_rfl⟩

def T_word_Check (l_word_alphabet : {R : Type} → Int → (Bool → Option R) → Option R) : FuncId → Option Sum := (addS G0 32 (S_word_alphabet @l_word_alphabet))

theorem right_T_word_Check : Right Try.prog (T_word_Check @l_word_alphabet) := (right_add right_G0 call_word_alphabet sound_word_alphabet)

abbrev cuts_word_Check : Cuts := [(6, [0, 1, 16, 17])]

theorem gstep_word_Check_6 (l_word_alphabet : {R : Type} → Int → (Bool → Option R) → Option R) {R : Type} (g : List Item → St → Option R) (K : AV → List O → Option R) (w : List Int) (k : Int) (x16 : Int) (x17 : Int) :
    runSeg Try.prog (T_word_Check @l_word_alphabet) cuts_word_Check 0 g (finish Try.prog Try.f21 0 K) (at' Try.f21 6) ⟨fr0 35 [(0, .rd ⟨false, 3, (.int .i64), w⟩), (1, .v (.int .i64 k)), (16, .v (.int .i64 x16)), (17, .v (.int .i64 x17))], []⟩ =
    (fun (g21_6 : (List Int) → Int → Int → Int → Option R) (K0 : Int → Int → Option R) (w : List Int) (k : Int) (x16 : Int) (x17 : Int) =>
    bi (decide (x17 < x16))
     (bi (decide (0 ≤ x17 ∧ x17 < ((w.length : Nat) : Int)))
      (bi (decide ((w.getD x17.toNat 0) < 0))
       (K0 x17 10)
       (bi (decide (0 ≤ x17 ∧ x17 < ((w.length : Nat) : Int)))
        (bi (decide ((w.getD x17.toNat 0) ≥ k))
         (K0 x17 10)
         (g21_6 w k x16 (IntKind.i64.wrap (x17 + 1))))
        none))
      none)
     (K0 0 0)) (fun w k x16 x17 => g (at' Try.f21 6) ⟨fr0 35 [(0, .rd ⟨false, 3, (.int .i64), w⟩), (1, .v (.int .i64 k)), (16, .v (.int .i64 x16)), (17, .v (.int .i64 x17))], []⟩) (fun r0 r1 => K (.tup [.v (.int .i64 r0), .v (.int .i64 r1)]) []) w k x16 x17 := by kernel_rfl

theorem step_word_Check_6 {R : Type} (g : List Item → St → Option R) (K : AV → List O → Option R) (w : List Int) (k : Int) (x16 : Int) (x17 : Int) :
    runSeg Try.prog (T_word_Check @l_word_alphabet) cuts_word_Check 0 g (finish Try.prog Try.f21 0 K) (at' Try.f21 6) ⟨fr0 35 [(0, .rd ⟨false, 3, (.int .i64), w⟩), (1, .v (.int .i64 k)), (16, .v (.int .i64 x16)), (17, .v (.int .i64 x17))], []⟩ =
    s_word_Check_6 (fun w k x16 x17 => g (at' Try.f21 6) ⟨fr0 35 [(0, .rd ⟨false, 3, (.int .i64), w⟩), (1, .v (.int .i64 k)), (16, .v (.int .i64 x16)), (17, .v (.int .i64 x17))], []⟩) (fun r0 r1 => K (.tup [.v (.int .i64 r0), .v (.int .i64 r1)]) []) w k x16 x17 := gstep_word_Check_6 @l_word_alphabet g K w k x16 x17

theorem gentry_word_Check (l_word_alphabet : {R : Type} → Int → (Bool → Option R) → Option R) {R : Type} (fuel : Nat) (K : AV → List O → Option R) (w : List Int) (k : Int) :
    fnRun Try.prog (T_word_Check @l_word_alphabet) cuts_word_Check Try.f21 fuel [.rd ⟨false, 3, (.int .i64), w⟩, .v (.int .i64 k)] [] K =
    (fun (g21_6 : (List Int) → Int → Int → Int → Option R) (K0 : Int → Int → Option R) (w : List Int) (k : Int) =>
    l_word_alphabet k
     (fun r1 =>
      bi (!r1)
       (K0 0 1)
       (bi (decide ((w.length : Int) > 4096))
        (K0 0 2)
        (g21_6 w k (w.length : Int) 0)))) (fun w k x16 x17 => (runO Try.prog (T_word_Check @l_word_alphabet) cuts_word_Check 0 (finish Try.prog Try.f21 0 K) fuel) (at' Try.f21 6) ⟨fr0 35 [(0, .rd ⟨false, 3, (.int .i64), w⟩), (1, .v (.int .i64 k)), (16, .v (.int .i64 x16)), (17, .v (.int .i64 x17))], []⟩) (fun r0 r1 => K (.tup [.v (.int .i64 r0), .v (.int .i64 r1)]) []) w k := by kernel_rfl

theorem entry_word_Check {R : Type} (fuel : Nat) (K : AV → List O → Option R) (w : List Int) (k : Int) :
    fnRun Try.prog (T_word_Check @l_word_alphabet) cuts_word_Check Try.f21 fuel [.rd ⟨false, 3, (.int .i64), w⟩, .v (.int .i64 k)] [] K =
    e_word_Check (fun w k x16 x17 => (runO Try.prog (T_word_Check @l_word_alphabet) cuts_word_Check 0 (finish Try.prog Try.f21 0 K) fuel) (at' Try.f21 6) ⟨fr0 35 [(0, .rd ⟨false, 3, (.int .i64), w⟩), (1, .v (.int .i64 k)), (16, .v (.int .i64 x16)), (17, .v (.int .i64 x17))], []⟩) (fun r0 r1 => K (.tup [.v (.int .i64 r0), .v (.int .i64 r1)]) []) w k := gentry_word_Check @l_word_alphabet fuel K w k

theorem runs_word_Check {R : Type} (K : AV → List O → Option R) : ∀ fuel : Nat,
    (fun w k x16 x17 => (runO Try.prog (T_word_Check @l_word_alphabet) cuts_word_Check 0 (finish Try.prog Try.f21 0 K) fuel) (at' Try.f21 6) ⟨fr0 35 [(0, .rd ⟨false, 3, (.int .i64), w⟩), (1, .v (.int .i64 k)), (16, .v (.int .i64 x16)), (17, .v (.int .i64 x17))], []⟩) = (run_word_Check (fun r0 r1 => K (.tup [.v (.int .i64 r0), .v (.int .i64 r1)]) []) fuel)
  | 0 => rfl
  | fuel + 1 => by
    have ih := runs_word_Check K fuel
    funext w k x16 x17
    refine (step_word_Check_6 _ K w k x16 x17).trans ?_
    rw [ih]
    rfl

def S_word_Check (l_word_Check : {R : Type} → (List Int) → Int → (Int → Int → Option R) → Option R) : Sum := ⟨[], fun {R} args ob K => match args, ob with
  | [.rd ⟨false, 3, (.int .i64), w⟩, .v (.int .i64 k)], [] => l_word_Check w k (fun r0 r1 => K (.tup [.v (.int .i64 r0), .v (.int .i64 r1)]) [])
  | _, _ => none⟩

theorem sound_word_Check : Sound Try.prog 21 (S_word_Check @l_word_Check) := by
  refine fn_sound (cuts := cuts_word_Check) (fn := Try.f21) (Γ := (T_word_Check @l_word_alphabet)) wide right_T_word_Check Try.func21 fun {R} K r args ob h => ?_
  unfold S_word_Check at h
  dsimp only at h
  split at h
  · obtain ⟨n, hn⟩ := ok_word_Check _ _ _ h
    refine ⟨Nat.le_of_ble_eq_true (by kernel_rfl), n, (entry_word_Check n K _ _).trans ?_⟩
    rw [(runs_word_Check K n)]
    exact hn
  · cases h

theorem call_word_Check : Callable Try.prog 21 := ⟨_, Try.func21, by kernel_rfl, by kernel_rfl⟩

def T_teach_Check (l_teach_member : {R : Type} → Int → (List Int) → Int → Int → Int → Int → (List Int) → (List Int) → (List Int) → (Bool → Option R) → Option R) (l_word_Check : {R : Type} → (List Int) → Int → (Int → Int → Option R) → Option R) (l_teach_of : {R : Type} → Int → (List Int) → (List Int) → ((List Int) → Option R) → (Option R) → ((List Int) → Option R) → (Option R) → Option R) : FuncId → Option Sum := (addS (addS (addS G0 20 (S_teach_member @l_teach_member)) 21 (S_word_Check @l_word_Check)) 19 (S_teach_of @l_teach_of))

theorem right_T_teach_Check : Right Try.prog (T_teach_Check @l_teach_member @l_word_Check @l_teach_of) := (right_add (right_add (right_add right_G0 call_teach_member sound_teach_member) call_word_Check sound_word_Check) call_teach_of sound_teach_of)

abbrev cuts_teach_Check : Cuts := []

theorem gentry_teach_Check (l_teach_member : {R : Type} → Int → (List Int) → Int → Int → Int → Int → (List Int) → (List Int) → (List Int) → (Bool → Option R) → Option R) (l_word_Check : {R : Type} → (List Int) → Int → (Int → Int → Option R) → Option R) (l_teach_of : {R : Type} → Int → (List Int) → (List Int) → ((List Int) → Option R) → (Option R) → ((List Int) → Option R) → (Option R) → Option R) {R : Type} (K : AV → List O → Option R) (q : Int) (q_1 : List Int) (q_2 : Int) (q_3 : Int) (q_4 : Int) (q_5 : Int) (q_6 : List Int) (q_7 : List Int) (a : Int) (a_1 : List Int) (a_2 : List Int) :
    fnRun Try.prog (T_teach_Check @l_teach_member @l_word_Check @l_teach_of) cuts_teach_Check Try.f9 0 [.agg [.v (.int .i64 q), .rd ⟨false, 3, (.int .i64), q_1⟩, .v (.int .i64 q_2), .v (.int .i64 q_3), .v (.int .i64 q_4), .v (.int .i64 q_5), .rd ⟨false, 3, (.int .i64), q_6⟩, .rd ⟨false, 3, (.int .i64), q_7⟩], .agg [.v (.int .i64 a), .rd ⟨false, 3, (.int .i64), a_1⟩, .rd ⟨false, 3, (.int .i64), a_2⟩]] [] K =
    (fun (q : Int) (q_1 : List Int) (q_2 : Int) (q_3 : Int) (q_4 : Int) (q_5 : Int) (q_6 : List Int) (q_7 : List Int) (a : Int) (a_1 : List Int) (a_2 : List Int) (K0 : Int → Option R) =>
    bi (q != 1)
     (bi (q != 2)
      (K0 30)
      (l_teach_of a a_1 a_2
       (fun r1 =>
        bi (q == 1)
         (bi ((a_2.length : Int) == 0)
          (l_teach_member q q_1 q_2 q_3 q_4 q_5 q_6 q_7 r1
           (fun r2 =>
            bi (!r2)
             (K0 100)
             (K0 0)))
          (K0 100))
         (K0 100))
       (bi (q == 2)
        (bi (!((IntKind.i64.wrap ((a_2.length : Int) + (a_1.length : Int))) == 0))
         (K0 100)
         (K0 0))
        (K0 100))
       (fun r3 =>
        l_word_Check r3 q_3
         (fun r4 r5 =>
          bi (q == 2)
           (bi ((a_1.length : Int) == 0)
            (bi (!(r5 == 0))
             (K0 100)
             (K0 0))
            (K0 100))
           (K0 100)))
       (K0 100)))
     (l_teach_of a a_1 a_2
      (fun r6 =>
       bi (q == 1)
        (bi ((a_2.length : Int) == 0)
         (l_teach_member q q_1 q_2 q_3 q_4 q_5 q_6 q_7 r6
          (fun r7 =>
           bi (!r7)
            (K0 100)
            (K0 0)))
         (K0 100))
        (K0 100))
      (bi (q == 2)
       (bi (!((IntKind.i64.wrap ((a_2.length : Int) + (a_1.length : Int))) == 0))
        (K0 100)
        (K0 0))
       (K0 100))
      (fun r8 =>
       l_word_Check r8 q_3
        (fun r9 r10 =>
         bi (q == 2)
          (bi ((a_1.length : Int) == 0)
           (bi (!(r10 == 0))
            (K0 100)
            (K0 0))
           (K0 100))
          (K0 100)))
      (K0 100))) q q_1 q_2 q_3 q_4 q_5 q_6 q_7 a a_1 a_2 (fun r0 => K (.v (.int .i64 r0)) []) := by kernel_rfl

theorem entry_teach_Check {R : Type} (K : AV → List O → Option R) (q : Int) (q_1 : List Int) (q_2 : Int) (q_3 : Int) (q_4 : Int) (q_5 : Int) (q_6 : List Int) (q_7 : List Int) (a : Int) (a_1 : List Int) (a_2 : List Int) :
    fnRun Try.prog (T_teach_Check @l_teach_member @l_word_Check @l_teach_of) cuts_teach_Check Try.f9 0 [.agg [.v (.int .i64 q), .rd ⟨false, 3, (.int .i64), q_1⟩, .v (.int .i64 q_2), .v (.int .i64 q_3), .v (.int .i64 q_4), .v (.int .i64 q_5), .rd ⟨false, 3, (.int .i64), q_6⟩, .rd ⟨false, 3, (.int .i64), q_7⟩], .agg [.v (.int .i64 a), .rd ⟨false, 3, (.int .i64), a_1⟩, .rd ⟨false, 3, (.int .i64), a_2⟩]] [] K =
    l_teach_Check q q_1 q_2 q_3 q_4 q_5 q_6 q_7 a a_1 a_2 (fun r0 => K (.v (.int .i64 r0)) []) := gentry_teach_Check @l_teach_member @l_word_Check @l_teach_of K q q_1 q_2 q_3 q_4 q_5 q_6 q_7 a a_1 a_2

def S_teach_Check (l_teach_Check : {R : Type} → Int → (List Int) → Int → Int → Int → Int → (List Int) → (List Int) → Int → (List Int) → (List Int) → (Int → Option R) → Option R) : Sum := ⟨[], fun {R} args ob K => match args, ob with
  | [.agg [.v (.int .i64 q), .rd ⟨false, 3, (.int .i64), q_1⟩, .v (.int .i64 q_2), .v (.int .i64 q_3), .v (.int .i64 q_4), .v (.int .i64 q_5), .rd ⟨false, 3, (.int .i64), q_6⟩, .rd ⟨false, 3, (.int .i64), q_7⟩], .agg [.v (.int .i64 a), .rd ⟨false, 3, (.int .i64), a_1⟩, .rd ⟨false, 3, (.int .i64), a_2⟩]], [] => l_teach_Check q q_1 q_2 q_3 q_4 q_5 q_6 q_7 a a_1 a_2 (fun r0 => K (.v (.int .i64 r0)) [])
  | _, _ => none⟩

theorem sound_teach_Check : Sound Try.prog 9 (S_teach_Check @l_teach_Check) := by
  refine fn_sound (cuts := cuts_teach_Check) (fn := Try.f9) (Γ := (T_teach_Check @l_teach_member @l_word_Check @l_teach_of)) wide right_T_teach_Check Try.func9 fun {R} K r args ob h => ?_
  unfold S_teach_Check at h
  dsimp only at h
  split at h
  · exact ⟨Nat.le_of_ble_eq_true (by kernel_rfl), 0, (entry_teach_Check K _ _ _ _ _ _ _ _ _ _ _).trans h⟩
  · cases h

theorem call_teach_Check : Callable Try.prog 9 := ⟨_, Try.func9, by kernel_rfl, by kernel_rfl⟩

def T_tutorlaw10_live (l_tutorlaw10_num : {R : Type} → Int → (Int → Option R) → Option R) (l_teach_Check : {R : Type} → Int → (List Int) → Int → Int → Int → Int → (List Int) → (List Int) → Int → (List Int) → (List Int) → (Int → Option R) → Option R) (l_tutorref01_Same : {R : Type} → (List Int) → (List Int) → (Bool → Option R) → Option R) (l_teach_Parse : {R : Type} → (List Int) → (Int → Int → (List (Int × (List Int × List Int))) → Option R) → Option R) : FuncId → Option Sum := (addS (addS (addS (addS G0 8 (S_tutorlaw10_num @l_tutorlaw10_num)) 9 (S_teach_Check @l_teach_Check)) 17 (S_tutorref01_Same @l_tutorref01_Same)) 18 (S_teach_Parse @l_teach_Parse))

theorem right_T_tutorlaw10_live : Right Try.prog (T_tutorlaw10_live @l_tutorlaw10_num @l_teach_Check @l_tutorref01_Same @l_teach_Parse) := (right_add (right_add (right_add (right_add right_G0 call_tutorlaw10_num sound_tutorlaw10_num) call_teach_Check sound_teach_Check) call_tutorref01_Same sound_tutorref01_Same) call_teach_Parse sound_teach_Parse)

abbrev cuts_tutorlaw10_live : Cuts := []

theorem gentry_tutorlaw10_live (l_tutorlaw10_num : {R : Type} → Int → (Int → Option R) → Option R) (l_teach_Check : {R : Type} → Int → (List Int) → Int → Int → Int → Int → (List Int) → (List Int) → Int → (List Int) → (List Int) → (Int → Option R) → Option R) (l_tutorref01_Same : {R : Type} → (List Int) → (List Int) → (Bool → Option R) → Option R) (l_teach_Parse : {R : Type} → (List Int) → (Int → Int → (List (Int × (List Int × List Int))) → Option R) → Option R) {R : Type} (K : AV → List O → Option R)  :
    fnRun Try.prog (T_tutorlaw10_live @l_tutorlaw10_num @l_teach_Check @l_tutorref01_Same @l_teach_Parse) cuts_tutorlaw10_live Try.f7 0 [] [] K =
    (fun  (K0 : Bool → Option R) =>
    bi (decide (0 < [111, 32, 48, 32, 49, 10, 121, 10, 110, 32, 50, 10].length))
     (l_teach_Parse [111, 32, 48, 32, 49, 10, 121, 10, 110, 32, 50, 10]
      (fun r1 r2 r3 =>
       bi (decide (0 < [111, 32, 48, 49, 10].length))
        (l_teach_Parse [111, 32, 48, 49, 10]
         (fun r4 r5 r6 =>
          l_tutorlaw10_num r1
           (fun r7 =>
            bi (r7 == 0)
             (bi (r2 == 12)
              (bi ((r3.length : Int) == 3)
               (bi (decide (0 ≤ (0 : Int) ∧ (0 : Int) < ((r3.length : Nat) : Int)))
                (l_tutorref01_Same (((r3.getD 0 (0, ([], []))).2).1) [0, 1]
                 (fun r8 =>
                  bi r8
                   (bi (decide (0 ≤ (1 : Int) ∧ (1 : Int) < ((r3.length : Nat) : Int)))
                    (bi (((r3.getD 1 (0, ([], []))).1) == 2)
                     (bi (decide (0 ≤ (2 : Int) ∧ (2 : Int) < ((r3.length : Nat) : Int)))
                      (l_tutorref01_Same (((r3.getD 2 (0, ([], []))).2).2) [2]
                       (fun r9 =>
                        bi r9
                         (l_tutorlaw10_num r4
                          (fun r10 =>
                           bi (r10 == 6)
                            (bi (r5 == 3)
                             (l_teach_Check 1 ([] : List Int) 1 0 2 0 ([] : List Int) ([] : List Int) 1 [2] ([] : List Int)
                              (fun r11 =>
                               l_tutorlaw10_num r11
                                (fun r12 =>
                                 K0 (r12 == 100))))
                             (K0 false))
                            (K0 false)))
                         (K0 false)))
                      none)
                     (K0 false))
                    none)
                   (K0 false)))
                none)
               (K0 false))
              (K0 false))
             (K0 false))))
        none))
     none)  (fun r0 => K (.v (.bool r0)) []) := by kernel_rfl

theorem entry_tutorlaw10_live {R : Type} (K : AV → List O → Option R)  :
    fnRun Try.prog (T_tutorlaw10_live @l_tutorlaw10_num @l_teach_Check @l_tutorref01_Same @l_teach_Parse) cuts_tutorlaw10_live Try.f7 0 [] [] K =
    l_tutorlaw10_live  (fun r0 => K (.v (.bool r0)) []) := gentry_tutorlaw10_live @l_tutorlaw10_num @l_teach_Check @l_tutorref01_Same @l_teach_Parse K 

def S_tutorlaw10_live (l_tutorlaw10_live : {R : Type} → (Bool → Option R) → Option R) : Sum := ⟨[], fun {R} args ob K => match args, ob with
  | [], [] => l_tutorlaw10_live  (fun r0 => K (.v (.bool r0)) [])
  | _, _ => none⟩

theorem sound_tutorlaw10_live : Sound Try.prog 7 (S_tutorlaw10_live @l_tutorlaw10_live) := by
  refine fn_sound (cuts := cuts_tutorlaw10_live) (fn := Try.f7) (Γ := (T_tutorlaw10_live @l_tutorlaw10_num @l_teach_Check @l_tutorref01_Same @l_teach_Parse)) wide right_T_tutorlaw10_live Try.func7 fun {R} K r args ob h => ?_
  unfold S_tutorlaw10_live at h
  dsimp only at h
  split at h
  · exact ⟨Nat.le_of_ble_eq_true (by kernel_rfl), 0, (entry_tutorlaw10_live K).trans h⟩
  · cases h

theorem call_tutorlaw10_live : Callable Try.prog 7 := ⟨_, Try.func7, by kernel_rfl, by kernel_rfl⟩

def T_machine_says : FuncId → Option Sum := G0

theorem right_T_machine_says : Right Try.prog T_machine_says := right_G0

abbrev cuts_machine_says : Cuts := []

theorem gentry_machine_says {R : Type} (K : AV → List O → Option R) (m : Int) (m_1 : Int) (m_2 : Int) (m_3 : Int) (m_4 : List Int) (m_5 : List Int) :
    fnRun Try.prog T_machine_says cuts_machine_says Try.f43 0 [.agg [.v (.int .i64 m), .v (.int .i64 m_1), .v (.int .i64 m_2), .v (.int .i64 m_3), .rd ⟨false, 3, (.int .i64), m_4⟩, .rd ⟨false, 3, (.int .i64), m_5⟩]] [] K =
    (fun (m : Int) (m_1 : Int) (m_2 : Int) (m_3 : Int) (m_4 : List Int) (m_5 : List Int) (K0 : Int → Option R) =>
    bi (m == 1)
     (K0 m_3)
     (K0 (IntKind.i64.wrap (m_3 * m_1)))) m m_1 m_2 m_3 m_4 m_5 (fun r0 => K (.v (.int .i64 r0)) []) := by kernel_rfl

theorem entry_machine_says {R : Type} (K : AV → List O → Option R) (m : Int) (m_1 : Int) (m_2 : Int) (m_3 : Int) (m_4 : List Int) (m_5 : List Int) :
    fnRun Try.prog T_machine_says cuts_machine_says Try.f43 0 [.agg [.v (.int .i64 m), .v (.int .i64 m_1), .v (.int .i64 m_2), .v (.int .i64 m_3), .rd ⟨false, 3, (.int .i64), m_4⟩, .rd ⟨false, 3, (.int .i64), m_5⟩]] [] K =
    l_machine_says m m_1 m_2 m_3 m_4 m_5 (fun r0 => K (.v (.int .i64 r0)) []) := gentry_machine_says K m m_1 m_2 m_3 m_4 m_5

def S_machine_says (l_machine_says : {R : Type} → Int → Int → Int → Int → (List Int) → (List Int) → (Int → Option R) → Option R) : Sum := ⟨[], fun {R} args ob K => match args, ob with
  | [.agg [.v (.int .i64 m), .v (.int .i64 m_1), .v (.int .i64 m_2), .v (.int .i64 m_3), .rd ⟨false, 3, (.int .i64), m_4⟩, .rd ⟨false, 3, (.int .i64), m_5⟩]], [] => l_machine_says m m_1 m_2 m_3 m_4 m_5 (fun r0 => K (.v (.int .i64 r0)) [])
  | _, _ => none⟩

theorem sound_machine_says : Sound Try.prog 43 (S_machine_says @l_machine_says) := by
  refine fn_sound (cuts := cuts_machine_says) (fn := Try.f43) (Γ := T_machine_says) wide right_T_machine_says Try.func43 fun {R} K r args ob h => ?_
  unfold S_machine_says at h
  dsimp only at h
  split at h
  · exact ⟨Nat.le_of_ble_eq_true (by kernel_rfl), 0, (entry_machine_says K _ _ _ _ _ _).trans h⟩
  · cases h

theorem call_machine_says : Callable Try.prog 43 := ⟨_, Try.func43, by kernel_rfl, by kernel_rfl⟩

def T_machine_head (l_machine_says : {R : Type} → Int → Int → Int → Int → (List Int) → (List Int) → (Int → Option R) → Option R) : FuncId → Option Sum := (addS G0 43 (S_machine_says @l_machine_says))

theorem right_T_machine_head : Right Try.prog (T_machine_head @l_machine_says) := (right_add right_G0 call_machine_says sound_machine_says)

abbrev cuts_machine_head : Cuts := []

theorem gentry_machine_head (l_machine_says : {R : Type} → Int → Int → Int → Int → (List Int) → (List Int) → (Int → Option R) → Option R) {R : Type} (K : AV → List O → Option R) (m : Int) (m_1 : Int) (m_2 : Int) (m_3 : Int) (m_4 : List Int) (m_5 : List Int) :
    fnRun Try.prog (T_machine_head @l_machine_says) cuts_machine_head Try.f33 0 [.agg [.v (.int .i64 m), .v (.int .i64 m_1), .v (.int .i64 m_2), .v (.int .i64 m_3), .rd ⟨false, 3, (.int .i64), m_4⟩, .rd ⟨false, 3, (.int .i64), m_5⟩]] [] K =
    (fun (m : Int) (m_1 : Int) (m_2 : Int) (m_3 : Int) (m_4 : List Int) (m_5 : List Int) (K0 : Int → Option R) =>
    bi (m != 1)
     (bi (m != 2)
      (K0 30)
      (bi (decide (m_1 < 1))
       (K0 1)
       (bi (decide (m_1 > 64))
        (K0 1)
        (bi (m == 1)
         (bi (m_2 != 2)
          (K0 33)
          (bi (decide (m_2 < 1))
           (K0 33)
           (bi (decide (m_2 > 64))
            (K0 33)
            (bi (decide (m_3 < 1))
             (K0 3)
             (bi (decide (m_3 > 1024))
              (K0 3)
              (bi ((m_4.length : Int) != (IntKind.i64.wrap (m_3 * m_1)))
               (K0 31)
               (l_machine_says m m_1 m_2 m_3 m_4 m_5
                (fun r1 =>
                 bi ((m_5.length : Int) != r1)
                  (K0 31)
                  (K0 0)))))))))
         (bi (decide (m_2 < 1))
          (K0 33)
          (bi (decide (m_2 > 64))
           (K0 33)
           (bi (decide (m_3 < 1))
            (K0 3)
            (bi (decide (m_3 > 1024))
             (K0 3)
             (bi ((m_4.length : Int) != (IntKind.i64.wrap (m_3 * m_1)))
              (K0 31)
              (l_machine_says m m_1 m_2 m_3 m_4 m_5
               (fun r2 =>
                bi ((m_5.length : Int) != r2)
                 (K0 31)
                 (K0 0))))))))))))
     (bi (decide (m_1 < 1))
      (K0 1)
      (bi (decide (m_1 > 64))
       (K0 1)
       (bi (m == 1)
        (bi (m_2 != 2)
         (K0 33)
         (bi (decide (m_2 < 1))
          (K0 33)
          (bi (decide (m_2 > 64))
           (K0 33)
           (bi (decide (m_3 < 1))
            (K0 3)
            (bi (decide (m_3 > 1024))
             (K0 3)
             (bi ((m_4.length : Int) != (IntKind.i64.wrap (m_3 * m_1)))
              (K0 31)
              (l_machine_says m m_1 m_2 m_3 m_4 m_5
               (fun r3 =>
                bi ((m_5.length : Int) != r3)
                 (K0 31)
                 (K0 0)))))))))
        (bi (decide (m_2 < 1))
         (K0 33)
         (bi (decide (m_2 > 64))
          (K0 33)
          (bi (decide (m_3 < 1))
           (K0 3)
           (bi (decide (m_3 > 1024))
            (K0 3)
            (bi ((m_4.length : Int) != (IntKind.i64.wrap (m_3 * m_1)))
             (K0 31)
             (l_machine_says m m_1 m_2 m_3 m_4 m_5
              (fun r4 =>
               bi ((m_5.length : Int) != r4)
                (K0 31)
                (K0 0)))))))))))) m m_1 m_2 m_3 m_4 m_5 (fun r0 => K (.v (.int .i64 r0)) []) := by kernel_rfl

theorem entry_machine_head {R : Type} (K : AV → List O → Option R) (m : Int) (m_1 : Int) (m_2 : Int) (m_3 : Int) (m_4 : List Int) (m_5 : List Int) :
    fnRun Try.prog (T_machine_head @l_machine_says) cuts_machine_head Try.f33 0 [.agg [.v (.int .i64 m), .v (.int .i64 m_1), .v (.int .i64 m_2), .v (.int .i64 m_3), .rd ⟨false, 3, (.int .i64), m_4⟩, .rd ⟨false, 3, (.int .i64), m_5⟩]] [] K =
    l_machine_head m m_1 m_2 m_3 m_4 m_5 (fun r0 => K (.v (.int .i64 r0)) []) := gentry_machine_head @l_machine_says K m m_1 m_2 m_3 m_4 m_5

def S_machine_head (l_machine_head : {R : Type} → Int → Int → Int → Int → (List Int) → (List Int) → (Int → Option R) → Option R) : Sum := ⟨[], fun {R} args ob K => match args, ob with
  | [.agg [.v (.int .i64 m), .v (.int .i64 m_1), .v (.int .i64 m_2), .v (.int .i64 m_3), .rd ⟨false, 3, (.int .i64), m_4⟩, .rd ⟨false, 3, (.int .i64), m_5⟩]], [] => l_machine_head m m_1 m_2 m_3 m_4 m_5 (fun r0 => K (.v (.int .i64 r0)) [])
  | _, _ => none⟩

theorem sound_machine_head : Sound Try.prog 33 (S_machine_head @l_machine_head) := by
  refine fn_sound (cuts := cuts_machine_head) (fn := Try.f33) (Γ := (T_machine_head @l_machine_says)) wide right_T_machine_head Try.func33 fun {R} K r args ob h => ?_
  unfold S_machine_head at h
  dsimp only at h
  split at h
  · exact ⟨Nat.le_of_ble_eq_true (by kernel_rfl), 0, (entry_machine_head K _ _ _ _ _ _).trans h⟩
  · cases h

theorem call_machine_head : Callable Try.prog 33 := ⟨_, Try.func33, by kernel_rfl, by kernel_rfl⟩

def T_machine_beyond : FuncId → Option Sum := G0

theorem right_T_machine_beyond : Right Try.prog T_machine_beyond := right_G0

abbrev cuts_machine_beyond : Cuts := [(2, [0, 1, 7, 8])]

theorem gstep_machine_beyond_2 {R : Type} (g : List Item → St → Option R) (K : AV → List O → Option R) (l : List Int) (n : Int) (x7 : Int) (x8 : Int) :
    runSeg Try.prog T_machine_beyond cuts_machine_beyond 0 g (finish Try.prog Try.f34 0 K) (at' Try.f34 2) ⟨fr0 21 [(0, .rd ⟨false, 3, (.int .i64), l⟩), (1, .v (.int .i64 n)), (7, .v (.int .i64 x7)), (8, .v (.int .i64 x8))], []⟩ =
    (fun (g34_2 : (List Int) → Int → Int → Int → Option R) (K0 : Int → Option R) (l : List Int) (n : Int) (x7 : Int) (x8 : Int) =>
    bi (decide (x8 < x7))
     (bi (decide (0 ≤ x8 ∧ x8 < ((l.length : Nat) : Int)))
      (bi (decide ((IntKind.u64.wrap (l.getD x8.toNat 0)) ≥ (IntKind.u64.wrap n)))
       (K0 x8)
       (g34_2 l n x7 (IntKind.i64.wrap (x8 + 1))))
      none)
     (K0 (-1))) (fun l n x7 x8 => g (at' Try.f34 2) ⟨fr0 21 [(0, .rd ⟨false, 3, (.int .i64), l⟩), (1, .v (.int .i64 n)), (7, .v (.int .i64 x7)), (8, .v (.int .i64 x8))], []⟩) (fun r0 => K (.v (.int .i64 r0)) []) l n x7 x8 := by kernel_rfl

theorem step_machine_beyond_2 {R : Type} (g : List Item → St → Option R) (K : AV → List O → Option R) (l : List Int) (n : Int) (x7 : Int) (x8 : Int) :
    runSeg Try.prog T_machine_beyond cuts_machine_beyond 0 g (finish Try.prog Try.f34 0 K) (at' Try.f34 2) ⟨fr0 21 [(0, .rd ⟨false, 3, (.int .i64), l⟩), (1, .v (.int .i64 n)), (7, .v (.int .i64 x7)), (8, .v (.int .i64 x8))], []⟩ =
    s_machine_beyond_2 (fun l n x7 x8 => g (at' Try.f34 2) ⟨fr0 21 [(0, .rd ⟨false, 3, (.int .i64), l⟩), (1, .v (.int .i64 n)), (7, .v (.int .i64 x7)), (8, .v (.int .i64 x8))], []⟩) (fun r0 => K (.v (.int .i64 r0)) []) l n x7 x8 := gstep_machine_beyond_2 g K l n x7 x8

theorem gentry_machine_beyond {R : Type} (fuel : Nat) (K : AV → List O → Option R) (l : List Int) (n : Int) :
    fnRun Try.prog T_machine_beyond cuts_machine_beyond Try.f34 fuel [.rd ⟨false, 3, (.int .i64), l⟩, .v (.int .i64 n)] [] K =
    (fun (g34_2 : (List Int) → Int → Int → Int → Option R) (K0 : Int → Option R) (l : List Int) (n : Int) =>
    g34_2 l n (l.length : Int) 0) (fun l n x7 x8 => (runO Try.prog T_machine_beyond cuts_machine_beyond 0 (finish Try.prog Try.f34 0 K) fuel) (at' Try.f34 2) ⟨fr0 21 [(0, .rd ⟨false, 3, (.int .i64), l⟩), (1, .v (.int .i64 n)), (7, .v (.int .i64 x7)), (8, .v (.int .i64 x8))], []⟩) (fun r0 => K (.v (.int .i64 r0)) []) l n := by kernel_rfl

theorem entry_machine_beyond {R : Type} (fuel : Nat) (K : AV → List O → Option R) (l : List Int) (n : Int) :
    fnRun Try.prog T_machine_beyond cuts_machine_beyond Try.f34 fuel [.rd ⟨false, 3, (.int .i64), l⟩, .v (.int .i64 n)] [] K =
    e_machine_beyond (fun l n x7 x8 => (runO Try.prog T_machine_beyond cuts_machine_beyond 0 (finish Try.prog Try.f34 0 K) fuel) (at' Try.f34 2) ⟨fr0 21 [(0, .rd ⟨false, 3, (.int .i64), l⟩), (1, .v (.int .i64 n)), (7, .v (.int .i64 x7)), (8, .v (.int .i64 x8))], []⟩) (fun r0 => K (.v (.int .i64 r0)) []) l n := gentry_machine_beyond fuel K l n

theorem runs_machine_beyond {R : Type} (K : AV → List O → Option R) : ∀ fuel : Nat,
    (fun l n x7 x8 => (runO Try.prog T_machine_beyond cuts_machine_beyond 0 (finish Try.prog Try.f34 0 K) fuel) (at' Try.f34 2) ⟨fr0 21 [(0, .rd ⟨false, 3, (.int .i64), l⟩), (1, .v (.int .i64 n)), (7, .v (.int .i64 x7)), (8, .v (.int .i64 x8))], []⟩) = (run_machine_beyond (fun r0 => K (.v (.int .i64 r0)) []) fuel)
  | 0 => rfl
  | fuel + 1 => by
    have ih := runs_machine_beyond K fuel
    funext l n x7 x8
    refine (step_machine_beyond_2 _ K l n x7 x8).trans ?_
    rw [ih]
    rfl

def S_machine_beyond (l_machine_beyond : {R : Type} → (List Int) → Int → (Int → Option R) → Option R) : Sum := ⟨[], fun {R} args ob K => match args, ob with
  | [.rd ⟨false, 3, (.int .i64), l⟩, .v (.int .i64 n)], [] => l_machine_beyond l n (fun r0 => K (.v (.int .i64 r0)) [])
  | _, _ => none⟩

theorem sound_machine_beyond : Sound Try.prog 34 (S_machine_beyond @l_machine_beyond) := by
  refine fn_sound (cuts := cuts_machine_beyond) (fn := Try.f34) (Γ := T_machine_beyond) wide right_T_machine_beyond Try.func34 fun {R} K r args ob h => ?_
  unfold S_machine_beyond at h
  dsimp only at h
  split at h
  · obtain ⟨n, hn⟩ := ok_machine_beyond _ _ _ h
    refine ⟨Nat.le_of_ble_eq_true (by kernel_rfl), n, (entry_machine_beyond n K _ _).trans ?_⟩
    rw [(runs_machine_beyond K n)]
    exact hn
  · cases h

theorem call_machine_beyond : Callable Try.prog 34 := ⟨_, Try.func34, by kernel_rfl, by kernel_rfl⟩

def T_machine_Check (l_machine_beyond : {R : Type} → (List Int) → Int → (Int → Option R) → Option R) (l_machine_head : {R : Type} → Int → Int → Int → Int → (List Int) → (List Int) → (Int → Option R) → Option R) : FuncId → Option Sum := (addS (addS G0 34 (S_machine_beyond @l_machine_beyond)) 33 (S_machine_head @l_machine_head))

theorem right_T_machine_Check : Right Try.prog (T_machine_Check @l_machine_beyond @l_machine_head) := (right_add (right_add right_G0 call_machine_beyond sound_machine_beyond) call_machine_head sound_machine_head)

abbrev cuts_machine_Check : Cuts := []

theorem gentry_machine_Check (l_machine_beyond : {R : Type} → (List Int) → Int → (Int → Option R) → Option R) (l_machine_head : {R : Type} → Int → Int → Int → Int → (List Int) → (List Int) → (Int → Option R) → Option R) {R : Type} (K : AV → List O → Option R) (m : Int) (m_1 : Int) (m_2 : Int) (m_3 : Int) (m_4 : List Int) (m_5 : List Int) :
    fnRun Try.prog (T_machine_Check @l_machine_beyond @l_machine_head) cuts_machine_Check Try.f23 0 [.agg [.v (.int .i64 m), .v (.int .i64 m_1), .v (.int .i64 m_2), .v (.int .i64 m_3), .rd ⟨false, 3, (.int .i64), m_4⟩, .rd ⟨false, 3, (.int .i64), m_5⟩]] [] K =
    (fun (m : Int) (m_1 : Int) (m_2 : Int) (m_3 : Int) (m_4 : List Int) (m_5 : List Int) (K0 : Int → Int → Option R) =>
    l_machine_head m m_1 m_2 m_3 m_4 m_5
     (fun r1 =>
      bi (r1 != 0)
       (K0 0 r1)
       (l_machine_beyond m_4 m_3
        (fun r2 =>
         bi (decide (r2 ≥ 0))
          (K0 r2 32)
          (l_machine_beyond m_5 m_2
           (fun r3 =>
            bi (decide (r3 ≥ 0))
             (K0 r3 33)
             (K0 0 0))))))) m m_1 m_2 m_3 m_4 m_5 (fun r0 r1 => K (.tup [.v (.int .i64 r0), .v (.int .i64 r1)]) []) := by kernel_rfl

theorem entry_machine_Check {R : Type} (K : AV → List O → Option R) (m : Int) (m_1 : Int) (m_2 : Int) (m_3 : Int) (m_4 : List Int) (m_5 : List Int) :
    fnRun Try.prog (T_machine_Check @l_machine_beyond @l_machine_head) cuts_machine_Check Try.f23 0 [.agg [.v (.int .i64 m), .v (.int .i64 m_1), .v (.int .i64 m_2), .v (.int .i64 m_3), .rd ⟨false, 3, (.int .i64), m_4⟩, .rd ⟨false, 3, (.int .i64), m_5⟩]] [] K =
    l_machine_Check m m_1 m_2 m_3 m_4 m_5 (fun r0 r1 => K (.tup [.v (.int .i64 r0), .v (.int .i64 r1)]) []) := gentry_machine_Check @l_machine_beyond @l_machine_head K m m_1 m_2 m_3 m_4 m_5

def S_machine_Check (l_machine_Check : {R : Type} → Int → Int → Int → Int → (List Int) → (List Int) → (Int → Int → Option R) → Option R) : Sum := ⟨[], fun {R} args ob K => match args, ob with
  | [.agg [.v (.int .i64 m), .v (.int .i64 m_1), .v (.int .i64 m_2), .v (.int .i64 m_3), .rd ⟨false, 3, (.int .i64), m_4⟩, .rd ⟨false, 3, (.int .i64), m_5⟩]], [] => l_machine_Check m m_1 m_2 m_3 m_4 m_5 (fun r0 r1 => K (.tup [.v (.int .i64 r0), .v (.int .i64 r1)]) [])
  | _, _ => none⟩

theorem sound_machine_Check : Sound Try.prog 23 (S_machine_Check @l_machine_Check) := by
  refine fn_sound (cuts := cuts_machine_Check) (fn := Try.f23) (Γ := (T_machine_Check @l_machine_beyond @l_machine_head)) wide right_T_machine_Check Try.func23 fun {R} K r args ob h => ?_
  unfold S_machine_Check at h
  dsimp only at h
  split at h
  · exact ⟨Nat.le_of_ble_eq_true (by kernel_rfl), 0, (entry_machine_Check K _ _ _ _ _ _).trans h⟩
  · cases h

theorem call_machine_Check : Callable Try.prog 23 := ⟨_, Try.func23, by kernel_rfl, by kernel_rfl⟩

def T_machine_From (l_word_Check : {R : Type} → (List Int) → Int → (Int → Int → Option R) → Option R) (l_machine_Check : {R : Type} → Int → Int → Int → Int → (List Int) → (List Int) → (Int → Int → Option R) → Option R) : FuncId → Option Sum := (addS (addS G0 21 (S_word_Check @l_word_Check)) 23 (S_machine_Check @l_machine_Check))

theorem right_T_machine_From : Right Try.prog (T_machine_From @l_word_Check @l_machine_Check) := (right_add (right_add right_G0 call_word_Check sound_word_Check) call_machine_Check sound_machine_Check)

abbrev cuts_machine_From : Cuts := [(10, [1, 3, 7, 42, 43, 44])]

theorem gstep_machine_From_10 (l_word_Check : {R : Type} → (List Int) → Int → (Int → Int → Option R) → Option R) (l_machine_Check : {R : Type} → Int → Int → Int → Int → (List Int) → (List Int) → (Int → Int → Option R) → Option R) {R : Type} (g : List Item → St → Option R) (K : AV → List O → Option R) (s : Int) (x42 : List Int) (x43 : Int) (x44 : Int) (o0 : Int) (o0_1 : Int) (o0_2 : Int) (o0_3 : Int) (o0_4 : List Int) (o0_5 : List Int) (o1 : List Int) :
    runSeg Try.prog (T_machine_From @l_word_Check @l_machine_Check) cuts_machine_From 0 g (finish Try.prog Try.f35 0 K) (at' Try.f35 10) ⟨fr0 82 [(1, .v (.int .i64 s)), (3, .ptr 0 0), (7, .own 1), (42, .rd ⟨false, 3, (.int .i64), x42⟩), (43, .v (.int .i64 x43)), (44, .v (.int .i64 x44))], [.box 24 [.v (.int .i64 o0), .v (.int .i64 o0_1), .v (.int .i64 o0_2), .v (.int .i64 o0_3), .rd ⟨false, 3, (.int .i64), o0_4⟩, .rd ⟨false, 3, (.int .i64), o0_5⟩], .row ⟨true, 3, (.int .i64), o1⟩]⟩ =
    (fun (g35_10 : Int → (List Int) → Int → Int → Int → Int → Int → Int → (List Int) → (List Int) → (List Int) → Option R) (K0 : Int → Int → (List Int) → Option R) (s : Int) (x42 : List Int) (x43 : Int) (x44 : Int) (o0 : Int) (o0_1 : Int) (o0_2 : Int) (o0_3 : Int) (o0_4 : List Int) (o0_5 : List Int) (o1 : List Int) =>
    bi (decide (x44 < x43))
     (bi (decide (0 ≤ x44 ∧ x44 < ((x42.length : Nat) : Int)))
      (bi (o0 == 2)
       (bi (decide (0 ≤ (IntKind.i64.wrap ((IntKind.i64.wrap (s * o0_1)) + (x42.getD x44.toNat 0))) ∧ (IntKind.i64.wrap ((IntKind.i64.wrap (s * o0_1)) + (x42.getD x44.toNat 0))) < ((o0_5.length : Nat) : Int)))
        (bi (decide ((o1.length + [o0_5.getD ((IntKind.i64.wrap ((IntKind.i64.wrap (s * o0_1)) + (x42.getD x44.toNat 0))).toNat) 0].length) * 8 ≤ lim))
         (bi (decide (0 ≤ (IntKind.i64.wrap ((IntKind.i64.wrap (s * o0_1)) + (x42.getD x44.toNat 0))) ∧ (IntKind.i64.wrap ((IntKind.i64.wrap (s * o0_1)) + (x42.getD x44.toNat 0))) < ((o0_4.length : Nat) : Int)))
          (g35_10 (o0_4.getD ((IntKind.i64.wrap ((IntKind.i64.wrap (s * o0_1)) + (x42.getD x44.toNat 0))).toNat) 0) x42 x43 (IntKind.i64.wrap (x44 + 1)) o0 o0_1 o0_2 o0_3 o0_4 o0_5 (o1 ++ [o0_5.getD ((IntKind.i64.wrap ((IntKind.i64.wrap (s * o0_1)) + (x42.getD x44.toNat 0))).toNat) 0]))
          none)
         none)
        none)
       (bi (decide (0 ≤ (IntKind.i64.wrap ((IntKind.i64.wrap (s * o0_1)) + (x42.getD x44.toNat 0))) ∧ (IntKind.i64.wrap ((IntKind.i64.wrap (s * o0_1)) + (x42.getD x44.toNat 0))) < ((o0_4.length : Nat) : Int)))
        (g35_10 (o0_4.getD ((IntKind.i64.wrap ((IntKind.i64.wrap (s * o0_1)) + (x42.getD x44.toNat 0))).toNat) 0) x42 x43 (IntKind.i64.wrap (x44 + 1)) o0 o0_1 o0_2 o0_3 o0_4 o0_5 o1)
        none))
      none)
     (bi (o0 == 1)
      (bi (decide (0 ≤ s ∧ s < ((o0_5.length : Nat) : Int)))
       (K0 s 0 [o0_5.getD s.toNat 0])
       none)
      (K0 s 0 o1))) (fun s x42 x43 x44 o0 o0_1 o0_2 o0_3 o0_4 o0_5 o1 => g (at' Try.f35 10) ⟨fr0 82 [(1, .v (.int .i64 s)), (3, .ptr 0 0), (7, .own 1), (42, .rd ⟨false, 3, (.int .i64), x42⟩), (43, .v (.int .i64 x43)), (44, .v (.int .i64 x44))], [.box 24 [.v (.int .i64 o0), .v (.int .i64 o0_1), .v (.int .i64 o0_2), .v (.int .i64 o0_3), .rd ⟨false, 3, (.int .i64), o0_4⟩, .rd ⟨false, 3, (.int .i64), o0_5⟩], .row ⟨true, 3, (.int .i64), o1⟩]⟩) (fun r0 r1 r2 => K (.tup [.v (.int .i64 r0), .own 0, .v (.int .i64 r1)]) [.row ⟨true, 3, (.int .i64), r2⟩]) s x42 x43 x44 o0 o0_1 o0_2 o0_3 o0_4 o0_5 o1 := by kernel_rfl

theorem step_machine_From_10 {R : Type} (g : List Item → St → Option R) (K : AV → List O → Option R) (s : Int) (x42 : List Int) (x43 : Int) (x44 : Int) (o0 : Int) (o0_1 : Int) (o0_2 : Int) (o0_3 : Int) (o0_4 : List Int) (o0_5 : List Int) (o1 : List Int) :
    runSeg Try.prog (T_machine_From @l_word_Check @l_machine_Check) cuts_machine_From 0 g (finish Try.prog Try.f35 0 K) (at' Try.f35 10) ⟨fr0 82 [(1, .v (.int .i64 s)), (3, .ptr 0 0), (7, .own 1), (42, .rd ⟨false, 3, (.int .i64), x42⟩), (43, .v (.int .i64 x43)), (44, .v (.int .i64 x44))], [.box 24 [.v (.int .i64 o0), .v (.int .i64 o0_1), .v (.int .i64 o0_2), .v (.int .i64 o0_3), .rd ⟨false, 3, (.int .i64), o0_4⟩, .rd ⟨false, 3, (.int .i64), o0_5⟩], .row ⟨true, 3, (.int .i64), o1⟩]⟩ =
    s_machine_From_10 (fun s x42 x43 x44 o0 o0_1 o0_2 o0_3 o0_4 o0_5 o1 => g (at' Try.f35 10) ⟨fr0 82 [(1, .v (.int .i64 s)), (3, .ptr 0 0), (7, .own 1), (42, .rd ⟨false, 3, (.int .i64), x42⟩), (43, .v (.int .i64 x43)), (44, .v (.int .i64 x44))], [.box 24 [.v (.int .i64 o0), .v (.int .i64 o0_1), .v (.int .i64 o0_2), .v (.int .i64 o0_3), .rd ⟨false, 3, (.int .i64), o0_4⟩, .rd ⟨false, 3, (.int .i64), o0_5⟩], .row ⟨true, 3, (.int .i64), o1⟩]⟩) (fun r0 r1 r2 => K (.tup [.v (.int .i64 r0), .own 0, .v (.int .i64 r1)]) [.row ⟨true, 3, (.int .i64), r2⟩]) s x42 x43 x44 o0 o0_1 o0_2 o0_3 o0_4 o0_5 o1 := gstep_machine_From_10 @l_word_Check @l_machine_Check g K s x42 x43 x44 o0 o0_1 o0_2 o0_3 o0_4 o0_5 o1

theorem gentry_machine_From (l_word_Check : {R : Type} → (List Int) → Int → (Int → Int → Option R) → Option R) (l_machine_Check : {R : Type} → Int → Int → Int → Int → (List Int) → (List Int) → (Int → Int → Option R) → Option R) {R : Type} (fuel : Nat) (K : AV → List O → Option R) (m : Int) (m_1 : Int) (m_2 : Int) (m_3 : Int) (m_4 : List Int) (m_5 : List Int) (s : Int) (w : List Int) :
    fnRun Try.prog (T_machine_From @l_word_Check @l_machine_Check) cuts_machine_From Try.f35 fuel [.agg [.v (.int .i64 m), .v (.int .i64 m_1), .v (.int .i64 m_2), .v (.int .i64 m_3), .rd ⟨false, 3, (.int .i64), m_4⟩, .rd ⟨false, 3, (.int .i64), m_5⟩], .v (.int .i64 s), .rd ⟨false, 3, (.int .i64), w⟩] [] K =
    (fun (g35_10 : Int → (List Int) → Int → Int → Int → Int → Int → Int → (List Int) → (List Int) → (List Int) → Option R) (K0 : Int → Int → (List Int) → Option R) (m : Int) (m_1 : Int) (m_2 : Int) (m_3 : Int) (m_4 : List Int) (m_5 : List Int) (s : Int) (w : List Int) =>
    l_machine_Check m m_1 m_2 m_3 m_4 m_5
     (fun r1 r2 =>
      bi (r2 != 0)
       (K0 0 r2 ([] : List Int))
       (bi (decide (s < 0))
        (K0 0 32 ([] : List Int))
        (bi (decide (s ≥ m_3))
         (K0 0 32 ([] : List Int))
         (l_word_Check w m_1
          (fun r3 r4 =>
           bi (r4 != 0)
            (K0 0 r4 ([] : List Int))
            (g35_10 s w (w.length : Int) 0 m m_1 m_2 m_3 m_4 m_5 ([] : List Int)))))))) (fun s x42 x43 x44 o0 o0_1 o0_2 o0_3 o0_4 o0_5 o1 => (runO Try.prog (T_machine_From @l_word_Check @l_machine_Check) cuts_machine_From 0 (finish Try.prog Try.f35 0 K) fuel) (at' Try.f35 10) ⟨fr0 82 [(1, .v (.int .i64 s)), (3, .ptr 0 0), (7, .own 1), (42, .rd ⟨false, 3, (.int .i64), x42⟩), (43, .v (.int .i64 x43)), (44, .v (.int .i64 x44))], [.box 24 [.v (.int .i64 o0), .v (.int .i64 o0_1), .v (.int .i64 o0_2), .v (.int .i64 o0_3), .rd ⟨false, 3, (.int .i64), o0_4⟩, .rd ⟨false, 3, (.int .i64), o0_5⟩], .row ⟨true, 3, (.int .i64), o1⟩]⟩) (fun r0 r1 r2 => K (.tup [.v (.int .i64 r0), .own 0, .v (.int .i64 r1)]) [.row ⟨true, 3, (.int .i64), r2⟩]) m m_1 m_2 m_3 m_4 m_5 s w := by kernel_rfl

theorem entry_machine_From {R : Type} (fuel : Nat) (K : AV → List O → Option R) (m : Int) (m_1 : Int) (m_2 : Int) (m_3 : Int) (m_4 : List Int) (m_5 : List Int) (s : Int) (w : List Int) :
    fnRun Try.prog (T_machine_From @l_word_Check @l_machine_Check) cuts_machine_From Try.f35 fuel [.agg [.v (.int .i64 m), .v (.int .i64 m_1), .v (.int .i64 m_2), .v (.int .i64 m_3), .rd ⟨false, 3, (.int .i64), m_4⟩, .rd ⟨false, 3, (.int .i64), m_5⟩], .v (.int .i64 s), .rd ⟨false, 3, (.int .i64), w⟩] [] K =
    e_machine_From (fun s x42 x43 x44 o0 o0_1 o0_2 o0_3 o0_4 o0_5 o1 => (runO Try.prog (T_machine_From @l_word_Check @l_machine_Check) cuts_machine_From 0 (finish Try.prog Try.f35 0 K) fuel) (at' Try.f35 10) ⟨fr0 82 [(1, .v (.int .i64 s)), (3, .ptr 0 0), (7, .own 1), (42, .rd ⟨false, 3, (.int .i64), x42⟩), (43, .v (.int .i64 x43)), (44, .v (.int .i64 x44))], [.box 24 [.v (.int .i64 o0), .v (.int .i64 o0_1), .v (.int .i64 o0_2), .v (.int .i64 o0_3), .rd ⟨false, 3, (.int .i64), o0_4⟩, .rd ⟨false, 3, (.int .i64), o0_5⟩], .row ⟨true, 3, (.int .i64), o1⟩]⟩) (fun r0 r1 r2 => K (.tup [.v (.int .i64 r0), .own 0, .v (.int .i64 r1)]) [.row ⟨true, 3, (.int .i64), r2⟩]) m m_1 m_2 m_3 m_4 m_5 s w := gentry_machine_From @l_word_Check @l_machine_Check fuel K m m_1 m_2 m_3 m_4 m_5 s w

theorem runs_machine_From {R : Type} (K : AV → List O → Option R) : ∀ fuel : Nat,
    (fun s x42 x43 x44 o0 o0_1 o0_2 o0_3 o0_4 o0_5 o1 => (runO Try.prog (T_machine_From @l_word_Check @l_machine_Check) cuts_machine_From 0 (finish Try.prog Try.f35 0 K) fuel) (at' Try.f35 10) ⟨fr0 82 [(1, .v (.int .i64 s)), (3, .ptr 0 0), (7, .own 1), (42, .rd ⟨false, 3, (.int .i64), x42⟩), (43, .v (.int .i64 x43)), (44, .v (.int .i64 x44))], [.box 24 [.v (.int .i64 o0), .v (.int .i64 o0_1), .v (.int .i64 o0_2), .v (.int .i64 o0_3), .rd ⟨false, 3, (.int .i64), o0_4⟩, .rd ⟨false, 3, (.int .i64), o0_5⟩], .row ⟨true, 3, (.int .i64), o1⟩]⟩) = (run_machine_From (fun r0 r1 r2 => K (.tup [.v (.int .i64 r0), .own 0, .v (.int .i64 r1)]) [.row ⟨true, 3, (.int .i64), r2⟩]) fuel)
  | 0 => rfl
  | fuel + 1 => by
    have ih := runs_machine_From K fuel
    funext s x42 x43 x44 o0 o0_1 o0_2 o0_3 o0_4 o0_5 o1
    refine (step_machine_From_10 _ K s x42 x43 x44 o0 o0_1 o0_2 o0_3 o0_4 o0_5 o1).trans ?_
    rw [ih]
    rfl

def S_machine_From (l_machine_From : {R : Type} → Int → Int → Int → Int → (List Int) → (List Int) → Int → (List Int) → (Int → Int → (List Int) → Option R) → Option R) : Sum := ⟨[], fun {R} args ob K => match args, ob with
  | [.agg [.v (.int .i64 m), .v (.int .i64 m_1), .v (.int .i64 m_2), .v (.int .i64 m_3), .rd ⟨false, 3, (.int .i64), m_4⟩, .rd ⟨false, 3, (.int .i64), m_5⟩], .v (.int .i64 s), .rd ⟨false, 3, (.int .i64), w⟩], [] => l_machine_From m m_1 m_2 m_3 m_4 m_5 s w (fun r0 r1 r2 => K (.tup [.v (.int .i64 r0), .own 0, .v (.int .i64 r1)]) [.row ⟨true, 3, (.int .i64), r2⟩])
  | _, _ => none⟩

theorem sound_machine_From : Sound Try.prog 35 (S_machine_From @l_machine_From) := by
  refine fn_sound (cuts := cuts_machine_From) (fn := Try.f35) (Γ := (T_machine_From @l_word_Check @l_machine_Check)) wide right_T_machine_From Try.func35 fun {R} K r args ob h => ?_
  unfold S_machine_From at h
  dsimp only at h
  split at h
  · obtain ⟨n, hn⟩ := ok_machine_From _ _ _ _ _ _ _ _ _ h
    refine ⟨Nat.le_of_ble_eq_true (by kernel_rfl), n, (entry_machine_From n K _ _ _ _ _ _ _ _).trans ?_⟩
    rw [(runs_machine_From K n)]
    exact hn
  · cases h

theorem call_machine_From : Callable Try.prog 35 := ⟨_, Try.func35, by kernel_rfl, by kernel_rfl⟩

def T_machine_Run (l_machine_From : {R : Type} → Int → Int → Int → Int → (List Int) → (List Int) → Int → (List Int) → (Int → Int → (List Int) → Option R) → Option R) : FuncId → Option Sum := (addS G0 35 (S_machine_From @l_machine_From))

theorem right_T_machine_Run : Right Try.prog (T_machine_Run @l_machine_From) := (right_add right_G0 call_machine_From sound_machine_From)

abbrev cuts_machine_Run : Cuts := []

theorem gentry_machine_Run (l_machine_From : {R : Type} → Int → Int → Int → Int → (List Int) → (List Int) → Int → (List Int) → (Int → Int → (List Int) → Option R) → Option R) {R : Type} (K : AV → List O → Option R) (m : Int) (m_1 : Int) (m_2 : Int) (m_3 : Int) (m_4 : List Int) (m_5 : List Int) (w : List Int) :
    fnRun Try.prog (T_machine_Run @l_machine_From) cuts_machine_Run Try.f24 0 [.agg [.v (.int .i64 m), .v (.int .i64 m_1), .v (.int .i64 m_2), .v (.int .i64 m_3), .rd ⟨false, 3, (.int .i64), m_4⟩, .rd ⟨false, 3, (.int .i64), m_5⟩], .rd ⟨false, 3, (.int .i64), w⟩] [] K =
    (fun (m : Int) (m_1 : Int) (m_2 : Int) (m_3 : Int) (m_4 : List Int) (m_5 : List Int) (w : List Int) (K0 : Int → (List Int) → Option R) =>
    l_machine_From m m_1 m_2 m_3 m_4 m_5 0 w
     (fun r1 r2 r3 =>
      K0 r2 r3)) m m_1 m_2 m_3 m_4 m_5 w (fun r0 r1 => K (.tup [.own 0, .v (.int .i64 r0)]) [.row ⟨true, 3, (.int .i64), r1⟩]) := by kernel_rfl

theorem entry_machine_Run {R : Type} (K : AV → List O → Option R) (m : Int) (m_1 : Int) (m_2 : Int) (m_3 : Int) (m_4 : List Int) (m_5 : List Int) (w : List Int) :
    fnRun Try.prog (T_machine_Run @l_machine_From) cuts_machine_Run Try.f24 0 [.agg [.v (.int .i64 m), .v (.int .i64 m_1), .v (.int .i64 m_2), .v (.int .i64 m_3), .rd ⟨false, 3, (.int .i64), m_4⟩, .rd ⟨false, 3, (.int .i64), m_5⟩], .rd ⟨false, 3, (.int .i64), w⟩] [] K =
    l_machine_Run m m_1 m_2 m_3 m_4 m_5 w (fun r0 r1 => K (.tup [.own 0, .v (.int .i64 r0)]) [.row ⟨true, 3, (.int .i64), r1⟩]) := gentry_machine_Run @l_machine_From K m m_1 m_2 m_3 m_4 m_5 w

def S_machine_Run (l_machine_Run : {R : Type} → Int → Int → Int → Int → (List Int) → (List Int) → (List Int) → (Int → (List Int) → Option R) → Option R) : Sum := ⟨[], fun {R} args ob K => match args, ob with
  | [.agg [.v (.int .i64 m), .v (.int .i64 m_1), .v (.int .i64 m_2), .v (.int .i64 m_3), .rd ⟨false, 3, (.int .i64), m_4⟩, .rd ⟨false, 3, (.int .i64), m_5⟩], .rd ⟨false, 3, (.int .i64), w⟩], [] => l_machine_Run m m_1 m_2 m_3 m_4 m_5 w (fun r0 r1 => K (.tup [.own 0, .v (.int .i64 r0)]) [.row ⟨true, 3, (.int .i64), r1⟩])
  | _, _ => none⟩

theorem sound_machine_Run : Sound Try.prog 24 (S_machine_Run @l_machine_Run) := by
  refine fn_sound (cuts := cuts_machine_Run) (fn := Try.f24) (Γ := (T_machine_Run @l_machine_From)) wide right_T_machine_Run Try.func24 fun {R} K r args ob h => ?_
  unfold S_machine_Run at h
  dsimp only at h
  split at h
  · exact ⟨Nat.le_of_ble_eq_true (by kernel_rfl), 0, (entry_machine_Run K _ _ _ _ _ _ _).trans h⟩
  · cases h

theorem call_machine_Run : Callable Try.prog 24 := ⟨_, Try.func24, by kernel_rfl, by kernel_rfl⟩

def T_differ_fit (l_machine_Check : {R : Type} → Int → Int → Int → Int → (List Int) → (List Int) → (Int → Int → Option R) → Option R) : FuncId → Option Sum := (addS G0 23 (S_machine_Check @l_machine_Check))

theorem right_T_differ_fit : Right Try.prog (T_differ_fit @l_machine_Check) := (right_add right_G0 call_machine_Check sound_machine_Check)

abbrev cuts_differ_fit : Cuts := [(2, [2, 3, 11, 12, 13])]

theorem gstep_differ_fit_2 (l_machine_Check : {R : Type} → Int → Int → Int → Int → (List Int) → (List Int) → (Int → Int → Option R) → Option R) {R : Type} (g : List Item → St → Option R) (K : AV → List O → Option R) (x12 : Int) (x13 : Int) (o0 : Int) (o0_1 : Int) (o0_2 : Int) (o0_3 : Int) (o0_4 : List Int) (o0_5 : List Int) (o1 : Int) (o1_1 : Int) (o1_2 : Int) (o1_3 : Int) (o1_4 : List Int) (o1_5 : List Int) (o2 : List (Int × (Int × (Int × (Int × (List Int × List Int)))))) :
    runSeg Try.prog (T_differ_fit @l_machine_Check) cuts_differ_fit 0 g (finish Try.prog Try.f36 0 K) (at' Try.f36 2) ⟨fr0 44 [(2, .ptr 0 0), (3, .ptr 1 0), (11, .own 2), (12, .v (.int .i64 x12)), (13, .v (.int .i64 x13))], [.box 24 [.v (.int .i64 o0), .v (.int .i64 o0_1), .v (.int .i64 o0_2), .v (.int .i64 o0_3), .rd ⟨false, 3, (.int .i64), o0_4⟩, .rd ⟨false, 3, (.int .i64), o0_5⟩], .box 24 [.v (.int .i64 o1), .v (.int .i64 o1_1), .v (.int .i64 o1_2), .v (.int .i64 o1_3), .rd ⟨false, 3, (.int .i64), o1_4⟩, .rd ⟨false, 3, (.int .i64), o1_5⟩], .row ⟨false, 24, (.pr (.int .i64) (.pr (.int .i64) (.pr (.int .i64) (.pr (.int .i64) (.pr (.sl 3 (.int .i64)) (.sl 3 (.int .i64))))))), o2⟩]⟩ =
    (fun (g36_2 : Int → Int → Int → Int → Int → Int → (List Int) → (List Int) → Int → Int → Int → Int → (List Int) → (List Int) → (List (Int × (Int × (Int × (Int × (List Int × List Int)))))) → Option R) (K0 : Int → Option R) (x12 : Int) (x13 : Int) (o0 : Int) (o0_1 : Int) (o0_2 : Int) (o0_3 : Int) (o0_4 : List Int) (o0_5 : List Int) (o1 : Int) (o1_1 : Int) (o1_2 : Int) (o1_3 : Int) (o1_4 : List Int) (o1_5 : List Int) (o2 : List (Int × (Int × (Int × (Int × (List Int × List Int)))))) =>
    bi (decide (x13 < x12))
     (bi (decide (0 ≤ x13 ∧ x13 < ((o2.length : Nat) : Int)))
      (l_machine_Check ((o2.getD x13.toNat (0, (0, (0, (0, ([], [])))))).1) (((o2.getD x13.toNat (0, (0, (0, (0, ([], [])))))).2).1) ((((o2.getD x13.toNat (0, (0, (0, (0, ([], [])))))).2).2).1) (((((o2.getD x13.toNat (0, (0, (0, (0, ([], [])))))).2).2).2).1) ((((((o2.getD x13.toNat (0, (0, (0, (0, ([], [])))))).2).2).2).2).1) ((((((o2.getD x13.toNat (0, (0, (0, (0, ([], [])))))).2).2).2).2).2)
       (fun r1 r2 =>
        bi (r2 != 0)
         (K0 r2)
         (g36_2 x12 (IntKind.i64.wrap (x13 + 1)) o0 o0_1 o0_2 o0_3 o0_4 o0_5 o1 o1_1 o1_2 o1_3 o1_4 o1_5 o2)))
      none)
     (bi (o0 != o1)
      (K0 30)
      (bi (o0_1 != o1_1)
       (K0 1)
       (bi (o0_2 != o1_2)
        (K0 33)
        (K0 0))))) (fun x12 x13 o0 o0_1 o0_2 o0_3 o0_4 o0_5 o1 o1_1 o1_2 o1_3 o1_4 o1_5 o2 => g (at' Try.f36 2) ⟨fr0 44 [(2, .ptr 0 0), (3, .ptr 1 0), (11, .own 2), (12, .v (.int .i64 x12)), (13, .v (.int .i64 x13))], [.box 24 [.v (.int .i64 o0), .v (.int .i64 o0_1), .v (.int .i64 o0_2), .v (.int .i64 o0_3), .rd ⟨false, 3, (.int .i64), o0_4⟩, .rd ⟨false, 3, (.int .i64), o0_5⟩], .box 24 [.v (.int .i64 o1), .v (.int .i64 o1_1), .v (.int .i64 o1_2), .v (.int .i64 o1_3), .rd ⟨false, 3, (.int .i64), o1_4⟩, .rd ⟨false, 3, (.int .i64), o1_5⟩], .row ⟨false, 24, (.pr (.int .i64) (.pr (.int .i64) (.pr (.int .i64) (.pr (.int .i64) (.pr (.sl 3 (.int .i64)) (.sl 3 (.int .i64))))))), o2⟩]⟩) (fun r0 => K (.v (.int .i64 r0)) []) x12 x13 o0 o0_1 o0_2 o0_3 o0_4 o0_5 o1 o1_1 o1_2 o1_3 o1_4 o1_5 o2 := by kernel_rfl

theorem step_differ_fit_2 {R : Type} (g : List Item → St → Option R) (K : AV → List O → Option R) (x12 : Int) (x13 : Int) (o0 : Int) (o0_1 : Int) (o0_2 : Int) (o0_3 : Int) (o0_4 : List Int) (o0_5 : List Int) (o1 : Int) (o1_1 : Int) (o1_2 : Int) (o1_3 : Int) (o1_4 : List Int) (o1_5 : List Int) (o2 : List (Int × (Int × (Int × (Int × (List Int × List Int)))))) :
    runSeg Try.prog (T_differ_fit @l_machine_Check) cuts_differ_fit 0 g (finish Try.prog Try.f36 0 K) (at' Try.f36 2) ⟨fr0 44 [(2, .ptr 0 0), (3, .ptr 1 0), (11, .own 2), (12, .v (.int .i64 x12)), (13, .v (.int .i64 x13))], [.box 24 [.v (.int .i64 o0), .v (.int .i64 o0_1), .v (.int .i64 o0_2), .v (.int .i64 o0_3), .rd ⟨false, 3, (.int .i64), o0_4⟩, .rd ⟨false, 3, (.int .i64), o0_5⟩], .box 24 [.v (.int .i64 o1), .v (.int .i64 o1_1), .v (.int .i64 o1_2), .v (.int .i64 o1_3), .rd ⟨false, 3, (.int .i64), o1_4⟩, .rd ⟨false, 3, (.int .i64), o1_5⟩], .row ⟨false, 24, (.pr (.int .i64) (.pr (.int .i64) (.pr (.int .i64) (.pr (.int .i64) (.pr (.sl 3 (.int .i64)) (.sl 3 (.int .i64))))))), o2⟩]⟩ =
    s_differ_fit_2 (fun x12 x13 o0 o0_1 o0_2 o0_3 o0_4 o0_5 o1 o1_1 o1_2 o1_3 o1_4 o1_5 o2 => g (at' Try.f36 2) ⟨fr0 44 [(2, .ptr 0 0), (3, .ptr 1 0), (11, .own 2), (12, .v (.int .i64 x12)), (13, .v (.int .i64 x13))], [.box 24 [.v (.int .i64 o0), .v (.int .i64 o0_1), .v (.int .i64 o0_2), .v (.int .i64 o0_3), .rd ⟨false, 3, (.int .i64), o0_4⟩, .rd ⟨false, 3, (.int .i64), o0_5⟩], .box 24 [.v (.int .i64 o1), .v (.int .i64 o1_1), .v (.int .i64 o1_2), .v (.int .i64 o1_3), .rd ⟨false, 3, (.int .i64), o1_4⟩, .rd ⟨false, 3, (.int .i64), o1_5⟩], .row ⟨false, 24, (.pr (.int .i64) (.pr (.int .i64) (.pr (.int .i64) (.pr (.int .i64) (.pr (.sl 3 (.int .i64)) (.sl 3 (.int .i64))))))), o2⟩]⟩) (fun r0 => K (.v (.int .i64 r0)) []) x12 x13 o0 o0_1 o0_2 o0_3 o0_4 o0_5 o1 o1_1 o1_2 o1_3 o1_4 o1_5 o2 := gstep_differ_fit_2 @l_machine_Check g K x12 x13 o0 o0_1 o0_2 o0_3 o0_4 o0_5 o1 o1_1 o1_2 o1_3 o1_4 o1_5 o2

theorem gentry_differ_fit (l_machine_Check : {R : Type} → Int → Int → Int → Int → (List Int) → (List Int) → (Int → Int → Option R) → Option R) {R : Type} (fuel : Nat) (K : AV → List O → Option R) (a : Int) (a_1 : Int) (a_2 : Int) (a_3 : Int) (a_4 : List Int) (a_5 : List Int) (b : Int) (b_1 : Int) (b_2 : Int) (b_3 : Int) (b_4 : List Int) (b_5 : List Int) :
    fnRun Try.prog (T_differ_fit @l_machine_Check) cuts_differ_fit Try.f36 fuel [.agg [.v (.int .i64 a), .v (.int .i64 a_1), .v (.int .i64 a_2), .v (.int .i64 a_3), .rd ⟨false, 3, (.int .i64), a_4⟩, .rd ⟨false, 3, (.int .i64), a_5⟩], .agg [.v (.int .i64 b), .v (.int .i64 b_1), .v (.int .i64 b_2), .v (.int .i64 b_3), .rd ⟨false, 3, (.int .i64), b_4⟩, .rd ⟨false, 3, (.int .i64), b_5⟩]] [] K =
    (fun (g36_2 : Int → Int → Int → Int → Int → Int → (List Int) → (List Int) → Int → Int → Int → Int → (List Int) → (List Int) → (List (Int × (Int × (Int × (Int × (List Int × List Int)))))) → Option R) (K0 : Int → Option R) (a : Int) (a_1 : Int) (a_2 : Int) (a_3 : Int) (a_4 : List Int) (a_5 : List Int) (b : Int) (b_1 : Int) (b_2 : Int) (b_3 : Int) (b_4 : List Int) (b_5 : List Int) =>
    g36_2 ([(a, (a_1, (a_2, (a_3, (a_4, a_5))))), (b, (b_1, (b_2, (b_3, (b_4, b_5)))))].length : Int) 0 a a_1 a_2 a_3 a_4 a_5 b b_1 b_2 b_3 b_4 b_5 [(a, (a_1, (a_2, (a_3, (a_4, a_5))))), (b, (b_1, (b_2, (b_3, (b_4, b_5)))))]) (fun x12 x13 o0 o0_1 o0_2 o0_3 o0_4 o0_5 o1 o1_1 o1_2 o1_3 o1_4 o1_5 o2 => (runO Try.prog (T_differ_fit @l_machine_Check) cuts_differ_fit 0 (finish Try.prog Try.f36 0 K) fuel) (at' Try.f36 2) ⟨fr0 44 [(2, .ptr 0 0), (3, .ptr 1 0), (11, .own 2), (12, .v (.int .i64 x12)), (13, .v (.int .i64 x13))], [.box 24 [.v (.int .i64 o0), .v (.int .i64 o0_1), .v (.int .i64 o0_2), .v (.int .i64 o0_3), .rd ⟨false, 3, (.int .i64), o0_4⟩, .rd ⟨false, 3, (.int .i64), o0_5⟩], .box 24 [.v (.int .i64 o1), .v (.int .i64 o1_1), .v (.int .i64 o1_2), .v (.int .i64 o1_3), .rd ⟨false, 3, (.int .i64), o1_4⟩, .rd ⟨false, 3, (.int .i64), o1_5⟩], .row ⟨false, 24, (.pr (.int .i64) (.pr (.int .i64) (.pr (.int .i64) (.pr (.int .i64) (.pr (.sl 3 (.int .i64)) (.sl 3 (.int .i64))))))), o2⟩]⟩) (fun r0 => K (.v (.int .i64 r0)) []) a a_1 a_2 a_3 a_4 a_5 b b_1 b_2 b_3 b_4 b_5 := by kernel_rfl

theorem entry_differ_fit {R : Type} (fuel : Nat) (K : AV → List O → Option R) (a : Int) (a_1 : Int) (a_2 : Int) (a_3 : Int) (a_4 : List Int) (a_5 : List Int) (b : Int) (b_1 : Int) (b_2 : Int) (b_3 : Int) (b_4 : List Int) (b_5 : List Int) :
    fnRun Try.prog (T_differ_fit @l_machine_Check) cuts_differ_fit Try.f36 fuel [.agg [.v (.int .i64 a), .v (.int .i64 a_1), .v (.int .i64 a_2), .v (.int .i64 a_3), .rd ⟨false, 3, (.int .i64), a_4⟩, .rd ⟨false, 3, (.int .i64), a_5⟩], .agg [.v (.int .i64 b), .v (.int .i64 b_1), .v (.int .i64 b_2), .v (.int .i64 b_3), .rd ⟨false, 3, (.int .i64), b_4⟩, .rd ⟨false, 3, (.int .i64), b_5⟩]] [] K =
    e_differ_fit (fun x12 x13 o0 o0_1 o0_2 o0_3 o0_4 o0_5 o1 o1_1 o1_2 o1_3 o1_4 o1_5 o2 => (runO Try.prog (T_differ_fit @l_machine_Check) cuts_differ_fit 0 (finish Try.prog Try.f36 0 K) fuel) (at' Try.f36 2) ⟨fr0 44 [(2, .ptr 0 0), (3, .ptr 1 0), (11, .own 2), (12, .v (.int .i64 x12)), (13, .v (.int .i64 x13))], [.box 24 [.v (.int .i64 o0), .v (.int .i64 o0_1), .v (.int .i64 o0_2), .v (.int .i64 o0_3), .rd ⟨false, 3, (.int .i64), o0_4⟩, .rd ⟨false, 3, (.int .i64), o0_5⟩], .box 24 [.v (.int .i64 o1), .v (.int .i64 o1_1), .v (.int .i64 o1_2), .v (.int .i64 o1_3), .rd ⟨false, 3, (.int .i64), o1_4⟩, .rd ⟨false, 3, (.int .i64), o1_5⟩], .row ⟨false, 24, (.pr (.int .i64) (.pr (.int .i64) (.pr (.int .i64) (.pr (.int .i64) (.pr (.sl 3 (.int .i64)) (.sl 3 (.int .i64))))))), o2⟩]⟩) (fun r0 => K (.v (.int .i64 r0)) []) a a_1 a_2 a_3 a_4 a_5 b b_1 b_2 b_3 b_4 b_5 := gentry_differ_fit @l_machine_Check fuel K a a_1 a_2 a_3 a_4 a_5 b b_1 b_2 b_3 b_4 b_5

theorem runs_differ_fit {R : Type} (K : AV → List O → Option R) : ∀ fuel : Nat,
    (fun x12 x13 o0 o0_1 o0_2 o0_3 o0_4 o0_5 o1 o1_1 o1_2 o1_3 o1_4 o1_5 o2 => (runO Try.prog (T_differ_fit @l_machine_Check) cuts_differ_fit 0 (finish Try.prog Try.f36 0 K) fuel) (at' Try.f36 2) ⟨fr0 44 [(2, .ptr 0 0), (3, .ptr 1 0), (11, .own 2), (12, .v (.int .i64 x12)), (13, .v (.int .i64 x13))], [.box 24 [.v (.int .i64 o0), .v (.int .i64 o0_1), .v (.int .i64 o0_2), .v (.int .i64 o0_3), .rd ⟨false, 3, (.int .i64), o0_4⟩, .rd ⟨false, 3, (.int .i64), o0_5⟩], .box 24 [.v (.int .i64 o1), .v (.int .i64 o1_1), .v (.int .i64 o1_2), .v (.int .i64 o1_3), .rd ⟨false, 3, (.int .i64), o1_4⟩, .rd ⟨false, 3, (.int .i64), o1_5⟩], .row ⟨false, 24, (.pr (.int .i64) (.pr (.int .i64) (.pr (.int .i64) (.pr (.int .i64) (.pr (.sl 3 (.int .i64)) (.sl 3 (.int .i64))))))), o2⟩]⟩) = (run_differ_fit (fun r0 => K (.v (.int .i64 r0)) []) fuel)
  | 0 => rfl
  | fuel + 1 => by
    have ih := runs_differ_fit K fuel
    funext x12 x13 o0 o0_1 o0_2 o0_3 o0_4 o0_5 o1 o1_1 o1_2 o1_3 o1_4 o1_5 o2
    refine (step_differ_fit_2 _ K x12 x13 o0 o0_1 o0_2 o0_3 o0_4 o0_5 o1 o1_1 o1_2 o1_3 o1_4 o1_5 o2).trans ?_
    rw [ih]
    rfl

def S_differ_fit (l_differ_fit : {R : Type} → Int → Int → Int → Int → (List Int) → (List Int) → Int → Int → Int → Int → (List Int) → (List Int) → (Int → Option R) → Option R) : Sum := ⟨[], fun {R} args ob K => match args, ob with
  | [.agg [.v (.int .i64 a), .v (.int .i64 a_1), .v (.int .i64 a_2), .v (.int .i64 a_3), .rd ⟨false, 3, (.int .i64), a_4⟩, .rd ⟨false, 3, (.int .i64), a_5⟩], .agg [.v (.int .i64 b), .v (.int .i64 b_1), .v (.int .i64 b_2), .v (.int .i64 b_3), .rd ⟨false, 3, (.int .i64), b_4⟩, .rd ⟨false, 3, (.int .i64), b_5⟩]], [] => l_differ_fit a a_1 a_2 a_3 a_4 a_5 b b_1 b_2 b_3 b_4 b_5 (fun r0 => K (.v (.int .i64 r0)) [])
  | _, _ => none⟩

theorem sound_differ_fit : Sound Try.prog 36 (S_differ_fit @l_differ_fit) := by
  refine fn_sound (cuts := cuts_differ_fit) (fn := Try.f36) (Γ := (T_differ_fit @l_machine_Check)) wide right_T_differ_fit Try.func36 fun {R} K r args ob h => ?_
  unfold S_differ_fit at h
  dsimp only at h
  split at h
  · obtain ⟨n, hn⟩ := ok_differ_fit _ _ _ _ _ _ _ _ _ _ _ _ _ h
    refine ⟨Nat.le_of_ble_eq_true (by kernel_rfl), n, (entry_differ_fit n K _ _ _ _ _ _ _ _ _ _ _ _).trans ?_⟩
    rw [(runs_differ_fit K n)]
    exact hn
  · cases h

theorem call_differ_fit : Callable Try.prog 36 := ⟨_, Try.func36, by kernel_rfl, by kernel_rfl⟩

def T_slices_Reverse_int_int : FuncId → Option Sum := G0

theorem right_T_slices_Reverse_int_int : Right Try.prog T_slices_Reverse_int_int := right_G0

abbrev cuts_slices_Reverse_int_int : Cuts := [(1, [0, 2, 3])]

theorem gstep_slices_Reverse_int_int_1 {R : Type} (g : List Item → St → Option R) (K : AV → List O → Option R) (i : Int) (j : Int) (o0 : List Int) :
    runSeg Try.prog T_slices_Reverse_int_int cuts_slices_Reverse_int_int 1 g (finish Try.prog Try.f45 1 K) (at' Try.f45 1) ⟨fr0 28 [(0, .own 0), (2, .v (.int .i64 i)), (3, .v (.int .i64 j))], [.row ⟨false, 3, (.int .i64), o0⟩]⟩ =
    (fun (g45_1 : Int → Int → (List Int) → Option R) (K0 : (List Int) → Option R) (i : Int) (j : Int) (o0 : List Int) =>
    bi (decide (i < j))
     (bi (decide (0 ≤ j ∧ j < ((o0.length : Nat) : Int)))
      (bi (decide (0 ≤ i ∧ i < ((o0.length : Nat) : Int)))
       (bi (decide (0 ≤ i ∧ i < ((o0.length : Nat) : Int)))
        (bi (decide (0 ≤ j ∧ j < (((o0.set i.toNat (o0.getD j.toNat 0)).length : Nat) : Int)))
         (g45_1 (IntKind.i64.wrap (i + 1)) (IntKind.i64.wrap (j - 1)) ((o0.set i.toNat (o0.getD j.toNat 0)).set j.toNat (o0.getD i.toNat 0)))
         none)
        none)
       none)
      none)
     (K0 o0)) (fun i j o0 => g (at' Try.f45 1) ⟨fr0 28 [(0, .own 0), (2, .v (.int .i64 i)), (3, .v (.int .i64 j))], [.row ⟨false, 3, (.int .i64), o0⟩]⟩) (fun r0 => K (.tup []) [.row ⟨false, 3, (.int .i64), r0⟩]) i j o0 := by kernel_rfl

theorem step_slices_Reverse_int_int_1 {R : Type} (g : List Item → St → Option R) (K : AV → List O → Option R) (i : Int) (j : Int) (o0 : List Int) :
    runSeg Try.prog T_slices_Reverse_int_int cuts_slices_Reverse_int_int 1 g (finish Try.prog Try.f45 1 K) (at' Try.f45 1) ⟨fr0 28 [(0, .own 0), (2, .v (.int .i64 i)), (3, .v (.int .i64 j))], [.row ⟨false, 3, (.int .i64), o0⟩]⟩ =
    s_slices_Reverse_int_int_1 (fun i j o0 => g (at' Try.f45 1) ⟨fr0 28 [(0, .own 0), (2, .v (.int .i64 i)), (3, .v (.int .i64 j))], [.row ⟨false, 3, (.int .i64), o0⟩]⟩) (fun r0 => K (.tup []) [.row ⟨false, 3, (.int .i64), r0⟩]) i j o0 := gstep_slices_Reverse_int_int_1 g K i j o0

theorem gentry_slices_Reverse_int_int {R : Type} (fuel : Nat) (K : AV → List O → Option R) (o0 : List Int) :
    fnRun Try.prog T_slices_Reverse_int_int cuts_slices_Reverse_int_int Try.f45 fuel [.own 0] [.row ⟨false, 3, (.int .i64), o0⟩] K =
    (fun (g45_1 : Int → Int → (List Int) → Option R) (K0 : (List Int) → Option R) (o0 : List Int) =>
    g45_1 0 (IntKind.i64.wrap ((o0.length : Int) - 1)) o0) (fun i j o0 => (runO Try.prog T_slices_Reverse_int_int cuts_slices_Reverse_int_int 1 (finish Try.prog Try.f45 1 K) fuel) (at' Try.f45 1) ⟨fr0 28 [(0, .own 0), (2, .v (.int .i64 i)), (3, .v (.int .i64 j))], [.row ⟨false, 3, (.int .i64), o0⟩]⟩) (fun r0 => K (.tup []) [.row ⟨false, 3, (.int .i64), r0⟩]) o0 := by kernel_rfl

theorem entry_slices_Reverse_int_int {R : Type} (fuel : Nat) (K : AV → List O → Option R) (o0 : List Int) :
    fnRun Try.prog T_slices_Reverse_int_int cuts_slices_Reverse_int_int Try.f45 fuel [.own 0] [.row ⟨false, 3, (.int .i64), o0⟩] K =
    e_slices_Reverse_int_int (fun i j o0 => (runO Try.prog T_slices_Reverse_int_int cuts_slices_Reverse_int_int 1 (finish Try.prog Try.f45 1 K) fuel) (at' Try.f45 1) ⟨fr0 28 [(0, .own 0), (2, .v (.int .i64 i)), (3, .v (.int .i64 j))], [.row ⟨false, 3, (.int .i64), o0⟩]⟩) (fun r0 => K (.tup []) [.row ⟨false, 3, (.int .i64), r0⟩]) o0 := gentry_slices_Reverse_int_int fuel K o0

theorem runs_slices_Reverse_int_int {R : Type} (K : AV → List O → Option R) : ∀ fuel : Nat,
    (fun i j o0 => (runO Try.prog T_slices_Reverse_int_int cuts_slices_Reverse_int_int 1 (finish Try.prog Try.f45 1 K) fuel) (at' Try.f45 1) ⟨fr0 28 [(0, .own 0), (2, .v (.int .i64 i)), (3, .v (.int .i64 j))], [.row ⟨false, 3, (.int .i64), o0⟩]⟩) = (run_slices_Reverse_int_int (fun r0 => K (.tup []) [.row ⟨false, 3, (.int .i64), r0⟩]) fuel)
  | 0 => rfl
  | fuel + 1 => by
    have ih := runs_slices_Reverse_int_int K fuel
    funext i j o0
    refine (step_slices_Reverse_int_int_1 _ K i j o0).trans ?_
    rw [ih]
    rfl

def S_slices_Reverse_int_int (l_slices_Reverse_int_int : {R : Type} → (List Int) → ((List Int) → Option R) → Option R) : Sum := ⟨[0], fun {R} args ob K => match args, ob with
  | [.own 0], [.row ⟨false, 3, (.int .i64), o0⟩] => l_slices_Reverse_int_int o0 (fun r0 => K (.tup []) [.row ⟨false, 3, (.int .i64), r0⟩])
  | _, _ => none⟩

theorem sound_slices_Reverse_int_int : Sound Try.prog 45 (S_slices_Reverse_int_int @l_slices_Reverse_int_int) := by
  refine fn_sound (cuts := cuts_slices_Reverse_int_int) (fn := Try.f45) (Γ := T_slices_Reverse_int_int) wide right_T_slices_Reverse_int_int Try.func45 fun {R} K r args ob h => ?_
  unfold S_slices_Reverse_int_int at h
  dsimp only at h
  split at h
  · obtain ⟨n, hn⟩ := ok_slices_Reverse_int_int _ _ h
    refine ⟨Nat.le_of_ble_eq_true (by kernel_rfl), n, (entry_slices_Reverse_int_int n K _).trans ?_⟩
    rw [(runs_slices_Reverse_int_int K n)]
    exact hn
  · cases h

theorem call_slices_Reverse_int_int : Callable Try.prog 45 := ⟨_, Try.func45, by kernel_rfl, by kernel_rfl⟩

def T_differ_back (l_slices_Reverse_int_int : {R : Type} → (List Int) → ((List Int) → Option R) → Option R) : FuncId → Option Sum := (addS G0 45 (S_slices_Reverse_int_int @l_slices_Reverse_int_int))

theorem right_T_differ_back : Right Try.prog (T_differ_back @l_slices_Reverse_int_int) := (right_add right_G0 call_slices_Reverse_int_int sound_slices_Reverse_int_int)

abbrev cuts_differ_back : Cuts := [(2, [0, 4, 5, 7])]

theorem gstep_differ_back_2 (l_slices_Reverse_int_int : {R : Type} → (List Int) → ((List Int) → Option R) → Option R) {R : Type} (g : List Item → St → Option R) (K : AV → List O → Option R) (o0 : List ((Int × Int) × ((Int × Int) × Int))) (o1 : Int) (o1_1 : Int) (o2 : Int) (o2_1 : Int) (o3 : List Int) :
    runSeg Try.prog (T_differ_back @l_slices_Reverse_int_int) cuts_differ_back 1 g (finish Try.prog Try.f44 1 K) (at' Try.f44 2) ⟨fr0 25 [(0, .mp 0), (4, .ptr 1 0), (5, .ptr 2 0), (7, .own 3)], [.map (.pr (.int .i64) (.int .i64)) (.pr (.pr (.int .i64) (.int .i64)) (.int .i64)) o0, .box 88 [.v (.int .i64 o1), .v (.int .i64 o1_1)], .box 88 [.v (.int .i64 o2), .v (.int .i64 o2_1)], .row ⟨true, 3, (.int .i64), o3⟩]⟩ =
    (fun (g44_2 : (List ((Int × Int) × ((Int × Int) × Int))) → Int → Int → Int → Int → (List Int) → Option R) (K0 : (List ((Int × Int) × ((Int × Int) × Int))) → (List Int) → Option R) (o0 : List ((Int × Int) × ((Int × Int) × Int))) (o1 : Int) (o1_1 : Int) (o2 : Int) (o2_1 : Int) (o3 : List Int) =>
    bi (!(eqS (.pr (.int .i64) (.int .i64)) (o2, o2_1) (o1, o1_1)))
     (bi (decide ((o3.length + [(mgetD (.pr (.int .i64) (.int .i64)) (.pr (.pr (.int .i64) (.int .i64)) (.int .i64)) o0 (o2, o2_1)).2].length) * 8 ≤ lim))
      (g44_2 o0 o1 o1_1 (((mgetD (.pr (.int .i64) (.int .i64)) (.pr (.pr (.int .i64) (.int .i64)) (.int .i64)) o0 (o2, o2_1)).1).1) (((mgetD (.pr (.int .i64) (.int .i64)) (.pr (.pr (.int .i64) (.int .i64)) (.int .i64)) o0 (o2, o2_1)).1).2) (o3 ++ [(mgetD (.pr (.int .i64) (.int .i64)) (.pr (.pr (.int .i64) (.int .i64)) (.int .i64)) o0 (o2, o2_1)).2]))
      none)
     (l_slices_Reverse_int_int o3
      (fun r1 =>
       K0 o0 r1))) (fun o0 o1 o1_1 o2 o2_1 o3 => g (at' Try.f44 2) ⟨fr0 25 [(0, .mp 0), (4, .ptr 1 0), (5, .ptr 2 0), (7, .own 3)], [.map (.pr (.int .i64) (.int .i64)) (.pr (.pr (.int .i64) (.int .i64)) (.int .i64)) o0, .box 88 [.v (.int .i64 o1), .v (.int .i64 o1_1)], .box 88 [.v (.int .i64 o2), .v (.int .i64 o2_1)], .row ⟨true, 3, (.int .i64), o3⟩]⟩) (fun r0 r1 => K (.own 1) [.map (.pr (.int .i64) (.int .i64)) (.pr (.pr (.int .i64) (.int .i64)) (.int .i64)) r0, .row ⟨true, 3, (.int .i64), r1⟩]) o0 o1 o1_1 o2 o2_1 o3 := by kernel_rfl

theorem step_differ_back_2 {R : Type} (g : List Item → St → Option R) (K : AV → List O → Option R) (o0 : List ((Int × Int) × ((Int × Int) × Int))) (o1 : Int) (o1_1 : Int) (o2 : Int) (o2_1 : Int) (o3 : List Int) :
    runSeg Try.prog (T_differ_back @l_slices_Reverse_int_int) cuts_differ_back 1 g (finish Try.prog Try.f44 1 K) (at' Try.f44 2) ⟨fr0 25 [(0, .mp 0), (4, .ptr 1 0), (5, .ptr 2 0), (7, .own 3)], [.map (.pr (.int .i64) (.int .i64)) (.pr (.pr (.int .i64) (.int .i64)) (.int .i64)) o0, .box 88 [.v (.int .i64 o1), .v (.int .i64 o1_1)], .box 88 [.v (.int .i64 o2), .v (.int .i64 o2_1)], .row ⟨true, 3, (.int .i64), o3⟩]⟩ =
    s_differ_back_2 (fun o0 o1 o1_1 o2 o2_1 o3 => g (at' Try.f44 2) ⟨fr0 25 [(0, .mp 0), (4, .ptr 1 0), (5, .ptr 2 0), (7, .own 3)], [.map (.pr (.int .i64) (.int .i64)) (.pr (.pr (.int .i64) (.int .i64)) (.int .i64)) o0, .box 88 [.v (.int .i64 o1), .v (.int .i64 o1_1)], .box 88 [.v (.int .i64 o2), .v (.int .i64 o2_1)], .row ⟨true, 3, (.int .i64), o3⟩]⟩) (fun r0 r1 => K (.own 1) [.map (.pr (.int .i64) (.int .i64)) (.pr (.pr (.int .i64) (.int .i64)) (.int .i64)) r0, .row ⟨true, 3, (.int .i64), r1⟩]) o0 o1 o1_1 o2 o2_1 o3 := gstep_differ_back_2 @l_slices_Reverse_int_int g K o0 o1 o1_1 o2 o2_1 o3

theorem gentry_differ_back (l_slices_Reverse_int_int : {R : Type} → (List Int) → ((List Int) → Option R) → Option R) {R : Type} (fuel : Nat) (K : AV → List O → Option R) (start : Int) (start_1 : Int) (p : Int) (p_1 : Int) (o0 : List ((Int × Int) × ((Int × Int) × Int))) :
    fnRun Try.prog (T_differ_back @l_slices_Reverse_int_int) cuts_differ_back Try.f44 fuel [.mp 0, .agg [.v (.int .i64 start), .v (.int .i64 start_1)], .agg [.v (.int .i64 p), .v (.int .i64 p_1)]] [.map (.pr (.int .i64) (.int .i64)) (.pr (.pr (.int .i64) (.int .i64)) (.int .i64)) o0] K =
    (fun (g44_2 : (List ((Int × Int) × ((Int × Int) × Int))) → Int → Int → Int → Int → (List Int) → Option R) (K0 : (List ((Int × Int) × ((Int × Int) × Int))) → (List Int) → Option R) (start : Int) (start_1 : Int) (p : Int) (p_1 : Int) (o0 : List ((Int × Int) × ((Int × Int) × Int))) =>
    g44_2 o0 start start_1 p p_1 ([] : List Int)) (fun o0 o1 o1_1 o2 o2_1 o3 => (runO Try.prog (T_differ_back @l_slices_Reverse_int_int) cuts_differ_back 1 (finish Try.prog Try.f44 1 K) fuel) (at' Try.f44 2) ⟨fr0 25 [(0, .mp 0), (4, .ptr 1 0), (5, .ptr 2 0), (7, .own 3)], [.map (.pr (.int .i64) (.int .i64)) (.pr (.pr (.int .i64) (.int .i64)) (.int .i64)) o0, .box 88 [.v (.int .i64 o1), .v (.int .i64 o1_1)], .box 88 [.v (.int .i64 o2), .v (.int .i64 o2_1)], .row ⟨true, 3, (.int .i64), o3⟩]⟩) (fun r0 r1 => K (.own 1) [.map (.pr (.int .i64) (.int .i64)) (.pr (.pr (.int .i64) (.int .i64)) (.int .i64)) r0, .row ⟨true, 3, (.int .i64), r1⟩]) start start_1 p p_1 o0 := by kernel_rfl

theorem entry_differ_back {R : Type} (fuel : Nat) (K : AV → List O → Option R) (start : Int) (start_1 : Int) (p : Int) (p_1 : Int) (o0 : List ((Int × Int) × ((Int × Int) × Int))) :
    fnRun Try.prog (T_differ_back @l_slices_Reverse_int_int) cuts_differ_back Try.f44 fuel [.mp 0, .agg [.v (.int .i64 start), .v (.int .i64 start_1)], .agg [.v (.int .i64 p), .v (.int .i64 p_1)]] [.map (.pr (.int .i64) (.int .i64)) (.pr (.pr (.int .i64) (.int .i64)) (.int .i64)) o0] K =
    e_differ_back (fun o0 o1 o1_1 o2 o2_1 o3 => (runO Try.prog (T_differ_back @l_slices_Reverse_int_int) cuts_differ_back 1 (finish Try.prog Try.f44 1 K) fuel) (at' Try.f44 2) ⟨fr0 25 [(0, .mp 0), (4, .ptr 1 0), (5, .ptr 2 0), (7, .own 3)], [.map (.pr (.int .i64) (.int .i64)) (.pr (.pr (.int .i64) (.int .i64)) (.int .i64)) o0, .box 88 [.v (.int .i64 o1), .v (.int .i64 o1_1)], .box 88 [.v (.int .i64 o2), .v (.int .i64 o2_1)], .row ⟨true, 3, (.int .i64), o3⟩]⟩) (fun r0 r1 => K (.own 1) [.map (.pr (.int .i64) (.int .i64)) (.pr (.pr (.int .i64) (.int .i64)) (.int .i64)) r0, .row ⟨true, 3, (.int .i64), r1⟩]) start start_1 p p_1 o0 := gentry_differ_back @l_slices_Reverse_int_int fuel K start start_1 p p_1 o0

theorem runs_differ_back {R : Type} (K : AV → List O → Option R) : ∀ fuel : Nat,
    (fun o0 o1 o1_1 o2 o2_1 o3 => (runO Try.prog (T_differ_back @l_slices_Reverse_int_int) cuts_differ_back 1 (finish Try.prog Try.f44 1 K) fuel) (at' Try.f44 2) ⟨fr0 25 [(0, .mp 0), (4, .ptr 1 0), (5, .ptr 2 0), (7, .own 3)], [.map (.pr (.int .i64) (.int .i64)) (.pr (.pr (.int .i64) (.int .i64)) (.int .i64)) o0, .box 88 [.v (.int .i64 o1), .v (.int .i64 o1_1)], .box 88 [.v (.int .i64 o2), .v (.int .i64 o2_1)], .row ⟨true, 3, (.int .i64), o3⟩]⟩) = (run_differ_back (fun r0 r1 => K (.own 1) [.map (.pr (.int .i64) (.int .i64)) (.pr (.pr (.int .i64) (.int .i64)) (.int .i64)) r0, .row ⟨true, 3, (.int .i64), r1⟩]) fuel)
  | 0 => rfl
  | fuel + 1 => by
    have ih := runs_differ_back K fuel
    funext o0 o1 o1_1 o2 o2_1 o3
    refine (step_differ_back_2 _ K o0 o1 o1_1 o2 o2_1 o3).trans ?_
    rw [ih]
    rfl

def S_differ_back (l_differ_back : {R : Type} → Int → Int → Int → Int → (List ((Int × Int) × ((Int × Int) × Int))) → ((List ((Int × Int) × ((Int × Int) × Int))) → (List Int) → Option R) → Option R) : Sum := ⟨[], fun {R} args ob K => match args, ob with
  | [.mp 0, .agg [.v (.int .i64 start), .v (.int .i64 start_1)], .agg [.v (.int .i64 p), .v (.int .i64 p_1)]], [.map (.pr (.int .i64) (.int .i64)) (.pr (.pr (.int .i64) (.int .i64)) (.int .i64)) o0] => l_differ_back start start_1 p p_1 o0 (fun r0 r1 => K (.own 1) [.map (.pr (.int .i64) (.int .i64)) (.pr (.pr (.int .i64) (.int .i64)) (.int .i64)) r0, .row ⟨true, 3, (.int .i64), r1⟩])
  | _, _ => none⟩

theorem sound_differ_back : Sound Try.prog 44 (S_differ_back @l_differ_back) := by
  refine fn_sound (cuts := cuts_differ_back) (fn := Try.f44) (Γ := (T_differ_back @l_slices_Reverse_int_int)) wide right_T_differ_back Try.func44 fun {R} K r args ob h => ?_
  unfold S_differ_back at h
  dsimp only at h
  split at h
  · obtain ⟨n, hn⟩ := ok_differ_back _ _ _ _ _ _ h
    refine ⟨Nat.le_of_ble_eq_true (by kernel_rfl), n, (entry_differ_back n K _ _ _ _ _).trans ?_⟩
    rw [(runs_differ_back K n)]
    exact hn
  · cases h

theorem call_differ_back : Callable Try.prog 44 := ⟨_, Try.func44, by kernel_rfl, by kernel_rfl⟩

def T_differ_search (l_differ_back : {R : Type} → Int → Int → Int → Int → (List ((Int × Int) × ((Int × Int) × Int))) → ((List ((Int × Int) × ((Int × Int) × Int))) → (List Int) → Option R) → Option R) : FuncId → Option Sum := (addS G0 44 (S_differ_back @l_differ_back))

theorem right_T_differ_search : Right Try.prog (T_differ_search @l_differ_back) := (right_add right_G0 call_differ_back sound_differ_back)

abbrev cuts_differ_search : Cuts := [(9, [3, 4, 5, 8, 9, 10, 11, 12]), (13, [3, 4, 5, 8, 9, 10, 11, 12, 13, 55, 56])]

theorem gstep_differ_search_9 (l_differ_back : {R : Type} → Int → Int → Int → Int → (List ((Int × Int) × ((Int × Int) × Int))) → ((List ((Int × Int) × ((Int × Int) × Int))) → (List Int) → Option R) → Option R) {R : Type} (g : List Item → St → Option R) (K : AV → List O → Option R) (i : Int) (o0 : Int) (o0_1 : Int) (o0_2 : Int) (o0_3 : Int) (o0_4 : List Int) (o0_5 : List Int) (o1 : Int) (o1_1 : Int) (o1_2 : Int) (o1_3 : Int) (o1_4 : List Int) (o1_5 : List Int) (o2 : Int) (o2_1 : Int) (o3 : List ((Int × Int) × ((Int × Int) × Int))) (o4 : List (Int × Int)) (o5 : Int) (o5_1 : Int) (o6 : List Int) :
    runSeg Try.prog (T_differ_search @l_differ_back) cuts_differ_search 0 g (finish Try.prog Try.f37 0 K) (at' Try.f37 9) ⟨fr0 145 [(3, .ptr 0 0), (4, .ptr 1 0), (5, .ptr 2 0), (8, .mp 3), (9, .own 4), (10, .ptr 5 0), (11, .own 6), (12, .v (.int .i64 i))], [.box 24 [.v (.int .i64 o0), .v (.int .i64 o0_1), .v (.int .i64 o0_2), .v (.int .i64 o0_3), .rd ⟨false, 3, (.int .i64), o0_4⟩, .rd ⟨false, 3, (.int .i64), o0_5⟩], .box 24 [.v (.int .i64 o1), .v (.int .i64 o1_1), .v (.int .i64 o1_2), .v (.int .i64 o1_3), .rd ⟨false, 3, (.int .i64), o1_4⟩, .rd ⟨false, 3, (.int .i64), o1_5⟩], .box 88 [.v (.int .i64 o2), .v (.int .i64 o2_1)], .map (.pr (.int .i64) (.int .i64)) (.pr (.pr (.int .i64) (.int .i64)) (.int .i64)) o3, .row ⟨true, 88, (.pr (.int .i64) (.int .i64)), o4⟩, .box 88 [.v (.int .i64 o5), .v (.int .i64 o5_1)], .row ⟨true, 3, (.int .i64), o6⟩]⟩ =
    (fun (g37_9 : Int → Int → Int → Int → Int → (List Int) → (List Int) → Int → Int → Int → Int → (List Int) → (List Int) → Int → Int → (List ((Int × Int) × ((Int × Int) × Int))) → (List (Int × Int)) → Int → Int → (List Int) → Option R) (g37_13 : Int → Int → Int → Int → Int → Int → Int → (List Int) → (List Int) → Int → Int → Int → Int → (List Int) → (List Int) → Int → Int → (List ((Int × Int) × ((Int × Int) × Int))) → (List (Int × Int)) → Int → Int → (List Int) → Int → Int → Option R) (K0 : Bool → (List Int) → Option R) (i : Int) (o0 : Int) (o0_1 : Int) (o0_2 : Int) (o0_3 : Int) (o0_4 : List Int) (o0_5 : List Int) (o1 : Int) (o1_1 : Int) (o1_2 : Int) (o1_3 : Int) (o1_4 : List Int) (o1_5 : List Int) (o2 : Int) (o2_1 : Int) (o3 : List ((Int × Int) × ((Int × Int) × Int))) (o4 : List (Int × Int)) (o5 : Int) (o5_1 : Int) (o6 : List Int) =>
    bi (i == (o4.length : Int))
     (K0 false ([] : List Int))
     (bi (decide (0 ≤ i ∧ i < ((o4.length : Nat) : Int)))
      (g37_13 i o0_1 0 o0 o0_1 o0_2 o0_3 o0_4 o0_5 o1 o1_1 o1_2 o1_3 o1_4 o1_5 o2 o2_1 o3 o4 o5 o5_1 o6 ((o4.getD i.toNat (0, 0)).1) ((o4.getD i.toNat (0, 0)).2))
      none)) (fun i o0 o0_1 o0_2 o0_3 o0_4 o0_5 o1 o1_1 o1_2 o1_3 o1_4 o1_5 o2 o2_1 o3 o4 o5 o5_1 o6 => g (at' Try.f37 9) ⟨fr0 145 [(3, .ptr 0 0), (4, .ptr 1 0), (5, .ptr 2 0), (8, .mp 3), (9, .own 4), (10, .ptr 5 0), (11, .own 6), (12, .v (.int .i64 i))], [.box 24 [.v (.int .i64 o0), .v (.int .i64 o0_1), .v (.int .i64 o0_2), .v (.int .i64 o0_3), .rd ⟨false, 3, (.int .i64), o0_4⟩, .rd ⟨false, 3, (.int .i64), o0_5⟩], .box 24 [.v (.int .i64 o1), .v (.int .i64 o1_1), .v (.int .i64 o1_2), .v (.int .i64 o1_3), .rd ⟨false, 3, (.int .i64), o1_4⟩, .rd ⟨false, 3, (.int .i64), o1_5⟩], .box 88 [.v (.int .i64 o2), .v (.int .i64 o2_1)], .map (.pr (.int .i64) (.int .i64)) (.pr (.pr (.int .i64) (.int .i64)) (.int .i64)) o3, .row ⟨true, 88, (.pr (.int .i64) (.int .i64)), o4⟩, .box 88 [.v (.int .i64 o5), .v (.int .i64 o5_1)], .row ⟨true, 3, (.int .i64), o6⟩]⟩) (fun i x55 x56 o0 o0_1 o0_2 o0_3 o0_4 o0_5 o1 o1_1 o1_2 o1_3 o1_4 o1_5 o2 o2_1 o3 o4 o5 o5_1 o6 o7 o7_1 => g (at' Try.f37 13) ⟨fr0 145 [(3, .ptr 0 0), (4, .ptr 1 0), (5, .ptr 2 0), (8, .mp 3), (9, .own 4), (10, .ptr 5 0), (11, .own 6), (12, .v (.int .i64 i)), (13, .ptr 7 0), (55, .v (.int .i64 x55)), (56, .v (.int .i64 x56))], [.box 24 [.v (.int .i64 o0), .v (.int .i64 o0_1), .v (.int .i64 o0_2), .v (.int .i64 o0_3), .rd ⟨false, 3, (.int .i64), o0_4⟩, .rd ⟨false, 3, (.int .i64), o0_5⟩], .box 24 [.v (.int .i64 o1), .v (.int .i64 o1_1), .v (.int .i64 o1_2), .v (.int .i64 o1_3), .rd ⟨false, 3, (.int .i64), o1_4⟩, .rd ⟨false, 3, (.int .i64), o1_5⟩], .box 88 [.v (.int .i64 o2), .v (.int .i64 o2_1)], .map (.pr (.int .i64) (.int .i64)) (.pr (.pr (.int .i64) (.int .i64)) (.int .i64)) o3, .row ⟨true, 88, (.pr (.int .i64) (.int .i64)), o4⟩, .box 88 [.v (.int .i64 o5), .v (.int .i64 o5_1)], .row ⟨true, 3, (.int .i64), o6⟩, .box 88 [.v (.int .i64 o7), .v (.int .i64 o7_1)]]⟩) (fun r0 r1 => K (.tup [.own 0, .v (.bool r0)]) [.row ⟨true, 3, (.int .i64), r1⟩]) i o0 o0_1 o0_2 o0_3 o0_4 o0_5 o1 o1_1 o1_2 o1_3 o1_4 o1_5 o2 o2_1 o3 o4 o5 o5_1 o6 := by kernel_rfl

theorem step_differ_search_9 {R : Type} (g : List Item → St → Option R) (K : AV → List O → Option R) (i : Int) (o0 : Int) (o0_1 : Int) (o0_2 : Int) (o0_3 : Int) (o0_4 : List Int) (o0_5 : List Int) (o1 : Int) (o1_1 : Int) (o1_2 : Int) (o1_3 : Int) (o1_4 : List Int) (o1_5 : List Int) (o2 : Int) (o2_1 : Int) (o3 : List ((Int × Int) × ((Int × Int) × Int))) (o4 : List (Int × Int)) (o5 : Int) (o5_1 : Int) (o6 : List Int) :
    runSeg Try.prog (T_differ_search @l_differ_back) cuts_differ_search 0 g (finish Try.prog Try.f37 0 K) (at' Try.f37 9) ⟨fr0 145 [(3, .ptr 0 0), (4, .ptr 1 0), (5, .ptr 2 0), (8, .mp 3), (9, .own 4), (10, .ptr 5 0), (11, .own 6), (12, .v (.int .i64 i))], [.box 24 [.v (.int .i64 o0), .v (.int .i64 o0_1), .v (.int .i64 o0_2), .v (.int .i64 o0_3), .rd ⟨false, 3, (.int .i64), o0_4⟩, .rd ⟨false, 3, (.int .i64), o0_5⟩], .box 24 [.v (.int .i64 o1), .v (.int .i64 o1_1), .v (.int .i64 o1_2), .v (.int .i64 o1_3), .rd ⟨false, 3, (.int .i64), o1_4⟩, .rd ⟨false, 3, (.int .i64), o1_5⟩], .box 88 [.v (.int .i64 o2), .v (.int .i64 o2_1)], .map (.pr (.int .i64) (.int .i64)) (.pr (.pr (.int .i64) (.int .i64)) (.int .i64)) o3, .row ⟨true, 88, (.pr (.int .i64) (.int .i64)), o4⟩, .box 88 [.v (.int .i64 o5), .v (.int .i64 o5_1)], .row ⟨true, 3, (.int .i64), o6⟩]⟩ =
    s_differ_search_9 (fun i o0 o0_1 o0_2 o0_3 o0_4 o0_5 o1 o1_1 o1_2 o1_3 o1_4 o1_5 o2 o2_1 o3 o4 o5 o5_1 o6 => g (at' Try.f37 9) ⟨fr0 145 [(3, .ptr 0 0), (4, .ptr 1 0), (5, .ptr 2 0), (8, .mp 3), (9, .own 4), (10, .ptr 5 0), (11, .own 6), (12, .v (.int .i64 i))], [.box 24 [.v (.int .i64 o0), .v (.int .i64 o0_1), .v (.int .i64 o0_2), .v (.int .i64 o0_3), .rd ⟨false, 3, (.int .i64), o0_4⟩, .rd ⟨false, 3, (.int .i64), o0_5⟩], .box 24 [.v (.int .i64 o1), .v (.int .i64 o1_1), .v (.int .i64 o1_2), .v (.int .i64 o1_3), .rd ⟨false, 3, (.int .i64), o1_4⟩, .rd ⟨false, 3, (.int .i64), o1_5⟩], .box 88 [.v (.int .i64 o2), .v (.int .i64 o2_1)], .map (.pr (.int .i64) (.int .i64)) (.pr (.pr (.int .i64) (.int .i64)) (.int .i64)) o3, .row ⟨true, 88, (.pr (.int .i64) (.int .i64)), o4⟩, .box 88 [.v (.int .i64 o5), .v (.int .i64 o5_1)], .row ⟨true, 3, (.int .i64), o6⟩]⟩) (fun i x55 x56 o0 o0_1 o0_2 o0_3 o0_4 o0_5 o1 o1_1 o1_2 o1_3 o1_4 o1_5 o2 o2_1 o3 o4 o5 o5_1 o6 o7 o7_1 => g (at' Try.f37 13) ⟨fr0 145 [(3, .ptr 0 0), (4, .ptr 1 0), (5, .ptr 2 0), (8, .mp 3), (9, .own 4), (10, .ptr 5 0), (11, .own 6), (12, .v (.int .i64 i)), (13, .ptr 7 0), (55, .v (.int .i64 x55)), (56, .v (.int .i64 x56))], [.box 24 [.v (.int .i64 o0), .v (.int .i64 o0_1), .v (.int .i64 o0_2), .v (.int .i64 o0_3), .rd ⟨false, 3, (.int .i64), o0_4⟩, .rd ⟨false, 3, (.int .i64), o0_5⟩], .box 24 [.v (.int .i64 o1), .v (.int .i64 o1_1), .v (.int .i64 o1_2), .v (.int .i64 o1_3), .rd ⟨false, 3, (.int .i64), o1_4⟩, .rd ⟨false, 3, (.int .i64), o1_5⟩], .box 88 [.v (.int .i64 o2), .v (.int .i64 o2_1)], .map (.pr (.int .i64) (.int .i64)) (.pr (.pr (.int .i64) (.int .i64)) (.int .i64)) o3, .row ⟨true, 88, (.pr (.int .i64) (.int .i64)), o4⟩, .box 88 [.v (.int .i64 o5), .v (.int .i64 o5_1)], .row ⟨true, 3, (.int .i64), o6⟩, .box 88 [.v (.int .i64 o7), .v (.int .i64 o7_1)]]⟩) (fun r0 r1 => K (.tup [.own 0, .v (.bool r0)]) [.row ⟨true, 3, (.int .i64), r1⟩]) i o0 o0_1 o0_2 o0_3 o0_4 o0_5 o1 o1_1 o1_2 o1_3 o1_4 o1_5 o2 o2_1 o3 o4 o5 o5_1 o6 := gstep_differ_search_9 @l_differ_back g K i o0 o0_1 o0_2 o0_3 o0_4 o0_5 o1 o1_1 o1_2 o1_3 o1_4 o1_5 o2 o2_1 o3 o4 o5 o5_1 o6

theorem gstep_differ_search_13 (l_differ_back : {R : Type} → Int → Int → Int → Int → (List ((Int × Int) × ((Int × Int) × Int))) → ((List ((Int × Int) × ((Int × Int) × Int))) → (List Int) → Option R) → Option R) {R : Type} (g : List Item → St → Option R) (K : AV → List O → Option R) (i : Int) (x55 : Int) (x56 : Int) (o0 : Int) (o0_1 : Int) (o0_2 : Int) (o0_3 : Int) (o0_4 : List Int) (o0_5 : List Int) (o1 : Int) (o1_1 : Int) (o1_2 : Int) (o1_3 : Int) (o1_4 : List Int) (o1_5 : List Int) (o2 : Int) (o2_1 : Int) (o3 : List ((Int × Int) × ((Int × Int) × Int))) (o4 : List (Int × Int)) (o5 : Int) (o5_1 : Int) (o6 : List Int) (o7 : Int) (o7_1 : Int) :
    runSeg Try.prog (T_differ_search @l_differ_back) cuts_differ_search 0 g (finish Try.prog Try.f37 0 K) (at' Try.f37 13) ⟨fr0 145 [(3, .ptr 0 0), (4, .ptr 1 0), (5, .ptr 2 0), (8, .mp 3), (9, .own 4), (10, .ptr 5 0), (11, .own 6), (12, .v (.int .i64 i)), (13, .ptr 7 0), (55, .v (.int .i64 x55)), (56, .v (.int .i64 x56))], [.box 24 [.v (.int .i64 o0), .v (.int .i64 o0_1), .v (.int .i64 o0_2), .v (.int .i64 o0_3), .rd ⟨false, 3, (.int .i64), o0_4⟩, .rd ⟨false, 3, (.int .i64), o0_5⟩], .box 24 [.v (.int .i64 o1), .v (.int .i64 o1_1), .v (.int .i64 o1_2), .v (.int .i64 o1_3), .rd ⟨false, 3, (.int .i64), o1_4⟩, .rd ⟨false, 3, (.int .i64), o1_5⟩], .box 88 [.v (.int .i64 o2), .v (.int .i64 o2_1)], .map (.pr (.int .i64) (.int .i64)) (.pr (.pr (.int .i64) (.int .i64)) (.int .i64)) o3, .row ⟨true, 88, (.pr (.int .i64) (.int .i64)), o4⟩, .box 88 [.v (.int .i64 o5), .v (.int .i64 o5_1)], .row ⟨true, 3, (.int .i64), o6⟩, .box 88 [.v (.int .i64 o7), .v (.int .i64 o7_1)]]⟩ =
    (fun (g37_9 : Int → Int → Int → Int → Int → (List Int) → (List Int) → Int → Int → Int → Int → (List Int) → (List Int) → Int → Int → (List ((Int × Int) × ((Int × Int) × Int))) → (List (Int × Int)) → Int → Int → (List Int) → Option R) (g37_13 : Int → Int → Int → Int → Int → Int → Int → (List Int) → (List Int) → Int → Int → Int → Int → (List Int) → (List Int) → Int → Int → (List ((Int × Int) × ((Int × Int) × Int))) → (List (Int × Int)) → Int → Int → (List Int) → Int → Int → Option R) (K0 : Bool → (List Int) → Option R) (i : Int) (x55 : Int) (x56 : Int) (o0 : Int) (o0_1 : Int) (o0_2 : Int) (o0_3 : Int) (o0_4 : List Int) (o0_5 : List Int) (o1 : Int) (o1_1 : Int) (o1_2 : Int) (o1_3 : Int) (o1_4 : List Int) (o1_5 : List Int) (o2 : Int) (o2_1 : Int) (o3 : List ((Int × Int) × ((Int × Int) × Int))) (o4 : List (Int × Int)) (o5 : Int) (o5_1 : Int) (o6 : List Int) (o7 : Int) (o7_1 : Int) =>
    bi (decide (x56 < x55))
     (bi (decide (0 ≤ (IntKind.i64.wrap ((IntKind.i64.wrap (o7 * o0_1)) + x56)) ∧ (IntKind.i64.wrap ((IntKind.i64.wrap (o7 * o0_1)) + x56)) < ((o0_4.length : Nat) : Int)))
      (bi (decide (0 ≤ (IntKind.i64.wrap ((IntKind.i64.wrap (o7_1 * o1_1)) + x56)) ∧ (IntKind.i64.wrap ((IntKind.i64.wrap (o7_1 * o1_1)) + x56)) < ((o1_4.length : Nat) : Int)))
       (both
        (bi (o0 == 2)
         (bi (decide (0 ≤ (IntKind.i64.wrap ((IntKind.i64.wrap (o7 * o0_1)) + x56)) ∧ (IntKind.i64.wrap ((IntKind.i64.wrap (o7 * o0_1)) + x56)) < ((o0_5.length : Nat) : Int)))
          (bi (decide (0 ≤ (IntKind.i64.wrap ((IntKind.i64.wrap (o7_1 * o1_1)) + x56)) ∧ (IntKind.i64.wrap ((IntKind.i64.wrap (o7_1 * o1_1)) + x56)) < ((o1_5.length : Nat) : Int)))
           (bi ((o0_5.getD ((IntKind.i64.wrap ((IntKind.i64.wrap (o7 * o0_1)) + x56)).toNat) 0) != (o1_5.getD ((IntKind.i64.wrap ((IntKind.i64.wrap (o7_1 * o1_1)) + x56)).toNat) 0))
            (l_differ_back o2 o2_1 o7 o7_1 o3
             (fun r1 r2 =>
              bi (decide ((r2.length + [x56].length) * 8 ≤ lim))
               (K0 true (r2 ++ [x56]))
               none))
            (bi (mhas (.pr (.int .i64) (.int .i64)) (.pr (.pr (.int .i64) (.int .i64)) (.int .i64)) o3 (o0_4.getD ((IntKind.i64.wrap ((IntKind.i64.wrap (o7 * o0_1)) + x56)).toNat) 0, o1_4.getD ((IntKind.i64.wrap ((IntKind.i64.wrap (o7_1 * o1_1)) + x56)).toNat) 0))
             (g37_13 i x55 (IntKind.i64.wrap (x56 + 1)) o0 o0_1 o0_2 o0_3 o0_4 o0_5 o1 o1_1 o1_2 o1_3 o1_4 o1_5 o2 o2_1 o3 o4 o5 o5_1 o6 o7 o7_1)
             (bi (decide ((o4.length + [(o0_4.getD ((IntKind.i64.wrap ((IntKind.i64.wrap (o7 * o0_1)) + x56)).toNat) 0, o1_4.getD ((IntKind.i64.wrap ((IntKind.i64.wrap (o7_1 * o1_1)) + x56)).toNat) 0)].length) * 16 ≤ lim))
              (bi (o0 == 1)
               (bi (decide (0 ≤ (o0_4.getD ((IntKind.i64.wrap ((IntKind.i64.wrap (o7 * o0_1)) + x56)).toNat) 0) ∧ (o0_4.getD ((IntKind.i64.wrap ((IntKind.i64.wrap (o7 * o0_1)) + x56)).toNat) 0) < ((o0_5.length : Nat) : Int)))
                (bi (decide (0 ≤ (o1_4.getD ((IntKind.i64.wrap ((IntKind.i64.wrap (o7_1 * o1_1)) + x56)).toNat) 0) ∧ (o1_4.getD ((IntKind.i64.wrap ((IntKind.i64.wrap (o7_1 * o1_1)) + x56)).toNat) 0) < ((o1_5.length : Nat) : Int)))
                 (bi ((o0_5.getD ((o0_4.getD ((IntKind.i64.wrap ((IntKind.i64.wrap (o7 * o0_1)) + x56)).toNat) 0).toNat) 0) != (o1_5.getD ((o1_4.getD ((IntKind.i64.wrap ((IntKind.i64.wrap (o7_1 * o1_1)) + x56)).toNat) 0).toNat) 0))
                  (l_differ_back o2 o2_1 (o0_4.getD ((IntKind.i64.wrap ((IntKind.i64.wrap (o7 * o0_1)) + x56)).toNat) 0) (o1_4.getD ((IntKind.i64.wrap ((IntKind.i64.wrap (o7_1 * o1_1)) + x56)).toNat) 0) (mput (.pr (.int .i64) (.int .i64)) (.pr (.pr (.int .i64) (.int .i64)) (.int .i64)) (o0_4.getD ((IntKind.i64.wrap ((IntKind.i64.wrap (o7 * o0_1)) + x56)).toNat) 0, o1_4.getD ((IntKind.i64.wrap ((IntKind.i64.wrap (o7_1 * o1_1)) + x56)).toNat) 0) ((o7, o7_1), x56) o3)
                   (fun r3 r4 =>
                    bi (decide ((r4.length + o6.length) * 8 ≤ lim))
                     (K0 true (r4 ++ o6))
                     none))
                  (g37_13 i x55 (IntKind.i64.wrap (x56 + 1)) o0 o0_1 o0_2 o0_3 o0_4 o0_5 o1 o1_1 o1_2 o1_3 o1_4 o1_5 o2 o2_1 (mput (.pr (.int .i64) (.int .i64)) (.pr (.pr (.int .i64) (.int .i64)) (.int .i64)) (o0_4.getD ((IntKind.i64.wrap ((IntKind.i64.wrap (o7 * o0_1)) + x56)).toNat) 0, o1_4.getD ((IntKind.i64.wrap ((IntKind.i64.wrap (o7_1 * o1_1)) + x56)).toNat) 0) ((o7, o7_1), x56) o3) (o4 ++ [(o0_4.getD ((IntKind.i64.wrap ((IntKind.i64.wrap (o7 * o0_1)) + x56)).toNat) 0, o1_4.getD ((IntKind.i64.wrap ((IntKind.i64.wrap (o7_1 * o1_1)) + x56)).toNat) 0)]) o5 o5_1 o6 o7 o7_1))
                 none)
                none)
               (g37_13 i x55 (IntKind.i64.wrap (x56 + 1)) o0 o0_1 o0_2 o0_3 o0_4 o0_5 o1 o1_1 o1_2 o1_3 o1_4 o1_5 o2 o2_1 (mput (.pr (.int .i64) (.int .i64)) (.pr (.pr (.int .i64) (.int .i64)) (.int .i64)) (o0_4.getD ((IntKind.i64.wrap ((IntKind.i64.wrap (o7 * o0_1)) + x56)).toNat) 0, o1_4.getD ((IntKind.i64.wrap ((IntKind.i64.wrap (o7_1 * o1_1)) + x56)).toNat) 0) ((o7, o7_1), x56) o3) (o4 ++ [(o0_4.getD ((IntKind.i64.wrap ((IntKind.i64.wrap (o7 * o0_1)) + x56)).toNat) 0, o1_4.getD ((IntKind.i64.wrap ((IntKind.i64.wrap (o7_1 * o1_1)) + x56)).toNat) 0)]) o5 o5_1 o6 o7 o7_1))
              none)))
           none)
          none)
         (bi (mhas (.pr (.int .i64) (.int .i64)) (.pr (.pr (.int .i64) (.int .i64)) (.int .i64)) o3 (o0_4.getD ((IntKind.i64.wrap ((IntKind.i64.wrap (o7 * o0_1)) + x56)).toNat) 0, o1_4.getD ((IntKind.i64.wrap ((IntKind.i64.wrap (o7_1 * o1_1)) + x56)).toNat) 0))
          (g37_13 i x55 (IntKind.i64.wrap (x56 + 1)) o0 o0_1 o0_2 o0_3 o0_4 o0_5 o1 o1_1 o1_2 o1_3 o1_4 o1_5 o2 o2_1 o3 o4 o5 o5_1 o6 o7 o7_1)
          (bi (decide ((o4.length + [(o0_4.getD ((IntKind.i64.wrap ((IntKind.i64.wrap (o7 * o0_1)) + x56)).toNat) 0, o1_4.getD ((IntKind.i64.wrap ((IntKind.i64.wrap (o7_1 * o1_1)) + x56)).toNat) 0)].length) * 16 ≤ lim))
           (bi (o0 == 1)
            (bi (decide (0 ≤ (o0_4.getD ((IntKind.i64.wrap ((IntKind.i64.wrap (o7 * o0_1)) + x56)).toNat) 0) ∧ (o0_4.getD ((IntKind.i64.wrap ((IntKind.i64.wrap (o7 * o0_1)) + x56)).toNat) 0) < ((o0_5.length : Nat) : Int)))
             (bi (decide (0 ≤ (o1_4.getD ((IntKind.i64.wrap ((IntKind.i64.wrap (o7_1 * o1_1)) + x56)).toNat) 0) ∧ (o1_4.getD ((IntKind.i64.wrap ((IntKind.i64.wrap (o7_1 * o1_1)) + x56)).toNat) 0) < ((o1_5.length : Nat) : Int)))
              (bi ((o0_5.getD ((o0_4.getD ((IntKind.i64.wrap ((IntKind.i64.wrap (o7 * o0_1)) + x56)).toNat) 0).toNat) 0) != (o1_5.getD ((o1_4.getD ((IntKind.i64.wrap ((IntKind.i64.wrap (o7_1 * o1_1)) + x56)).toNat) 0).toNat) 0))
               (l_differ_back o2 o2_1 (o0_4.getD ((IntKind.i64.wrap ((IntKind.i64.wrap (o7 * o0_1)) + x56)).toNat) 0) (o1_4.getD ((IntKind.i64.wrap ((IntKind.i64.wrap (o7_1 * o1_1)) + x56)).toNat) 0) (mput (.pr (.int .i64) (.int .i64)) (.pr (.pr (.int .i64) (.int .i64)) (.int .i64)) (o0_4.getD ((IntKind.i64.wrap ((IntKind.i64.wrap (o7 * o0_1)) + x56)).toNat) 0, o1_4.getD ((IntKind.i64.wrap ((IntKind.i64.wrap (o7_1 * o1_1)) + x56)).toNat) 0) ((o7, o7_1), x56) o3)
                (fun r5 r6 =>
                 bi (decide ((r6.length + o6.length) * 8 ≤ lim))
                  (K0 true (r6 ++ o6))
                  none))
               (g37_13 i x55 (IntKind.i64.wrap (x56 + 1)) o0 o0_1 o0_2 o0_3 o0_4 o0_5 o1 o1_1 o1_2 o1_3 o1_4 o1_5 o2 o2_1 (mput (.pr (.int .i64) (.int .i64)) (.pr (.pr (.int .i64) (.int .i64)) (.int .i64)) (o0_4.getD ((IntKind.i64.wrap ((IntKind.i64.wrap (o7 * o0_1)) + x56)).toNat) 0, o1_4.getD ((IntKind.i64.wrap ((IntKind.i64.wrap (o7_1 * o1_1)) + x56)).toNat) 0) ((o7, o7_1), x56) o3) (o4 ++ [(o0_4.getD ((IntKind.i64.wrap ((IntKind.i64.wrap (o7 * o0_1)) + x56)).toNat) 0, o1_4.getD ((IntKind.i64.wrap ((IntKind.i64.wrap (o7_1 * o1_1)) + x56)).toNat) 0)]) o5 o5_1 o6 o7 o7_1))
              none)
             none)
            (g37_13 i x55 (IntKind.i64.wrap (x56 + 1)) o0 o0_1 o0_2 o0_3 o0_4 o0_5 o1 o1_1 o1_2 o1_3 o1_4 o1_5 o2 o2_1 (mput (.pr (.int .i64) (.int .i64)) (.pr (.pr (.int .i64) (.int .i64)) (.int .i64)) (o0_4.getD ((IntKind.i64.wrap ((IntKind.i64.wrap (o7 * o0_1)) + x56)).toNat) 0, o1_4.getD ((IntKind.i64.wrap ((IntKind.i64.wrap (o7_1 * o1_1)) + x56)).toNat) 0) ((o7, o7_1), x56) o3) (o4 ++ [(o0_4.getD ((IntKind.i64.wrap ((IntKind.i64.wrap (o7 * o0_1)) + x56)).toNat) 0, o1_4.getD ((IntKind.i64.wrap ((IntKind.i64.wrap (o7_1 * o1_1)) + x56)).toNat) 0)]) o5 o5_1 o6 o7 o7_1))
           none)))
        (bi (o0 == 2)
         (bi (decide (0 ≤ (IntKind.i64.wrap ((IntKind.i64.wrap (o7 * o0_1)) + x56)) ∧ (IntKind.i64.wrap ((IntKind.i64.wrap (o7 * o0_1)) + x56)) < ((o0_5.length : Nat) : Int)))
          (bi (decide (0 ≤ (IntKind.i64.wrap ((IntKind.i64.wrap (o7_1 * o1_1)) + x56)) ∧ (IntKind.i64.wrap ((IntKind.i64.wrap (o7_1 * o1_1)) + x56)) < ((o1_5.length : Nat) : Int)))
           (bi ((o0_5.getD ((IntKind.i64.wrap ((IntKind.i64.wrap (o7 * o0_1)) + x56)).toNat) 0) != (o1_5.getD ((IntKind.i64.wrap ((IntKind.i64.wrap (o7_1 * o1_1)) + x56)).toNat) 0))
            (l_differ_back o2 o2_1 o7 o7_1 o3
             (fun r7 r8 =>
              bi (decide ((r8.length + [x56].length) * 8 ≤ lim))
               (K0 true (r8 ++ [x56]))
               none))
            (bi (mhas (.pr (.int .i64) (.int .i64)) (.pr (.pr (.int .i64) (.int .i64)) (.int .i64)) o3 (o0_4.getD ((IntKind.i64.wrap ((IntKind.i64.wrap (o7 * o0_1)) + x56)).toNat) 0, o1_4.getD ((IntKind.i64.wrap ((IntKind.i64.wrap (o7_1 * o1_1)) + x56)).toNat) 0))
             (g37_13 i x55 (IntKind.i64.wrap (x56 + 1)) o0 o0_1 o0_2 o0_3 o0_4 o0_5 o1 o1_1 o1_2 o1_3 o1_4 o1_5 o2 o2_1 o3 o4 o5 o5_1 o6 o7 o7_1)
             (bi (decide ((o4.length + [(o0_4.getD ((IntKind.i64.wrap ((IntKind.i64.wrap (o7 * o0_1)) + x56)).toNat) 0, o1_4.getD ((IntKind.i64.wrap ((IntKind.i64.wrap (o7_1 * o1_1)) + x56)).toNat) 0)].length) * 16 ≤ lim))
              (bi (o0 == 1)
               (bi (decide (0 ≤ (o0_4.getD ((IntKind.i64.wrap ((IntKind.i64.wrap (o7 * o0_1)) + x56)).toNat) 0) ∧ (o0_4.getD ((IntKind.i64.wrap ((IntKind.i64.wrap (o7 * o0_1)) + x56)).toNat) 0) < ((o0_5.length : Nat) : Int)))
                (bi (decide (0 ≤ (o1_4.getD ((IntKind.i64.wrap ((IntKind.i64.wrap (o7_1 * o1_1)) + x56)).toNat) 0) ∧ (o1_4.getD ((IntKind.i64.wrap ((IntKind.i64.wrap (o7_1 * o1_1)) + x56)).toNat) 0) < ((o1_5.length : Nat) : Int)))
                 (bi ((o0_5.getD ((o0_4.getD ((IntKind.i64.wrap ((IntKind.i64.wrap (o7 * o0_1)) + x56)).toNat) 0).toNat) 0) != (o1_5.getD ((o1_4.getD ((IntKind.i64.wrap ((IntKind.i64.wrap (o7_1 * o1_1)) + x56)).toNat) 0).toNat) 0))
                  (l_differ_back o2 o2_1 (o0_4.getD ((IntKind.i64.wrap ((IntKind.i64.wrap (o7 * o0_1)) + x56)).toNat) 0) (o1_4.getD ((IntKind.i64.wrap ((IntKind.i64.wrap (o7_1 * o1_1)) + x56)).toNat) 0) (mput (.pr (.int .i64) (.int .i64)) (.pr (.pr (.int .i64) (.int .i64)) (.int .i64)) (o0_4.getD ((IntKind.i64.wrap ((IntKind.i64.wrap (o7 * o0_1)) + x56)).toNat) 0, o1_4.getD ((IntKind.i64.wrap ((IntKind.i64.wrap (o7_1 * o1_1)) + x56)).toNat) 0) ((o7, o7_1), x56) o3)
                   (fun r9 r10 =>
                    bi (decide ((r10.length + o6.length) * 8 ≤ lim))
                     (K0 true (r10 ++ o6))
                     none))
                  (g37_13 i x55 (IntKind.i64.wrap (x56 + 1)) o0 o0_1 o0_2 o0_3 o0_4 o0_5 o1 o1_1 o1_2 o1_3 o1_4 o1_5 o2 o2_1 (mput (.pr (.int .i64) (.int .i64)) (.pr (.pr (.int .i64) (.int .i64)) (.int .i64)) (o0_4.getD ((IntKind.i64.wrap ((IntKind.i64.wrap (o7 * o0_1)) + x56)).toNat) 0, o1_4.getD ((IntKind.i64.wrap ((IntKind.i64.wrap (o7_1 * o1_1)) + x56)).toNat) 0) ((o7, o7_1), x56) o3) (o4 ++ [(o0_4.getD ((IntKind.i64.wrap ((IntKind.i64.wrap (o7 * o0_1)) + x56)).toNat) 0, o1_4.getD ((IntKind.i64.wrap ((IntKind.i64.wrap (o7_1 * o1_1)) + x56)).toNat) 0)]) o5 o5_1 o6 o7 o7_1))
                 none)
                none)
               (g37_13 i x55 (IntKind.i64.wrap (x56 + 1)) o0 o0_1 o0_2 o0_3 o0_4 o0_5 o1 o1_1 o1_2 o1_3 o1_4 o1_5 o2 o2_1 (mput (.pr (.int .i64) (.int .i64)) (.pr (.pr (.int .i64) (.int .i64)) (.int .i64)) (o0_4.getD ((IntKind.i64.wrap ((IntKind.i64.wrap (o7 * o0_1)) + x56)).toNat) 0, o1_4.getD ((IntKind.i64.wrap ((IntKind.i64.wrap (o7_1 * o1_1)) + x56)).toNat) 0) ((o7, o7_1), x56) o3) (o4 ++ [(o0_4.getD ((IntKind.i64.wrap ((IntKind.i64.wrap (o7 * o0_1)) + x56)).toNat) 0, o1_4.getD ((IntKind.i64.wrap ((IntKind.i64.wrap (o7_1 * o1_1)) + x56)).toNat) 0)]) o5 o5_1 o6 o7 o7_1))
              none)))
           none)
          none)
         (bi (mhas (.pr (.int .i64) (.int .i64)) (.pr (.pr (.int .i64) (.int .i64)) (.int .i64)) o3 (o0_4.getD ((IntKind.i64.wrap ((IntKind.i64.wrap (o7 * o0_1)) + x56)).toNat) 0, o1_4.getD ((IntKind.i64.wrap ((IntKind.i64.wrap (o7_1 * o1_1)) + x56)).toNat) 0))
          (g37_13 i x55 (IntKind.i64.wrap (x56 + 1)) o0 o0_1 o0_2 o0_3 o0_4 o0_5 o1 o1_1 o1_2 o1_3 o1_4 o1_5 o2 o2_1 o3 o4 o5 o5_1 o6 o7 o7_1)
          (bi (decide ((o4.length + [(o0_4.getD ((IntKind.i64.wrap ((IntKind.i64.wrap (o7 * o0_1)) + x56)).toNat) 0, o1_4.getD ((IntKind.i64.wrap ((IntKind.i64.wrap (o7_1 * o1_1)) + x56)).toNat) 0)].length) * 16 ≤ lim))
           (bi (o0 == 1)
            (bi (decide (0 ≤ (o0_4.getD ((IntKind.i64.wrap ((IntKind.i64.wrap (o7 * o0_1)) + x56)).toNat) 0) ∧ (o0_4.getD ((IntKind.i64.wrap ((IntKind.i64.wrap (o7 * o0_1)) + x56)).toNat) 0) < ((o0_5.length : Nat) : Int)))
             (bi (decide (0 ≤ (o1_4.getD ((IntKind.i64.wrap ((IntKind.i64.wrap (o7_1 * o1_1)) + x56)).toNat) 0) ∧ (o1_4.getD ((IntKind.i64.wrap ((IntKind.i64.wrap (o7_1 * o1_1)) + x56)).toNat) 0) < ((o1_5.length : Nat) : Int)))
              (bi ((o0_5.getD ((o0_4.getD ((IntKind.i64.wrap ((IntKind.i64.wrap (o7 * o0_1)) + x56)).toNat) 0).toNat) 0) != (o1_5.getD ((o1_4.getD ((IntKind.i64.wrap ((IntKind.i64.wrap (o7_1 * o1_1)) + x56)).toNat) 0).toNat) 0))
               (l_differ_back o2 o2_1 (o0_4.getD ((IntKind.i64.wrap ((IntKind.i64.wrap (o7 * o0_1)) + x56)).toNat) 0) (o1_4.getD ((IntKind.i64.wrap ((IntKind.i64.wrap (o7_1 * o1_1)) + x56)).toNat) 0) (mput (.pr (.int .i64) (.int .i64)) (.pr (.pr (.int .i64) (.int .i64)) (.int .i64)) (o0_4.getD ((IntKind.i64.wrap ((IntKind.i64.wrap (o7 * o0_1)) + x56)).toNat) 0, o1_4.getD ((IntKind.i64.wrap ((IntKind.i64.wrap (o7_1 * o1_1)) + x56)).toNat) 0) ((o7, o7_1), x56) o3)
                (fun r11 r12 =>
                 bi (decide ((r12.length + o6.length) * 8 ≤ lim))
                  (K0 true (r12 ++ o6))
                  none))
               (g37_13 i x55 (IntKind.i64.wrap (x56 + 1)) o0 o0_1 o0_2 o0_3 o0_4 o0_5 o1 o1_1 o1_2 o1_3 o1_4 o1_5 o2 o2_1 (mput (.pr (.int .i64) (.int .i64)) (.pr (.pr (.int .i64) (.int .i64)) (.int .i64)) (o0_4.getD ((IntKind.i64.wrap ((IntKind.i64.wrap (o7 * o0_1)) + x56)).toNat) 0, o1_4.getD ((IntKind.i64.wrap ((IntKind.i64.wrap (o7_1 * o1_1)) + x56)).toNat) 0) ((o7, o7_1), x56) o3) (o4 ++ [(o0_4.getD ((IntKind.i64.wrap ((IntKind.i64.wrap (o7 * o0_1)) + x56)).toNat) 0, o1_4.getD ((IntKind.i64.wrap ((IntKind.i64.wrap (o7_1 * o1_1)) + x56)).toNat) 0)]) o5 o5_1 o6 o7 o7_1))
              none)
             none)
            (g37_13 i x55 (IntKind.i64.wrap (x56 + 1)) o0 o0_1 o0_2 o0_3 o0_4 o0_5 o1 o1_1 o1_2 o1_3 o1_4 o1_5 o2 o2_1 (mput (.pr (.int .i64) (.int .i64)) (.pr (.pr (.int .i64) (.int .i64)) (.int .i64)) (o0_4.getD ((IntKind.i64.wrap ((IntKind.i64.wrap (o7 * o0_1)) + x56)).toNat) 0, o1_4.getD ((IntKind.i64.wrap ((IntKind.i64.wrap (o7_1 * o1_1)) + x56)).toNat) 0) ((o7, o7_1), x56) o3) (o4 ++ [(o0_4.getD ((IntKind.i64.wrap ((IntKind.i64.wrap (o7 * o0_1)) + x56)).toNat) 0, o1_4.getD ((IntKind.i64.wrap ((IntKind.i64.wrap (o7_1 * o1_1)) + x56)).toNat) 0)]) o5 o5_1 o6 o7 o7_1))
           none))))
       none)
      none)
     (g37_9 (IntKind.i64.wrap (i + 1)) o0 o0_1 o0_2 o0_3 o0_4 o0_5 o1 o1_1 o1_2 o1_3 o1_4 o1_5 o2 o2_1 o3 o4 o5 o5_1 o6)) (fun i o0 o0_1 o0_2 o0_3 o0_4 o0_5 o1 o1_1 o1_2 o1_3 o1_4 o1_5 o2 o2_1 o3 o4 o5 o5_1 o6 => g (at' Try.f37 9) ⟨fr0 145 [(3, .ptr 0 0), (4, .ptr 1 0), (5, .ptr 2 0), (8, .mp 3), (9, .own 4), (10, .ptr 5 0), (11, .own 6), (12, .v (.int .i64 i))], [.box 24 [.v (.int .i64 o0), .v (.int .i64 o0_1), .v (.int .i64 o0_2), .v (.int .i64 o0_3), .rd ⟨false, 3, (.int .i64), o0_4⟩, .rd ⟨false, 3, (.int .i64), o0_5⟩], .box 24 [.v (.int .i64 o1), .v (.int .i64 o1_1), .v (.int .i64 o1_2), .v (.int .i64 o1_3), .rd ⟨false, 3, (.int .i64), o1_4⟩, .rd ⟨false, 3, (.int .i64), o1_5⟩], .box 88 [.v (.int .i64 o2), .v (.int .i64 o2_1)], .map (.pr (.int .i64) (.int .i64)) (.pr (.pr (.int .i64) (.int .i64)) (.int .i64)) o3, .row ⟨true, 88, (.pr (.int .i64) (.int .i64)), o4⟩, .box 88 [.v (.int .i64 o5), .v (.int .i64 o5_1)], .row ⟨true, 3, (.int .i64), o6⟩]⟩) (fun i x55 x56 o0 o0_1 o0_2 o0_3 o0_4 o0_5 o1 o1_1 o1_2 o1_3 o1_4 o1_5 o2 o2_1 o3 o4 o5 o5_1 o6 o7 o7_1 => g (at' Try.f37 13) ⟨fr0 145 [(3, .ptr 0 0), (4, .ptr 1 0), (5, .ptr 2 0), (8, .mp 3), (9, .own 4), (10, .ptr 5 0), (11, .own 6), (12, .v (.int .i64 i)), (13, .ptr 7 0), (55, .v (.int .i64 x55)), (56, .v (.int .i64 x56))], [.box 24 [.v (.int .i64 o0), .v (.int .i64 o0_1), .v (.int .i64 o0_2), .v (.int .i64 o0_3), .rd ⟨false, 3, (.int .i64), o0_4⟩, .rd ⟨false, 3, (.int .i64), o0_5⟩], .box 24 [.v (.int .i64 o1), .v (.int .i64 o1_1), .v (.int .i64 o1_2), .v (.int .i64 o1_3), .rd ⟨false, 3, (.int .i64), o1_4⟩, .rd ⟨false, 3, (.int .i64), o1_5⟩], .box 88 [.v (.int .i64 o2), .v (.int .i64 o2_1)], .map (.pr (.int .i64) (.int .i64)) (.pr (.pr (.int .i64) (.int .i64)) (.int .i64)) o3, .row ⟨true, 88, (.pr (.int .i64) (.int .i64)), o4⟩, .box 88 [.v (.int .i64 o5), .v (.int .i64 o5_1)], .row ⟨true, 3, (.int .i64), o6⟩, .box 88 [.v (.int .i64 o7), .v (.int .i64 o7_1)]]⟩) (fun r0 r1 => K (.tup [.own 0, .v (.bool r0)]) [.row ⟨true, 3, (.int .i64), r1⟩]) i x55 x56 o0 o0_1 o0_2 o0_3 o0_4 o0_5 o1 o1_1 o1_2 o1_3 o1_4 o1_5 o2 o2_1 o3 o4 o5 o5_1 o6 o7 o7_1 := by kernel_rfl

theorem step_differ_search_13 {R : Type} (g : List Item → St → Option R) (K : AV → List O → Option R) (i : Int) (x55 : Int) (x56 : Int) (o0 : Int) (o0_1 : Int) (o0_2 : Int) (o0_3 : Int) (o0_4 : List Int) (o0_5 : List Int) (o1 : Int) (o1_1 : Int) (o1_2 : Int) (o1_3 : Int) (o1_4 : List Int) (o1_5 : List Int) (o2 : Int) (o2_1 : Int) (o3 : List ((Int × Int) × ((Int × Int) × Int))) (o4 : List (Int × Int)) (o5 : Int) (o5_1 : Int) (o6 : List Int) (o7 : Int) (o7_1 : Int) :
    runSeg Try.prog (T_differ_search @l_differ_back) cuts_differ_search 0 g (finish Try.prog Try.f37 0 K) (at' Try.f37 13) ⟨fr0 145 [(3, .ptr 0 0), (4, .ptr 1 0), (5, .ptr 2 0), (8, .mp 3), (9, .own 4), (10, .ptr 5 0), (11, .own 6), (12, .v (.int .i64 i)), (13, .ptr 7 0), (55, .v (.int .i64 x55)), (56, .v (.int .i64 x56))], [.box 24 [.v (.int .i64 o0), .v (.int .i64 o0_1), .v (.int .i64 o0_2), .v (.int .i64 o0_3), .rd ⟨false, 3, (.int .i64), o0_4⟩, .rd ⟨false, 3, (.int .i64), o0_5⟩], .box 24 [.v (.int .i64 o1), .v (.int .i64 o1_1), .v (.int .i64 o1_2), .v (.int .i64 o1_3), .rd ⟨false, 3, (.int .i64), o1_4⟩, .rd ⟨false, 3, (.int .i64), o1_5⟩], .box 88 [.v (.int .i64 o2), .v (.int .i64 o2_1)], .map (.pr (.int .i64) (.int .i64)) (.pr (.pr (.int .i64) (.int .i64)) (.int .i64)) o3, .row ⟨true, 88, (.pr (.int .i64) (.int .i64)), o4⟩, .box 88 [.v (.int .i64 o5), .v (.int .i64 o5_1)], .row ⟨true, 3, (.int .i64), o6⟩, .box 88 [.v (.int .i64 o7), .v (.int .i64 o7_1)]]⟩ =
    s_differ_search_13 (fun i o0 o0_1 o0_2 o0_3 o0_4 o0_5 o1 o1_1 o1_2 o1_3 o1_4 o1_5 o2 o2_1 o3 o4 o5 o5_1 o6 => g (at' Try.f37 9) ⟨fr0 145 [(3, .ptr 0 0), (4, .ptr 1 0), (5, .ptr 2 0), (8, .mp 3), (9, .own 4), (10, .ptr 5 0), (11, .own 6), (12, .v (.int .i64 i))], [.box 24 [.v (.int .i64 o0), .v (.int .i64 o0_1), .v (.int .i64 o0_2), .v (.int .i64 o0_3), .rd ⟨false, 3, (.int .i64), o0_4⟩, .rd ⟨false, 3, (.int .i64), o0_5⟩], .box 24 [.v (.int .i64 o1), .v (.int .i64 o1_1), .v (.int .i64 o1_2), .v (.int .i64 o1_3), .rd ⟨false, 3, (.int .i64), o1_4⟩, .rd ⟨false, 3, (.int .i64), o1_5⟩], .box 88 [.v (.int .i64 o2), .v (.int .i64 o2_1)], .map (.pr (.int .i64) (.int .i64)) (.pr (.pr (.int .i64) (.int .i64)) (.int .i64)) o3, .row ⟨true, 88, (.pr (.int .i64) (.int .i64)), o4⟩, .box 88 [.v (.int .i64 o5), .v (.int .i64 o5_1)], .row ⟨true, 3, (.int .i64), o6⟩]⟩) (fun i x55 x56 o0 o0_1 o0_2 o0_3 o0_4 o0_5 o1 o1_1 o1_2 o1_3 o1_4 o1_5 o2 o2_1 o3 o4 o5 o5_1 o6 o7 o7_1 => g (at' Try.f37 13) ⟨fr0 145 [(3, .ptr 0 0), (4, .ptr 1 0), (5, .ptr 2 0), (8, .mp 3), (9, .own 4), (10, .ptr 5 0), (11, .own 6), (12, .v (.int .i64 i)), (13, .ptr 7 0), (55, .v (.int .i64 x55)), (56, .v (.int .i64 x56))], [.box 24 [.v (.int .i64 o0), .v (.int .i64 o0_1), .v (.int .i64 o0_2), .v (.int .i64 o0_3), .rd ⟨false, 3, (.int .i64), o0_4⟩, .rd ⟨false, 3, (.int .i64), o0_5⟩], .box 24 [.v (.int .i64 o1), .v (.int .i64 o1_1), .v (.int .i64 o1_2), .v (.int .i64 o1_3), .rd ⟨false, 3, (.int .i64), o1_4⟩, .rd ⟨false, 3, (.int .i64), o1_5⟩], .box 88 [.v (.int .i64 o2), .v (.int .i64 o2_1)], .map (.pr (.int .i64) (.int .i64)) (.pr (.pr (.int .i64) (.int .i64)) (.int .i64)) o3, .row ⟨true, 88, (.pr (.int .i64) (.int .i64)), o4⟩, .box 88 [.v (.int .i64 o5), .v (.int .i64 o5_1)], .row ⟨true, 3, (.int .i64), o6⟩, .box 88 [.v (.int .i64 o7), .v (.int .i64 o7_1)]]⟩) (fun r0 r1 => K (.tup [.own 0, .v (.bool r0)]) [.row ⟨true, 3, (.int .i64), r1⟩]) i x55 x56 o0 o0_1 o0_2 o0_3 o0_4 o0_5 o1 o1_1 o1_2 o1_3 o1_4 o1_5 o2 o2_1 o3 o4 o5 o5_1 o6 o7 o7_1 := gstep_differ_search_13 @l_differ_back g K i x55 x56 o0 o0_1 o0_2 o0_3 o0_4 o0_5 o1 o1_1 o1_2 o1_3 o1_4 o1_5 o2 o2_1 o3 o4 o5 o5_1 o6 o7 o7_1

theorem gentry_differ_search (l_differ_back : {R : Type} → Int → Int → Int → Int → (List ((Int × Int) × ((Int × Int) × Int))) → ((List ((Int × Int) × ((Int × Int) × Int))) → (List Int) → Option R) → Option R) {R : Type} (fuel : Nat) (K : AV → List O → Option R) (a : Int) (a_1 : Int) (a_2 : Int) (a_3 : Int) (a_4 : List Int) (a_5 : List Int) (b : Int) (b_1 : Int) (b_2 : Int) (b_3 : Int) (b_4 : List Int) (b_5 : List Int) (start : Int) (start_1 : Int) :
    fnRun Try.prog (T_differ_search @l_differ_back) cuts_differ_search Try.f37 fuel [.agg [.v (.int .i64 a), .v (.int .i64 a_1), .v (.int .i64 a_2), .v (.int .i64 a_3), .rd ⟨false, 3, (.int .i64), a_4⟩, .rd ⟨false, 3, (.int .i64), a_5⟩], .agg [.v (.int .i64 b), .v (.int .i64 b_1), .v (.int .i64 b_2), .v (.int .i64 b_3), .rd ⟨false, 3, (.int .i64), b_4⟩, .rd ⟨false, 3, (.int .i64), b_5⟩], .agg [.v (.int .i64 start), .v (.int .i64 start_1)]] [] K =
    (fun (g37_9 : Int → Int → Int → Int → Int → (List Int) → (List Int) → Int → Int → Int → Int → (List Int) → (List Int) → Int → Int → (List ((Int × Int) × ((Int × Int) × Int))) → (List (Int × Int)) → Int → Int → (List Int) → Option R) (g37_13 : Int → Int → Int → Int → Int → Int → Int → (List Int) → (List Int) → Int → Int → Int → Int → (List Int) → (List Int) → Int → Int → (List ((Int × Int) × ((Int × Int) × Int))) → (List (Int × Int)) → Int → Int → (List Int) → Int → Int → Option R) (K0 : Bool → (List Int) → Option R) (a : Int) (a_1 : Int) (a_2 : Int) (a_3 : Int) (a_4 : List Int) (a_5 : List Int) (b : Int) (b_1 : Int) (b_2 : Int) (b_3 : Int) (b_4 : List Int) (b_5 : List Int) (start : Int) (start_1 : Int) =>
    bi (a == 1)
     (bi (decide (0 ≤ start ∧ start < ((a_5.length : Nat) : Int)))
      (bi (decide (0 ≤ start_1 ∧ start_1 < ((b_5.length : Nat) : Int)))
       (bi ((a_5.getD start.toNat 0) != (b_5.getD start_1.toNat 0))
        (K0 true ([] : List Int))
        (g37_9 0 a a_1 a_2 a_3 a_4 a_5 b b_1 b_2 b_3 b_4 b_5 start start_1 (mput (.pr (.int .i64) (.int .i64)) (.pr (.pr (.int .i64) (.int .i64)) (.int .i64)) (start, start_1) ((0, 0), 0) ([] : List ((Int × Int) × ((Int × Int) × Int)))) [(start, start_1)] 0 0 ([] : List Int)))
       none)
      none)
     (g37_9 0 a a_1 a_2 a_3 a_4 a_5 b b_1 b_2 b_3 b_4 b_5 start start_1 (mput (.pr (.int .i64) (.int .i64)) (.pr (.pr (.int .i64) (.int .i64)) (.int .i64)) (start, start_1) ((0, 0), 0) ([] : List ((Int × Int) × ((Int × Int) × Int)))) [(start, start_1)] 0 0 ([] : List Int))) (fun i o0 o0_1 o0_2 o0_3 o0_4 o0_5 o1 o1_1 o1_2 o1_3 o1_4 o1_5 o2 o2_1 o3 o4 o5 o5_1 o6 => (runO Try.prog (T_differ_search @l_differ_back) cuts_differ_search 0 (finish Try.prog Try.f37 0 K) fuel) (at' Try.f37 9) ⟨fr0 145 [(3, .ptr 0 0), (4, .ptr 1 0), (5, .ptr 2 0), (8, .mp 3), (9, .own 4), (10, .ptr 5 0), (11, .own 6), (12, .v (.int .i64 i))], [.box 24 [.v (.int .i64 o0), .v (.int .i64 o0_1), .v (.int .i64 o0_2), .v (.int .i64 o0_3), .rd ⟨false, 3, (.int .i64), o0_4⟩, .rd ⟨false, 3, (.int .i64), o0_5⟩], .box 24 [.v (.int .i64 o1), .v (.int .i64 o1_1), .v (.int .i64 o1_2), .v (.int .i64 o1_3), .rd ⟨false, 3, (.int .i64), o1_4⟩, .rd ⟨false, 3, (.int .i64), o1_5⟩], .box 88 [.v (.int .i64 o2), .v (.int .i64 o2_1)], .map (.pr (.int .i64) (.int .i64)) (.pr (.pr (.int .i64) (.int .i64)) (.int .i64)) o3, .row ⟨true, 88, (.pr (.int .i64) (.int .i64)), o4⟩, .box 88 [.v (.int .i64 o5), .v (.int .i64 o5_1)], .row ⟨true, 3, (.int .i64), o6⟩]⟩) (fun i x55 x56 o0 o0_1 o0_2 o0_3 o0_4 o0_5 o1 o1_1 o1_2 o1_3 o1_4 o1_5 o2 o2_1 o3 o4 o5 o5_1 o6 o7 o7_1 => (runO Try.prog (T_differ_search @l_differ_back) cuts_differ_search 0 (finish Try.prog Try.f37 0 K) fuel) (at' Try.f37 13) ⟨fr0 145 [(3, .ptr 0 0), (4, .ptr 1 0), (5, .ptr 2 0), (8, .mp 3), (9, .own 4), (10, .ptr 5 0), (11, .own 6), (12, .v (.int .i64 i)), (13, .ptr 7 0), (55, .v (.int .i64 x55)), (56, .v (.int .i64 x56))], [.box 24 [.v (.int .i64 o0), .v (.int .i64 o0_1), .v (.int .i64 o0_2), .v (.int .i64 o0_3), .rd ⟨false, 3, (.int .i64), o0_4⟩, .rd ⟨false, 3, (.int .i64), o0_5⟩], .box 24 [.v (.int .i64 o1), .v (.int .i64 o1_1), .v (.int .i64 o1_2), .v (.int .i64 o1_3), .rd ⟨false, 3, (.int .i64), o1_4⟩, .rd ⟨false, 3, (.int .i64), o1_5⟩], .box 88 [.v (.int .i64 o2), .v (.int .i64 o2_1)], .map (.pr (.int .i64) (.int .i64)) (.pr (.pr (.int .i64) (.int .i64)) (.int .i64)) o3, .row ⟨true, 88, (.pr (.int .i64) (.int .i64)), o4⟩, .box 88 [.v (.int .i64 o5), .v (.int .i64 o5_1)], .row ⟨true, 3, (.int .i64), o6⟩, .box 88 [.v (.int .i64 o7), .v (.int .i64 o7_1)]]⟩) (fun r0 r1 => K (.tup [.own 0, .v (.bool r0)]) [.row ⟨true, 3, (.int .i64), r1⟩]) a a_1 a_2 a_3 a_4 a_5 b b_1 b_2 b_3 b_4 b_5 start start_1 := by kernel_rfl

theorem entry_differ_search {R : Type} (fuel : Nat) (K : AV → List O → Option R) (a : Int) (a_1 : Int) (a_2 : Int) (a_3 : Int) (a_4 : List Int) (a_5 : List Int) (b : Int) (b_1 : Int) (b_2 : Int) (b_3 : Int) (b_4 : List Int) (b_5 : List Int) (start : Int) (start_1 : Int) :
    fnRun Try.prog (T_differ_search @l_differ_back) cuts_differ_search Try.f37 fuel [.agg [.v (.int .i64 a), .v (.int .i64 a_1), .v (.int .i64 a_2), .v (.int .i64 a_3), .rd ⟨false, 3, (.int .i64), a_4⟩, .rd ⟨false, 3, (.int .i64), a_5⟩], .agg [.v (.int .i64 b), .v (.int .i64 b_1), .v (.int .i64 b_2), .v (.int .i64 b_3), .rd ⟨false, 3, (.int .i64), b_4⟩, .rd ⟨false, 3, (.int .i64), b_5⟩], .agg [.v (.int .i64 start), .v (.int .i64 start_1)]] [] K =
    e_differ_search (fun i o0 o0_1 o0_2 o0_3 o0_4 o0_5 o1 o1_1 o1_2 o1_3 o1_4 o1_5 o2 o2_1 o3 o4 o5 o5_1 o6 => (runO Try.prog (T_differ_search @l_differ_back) cuts_differ_search 0 (finish Try.prog Try.f37 0 K) fuel) (at' Try.f37 9) ⟨fr0 145 [(3, .ptr 0 0), (4, .ptr 1 0), (5, .ptr 2 0), (8, .mp 3), (9, .own 4), (10, .ptr 5 0), (11, .own 6), (12, .v (.int .i64 i))], [.box 24 [.v (.int .i64 o0), .v (.int .i64 o0_1), .v (.int .i64 o0_2), .v (.int .i64 o0_3), .rd ⟨false, 3, (.int .i64), o0_4⟩, .rd ⟨false, 3, (.int .i64), o0_5⟩], .box 24 [.v (.int .i64 o1), .v (.int .i64 o1_1), .v (.int .i64 o1_2), .v (.int .i64 o1_3), .rd ⟨false, 3, (.int .i64), o1_4⟩, .rd ⟨false, 3, (.int .i64), o1_5⟩], .box 88 [.v (.int .i64 o2), .v (.int .i64 o2_1)], .map (.pr (.int .i64) (.int .i64)) (.pr (.pr (.int .i64) (.int .i64)) (.int .i64)) o3, .row ⟨true, 88, (.pr (.int .i64) (.int .i64)), o4⟩, .box 88 [.v (.int .i64 o5), .v (.int .i64 o5_1)], .row ⟨true, 3, (.int .i64), o6⟩]⟩) (fun i x55 x56 o0 o0_1 o0_2 o0_3 o0_4 o0_5 o1 o1_1 o1_2 o1_3 o1_4 o1_5 o2 o2_1 o3 o4 o5 o5_1 o6 o7 o7_1 => (runO Try.prog (T_differ_search @l_differ_back) cuts_differ_search 0 (finish Try.prog Try.f37 0 K) fuel) (at' Try.f37 13) ⟨fr0 145 [(3, .ptr 0 0), (4, .ptr 1 0), (5, .ptr 2 0), (8, .mp 3), (9, .own 4), (10, .ptr 5 0), (11, .own 6), (12, .v (.int .i64 i)), (13, .ptr 7 0), (55, .v (.int .i64 x55)), (56, .v (.int .i64 x56))], [.box 24 [.v (.int .i64 o0), .v (.int .i64 o0_1), .v (.int .i64 o0_2), .v (.int .i64 o0_3), .rd ⟨false, 3, (.int .i64), o0_4⟩, .rd ⟨false, 3, (.int .i64), o0_5⟩], .box 24 [.v (.int .i64 o1), .v (.int .i64 o1_1), .v (.int .i64 o1_2), .v (.int .i64 o1_3), .rd ⟨false, 3, (.int .i64), o1_4⟩, .rd ⟨false, 3, (.int .i64), o1_5⟩], .box 88 [.v (.int .i64 o2), .v (.int .i64 o2_1)], .map (.pr (.int .i64) (.int .i64)) (.pr (.pr (.int .i64) (.int .i64)) (.int .i64)) o3, .row ⟨true, 88, (.pr (.int .i64) (.int .i64)), o4⟩, .box 88 [.v (.int .i64 o5), .v (.int .i64 o5_1)], .row ⟨true, 3, (.int .i64), o6⟩, .box 88 [.v (.int .i64 o7), .v (.int .i64 o7_1)]]⟩) (fun r0 r1 => K (.tup [.own 0, .v (.bool r0)]) [.row ⟨true, 3, (.int .i64), r1⟩]) a a_1 a_2 a_3 a_4 a_5 b b_1 b_2 b_3 b_4 b_5 start start_1 := gentry_differ_search @l_differ_back fuel K a a_1 a_2 a_3 a_4 a_5 b b_1 b_2 b_3 b_4 b_5 start start_1

theorem runs_differ_search {R : Type} (K : AV → List O → Option R) : ∀ fuel : Nat,
    (fun i o0 o0_1 o0_2 o0_3 o0_4 o0_5 o1 o1_1 o1_2 o1_3 o1_4 o1_5 o2 o2_1 o3 o4 o5 o5_1 o6 => (runO Try.prog (T_differ_search @l_differ_back) cuts_differ_search 0 (finish Try.prog Try.f37 0 K) fuel) (at' Try.f37 9) ⟨fr0 145 [(3, .ptr 0 0), (4, .ptr 1 0), (5, .ptr 2 0), (8, .mp 3), (9, .own 4), (10, .ptr 5 0), (11, .own 6), (12, .v (.int .i64 i))], [.box 24 [.v (.int .i64 o0), .v (.int .i64 o0_1), .v (.int .i64 o0_2), .v (.int .i64 o0_3), .rd ⟨false, 3, (.int .i64), o0_4⟩, .rd ⟨false, 3, (.int .i64), o0_5⟩], .box 24 [.v (.int .i64 o1), .v (.int .i64 o1_1), .v (.int .i64 o1_2), .v (.int .i64 o1_3), .rd ⟨false, 3, (.int .i64), o1_4⟩, .rd ⟨false, 3, (.int .i64), o1_5⟩], .box 88 [.v (.int .i64 o2), .v (.int .i64 o2_1)], .map (.pr (.int .i64) (.int .i64)) (.pr (.pr (.int .i64) (.int .i64)) (.int .i64)) o3, .row ⟨true, 88, (.pr (.int .i64) (.int .i64)), o4⟩, .box 88 [.v (.int .i64 o5), .v (.int .i64 o5_1)], .row ⟨true, 3, (.int .i64), o6⟩]⟩) = (run_differ_search (fun r0 r1 => K (.tup [.own 0, .v (.bool r0)]) [.row ⟨true, 3, (.int .i64), r1⟩]) fuel).1 ∧
    (fun i x55 x56 o0 o0_1 o0_2 o0_3 o0_4 o0_5 o1 o1_1 o1_2 o1_3 o1_4 o1_5 o2 o2_1 o3 o4 o5 o5_1 o6 o7 o7_1 => (runO Try.prog (T_differ_search @l_differ_back) cuts_differ_search 0 (finish Try.prog Try.f37 0 K) fuel) (at' Try.f37 13) ⟨fr0 145 [(3, .ptr 0 0), (4, .ptr 1 0), (5, .ptr 2 0), (8, .mp 3), (9, .own 4), (10, .ptr 5 0), (11, .own 6), (12, .v (.int .i64 i)), (13, .ptr 7 0), (55, .v (.int .i64 x55)), (56, .v (.int .i64 x56))], [.box 24 [.v (.int .i64 o0), .v (.int .i64 o0_1), .v (.int .i64 o0_2), .v (.int .i64 o0_3), .rd ⟨false, 3, (.int .i64), o0_4⟩, .rd ⟨false, 3, (.int .i64), o0_5⟩], .box 24 [.v (.int .i64 o1), .v (.int .i64 o1_1), .v (.int .i64 o1_2), .v (.int .i64 o1_3), .rd ⟨false, 3, (.int .i64), o1_4⟩, .rd ⟨false, 3, (.int .i64), o1_5⟩], .box 88 [.v (.int .i64 o2), .v (.int .i64 o2_1)], .map (.pr (.int .i64) (.int .i64)) (.pr (.pr (.int .i64) (.int .i64)) (.int .i64)) o3, .row ⟨true, 88, (.pr (.int .i64) (.int .i64)), o4⟩, .box 88 [.v (.int .i64 o5), .v (.int .i64 o5_1)], .row ⟨true, 3, (.int .i64), o6⟩, .box 88 [.v (.int .i64 o7), .v (.int .i64 o7_1)]]⟩) = (run_differ_search (fun r0 r1 => K (.tup [.own 0, .v (.bool r0)]) [.row ⟨true, 3, (.int .i64), r1⟩]) fuel).2
  | 0 => ⟨rfl, rfl⟩
  | fuel + 1 => by
    have ih := runs_differ_search K fuel
    refine ⟨?_, ?_⟩
    · funext i o0 o0_1 o0_2 o0_3 o0_4 o0_5 o1 o1_1 o1_2 o1_3 o1_4 o1_5 o2 o2_1 o3 o4 o5 o5_1 o6
      refine (step_differ_search_9 _ K i o0 o0_1 o0_2 o0_3 o0_4 o0_5 o1 o1_1 o1_2 o1_3 o1_4 o1_5 o2 o2_1 o3 o4 o5 o5_1 o6).trans ?_
      rw [ih.1, ih.2]
      rfl
    · funext i x55 x56 o0 o0_1 o0_2 o0_3 o0_4 o0_5 o1 o1_1 o1_2 o1_3 o1_4 o1_5 o2 o2_1 o3 o4 o5 o5_1 o6 o7 o7_1
      refine (step_differ_search_13 _ K i x55 x56 o0 o0_1 o0_2 o0_3 o0_4 o0_5 o1 o1_1 o1_2 o1_3 o1_4 o1_5 o2 o2_1 o3 o4 o5 o5_1 o6 o7 o7_1).trans ?_
      rw [ih.1, ih.2]
      rfl

def S_differ_search (l_differ_search : {R : Type} → Int → Int → Int → Int → (List Int) → (List Int) → Int → Int → Int → Int → (List Int) → (List Int) → Int → Int → (Bool → (List Int) → Option R) → Option R) : Sum := ⟨[], fun {R} args ob K => match args, ob with
  | [.agg [.v (.int .i64 a), .v (.int .i64 a_1), .v (.int .i64 a_2), .v (.int .i64 a_3), .rd ⟨false, 3, (.int .i64), a_4⟩, .rd ⟨false, 3, (.int .i64), a_5⟩], .agg [.v (.int .i64 b), .v (.int .i64 b_1), .v (.int .i64 b_2), .v (.int .i64 b_3), .rd ⟨false, 3, (.int .i64), b_4⟩, .rd ⟨false, 3, (.int .i64), b_5⟩], .agg [.v (.int .i64 start), .v (.int .i64 start_1)]], [] => l_differ_search a a_1 a_2 a_3 a_4 a_5 b b_1 b_2 b_3 b_4 b_5 start start_1 (fun r0 r1 => K (.tup [.own 0, .v (.bool r0)]) [.row ⟨true, 3, (.int .i64), r1⟩])
  | _, _ => none⟩

theorem sound_differ_search : Sound Try.prog 37 (S_differ_search @l_differ_search) := by
  refine fn_sound (cuts := cuts_differ_search) (fn := Try.f37) (Γ := (T_differ_search @l_differ_back)) wide right_T_differ_search Try.func37 fun {R} K r args ob h => ?_
  unfold S_differ_search at h
  dsimp only at h
  split at h
  · obtain ⟨n, hn⟩ := ok_differ_search _ _ _ _ _ _ _ _ _ _ _ _ _ _ _ h
    refine ⟨Nat.le_of_ble_eq_true (by kernel_rfl), n, (entry_differ_search n K _ _ _ _ _ _ _ _ _ _ _ _ _ _).trans ?_⟩
    rw [(runs_differ_search K n).1, (runs_differ_search K n).2]
    exact hn
  · cases h

theorem call_differ_search : Callable Try.prog 37 := ⟨_, Try.func37, by kernel_rfl, by kernel_rfl⟩

def T_differ_Separate (l_differ_search : {R : Type} → Int → Int → Int → Int → (List Int) → (List Int) → Int → Int → Int → Int → (List Int) → (List Int) → Int → Int → (Bool → (List Int) → Option R) → Option R) (l_differ_fit : {R : Type} → Int → Int → Int → Int → (List Int) → (List Int) → Int → Int → Int → Int → (List Int) → (List Int) → (Int → Option R) → Option R) : FuncId → Option Sum := (addS (addS G0 37 (S_differ_search @l_differ_search)) 36 (S_differ_fit @l_differ_fit))

theorem right_T_differ_Separate : Right Try.prog (T_differ_Separate @l_differ_search @l_differ_fit) := (right_add (right_add right_G0 call_differ_search sound_differ_search) call_differ_fit sound_differ_fit)

abbrev cuts_differ_Separate : Cuts := []

theorem gentry_differ_Separate (l_differ_search : {R : Type} → Int → Int → Int → Int → (List Int) → (List Int) → Int → Int → Int → Int → (List Int) → (List Int) → Int → Int → (Bool → (List Int) → Option R) → Option R) (l_differ_fit : {R : Type} → Int → Int → Int → Int → (List Int) → (List Int) → Int → Int → Int → Int → (List Int) → (List Int) → (Int → Option R) → Option R) {R : Type} (K : AV → List O → Option R) (a : Int) (a_1 : Int) (a_2 : Int) (a_3 : Int) (a_4 : List Int) (a_5 : List Int) (b : Int) (b_1 : Int) (b_2 : Int) (b_3 : Int) (b_4 : List Int) (b_5 : List Int) :
    fnRun Try.prog (T_differ_Separate @l_differ_search @l_differ_fit) cuts_differ_Separate Try.f25 0 [.agg [.v (.int .i64 a), .v (.int .i64 a_1), .v (.int .i64 a_2), .v (.int .i64 a_3), .rd ⟨false, 3, (.int .i64), a_4⟩, .rd ⟨false, 3, (.int .i64), a_5⟩], .agg [.v (.int .i64 b), .v (.int .i64 b_1), .v (.int .i64 b_2), .v (.int .i64 b_3), .rd ⟨false, 3, (.int .i64), b_4⟩, .rd ⟨false, 3, (.int .i64), b_5⟩]] [] K =
    (fun (a : Int) (a_1 : Int) (a_2 : Int) (a_3 : Int) (a_4 : List Int) (a_5 : List Int) (b : Int) (b_1 : Int) (b_2 : Int) (b_3 : Int) (b_4 : List Int) (b_5 : List Int) (K0 : Bool → Int → (List Int) → Option R) =>
    l_differ_fit a a_1 a_2 a_3 a_4 a_5 b b_1 b_2 b_3 b_4 b_5
     (fun r1 =>
      bi (r1 != 0)
       (K0 false r1 ([] : List Int))
       (l_differ_search a a_1 a_2 a_3 a_4 a_5 b b_1 b_2 b_3 b_4 b_5 0 0
        (fun r2 r3 =>
         K0 r2 0 r3)))) a a_1 a_2 a_3 a_4 a_5 b b_1 b_2 b_3 b_4 b_5 (fun r0 r1 r2 => K (.tup [.own 0, .v (.bool r0), .v (.int .i64 r1)]) [.row ⟨true, 3, (.int .i64), r2⟩]) := by kernel_rfl

theorem entry_differ_Separate {R : Type} (K : AV → List O → Option R) (a : Int) (a_1 : Int) (a_2 : Int) (a_3 : Int) (a_4 : List Int) (a_5 : List Int) (b : Int) (b_1 : Int) (b_2 : Int) (b_3 : Int) (b_4 : List Int) (b_5 : List Int) :
    fnRun Try.prog (T_differ_Separate @l_differ_search @l_differ_fit) cuts_differ_Separate Try.f25 0 [.agg [.v (.int .i64 a), .v (.int .i64 a_1), .v (.int .i64 a_2), .v (.int .i64 a_3), .rd ⟨false, 3, (.int .i64), a_4⟩, .rd ⟨false, 3, (.int .i64), a_5⟩], .agg [.v (.int .i64 b), .v (.int .i64 b_1), .v (.int .i64 b_2), .v (.int .i64 b_3), .rd ⟨false, 3, (.int .i64), b_4⟩, .rd ⟨false, 3, (.int .i64), b_5⟩]] [] K =
    l_differ_Separate a a_1 a_2 a_3 a_4 a_5 b b_1 b_2 b_3 b_4 b_5 (fun r0 r1 r2 => K (.tup [.own 0, .v (.bool r0), .v (.int .i64 r1)]) [.row ⟨true, 3, (.int .i64), r2⟩]) := gentry_differ_Separate @l_differ_search @l_differ_fit K a a_1 a_2 a_3 a_4 a_5 b b_1 b_2 b_3 b_4 b_5

def S_differ_Separate (l_differ_Separate : {R : Type} → Int → Int → Int → Int → (List Int) → (List Int) → Int → Int → Int → Int → (List Int) → (List Int) → (Bool → Int → (List Int) → Option R) → Option R) : Sum := ⟨[], fun {R} args ob K => match args, ob with
  | [.agg [.v (.int .i64 a), .v (.int .i64 a_1), .v (.int .i64 a_2), .v (.int .i64 a_3), .rd ⟨false, 3, (.int .i64), a_4⟩, .rd ⟨false, 3, (.int .i64), a_5⟩], .agg [.v (.int .i64 b), .v (.int .i64 b_1), .v (.int .i64 b_2), .v (.int .i64 b_3), .rd ⟨false, 3, (.int .i64), b_4⟩, .rd ⟨false, 3, (.int .i64), b_5⟩]], [] => l_differ_Separate a a_1 a_2 a_3 a_4 a_5 b b_1 b_2 b_3 b_4 b_5 (fun r0 r1 r2 => K (.tup [.own 0, .v (.bool r0), .v (.int .i64 r1)]) [.row ⟨true, 3, (.int .i64), r2⟩])
  | _, _ => none⟩

theorem sound_differ_Separate : Sound Try.prog 25 (S_differ_Separate @l_differ_Separate) := by
  refine fn_sound (cuts := cuts_differ_Separate) (fn := Try.f25) (Γ := (T_differ_Separate @l_differ_search @l_differ_fit)) wide right_T_differ_Separate Try.func25 fun {R} K r args ob h => ?_
  unfold S_differ_Separate at h
  dsimp only at h
  split at h
  · exact ⟨Nat.le_of_ble_eq_true (by kernel_rfl), 0, (entry_differ_Separate K _ _ _ _ _ _ _ _ _ _ _ _).trans h⟩
  · cases h

theorem call_differ_Separate : Callable Try.prog 25 := ⟨_, Try.func25, by kernel_rfl, by kernel_rfl⟩

def T_teach_Tell (l_machine_Run : {R : Type} → Int → Int → Int → Int → (List Int) → (List Int) → (List Int) → (Int → (List Int) → Option R) → Option R) (l_differ_Separate : {R : Type} → Int → Int → Int → Int → (List Int) → (List Int) → Int → Int → Int → Int → (List Int) → (List Int) → (Bool → Int → (List Int) → Option R) → Option R) (l_machine_Check : {R : Type} → Int → Int → Int → Int → (List Int) → (List Int) → (Int → Int → Option R) → Option R) : FuncId → Option Sum := (addS (addS (addS G0 24 (S_machine_Run @l_machine_Run)) 25 (S_differ_Separate @l_differ_Separate)) 23 (S_machine_Check @l_machine_Check))

theorem right_T_teach_Tell : Right Try.prog (T_teach_Tell @l_machine_Run @l_differ_Separate @l_machine_Check) := (right_add (right_add (right_add right_G0 call_machine_Run sound_machine_Run) call_differ_Separate sound_differ_Separate) call_machine_Check sound_machine_Check)

abbrev cuts_teach_Tell : Cuts := []

theorem gentry_teach_Tell (l_machine_Run : {R : Type} → Int → Int → Int → Int → (List Int) → (List Int) → (List Int) → (Int → (List Int) → Option R) → Option R) (l_differ_Separate : {R : Type} → Int → Int → Int → Int → (List Int) → (List Int) → Int → Int → Int → Int → (List Int) → (List Int) → (Bool → Int → (List Int) → Option R) → Option R) (l_machine_Check : {R : Type} → Int → Int → Int → Int → (List Int) → (List Int) → (Int → Int → Option R) → Option R) {R : Type} (K : AV → List O → Option R) (m : Int) (m_1 : Int) (m_2 : Int) (m_3 : Int) (m_4 : List Int) (m_5 : List Int) (q : Int) (q_1 : List Int) (q_2 : Int) (q_3 : Int) (q_4 : Int) (q_5 : Int) (q_6 : List Int) (q_7 : List Int) :
    fnRun Try.prog (T_teach_Tell @l_machine_Run @l_differ_Separate @l_machine_Check) cuts_teach_Tell Try.f12 0 [.agg [.v (.int .i64 m), .v (.int .i64 m_1), .v (.int .i64 m_2), .v (.int .i64 m_3), .rd ⟨false, 3, (.int .i64), m_4⟩, .rd ⟨false, 3, (.int .i64), m_5⟩], .agg [.v (.int .i64 q), .rd ⟨false, 3, (.int .i64), q_1⟩, .v (.int .i64 q_2), .v (.int .i64 q_3), .v (.int .i64 q_4), .v (.int .i64 q_5), .rd ⟨false, 3, (.int .i64), q_6⟩, .rd ⟨false, 3, (.int .i64), q_7⟩]] [] K =
    (fun (m : Int) (m_1 : Int) (m_2 : Int) (m_3 : Int) (m_4 : List Int) (m_5 : List Int) (q : Int) (q_1 : List Int) (q_2 : Int) (q_3 : Int) (q_4 : Int) (q_5 : Int) (q_6 : List Int) (q_7 : List Int) (K0 : Int → Int → (List Int) → (List Int) → Option R) =>
    l_machine_Check m m_1 m_2 m_3 m_4 m_5
     (fun r1 r2 =>
      bi (r2 != 0)
       (K0 0 r2 ([] : List Int) ([] : List Int))
       (bi (q == 1)
        (l_machine_Run m m_1 m_2 m_3 m_4 m_5 q_1
         (fun r3 r4 =>
          bi (r3 != 0)
           (K0 0 r3 ([] : List Int) ([] : List Int))
           (K0 1 0 r4 ([] : List Int))))
        (bi (q == 2)
         (l_differ_Separate m m_1 m_2 m_3 m_4 m_5 q_2 q_3 q_4 q_5 q_6 q_7
          (fun r5 r6 r7 =>
           bi (r6 != 0)
            (K0 0 r6 ([] : List Int) ([] : List Int))
            (bi r5
             (K0 3 0 ([] : List Int) r7)
             (K0 2 0 ([] : List Int) ([] : List Int)))))
         (K0 0 30 ([] : List Int) ([] : List Int)))))) m m_1 m_2 m_3 m_4 m_5 q q_1 q_2 q_3 q_4 q_5 q_6 q_7 (fun r0 r1 r2 r3 => K (.tup [.agg [.v (.int .i64 r0), .own 0, .own 1], .v (.int .i64 r1)]) [.row ⟨true, 3, (.int .i64), r2⟩, .row ⟨true, 3, (.int .i64), r3⟩]) := by kernel_rfl

theorem entry_teach_Tell {R : Type} (K : AV → List O → Option R) (m : Int) (m_1 : Int) (m_2 : Int) (m_3 : Int) (m_4 : List Int) (m_5 : List Int) (q : Int) (q_1 : List Int) (q_2 : Int) (q_3 : Int) (q_4 : Int) (q_5 : Int) (q_6 : List Int) (q_7 : List Int) :
    fnRun Try.prog (T_teach_Tell @l_machine_Run @l_differ_Separate @l_machine_Check) cuts_teach_Tell Try.f12 0 [.agg [.v (.int .i64 m), .v (.int .i64 m_1), .v (.int .i64 m_2), .v (.int .i64 m_3), .rd ⟨false, 3, (.int .i64), m_4⟩, .rd ⟨false, 3, (.int .i64), m_5⟩], .agg [.v (.int .i64 q), .rd ⟨false, 3, (.int .i64), q_1⟩, .v (.int .i64 q_2), .v (.int .i64 q_3), .v (.int .i64 q_4), .v (.int .i64 q_5), .rd ⟨false, 3, (.int .i64), q_6⟩, .rd ⟨false, 3, (.int .i64), q_7⟩]] [] K =
    l_teach_Tell m m_1 m_2 m_3 m_4 m_5 q q_1 q_2 q_3 q_4 q_5 q_6 q_7 (fun r0 r1 r2 r3 => K (.tup [.agg [.v (.int .i64 r0), .own 0, .own 1], .v (.int .i64 r1)]) [.row ⟨true, 3, (.int .i64), r2⟩, .row ⟨true, 3, (.int .i64), r3⟩]) := gentry_teach_Tell @l_machine_Run @l_differ_Separate @l_machine_Check K m m_1 m_2 m_3 m_4 m_5 q q_1 q_2 q_3 q_4 q_5 q_6 q_7

def S_teach_Tell (l_teach_Tell : {R : Type} → Int → Int → Int → Int → (List Int) → (List Int) → Int → (List Int) → Int → Int → Int → Int → (List Int) → (List Int) → (Int → Int → (List Int) → (List Int) → Option R) → Option R) : Sum := ⟨[], fun {R} args ob K => match args, ob with
  | [.agg [.v (.int .i64 m), .v (.int .i64 m_1), .v (.int .i64 m_2), .v (.int .i64 m_3), .rd ⟨false, 3, (.int .i64), m_4⟩, .rd ⟨false, 3, (.int .i64), m_5⟩], .agg [.v (.int .i64 q), .rd ⟨false, 3, (.int .i64), q_1⟩, .v (.int .i64 q_2), .v (.int .i64 q_3), .v (.int .i64 q_4), .v (.int .i64 q_5), .rd ⟨false, 3, (.int .i64), q_6⟩, .rd ⟨false, 3, (.int .i64), q_7⟩]], [] => l_teach_Tell m m_1 m_2 m_3 m_4 m_5 q q_1 q_2 q_3 q_4 q_5 q_6 q_7 (fun r0 r1 r2 r3 => K (.tup [.agg [.v (.int .i64 r0), .own 0, .own 1], .v (.int .i64 r1)]) [.row ⟨true, 3, (.int .i64), r2⟩, .row ⟨true, 3, (.int .i64), r3⟩])
  | _, _ => none⟩

theorem sound_teach_Tell : Sound Try.prog 12 (S_teach_Tell @l_teach_Tell) := by
  refine fn_sound (cuts := cuts_teach_Tell) (fn := Try.f12) (Γ := (T_teach_Tell @l_machine_Run @l_differ_Separate @l_machine_Check)) wide right_T_teach_Tell Try.func12 fun {R} K r args ob h => ?_
  unfold S_teach_Tell at h
  dsimp only at h
  split at h
  · exact ⟨Nat.le_of_ble_eq_true (by kernel_rfl), 0, (entry_teach_Tell K _ _ _ _ _ _ _ _ _ _ _ _ _ _).trans h⟩
  · cases h

theorem call_teach_Tell : Callable Try.prog 12 := ⟨_, Try.func12, by kernel_rfl, by kernel_rfl⟩

def T_tutorref03_Check : FuncId → Option Sum := G0

theorem right_T_tutorref03_Check : Right Try.prog T_tutorref03_Check := right_G0

abbrev cuts_tutorref03_Check : Cuts := [(15, [1, 5]), (20, [1, 6])]

theorem gstep_tutorref03_Check_15 {R : Type} (g : List Item → St → Option R) (K : AV → List O → Option R) (i : Int) (o0 : Int) (o0_1 : Int) (o0_2 : Int) (o0_3 : Int) (o0_4 : List Int) (o0_5 : List Int) :
    runSeg Try.prog T_tutorref03_Check cuts_tutorref03_Check 0 g (finish Try.prog Try.f26 0 K) (at' Try.f26 15) ⟨fr0 123 [(1, .ptr 0 0), (5, .v (.int .i64 i))], [.box 24 [.v (.int .i64 o0), .v (.int .i64 o0_1), .v (.int .i64 o0_2), .v (.int .i64 o0_3), .rd ⟨false, 3, (.int .i64), o0_4⟩, .rd ⟨false, 3, (.int .i64), o0_5⟩]]⟩ =
    (fun (g26_15 : Int → Int → Int → Int → Int → (List Int) → (List Int) → Option R) (g26_20 : Int → Int → Int → Int → Int → (List Int) → (List Int) → Option R) (K0 : Int → Int → Option R) (i : Int) (o0 : Int) (o0_1 : Int) (o0_2 : Int) (o0_3 : Int) (o0_4 : List Int) (o0_5 : List Int) =>
    bi (decide (i < (o0_4.length : Int)))
     (bi (decide (0 ≤ i ∧ i < ((o0_4.length : Nat) : Int)))
      (bi (decide ((o0_4.getD i.toNat 0) < 0))
       (K0 i 32)
       (bi (decide (0 ≤ i ∧ i < ((o0_4.length : Nat) : Int)))
        (bi (decide ((o0_4.getD i.toNat 0) ≥ o0_3))
         (K0 i 32)
         (g26_15 (IntKind.i64.wrap (i + 1)) o0 o0_1 o0_2 o0_3 o0_4 o0_5))
        none))
      none)
     (g26_20 0 o0 o0_1 o0_2 o0_3 o0_4 o0_5)) (fun i o0 o0_1 o0_2 o0_3 o0_4 o0_5 => g (at' Try.f26 15) ⟨fr0 123 [(1, .ptr 0 0), (5, .v (.int .i64 i))], [.box 24 [.v (.int .i64 o0), .v (.int .i64 o0_1), .v (.int .i64 o0_2), .v (.int .i64 o0_3), .rd ⟨false, 3, (.int .i64), o0_4⟩, .rd ⟨false, 3, (.int .i64), o0_5⟩]]⟩) (fun i o0 o0_1 o0_2 o0_3 o0_4 o0_5 => g (at' Try.f26 20) ⟨fr0 123 [(1, .ptr 0 0), (6, .v (.int .i64 i))], [.box 24 [.v (.int .i64 o0), .v (.int .i64 o0_1), .v (.int .i64 o0_2), .v (.int .i64 o0_3), .rd ⟨false, 3, (.int .i64), o0_4⟩, .rd ⟨false, 3, (.int .i64), o0_5⟩]]⟩) (fun r0 r1 => K (.tup [.v (.int .i64 r0), .v (.int .i64 r1)]) []) i o0 o0_1 o0_2 o0_3 o0_4 o0_5 := by kernel_rfl

theorem step_tutorref03_Check_15 {R : Type} (g : List Item → St → Option R) (K : AV → List O → Option R) (i : Int) (o0 : Int) (o0_1 : Int) (o0_2 : Int) (o0_3 : Int) (o0_4 : List Int) (o0_5 : List Int) :
    runSeg Try.prog T_tutorref03_Check cuts_tutorref03_Check 0 g (finish Try.prog Try.f26 0 K) (at' Try.f26 15) ⟨fr0 123 [(1, .ptr 0 0), (5, .v (.int .i64 i))], [.box 24 [.v (.int .i64 o0), .v (.int .i64 o0_1), .v (.int .i64 o0_2), .v (.int .i64 o0_3), .rd ⟨false, 3, (.int .i64), o0_4⟩, .rd ⟨false, 3, (.int .i64), o0_5⟩]]⟩ =
    s_tutorref03_Check_15 (fun i o0 o0_1 o0_2 o0_3 o0_4 o0_5 => g (at' Try.f26 15) ⟨fr0 123 [(1, .ptr 0 0), (5, .v (.int .i64 i))], [.box 24 [.v (.int .i64 o0), .v (.int .i64 o0_1), .v (.int .i64 o0_2), .v (.int .i64 o0_3), .rd ⟨false, 3, (.int .i64), o0_4⟩, .rd ⟨false, 3, (.int .i64), o0_5⟩]]⟩) (fun i o0 o0_1 o0_2 o0_3 o0_4 o0_5 => g (at' Try.f26 20) ⟨fr0 123 [(1, .ptr 0 0), (6, .v (.int .i64 i))], [.box 24 [.v (.int .i64 o0), .v (.int .i64 o0_1), .v (.int .i64 o0_2), .v (.int .i64 o0_3), .rd ⟨false, 3, (.int .i64), o0_4⟩, .rd ⟨false, 3, (.int .i64), o0_5⟩]]⟩) (fun r0 r1 => K (.tup [.v (.int .i64 r0), .v (.int .i64 r1)]) []) i o0 o0_1 o0_2 o0_3 o0_4 o0_5 := gstep_tutorref03_Check_15 g K i o0 o0_1 o0_2 o0_3 o0_4 o0_5

theorem gstep_tutorref03_Check_20 {R : Type} (g : List Item → St → Option R) (K : AV → List O → Option R) (i : Int) (o0 : Int) (o0_1 : Int) (o0_2 : Int) (o0_3 : Int) (o0_4 : List Int) (o0_5 : List Int) :
    runSeg Try.prog T_tutorref03_Check cuts_tutorref03_Check 0 g (finish Try.prog Try.f26 0 K) (at' Try.f26 20) ⟨fr0 123 [(1, .ptr 0 0), (6, .v (.int .i64 i))], [.box 24 [.v (.int .i64 o0), .v (.int .i64 o0_1), .v (.int .i64 o0_2), .v (.int .i64 o0_3), .rd ⟨false, 3, (.int .i64), o0_4⟩, .rd ⟨false, 3, (.int .i64), o0_5⟩]]⟩ =
    (fun (g26_15 : Int → Int → Int → Int → Int → (List Int) → (List Int) → Option R) (g26_20 : Int → Int → Int → Int → Int → (List Int) → (List Int) → Option R) (K0 : Int → Int → Option R) (i : Int) (o0 : Int) (o0_1 : Int) (o0_2 : Int) (o0_3 : Int) (o0_4 : List Int) (o0_5 : List Int) =>
    bi (decide (i < (o0_5.length : Int)))
     (bi (decide (0 ≤ i ∧ i < ((o0_5.length : Nat) : Int)))
      (bi (decide ((o0_5.getD i.toNat 0) < 0))
       (K0 i 33)
       (bi (decide (0 ≤ i ∧ i < ((o0_5.length : Nat) : Int)))
        (bi (decide ((o0_5.getD i.toNat 0) ≥ o0_2))
         (K0 i 33)
         (g26_20 (IntKind.i64.wrap (i + 1)) o0 o0_1 o0_2 o0_3 o0_4 o0_5))
        none))
      none)
     (K0 0 0)) (fun i o0 o0_1 o0_2 o0_3 o0_4 o0_5 => g (at' Try.f26 15) ⟨fr0 123 [(1, .ptr 0 0), (5, .v (.int .i64 i))], [.box 24 [.v (.int .i64 o0), .v (.int .i64 o0_1), .v (.int .i64 o0_2), .v (.int .i64 o0_3), .rd ⟨false, 3, (.int .i64), o0_4⟩, .rd ⟨false, 3, (.int .i64), o0_5⟩]]⟩) (fun i o0 o0_1 o0_2 o0_3 o0_4 o0_5 => g (at' Try.f26 20) ⟨fr0 123 [(1, .ptr 0 0), (6, .v (.int .i64 i))], [.box 24 [.v (.int .i64 o0), .v (.int .i64 o0_1), .v (.int .i64 o0_2), .v (.int .i64 o0_3), .rd ⟨false, 3, (.int .i64), o0_4⟩, .rd ⟨false, 3, (.int .i64), o0_5⟩]]⟩) (fun r0 r1 => K (.tup [.v (.int .i64 r0), .v (.int .i64 r1)]) []) i o0 o0_1 o0_2 o0_3 o0_4 o0_5 := by kernel_rfl

theorem step_tutorref03_Check_20 {R : Type} (g : List Item → St → Option R) (K : AV → List O → Option R) (i : Int) (o0 : Int) (o0_1 : Int) (o0_2 : Int) (o0_3 : Int) (o0_4 : List Int) (o0_5 : List Int) :
    runSeg Try.prog T_tutorref03_Check cuts_tutorref03_Check 0 g (finish Try.prog Try.f26 0 K) (at' Try.f26 20) ⟨fr0 123 [(1, .ptr 0 0), (6, .v (.int .i64 i))], [.box 24 [.v (.int .i64 o0), .v (.int .i64 o0_1), .v (.int .i64 o0_2), .v (.int .i64 o0_3), .rd ⟨false, 3, (.int .i64), o0_4⟩, .rd ⟨false, 3, (.int .i64), o0_5⟩]]⟩ =
    s_tutorref03_Check_20 (fun i o0 o0_1 o0_2 o0_3 o0_4 o0_5 => g (at' Try.f26 15) ⟨fr0 123 [(1, .ptr 0 0), (5, .v (.int .i64 i))], [.box 24 [.v (.int .i64 o0), .v (.int .i64 o0_1), .v (.int .i64 o0_2), .v (.int .i64 o0_3), .rd ⟨false, 3, (.int .i64), o0_4⟩, .rd ⟨false, 3, (.int .i64), o0_5⟩]]⟩) (fun i o0 o0_1 o0_2 o0_3 o0_4 o0_5 => g (at' Try.f26 20) ⟨fr0 123 [(1, .ptr 0 0), (6, .v (.int .i64 i))], [.box 24 [.v (.int .i64 o0), .v (.int .i64 o0_1), .v (.int .i64 o0_2), .v (.int .i64 o0_3), .rd ⟨false, 3, (.int .i64), o0_4⟩, .rd ⟨false, 3, (.int .i64), o0_5⟩]]⟩) (fun r0 r1 => K (.tup [.v (.int .i64 r0), .v (.int .i64 r1)]) []) i o0 o0_1 o0_2 o0_3 o0_4 o0_5 := gstep_tutorref03_Check_20 g K i o0 o0_1 o0_2 o0_3 o0_4 o0_5

theorem gentry_tutorref03_Check {R : Type} (fuel : Nat) (K : AV → List O → Option R) (m : Int) (m_1 : Int) (m_2 : Int) (m_3 : Int) (m_4 : List Int) (m_5 : List Int) :
    fnRun Try.prog T_tutorref03_Check cuts_tutorref03_Check Try.f26 fuel [.agg [.v (.int .i64 m), .v (.int .i64 m_1), .v (.int .i64 m_2), .v (.int .i64 m_3), .rd ⟨false, 3, (.int .i64), m_4⟩, .rd ⟨false, 3, (.int .i64), m_5⟩]] [] K =
    (fun (g26_15 : Int → Int → Int → Int → Int → (List Int) → (List Int) → Option R) (g26_20 : Int → Int → Int → Int → Int → (List Int) → (List Int) → Option R) (K0 : Int → Int → Option R) (m : Int) (m_1 : Int) (m_2 : Int) (m_3 : Int) (m_4 : List Int) (m_5 : List Int) =>
    bi (m != 1)
     (bi (m != 2)
      (K0 0 30)
      (bi (decide (m_1 < 1))
       (K0 0 1)
       (bi (decide (m_1 > 64))
        (K0 0 1)
        (bi (m == 1)
         (bi (m_2 != 2)
          (K0 0 33)
          (bi (decide (m_2 < 1))
           (K0 0 33)
           (bi (decide (m_2 > 64))
            (K0 0 33)
            (bi (decide (m_3 < 1))
             (K0 0 3)
             (bi (decide (m_3 > 1024))
              (K0 0 3)
              (bi (m == 2)
               (bi ((m_4.length : Int) != (IntKind.i64.wrap (m_3 * m_1)))
                (K0 0 31)
                (bi ((m_5.length : Int) != (IntKind.i64.wrap (m_3 * m_1)))
                 (K0 0 31)
                 (g26_15 0 m m_1 m_2 m_3 m_4 m_5)))
               (bi ((m_4.length : Int) != (IntKind.i64.wrap (m_3 * m_1)))
                (K0 0 31)
                (bi ((m_5.length : Int) != m_3)
                 (K0 0 31)
                 (g26_15 0 m m_1 m_2 m_3 m_4 m_5)))))))))
         (bi (decide (m_2 < 1))
          (K0 0 33)
          (bi (decide (m_2 > 64))
           (K0 0 33)
           (bi (decide (m_3 < 1))
            (K0 0 3)
            (bi (decide (m_3 > 1024))
             (K0 0 3)
             (bi (m == 2)
              (bi ((m_4.length : Int) != (IntKind.i64.wrap (m_3 * m_1)))
               (K0 0 31)
               (bi ((m_5.length : Int) != (IntKind.i64.wrap (m_3 * m_1)))
                (K0 0 31)
                (g26_15 0 m m_1 m_2 m_3 m_4 m_5)))
              (bi ((m_4.length : Int) != (IntKind.i64.wrap (m_3 * m_1)))
               (K0 0 31)
               (bi ((m_5.length : Int) != m_3)
                (K0 0 31)
                (g26_15 0 m m_1 m_2 m_3 m_4 m_5))))))))))))
     (bi (decide (m_1 < 1))
      (K0 0 1)
      (bi (decide (m_1 > 64))
       (K0 0 1)
       (bi (m == 1)
        (bi (m_2 != 2)
         (K0 0 33)
         (bi (decide (m_2 < 1))
          (K0 0 33)
          (bi (decide (m_2 > 64))
           (K0 0 33)
           (bi (decide (m_3 < 1))
            (K0 0 3)
            (bi (decide (m_3 > 1024))
             (K0 0 3)
             (bi (m == 2)
              (bi ((m_4.length : Int) != (IntKind.i64.wrap (m_3 * m_1)))
               (K0 0 31)
               (bi ((m_5.length : Int) != (IntKind.i64.wrap (m_3 * m_1)))
                (K0 0 31)
                (g26_15 0 m m_1 m_2 m_3 m_4 m_5)))
              (bi ((m_4.length : Int) != (IntKind.i64.wrap (m_3 * m_1)))
               (K0 0 31)
               (bi ((m_5.length : Int) != m_3)
                (K0 0 31)
                (g26_15 0 m m_1 m_2 m_3 m_4 m_5)))))))))
        (bi (decide (m_2 < 1))
         (K0 0 33)
         (bi (decide (m_2 > 64))
          (K0 0 33)
          (bi (decide (m_3 < 1))
           (K0 0 3)
           (bi (decide (m_3 > 1024))
            (K0 0 3)
            (bi (m == 2)
             (bi ((m_4.length : Int) != (IntKind.i64.wrap (m_3 * m_1)))
              (K0 0 31)
              (bi ((m_5.length : Int) != (IntKind.i64.wrap (m_3 * m_1)))
               (K0 0 31)
               (g26_15 0 m m_1 m_2 m_3 m_4 m_5)))
             (bi ((m_4.length : Int) != (IntKind.i64.wrap (m_3 * m_1)))
              (K0 0 31)
              (bi ((m_5.length : Int) != m_3)
               (K0 0 31)
               (g26_15 0 m m_1 m_2 m_3 m_4 m_5)))))))))))) (fun i o0 o0_1 o0_2 o0_3 o0_4 o0_5 => (runO Try.prog T_tutorref03_Check cuts_tutorref03_Check 0 (finish Try.prog Try.f26 0 K) fuel) (at' Try.f26 15) ⟨fr0 123 [(1, .ptr 0 0), (5, .v (.int .i64 i))], [.box 24 [.v (.int .i64 o0), .v (.int .i64 o0_1), .v (.int .i64 o0_2), .v (.int .i64 o0_3), .rd ⟨false, 3, (.int .i64), o0_4⟩, .rd ⟨false, 3, (.int .i64), o0_5⟩]]⟩) (fun i o0 o0_1 o0_2 o0_3 o0_4 o0_5 => (runO Try.prog T_tutorref03_Check cuts_tutorref03_Check 0 (finish Try.prog Try.f26 0 K) fuel) (at' Try.f26 20) ⟨fr0 123 [(1, .ptr 0 0), (6, .v (.int .i64 i))], [.box 24 [.v (.int .i64 o0), .v (.int .i64 o0_1), .v (.int .i64 o0_2), .v (.int .i64 o0_3), .rd ⟨false, 3, (.int .i64), o0_4⟩, .rd ⟨false, 3, (.int .i64), o0_5⟩]]⟩) (fun r0 r1 => K (.tup [.v (.int .i64 r0), .v (.int .i64 r1)]) []) m m_1 m_2 m_3 m_4 m_5 := by kernel_rfl

theorem entry_tutorref03_Check {R : Type} (fuel : Nat) (K : AV → List O → Option R) (m : Int) (m_1 : Int) (m_2 : Int) (m_3 : Int) (m_4 : List Int) (m_5 : List Int) :
    fnRun Try.prog T_tutorref03_Check cuts_tutorref03_Check Try.f26 fuel [.agg [.v (.int .i64 m), .v (.int .i64 m_1), .v (.int .i64 m_2), .v (.int .i64 m_3), .rd ⟨false, 3, (.int .i64), m_4⟩, .rd ⟨false, 3, (.int .i64), m_5⟩]] [] K =
    e_tutorref03_Check (fun i o0 o0_1 o0_2 o0_3 o0_4 o0_5 => (runO Try.prog T_tutorref03_Check cuts_tutorref03_Check 0 (finish Try.prog Try.f26 0 K) fuel) (at' Try.f26 15) ⟨fr0 123 [(1, .ptr 0 0), (5, .v (.int .i64 i))], [.box 24 [.v (.int .i64 o0), .v (.int .i64 o0_1), .v (.int .i64 o0_2), .v (.int .i64 o0_3), .rd ⟨false, 3, (.int .i64), o0_4⟩, .rd ⟨false, 3, (.int .i64), o0_5⟩]]⟩) (fun i o0 o0_1 o0_2 o0_3 o0_4 o0_5 => (runO Try.prog T_tutorref03_Check cuts_tutorref03_Check 0 (finish Try.prog Try.f26 0 K) fuel) (at' Try.f26 20) ⟨fr0 123 [(1, .ptr 0 0), (6, .v (.int .i64 i))], [.box 24 [.v (.int .i64 o0), .v (.int .i64 o0_1), .v (.int .i64 o0_2), .v (.int .i64 o0_3), .rd ⟨false, 3, (.int .i64), o0_4⟩, .rd ⟨false, 3, (.int .i64), o0_5⟩]]⟩) (fun r0 r1 => K (.tup [.v (.int .i64 r0), .v (.int .i64 r1)]) []) m m_1 m_2 m_3 m_4 m_5 := gentry_tutorref03_Check fuel K m m_1 m_2 m_3 m_4 m_5

theorem runs_tutorref03_Check {R : Type} (K : AV → List O → Option R) : ∀ fuel : Nat,
    (fun i o0 o0_1 o0_2 o0_3 o0_4 o0_5 => (runO Try.prog T_tutorref03_Check cuts_tutorref03_Check 0 (finish Try.prog Try.f26 0 K) fuel) (at' Try.f26 15) ⟨fr0 123 [(1, .ptr 0 0), (5, .v (.int .i64 i))], [.box 24 [.v (.int .i64 o0), .v (.int .i64 o0_1), .v (.int .i64 o0_2), .v (.int .i64 o0_3), .rd ⟨false, 3, (.int .i64), o0_4⟩, .rd ⟨false, 3, (.int .i64), o0_5⟩]]⟩) = (run_tutorref03_Check (fun r0 r1 => K (.tup [.v (.int .i64 r0), .v (.int .i64 r1)]) []) fuel).1 ∧
    (fun i o0 o0_1 o0_2 o0_3 o0_4 o0_5 => (runO Try.prog T_tutorref03_Check cuts_tutorref03_Check 0 (finish Try.prog Try.f26 0 K) fuel) (at' Try.f26 20) ⟨fr0 123 [(1, .ptr 0 0), (6, .v (.int .i64 i))], [.box 24 [.v (.int .i64 o0), .v (.int .i64 o0_1), .v (.int .i64 o0_2), .v (.int .i64 o0_3), .rd ⟨false, 3, (.int .i64), o0_4⟩, .rd ⟨false, 3, (.int .i64), o0_5⟩]]⟩) = (run_tutorref03_Check (fun r0 r1 => K (.tup [.v (.int .i64 r0), .v (.int .i64 r1)]) []) fuel).2
  | 0 => ⟨rfl, rfl⟩
  | fuel + 1 => by
    have ih := runs_tutorref03_Check K fuel
    refine ⟨?_, ?_⟩
    · funext i o0 o0_1 o0_2 o0_3 o0_4 o0_5
      refine (step_tutorref03_Check_15 _ K i o0 o0_1 o0_2 o0_3 o0_4 o0_5).trans ?_
      rw [ih.1, ih.2]
      rfl
    · funext i o0 o0_1 o0_2 o0_3 o0_4 o0_5
      refine (step_tutorref03_Check_20 _ K i o0 o0_1 o0_2 o0_3 o0_4 o0_5).trans ?_
      rw [ih.1, ih.2]
      rfl

def S_tutorref03_Check (l_tutorref03_Check : {R : Type} → Int → Int → Int → Int → (List Int) → (List Int) → (Int → Int → Option R) → Option R) : Sum := ⟨[], fun {R} args ob K => match args, ob with
  | [.agg [.v (.int .i64 m), .v (.int .i64 m_1), .v (.int .i64 m_2), .v (.int .i64 m_3), .rd ⟨false, 3, (.int .i64), m_4⟩, .rd ⟨false, 3, (.int .i64), m_5⟩]], [] => l_tutorref03_Check m m_1 m_2 m_3 m_4 m_5 (fun r0 r1 => K (.tup [.v (.int .i64 r0), .v (.int .i64 r1)]) [])
  | _, _ => none⟩

theorem sound_tutorref03_Check : Sound Try.prog 26 (S_tutorref03_Check @l_tutorref03_Check) := by
  refine fn_sound (cuts := cuts_tutorref03_Check) (fn := Try.f26) (Γ := T_tutorref03_Check) wide right_T_tutorref03_Check Try.func26 fun {R} K r args ob h => ?_
  unfold S_tutorref03_Check at h
  dsimp only at h
  split at h
  · obtain ⟨n, hn⟩ := ok_tutorref03_Check _ _ _ _ _ _ _ h
    refine ⟨Nat.le_of_ble_eq_true (by kernel_rfl), n, (entry_tutorref03_Check n K _ _ _ _ _ _).trans ?_⟩
    rw [(runs_tutorref03_Check K n).1, (runs_tutorref03_Check K n).2]
    exact hn
  · cases h

theorem call_tutorref03_Check : Callable Try.prog 26 := ⟨_, Try.func26, by kernel_rfl, by kernel_rfl⟩

def T_tutorref07_now : FuncId → Option Sum := G0

theorem right_T_tutorref07_now : Right Try.prog T_tutorref07_now := right_G0

abbrev cuts_tutorref07_now : Cuts := []

theorem gentry_tutorref07_now {R : Type} (K : AV → List O → Option R) (a : Int) (a_1 : Int) (a_2 : Int) (a_3 : Int) (a_4 : List Int) (a_5 : List Int) (b : Int) (b_1 : Int) (b_2 : Int) (b_3 : Int) (b_4 : List Int) (b_5 : List Int) (s : Int) (t : Int) (x : Int) :
    fnRun Try.prog T_tutorref07_now cuts_tutorref07_now Try.f38 0 [.agg [.v (.int .i64 a), .v (.int .i64 a_1), .v (.int .i64 a_2), .v (.int .i64 a_3), .rd ⟨false, 3, (.int .i64), a_4⟩, .rd ⟨false, 3, (.int .i64), a_5⟩], .agg [.v (.int .i64 b), .v (.int .i64 b_1), .v (.int .i64 b_2), .v (.int .i64 b_3), .rd ⟨false, 3, (.int .i64), b_4⟩, .rd ⟨false, 3, (.int .i64), b_5⟩], .v (.int .i64 s), .v (.int .i64 t), .v (.int .i64 x)] [] K =
    (fun (a : Int) (a_1 : Int) (a_2 : Int) (a_3 : Int) (a_4 : List Int) (a_5 : List Int) (b : Int) (b_1 : Int) (b_2 : Int) (b_3 : Int) (b_4 : List Int) (b_5 : List Int) (s : Int) (t : Int) (x : Int) (K0 : Bool → Option R) =>
    bi (a == 1)
     (bi (decide (x < 0))
      (bi (decide (0 ≤ s ∧ s < ((a_5.length : Nat) : Int)))
       (bi (decide (0 ≤ t ∧ t < ((b_5.length : Nat) : Int)))
        (K0 ((a_5.getD s.toNat 0) != (b_5.getD t.toNat 0)))
        none)
       none)
      (K0 false))
     (bi (decide (x ≥ 0))
      (bi (decide (0 ≤ (IntKind.i64.wrap ((IntKind.i64.wrap (s * a_1)) + x)) ∧ (IntKind.i64.wrap ((IntKind.i64.wrap (s * a_1)) + x)) < ((a_5.length : Nat) : Int)))
       (bi (decide (0 ≤ (IntKind.i64.wrap ((IntKind.i64.wrap (t * b_1)) + x)) ∧ (IntKind.i64.wrap ((IntKind.i64.wrap (t * b_1)) + x)) < ((b_5.length : Nat) : Int)))
        (K0 ((a_5.getD ((IntKind.i64.wrap ((IntKind.i64.wrap (s * a_1)) + x)).toNat) 0) != (b_5.getD ((IntKind.i64.wrap ((IntKind.i64.wrap (t * b_1)) + x)).toNat) 0)))
        none)
       none)
      (K0 false))) a a_1 a_2 a_3 a_4 a_5 b b_1 b_2 b_3 b_4 b_5 s t x (fun r0 => K (.v (.bool r0)) []) := by kernel_rfl

theorem entry_tutorref07_now {R : Type} (K : AV → List O → Option R) (a : Int) (a_1 : Int) (a_2 : Int) (a_3 : Int) (a_4 : List Int) (a_5 : List Int) (b : Int) (b_1 : Int) (b_2 : Int) (b_3 : Int) (b_4 : List Int) (b_5 : List Int) (s : Int) (t : Int) (x : Int) :
    fnRun Try.prog T_tutorref07_now cuts_tutorref07_now Try.f38 0 [.agg [.v (.int .i64 a), .v (.int .i64 a_1), .v (.int .i64 a_2), .v (.int .i64 a_3), .rd ⟨false, 3, (.int .i64), a_4⟩, .rd ⟨false, 3, (.int .i64), a_5⟩], .agg [.v (.int .i64 b), .v (.int .i64 b_1), .v (.int .i64 b_2), .v (.int .i64 b_3), .rd ⟨false, 3, (.int .i64), b_4⟩, .rd ⟨false, 3, (.int .i64), b_5⟩], .v (.int .i64 s), .v (.int .i64 t), .v (.int .i64 x)] [] K =
    l_tutorref07_now a a_1 a_2 a_3 a_4 a_5 b b_1 b_2 b_3 b_4 b_5 s t x (fun r0 => K (.v (.bool r0)) []) := gentry_tutorref07_now K a a_1 a_2 a_3 a_4 a_5 b b_1 b_2 b_3 b_4 b_5 s t x

def S_tutorref07_now (l_tutorref07_now : {R : Type} → Int → Int → Int → Int → (List Int) → (List Int) → Int → Int → Int → Int → (List Int) → (List Int) → Int → Int → Int → (Bool → Option R) → Option R) : Sum := ⟨[], fun {R} args ob K => match args, ob with
  | [.agg [.v (.int .i64 a), .v (.int .i64 a_1), .v (.int .i64 a_2), .v (.int .i64 a_3), .rd ⟨false, 3, (.int .i64), a_4⟩, .rd ⟨false, 3, (.int .i64), a_5⟩], .agg [.v (.int .i64 b), .v (.int .i64 b_1), .v (.int .i64 b_2), .v (.int .i64 b_3), .rd ⟨false, 3, (.int .i64), b_4⟩, .rd ⟨false, 3, (.int .i64), b_5⟩], .v (.int .i64 s), .v (.int .i64 t), .v (.int .i64 x)], [] => l_tutorref07_now a a_1 a_2 a_3 a_4 a_5 b b_1 b_2 b_3 b_4 b_5 s t x (fun r0 => K (.v (.bool r0)) [])
  | _, _ => none⟩

theorem sound_tutorref07_now : Sound Try.prog 38 (S_tutorref07_now @l_tutorref07_now) := by
  refine fn_sound (cuts := cuts_tutorref07_now) (fn := Try.f38) (Γ := T_tutorref07_now) wide right_T_tutorref07_now Try.func38 fun {R} K r args ob h => ?_
  unfold S_tutorref07_now at h
  dsimp only at h
  split at h
  · exact ⟨Nat.le_of_ble_eq_true (by kernel_rfl), 0, (entry_tutorref07_now K _ _ _ _ _ _ _ _ _ _ _ _ _ _ _).trans h⟩
  · cases h

theorem call_tutorref07_now : Callable Try.prog 38 := ⟨_, Try.func38, by kernel_rfl, by kernel_rfl⟩

def T_tutorref01_Join : FuncId → Option Sum := G0

theorem right_T_tutorref01_Join : Right Try.prog T_tutorref01_Join := right_G0

abbrev cuts_tutorref01_Join : Cuts := []

theorem gentry_tutorref01_Join {R : Type} (K : AV → List O → Option R) (a : List Int) (b : List Int) :
    fnRun Try.prog T_tutorref01_Join cuts_tutorref01_Join Try.f39 0 [.rd ⟨false, 3, (.int .i64), a⟩, .rd ⟨false, 3, (.int .i64), b⟩] [] K =
    (fun (a : List Int) (b : List Int) (K0 : (List Int) → Option R) =>
    bi (decide ((([] : List Int).length + a.length) * 8 ≤ lim))
     (bi (decide (((([] : List Int) ++ a).length + b.length) * 8 ≤ lim))
      (K0 ((([] : List Int) ++ a) ++ b))
      none)
     none) a b (fun r0 => K (.own 0) [.row ⟨true, 3, (.int .i64), r0⟩]) := by kernel_rfl

theorem entry_tutorref01_Join {R : Type} (K : AV → List O → Option R) (a : List Int) (b : List Int) :
    fnRun Try.prog T_tutorref01_Join cuts_tutorref01_Join Try.f39 0 [.rd ⟨false, 3, (.int .i64), a⟩, .rd ⟨false, 3, (.int .i64), b⟩] [] K =
    l_tutorref01_Join a b (fun r0 => K (.own 0) [.row ⟨true, 3, (.int .i64), r0⟩]) := gentry_tutorref01_Join K a b

def S_tutorref01_Join (l_tutorref01_Join : {R : Type} → (List Int) → (List Int) → ((List Int) → Option R) → Option R) : Sum := ⟨[], fun {R} args ob K => match args, ob with
  | [.rd ⟨false, 3, (.int .i64), a⟩, .rd ⟨false, 3, (.int .i64), b⟩], [] => l_tutorref01_Join a b (fun r0 => K (.own 0) [.row ⟨true, 3, (.int .i64), r0⟩])
  | _, _ => none⟩

theorem sound_tutorref01_Join : Sound Try.prog 39 (S_tutorref01_Join @l_tutorref01_Join) := by
  refine fn_sound (cuts := cuts_tutorref01_Join) (fn := Try.f39) (Γ := T_tutorref01_Join) wide right_T_tutorref01_Join Try.func39 fun {R} K r args ob h => ?_
  unfold S_tutorref01_Join at h
  dsimp only at h
  split at h
  · exact ⟨Nat.le_of_ble_eq_true (by kernel_rfl), 0, (entry_tutorref01_Join K _ _).trans h⟩
  · cases h

theorem call_tutorref01_Join : Callable Try.prog 39 := ⟨_, Try.func39, by kernel_rfl, by kernel_rfl⟩

def T_tutorref07_search (l_tutorref07_now : {R : Type} → Int → Int → Int → Int → (List Int) → (List Int) → Int → Int → Int → Int → (List Int) → (List Int) → Int → Int → Int → (Bool → Option R) → Option R) (l_tutorref01_Join : {R : Type} → (List Int) → (List Int) → ((List Int) → Option R) → Option R) : FuncId → Option Sum := (addS (addS G0 38 (S_tutorref07_now @l_tutorref07_now)) 39 (S_tutorref01_Join @l_tutorref01_Join))

theorem right_T_tutorref07_search : Right Try.prog (T_tutorref07_search @l_tutorref07_now @l_tutorref01_Join) := (right_add (right_add right_G0 call_tutorref07_now sound_tutorref07_now) call_tutorref01_Join sound_tutorref01_Join)

abbrev cuts_tutorref07_search : Cuts := [(8, [4, 5, 10, 11, 12, 13]), (12, [4, 5, 10, 11, 12, 13, 14, 15, 16])]

theorem gstep_tutorref07_search_8 (l_tutorref07_now : {R : Type} → Int → Int → Int → Int → (List Int) → (List Int) → Int → Int → Int → Int → (List Int) → (List Int) → Int → Int → Int → (Bool → Option R) → Option R) (l_tutorref01_Join : {R : Type} → (List Int) → (List Int) → ((List Int) → Option R) → Option R) {R : Type} (g : List Item → St → Option R) (K : AV → List O → Option R) (i : Int) (o0 : Int) (o0_1 : Int) (o0_2 : Int) (o0_3 : Int) (o0_4 : List Int) (o0_5 : List Int) (o1 : Int) (o1_1 : Int) (o1_2 : Int) (o1_3 : Int) (o1_4 : List Int) (o1_5 : List Int) (o2 : List Bool) (o3 : List (List Int)) (o4 : List Int) :
    runSeg Try.prog (T_tutorref07_search @l_tutorref07_now @l_tutorref01_Join) cuts_tutorref07_search 0 g (finish Try.prog Try.f27 0 K) (at' Try.f27 8) ⟨fr0 146 [(4, .ptr 0 0), (5, .ptr 1 0), (10, .own 2), (11, .nst 3), (12, .own 4), (13, .v (.int .i64 i))], [.box 24 [.v (.int .i64 o0), .v (.int .i64 o0_1), .v (.int .i64 o0_2), .v (.int .i64 o0_3), .rd ⟨false, 3, (.int .i64), o0_4⟩, .rd ⟨false, 3, (.int .i64), o0_5⟩], .box 24 [.v (.int .i64 o1), .v (.int .i64 o1_1), .v (.int .i64 o1_2), .v (.int .i64 o1_3), .rd ⟨false, 3, (.int .i64), o1_4⟩, .rd ⟨false, 3, (.int .i64), o1_5⟩], .row ⟨true, 4, .bool, o2⟩, .nst ⟨true, 22, (.sl 3 (.int .i64)), o3⟩, .row ⟨true, 3, (.int .i64), o4⟩]⟩ =
    (fun (g27_8 : Int → Int → Int → Int → Int → (List Int) → (List Int) → Int → Int → Int → Int → (List Int) → (List Int) → (List Bool) → (List (List Int)) → (List Int) → Option R) (g27_12 : Int → Int → Int → Int → Int → Int → Int → Int → (List Int) → (List Int) → Int → Int → Int → Int → (List Int) → (List Int) → (List Bool) → (List (List Int)) → (List Int) → Option R) (K0 : Bool → (List Int) → Option R) (i : Int) (o0 : Int) (o0_1 : Int) (o0_2 : Int) (o0_3 : Int) (o0_4 : List Int) (o0_5 : List Int) (o1 : Int) (o1_1 : Int) (o1_2 : Int) (o1_3 : Int) (o1_4 : List Int) (o1_5 : List Int) (o2 : List Bool) (o3 : List (List Int)) (o4 : List Int) =>
    bi (decide (i < (o3.length : Int)))
     (bi (decide (0 ≤ i ∧ i < ((o4.length : Nat) : Int)))
      (bi (decide (o1_3 = 0))
       none
       (bi (decide (0 ≤ i ∧ i < ((o4.length : Nat) : Int)))
        (bi (decide (o1_3 = 0))
         none
         (g27_12 i (IntKind.i64.wrap ((o4.getD i.toNat 0).tdiv o1_3)) ((o4.getD i.toNat 0).tmod o1_3) 0 o0 o0_1 o0_2 o0_3 o0_4 o0_5 o1 o1_1 o1_2 o1_3 o1_4 o1_5 o2 o3 o4))
        none))
      none)
     (K0 false ([] : List Int))) (fun i o0 o0_1 o0_2 o0_3 o0_4 o0_5 o1 o1_1 o1_2 o1_3 o1_4 o1_5 o2 o3 o4 => g (at' Try.f27 8) ⟨fr0 146 [(4, .ptr 0 0), (5, .ptr 1 0), (10, .own 2), (11, .nst 3), (12, .own 4), (13, .v (.int .i64 i))], [.box 24 [.v (.int .i64 o0), .v (.int .i64 o0_1), .v (.int .i64 o0_2), .v (.int .i64 o0_3), .rd ⟨false, 3, (.int .i64), o0_4⟩, .rd ⟨false, 3, (.int .i64), o0_5⟩], .box 24 [.v (.int .i64 o1), .v (.int .i64 o1_1), .v (.int .i64 o1_2), .v (.int .i64 o1_3), .rd ⟨false, 3, (.int .i64), o1_4⟩, .rd ⟨false, 3, (.int .i64), o1_5⟩], .row ⟨true, 4, .bool, o2⟩, .nst ⟨true, 22, (.sl 3 (.int .i64)), o3⟩, .row ⟨true, 3, (.int .i64), o4⟩]⟩) (fun i s t x o0 o0_1 o0_2 o0_3 o0_4 o0_5 o1 o1_1 o1_2 o1_3 o1_4 o1_5 o2 o3 o4 => g (at' Try.f27 12) ⟨fr0 146 [(4, .ptr 0 0), (5, .ptr 1 0), (10, .own 2), (11, .nst 3), (12, .own 4), (13, .v (.int .i64 i)), (14, .v (.int .i64 s)), (15, .v (.int .i64 t)), (16, .v (.int .i64 x))], [.box 24 [.v (.int .i64 o0), .v (.int .i64 o0_1), .v (.int .i64 o0_2), .v (.int .i64 o0_3), .rd ⟨false, 3, (.int .i64), o0_4⟩, .rd ⟨false, 3, (.int .i64), o0_5⟩], .box 24 [.v (.int .i64 o1), .v (.int .i64 o1_1), .v (.int .i64 o1_2), .v (.int .i64 o1_3), .rd ⟨false, 3, (.int .i64), o1_4⟩, .rd ⟨false, 3, (.int .i64), o1_5⟩], .row ⟨true, 4, .bool, o2⟩, .nst ⟨true, 22, (.sl 3 (.int .i64)), o3⟩, .row ⟨true, 3, (.int .i64), o4⟩]⟩) (fun r0 r1 => K (.tup [.own 0, .v (.bool r0)]) [.row ⟨true, 3, (.int .i64), r1⟩]) i o0 o0_1 o0_2 o0_3 o0_4 o0_5 o1 o1_1 o1_2 o1_3 o1_4 o1_5 o2 o3 o4 := by kernel_rfl

theorem step_tutorref07_search_8 {R : Type} (g : List Item → St → Option R) (K : AV → List O → Option R) (i : Int) (o0 : Int) (o0_1 : Int) (o0_2 : Int) (o0_3 : Int) (o0_4 : List Int) (o0_5 : List Int) (o1 : Int) (o1_1 : Int) (o1_2 : Int) (o1_3 : Int) (o1_4 : List Int) (o1_5 : List Int) (o2 : List Bool) (o3 : List (List Int)) (o4 : List Int) :
    runSeg Try.prog (T_tutorref07_search @l_tutorref07_now @l_tutorref01_Join) cuts_tutorref07_search 0 g (finish Try.prog Try.f27 0 K) (at' Try.f27 8) ⟨fr0 146 [(4, .ptr 0 0), (5, .ptr 1 0), (10, .own 2), (11, .nst 3), (12, .own 4), (13, .v (.int .i64 i))], [.box 24 [.v (.int .i64 o0), .v (.int .i64 o0_1), .v (.int .i64 o0_2), .v (.int .i64 o0_3), .rd ⟨false, 3, (.int .i64), o0_4⟩, .rd ⟨false, 3, (.int .i64), o0_5⟩], .box 24 [.v (.int .i64 o1), .v (.int .i64 o1_1), .v (.int .i64 o1_2), .v (.int .i64 o1_3), .rd ⟨false, 3, (.int .i64), o1_4⟩, .rd ⟨false, 3, (.int .i64), o1_5⟩], .row ⟨true, 4, .bool, o2⟩, .nst ⟨true, 22, (.sl 3 (.int .i64)), o3⟩, .row ⟨true, 3, (.int .i64), o4⟩]⟩ =
    s_tutorref07_search_8 (fun i o0 o0_1 o0_2 o0_3 o0_4 o0_5 o1 o1_1 o1_2 o1_3 o1_4 o1_5 o2 o3 o4 => g (at' Try.f27 8) ⟨fr0 146 [(4, .ptr 0 0), (5, .ptr 1 0), (10, .own 2), (11, .nst 3), (12, .own 4), (13, .v (.int .i64 i))], [.box 24 [.v (.int .i64 o0), .v (.int .i64 o0_1), .v (.int .i64 o0_2), .v (.int .i64 o0_3), .rd ⟨false, 3, (.int .i64), o0_4⟩, .rd ⟨false, 3, (.int .i64), o0_5⟩], .box 24 [.v (.int .i64 o1), .v (.int .i64 o1_1), .v (.int .i64 o1_2), .v (.int .i64 o1_3), .rd ⟨false, 3, (.int .i64), o1_4⟩, .rd ⟨false, 3, (.int .i64), o1_5⟩], .row ⟨true, 4, .bool, o2⟩, .nst ⟨true, 22, (.sl 3 (.int .i64)), o3⟩, .row ⟨true, 3, (.int .i64), o4⟩]⟩) (fun i s t x o0 o0_1 o0_2 o0_3 o0_4 o0_5 o1 o1_1 o1_2 o1_3 o1_4 o1_5 o2 o3 o4 => g (at' Try.f27 12) ⟨fr0 146 [(4, .ptr 0 0), (5, .ptr 1 0), (10, .own 2), (11, .nst 3), (12, .own 4), (13, .v (.int .i64 i)), (14, .v (.int .i64 s)), (15, .v (.int .i64 t)), (16, .v (.int .i64 x))], [.box 24 [.v (.int .i64 o0), .v (.int .i64 o0_1), .v (.int .i64 o0_2), .v (.int .i64 o0_3), .rd ⟨false, 3, (.int .i64), o0_4⟩, .rd ⟨false, 3, (.int .i64), o0_5⟩], .box 24 [.v (.int .i64 o1), .v (.int .i64 o1_1), .v (.int .i64 o1_2), .v (.int .i64 o1_3), .rd ⟨false, 3, (.int .i64), o1_4⟩, .rd ⟨false, 3, (.int .i64), o1_5⟩], .row ⟨true, 4, .bool, o2⟩, .nst ⟨true, 22, (.sl 3 (.int .i64)), o3⟩, .row ⟨true, 3, (.int .i64), o4⟩]⟩) (fun r0 r1 => K (.tup [.own 0, .v (.bool r0)]) [.row ⟨true, 3, (.int .i64), r1⟩]) i o0 o0_1 o0_2 o0_3 o0_4 o0_5 o1 o1_1 o1_2 o1_3 o1_4 o1_5 o2 o3 o4 := gstep_tutorref07_search_8 @l_tutorref07_now @l_tutorref01_Join g K i o0 o0_1 o0_2 o0_3 o0_4 o0_5 o1 o1_1 o1_2 o1_3 o1_4 o1_5 o2 o3 o4

theorem gstep_tutorref07_search_12 (l_tutorref07_now : {R : Type} → Int → Int → Int → Int → (List Int) → (List Int) → Int → Int → Int → Int → (List Int) → (List Int) → Int → Int → Int → (Bool → Option R) → Option R) (l_tutorref01_Join : {R : Type} → (List Int) → (List Int) → ((List Int) → Option R) → Option R) {R : Type} (g : List Item → St → Option R) (K : AV → List O → Option R) (i : Int) (s : Int) (t : Int) (x : Int) (o0 : Int) (o0_1 : Int) (o0_2 : Int) (o0_3 : Int) (o0_4 : List Int) (o0_5 : List Int) (o1 : Int) (o1_1 : Int) (o1_2 : Int) (o1_3 : Int) (o1_4 : List Int) (o1_5 : List Int) (o2 : List Bool) (o3 : List (List Int)) (o4 : List Int) :
    runSeg Try.prog (T_tutorref07_search @l_tutorref07_now @l_tutorref01_Join) cuts_tutorref07_search 0 g (finish Try.prog Try.f27 0 K) (at' Try.f27 12) ⟨fr0 146 [(4, .ptr 0 0), (5, .ptr 1 0), (10, .own 2), (11, .nst 3), (12, .own 4), (13, .v (.int .i64 i)), (14, .v (.int .i64 s)), (15, .v (.int .i64 t)), (16, .v (.int .i64 x))], [.box 24 [.v (.int .i64 o0), .v (.int .i64 o0_1), .v (.int .i64 o0_2), .v (.int .i64 o0_3), .rd ⟨false, 3, (.int .i64), o0_4⟩, .rd ⟨false, 3, (.int .i64), o0_5⟩], .box 24 [.v (.int .i64 o1), .v (.int .i64 o1_1), .v (.int .i64 o1_2), .v (.int .i64 o1_3), .rd ⟨false, 3, (.int .i64), o1_4⟩, .rd ⟨false, 3, (.int .i64), o1_5⟩], .row ⟨true, 4, .bool, o2⟩, .nst ⟨true, 22, (.sl 3 (.int .i64)), o3⟩, .row ⟨true, 3, (.int .i64), o4⟩]⟩ =
    (fun (g27_8 : Int → Int → Int → Int → Int → (List Int) → (List Int) → Int → Int → Int → Int → (List Int) → (List Int) → (List Bool) → (List (List Int)) → (List Int) → Option R) (g27_12 : Int → Int → Int → Int → Int → Int → Int → Int → (List Int) → (List Int) → Int → Int → Int → Int → (List Int) → (List Int) → (List Bool) → (List (List Int)) → (List Int) → Option R) (K0 : Bool → (List Int) → Option R) (i : Int) (s : Int) (t : Int) (x : Int) (o0 : Int) (o0_1 : Int) (o0_2 : Int) (o0_3 : Int) (o0_4 : List Int) (o0_5 : List Int) (o1 : Int) (o1_1 : Int) (o1_2 : Int) (o1_3 : Int) (o1_4 : List Int) (o1_5 : List Int) (o2 : List Bool) (o3 : List (List Int)) (o4 : List Int) =>
    bi (decide (x < o0_1))
     (bi (decide (0 ≤ i ∧ i < ((o3.length : Nat) : Int)))
      (l_tutorref01_Join (o3.getD i.toNat []) [x]
       (fun r2 =>
        bi (decide (0 ≤ (IntKind.i64.wrap ((IntKind.i64.wrap (s * o0_1)) + x)) ∧ (IntKind.i64.wrap ((IntKind.i64.wrap (s * o0_1)) + x)) < ((o0_4.length : Nat) : Int)))
         (bi (decide (0 ≤ (IntKind.i64.wrap ((IntKind.i64.wrap (t * o1_1)) + x)) ∧ (IntKind.i64.wrap ((IntKind.i64.wrap (t * o1_1)) + x)) < ((o1_4.length : Nat) : Int)))
          (l_tutorref07_now o0 o0_1 o0_2 o0_3 o0_4 o0_5 o1 o1_1 o1_2 o1_3 o1_4 o1_5 s t x
           (fun r3 =>
            bi r3
             (K0 true r2)
             (l_tutorref07_now o0 o0_1 o0_2 o0_3 o0_4 o0_5 o1 o1_1 o1_2 o1_3 o1_4 o1_5 (o0_4.getD ((IntKind.i64.wrap ((IntKind.i64.wrap (s * o0_1)) + x)).toNat) 0) (o1_4.getD ((IntKind.i64.wrap ((IntKind.i64.wrap (t * o1_1)) + x)).toNat) 0) (-1)
              (fun r4 =>
               bi r4
                (K0 true r2)
                (bi (decide (0 ≤ (IntKind.i64.wrap ((IntKind.i64.wrap ((o0_4.getD ((IntKind.i64.wrap ((IntKind.i64.wrap (s * o0_1)) + x)).toNat) 0) * o1_3)) + (o1_4.getD ((IntKind.i64.wrap ((IntKind.i64.wrap (t * o1_1)) + x)).toNat) 0))) ∧ (IntKind.i64.wrap ((IntKind.i64.wrap ((o0_4.getD ((IntKind.i64.wrap ((IntKind.i64.wrap (s * o0_1)) + x)).toNat) 0) * o1_3)) + (o1_4.getD ((IntKind.i64.wrap ((IntKind.i64.wrap (t * o1_1)) + x)).toNat) 0))) < ((o2.length : Nat) : Int)))
                 (bi (!(o2.getD ((IntKind.i64.wrap ((IntKind.i64.wrap ((o0_4.getD ((IntKind.i64.wrap ((IntKind.i64.wrap (s * o0_1)) + x)).toNat) 0) * o1_3)) + (o1_4.getD ((IntKind.i64.wrap ((IntKind.i64.wrap (t * o1_1)) + x)).toNat) 0))).toNat) false))
                  (bi (decide (0 ≤ (IntKind.i64.wrap ((IntKind.i64.wrap ((o0_4.getD ((IntKind.i64.wrap ((IntKind.i64.wrap (s * o0_1)) + x)).toNat) 0) * o1_3)) + (o1_4.getD ((IntKind.i64.wrap ((IntKind.i64.wrap (t * o1_1)) + x)).toNat) 0))) ∧ (IntKind.i64.wrap ((IntKind.i64.wrap ((o0_4.getD ((IntKind.i64.wrap ((IntKind.i64.wrap (s * o0_1)) + x)).toNat) 0) * o1_3)) + (o1_4.getD ((IntKind.i64.wrap ((IntKind.i64.wrap (t * o1_1)) + x)).toNat) 0))) < ((o2.length : Nat) : Int)))
                   (bi (decide ((o3.length + [r2].length) * 24 ≤ lim))
                    (bi (decide ((o4.length + [IntKind.i64.wrap ((IntKind.i64.wrap ((o0_4.getD ((IntKind.i64.wrap ((IntKind.i64.wrap (s * o0_1)) + x)).toNat) 0) * o1_3)) + (o1_4.getD ((IntKind.i64.wrap ((IntKind.i64.wrap (t * o1_1)) + x)).toNat) 0))].length) * 8 ≤ lim))
                     (g27_12 i s t (IntKind.i64.wrap (x + 1)) o0 o0_1 o0_2 o0_3 o0_4 o0_5 o1 o1_1 o1_2 o1_3 o1_4 o1_5 (o2.set ((IntKind.i64.wrap ((IntKind.i64.wrap ((o0_4.getD ((IntKind.i64.wrap ((IntKind.i64.wrap (s * o0_1)) + x)).toNat) 0) * o1_3)) + (o1_4.getD ((IntKind.i64.wrap ((IntKind.i64.wrap (t * o1_1)) + x)).toNat) 0))).toNat) true) (o3 ++ [r2]) (o4 ++ [IntKind.i64.wrap ((IntKind.i64.wrap ((o0_4.getD ((IntKind.i64.wrap ((IntKind.i64.wrap (s * o0_1)) + x)).toNat) 0) * o1_3)) + (o1_4.getD ((IntKind.i64.wrap ((IntKind.i64.wrap (t * o1_1)) + x)).toNat) 0))]))
                     none)
                    none)
                   none)
                  (g27_12 i s t (IntKind.i64.wrap (x + 1)) o0 o0_1 o0_2 o0_3 o0_4 o0_5 o1 o1_1 o1_2 o1_3 o1_4 o1_5 o2 o3 o4))
                 none)))))
          none)
         none))
      none)
     (g27_8 (IntKind.i64.wrap (i + 1)) o0 o0_1 o0_2 o0_3 o0_4 o0_5 o1 o1_1 o1_2 o1_3 o1_4 o1_5 o2 o3 o4)) (fun i o0 o0_1 o0_2 o0_3 o0_4 o0_5 o1 o1_1 o1_2 o1_3 o1_4 o1_5 o2 o3 o4 => g (at' Try.f27 8) ⟨fr0 146 [(4, .ptr 0 0), (5, .ptr 1 0), (10, .own 2), (11, .nst 3), (12, .own 4), (13, .v (.int .i64 i))], [.box 24 [.v (.int .i64 o0), .v (.int .i64 o0_1), .v (.int .i64 o0_2), .v (.int .i64 o0_3), .rd ⟨false, 3, (.int .i64), o0_4⟩, .rd ⟨false, 3, (.int .i64), o0_5⟩], .box 24 [.v (.int .i64 o1), .v (.int .i64 o1_1), .v (.int .i64 o1_2), .v (.int .i64 o1_3), .rd ⟨false, 3, (.int .i64), o1_4⟩, .rd ⟨false, 3, (.int .i64), o1_5⟩], .row ⟨true, 4, .bool, o2⟩, .nst ⟨true, 22, (.sl 3 (.int .i64)), o3⟩, .row ⟨true, 3, (.int .i64), o4⟩]⟩) (fun i s t x o0 o0_1 o0_2 o0_3 o0_4 o0_5 o1 o1_1 o1_2 o1_3 o1_4 o1_5 o2 o3 o4 => g (at' Try.f27 12) ⟨fr0 146 [(4, .ptr 0 0), (5, .ptr 1 0), (10, .own 2), (11, .nst 3), (12, .own 4), (13, .v (.int .i64 i)), (14, .v (.int .i64 s)), (15, .v (.int .i64 t)), (16, .v (.int .i64 x))], [.box 24 [.v (.int .i64 o0), .v (.int .i64 o0_1), .v (.int .i64 o0_2), .v (.int .i64 o0_3), .rd ⟨false, 3, (.int .i64), o0_4⟩, .rd ⟨false, 3, (.int .i64), o0_5⟩], .box 24 [.v (.int .i64 o1), .v (.int .i64 o1_1), .v (.int .i64 o1_2), .v (.int .i64 o1_3), .rd ⟨false, 3, (.int .i64), o1_4⟩, .rd ⟨false, 3, (.int .i64), o1_5⟩], .row ⟨true, 4, .bool, o2⟩, .nst ⟨true, 22, (.sl 3 (.int .i64)), o3⟩, .row ⟨true, 3, (.int .i64), o4⟩]⟩) (fun r0 r1 => K (.tup [.own 0, .v (.bool r0)]) [.row ⟨true, 3, (.int .i64), r1⟩]) i s t x o0 o0_1 o0_2 o0_3 o0_4 o0_5 o1 o1_1 o1_2 o1_3 o1_4 o1_5 o2 o3 o4 := by kernel_rfl

theorem step_tutorref07_search_12 {R : Type} (g : List Item → St → Option R) (K : AV → List O → Option R) (i : Int) (s : Int) (t : Int) (x : Int) (o0 : Int) (o0_1 : Int) (o0_2 : Int) (o0_3 : Int) (o0_4 : List Int) (o0_5 : List Int) (o1 : Int) (o1_1 : Int) (o1_2 : Int) (o1_3 : Int) (o1_4 : List Int) (o1_5 : List Int) (o2 : List Bool) (o3 : List (List Int)) (o4 : List Int) :
    runSeg Try.prog (T_tutorref07_search @l_tutorref07_now @l_tutorref01_Join) cuts_tutorref07_search 0 g (finish Try.prog Try.f27 0 K) (at' Try.f27 12) ⟨fr0 146 [(4, .ptr 0 0), (5, .ptr 1 0), (10, .own 2), (11, .nst 3), (12, .own 4), (13, .v (.int .i64 i)), (14, .v (.int .i64 s)), (15, .v (.int .i64 t)), (16, .v (.int .i64 x))], [.box 24 [.v (.int .i64 o0), .v (.int .i64 o0_1), .v (.int .i64 o0_2), .v (.int .i64 o0_3), .rd ⟨false, 3, (.int .i64), o0_4⟩, .rd ⟨false, 3, (.int .i64), o0_5⟩], .box 24 [.v (.int .i64 o1), .v (.int .i64 o1_1), .v (.int .i64 o1_2), .v (.int .i64 o1_3), .rd ⟨false, 3, (.int .i64), o1_4⟩, .rd ⟨false, 3, (.int .i64), o1_5⟩], .row ⟨true, 4, .bool, o2⟩, .nst ⟨true, 22, (.sl 3 (.int .i64)), o3⟩, .row ⟨true, 3, (.int .i64), o4⟩]⟩ =
    s_tutorref07_search_12 (fun i o0 o0_1 o0_2 o0_3 o0_4 o0_5 o1 o1_1 o1_2 o1_3 o1_4 o1_5 o2 o3 o4 => g (at' Try.f27 8) ⟨fr0 146 [(4, .ptr 0 0), (5, .ptr 1 0), (10, .own 2), (11, .nst 3), (12, .own 4), (13, .v (.int .i64 i))], [.box 24 [.v (.int .i64 o0), .v (.int .i64 o0_1), .v (.int .i64 o0_2), .v (.int .i64 o0_3), .rd ⟨false, 3, (.int .i64), o0_4⟩, .rd ⟨false, 3, (.int .i64), o0_5⟩], .box 24 [.v (.int .i64 o1), .v (.int .i64 o1_1), .v (.int .i64 o1_2), .v (.int .i64 o1_3), .rd ⟨false, 3, (.int .i64), o1_4⟩, .rd ⟨false, 3, (.int .i64), o1_5⟩], .row ⟨true, 4, .bool, o2⟩, .nst ⟨true, 22, (.sl 3 (.int .i64)), o3⟩, .row ⟨true, 3, (.int .i64), o4⟩]⟩) (fun i s t x o0 o0_1 o0_2 o0_3 o0_4 o0_5 o1 o1_1 o1_2 o1_3 o1_4 o1_5 o2 o3 o4 => g (at' Try.f27 12) ⟨fr0 146 [(4, .ptr 0 0), (5, .ptr 1 0), (10, .own 2), (11, .nst 3), (12, .own 4), (13, .v (.int .i64 i)), (14, .v (.int .i64 s)), (15, .v (.int .i64 t)), (16, .v (.int .i64 x))], [.box 24 [.v (.int .i64 o0), .v (.int .i64 o0_1), .v (.int .i64 o0_2), .v (.int .i64 o0_3), .rd ⟨false, 3, (.int .i64), o0_4⟩, .rd ⟨false, 3, (.int .i64), o0_5⟩], .box 24 [.v (.int .i64 o1), .v (.int .i64 o1_1), .v (.int .i64 o1_2), .v (.int .i64 o1_3), .rd ⟨false, 3, (.int .i64), o1_4⟩, .rd ⟨false, 3, (.int .i64), o1_5⟩], .row ⟨true, 4, .bool, o2⟩, .nst ⟨true, 22, (.sl 3 (.int .i64)), o3⟩, .row ⟨true, 3, (.int .i64), o4⟩]⟩) (fun r0 r1 => K (.tup [.own 0, .v (.bool r0)]) [.row ⟨true, 3, (.int .i64), r1⟩]) i s t x o0 o0_1 o0_2 o0_3 o0_4 o0_5 o1 o1_1 o1_2 o1_3 o1_4 o1_5 o2 o3 o4 := gstep_tutorref07_search_12 @l_tutorref07_now @l_tutorref01_Join g K i s t x o0 o0_1 o0_2 o0_3 o0_4 o0_5 o1 o1_1 o1_2 o1_3 o1_4 o1_5 o2 o3 o4

theorem gentry_tutorref07_search (l_tutorref07_now : {R : Type} → Int → Int → Int → Int → (List Int) → (List Int) → Int → Int → Int → Int → (List Int) → (List Int) → Int → Int → Int → (Bool → Option R) → Option R) (l_tutorref01_Join : {R : Type} → (List Int) → (List Int) → ((List Int) → Option R) → Option R) {R : Type} (fuel : Nat) (K : AV → List O → Option R) (a : Int) (a_1 : Int) (a_2 : Int) (a_3 : Int) (a_4 : List Int) (a_5 : List Int) (b : Int) (b_1 : Int) (b_2 : Int) (b_3 : Int) (b_4 : List Int) (b_5 : List Int) (s : Int) (t : Int) :
    fnRun Try.prog (T_tutorref07_search @l_tutorref07_now @l_tutorref01_Join) cuts_tutorref07_search Try.f27 fuel [.agg [.v (.int .i64 a), .v (.int .i64 a_1), .v (.int .i64 a_2), .v (.int .i64 a_3), .rd ⟨false, 3, (.int .i64), a_4⟩, .rd ⟨false, 3, (.int .i64), a_5⟩], .agg [.v (.int .i64 b), .v (.int .i64 b_1), .v (.int .i64 b_2), .v (.int .i64 b_3), .rd ⟨false, 3, (.int .i64), b_4⟩, .rd ⟨false, 3, (.int .i64), b_5⟩], .v (.int .i64 s), .v (.int .i64 t)] [] K =
    (fun (g27_8 : Int → Int → Int → Int → Int → (List Int) → (List Int) → Int → Int → Int → Int → (List Int) → (List Int) → (List Bool) → (List (List Int)) → (List Int) → Option R) (g27_12 : Int → Int → Int → Int → Int → Int → Int → Int → (List Int) → (List Int) → Int → Int → Int → Int → (List Int) → (List Int) → (List Bool) → (List (List Int)) → (List Int) → Option R) (K0 : Bool → (List Int) → Option R) (a : Int) (a_1 : Int) (a_2 : Int) (a_3 : Int) (a_4 : List Int) (a_5 : List Int) (b : Int) (b_1 : Int) (b_2 : Int) (b_3 : Int) (b_4 : List Int) (b_5 : List Int) (s : Int) (t : Int) =>
    l_tutorref07_now a a_1 a_2 a_3 a_4 a_5 b b_1 b_2 b_3 b_4 b_5 s t (-1)
     (fun r1 =>
      bi r1
       (K0 true ([] : List Int))
       (bi (decide (0 ≤ (IntKind.i64.wrap (a_3 * b_3)) ∧ (IntKind.i64.wrap (a_3 * b_3)) ≤ (IntKind.i64.wrap (a_3 * b_3)) ∧ (IntKind.i64.wrap (a_3 * b_3)) ≤ 1073741824))
        (bi (decide (0 ≤ (IntKind.i64.wrap ((IntKind.i64.wrap (s * b_3)) + t)) ∧ (IntKind.i64.wrap ((IntKind.i64.wrap (s * b_3)) + t)) < (((List.replicate (IntKind.i64.wrap (a_3 * b_3)).toNat (false : Bool)).length : Nat) : Int)))
         (g27_8 0 a a_1 a_2 a_3 a_4 a_5 b b_1 b_2 b_3 b_4 b_5 ((List.replicate (IntKind.i64.wrap (a_3 * b_3)).toNat (false : Bool)).set ((IntKind.i64.wrap ((IntKind.i64.wrap (s * b_3)) + t)).toNat) true) [([] : List Int)] [IntKind.i64.wrap ((IntKind.i64.wrap (s * b_3)) + t)])
         none)
        none))) (fun i o0 o0_1 o0_2 o0_3 o0_4 o0_5 o1 o1_1 o1_2 o1_3 o1_4 o1_5 o2 o3 o4 => (runO Try.prog (T_tutorref07_search @l_tutorref07_now @l_tutorref01_Join) cuts_tutorref07_search 0 (finish Try.prog Try.f27 0 K) fuel) (at' Try.f27 8) ⟨fr0 146 [(4, .ptr 0 0), (5, .ptr 1 0), (10, .own 2), (11, .nst 3), (12, .own 4), (13, .v (.int .i64 i))], [.box 24 [.v (.int .i64 o0), .v (.int .i64 o0_1), .v (.int .i64 o0_2), .v (.int .i64 o0_3), .rd ⟨false, 3, (.int .i64), o0_4⟩, .rd ⟨false, 3, (.int .i64), o0_5⟩], .box 24 [.v (.int .i64 o1), .v (.int .i64 o1_1), .v (.int .i64 o1_2), .v (.int .i64 o1_3), .rd ⟨false, 3, (.int .i64), o1_4⟩, .rd ⟨false, 3, (.int .i64), o1_5⟩], .row ⟨true, 4, .bool, o2⟩, .nst ⟨true, 22, (.sl 3 (.int .i64)), o3⟩, .row ⟨true, 3, (.int .i64), o4⟩]⟩) (fun i s t x o0 o0_1 o0_2 o0_3 o0_4 o0_5 o1 o1_1 o1_2 o1_3 o1_4 o1_5 o2 o3 o4 => (runO Try.prog (T_tutorref07_search @l_tutorref07_now @l_tutorref01_Join) cuts_tutorref07_search 0 (finish Try.prog Try.f27 0 K) fuel) (at' Try.f27 12) ⟨fr0 146 [(4, .ptr 0 0), (5, .ptr 1 0), (10, .own 2), (11, .nst 3), (12, .own 4), (13, .v (.int .i64 i)), (14, .v (.int .i64 s)), (15, .v (.int .i64 t)), (16, .v (.int .i64 x))], [.box 24 [.v (.int .i64 o0), .v (.int .i64 o0_1), .v (.int .i64 o0_2), .v (.int .i64 o0_3), .rd ⟨false, 3, (.int .i64), o0_4⟩, .rd ⟨false, 3, (.int .i64), o0_5⟩], .box 24 [.v (.int .i64 o1), .v (.int .i64 o1_1), .v (.int .i64 o1_2), .v (.int .i64 o1_3), .rd ⟨false, 3, (.int .i64), o1_4⟩, .rd ⟨false, 3, (.int .i64), o1_5⟩], .row ⟨true, 4, .bool, o2⟩, .nst ⟨true, 22, (.sl 3 (.int .i64)), o3⟩, .row ⟨true, 3, (.int .i64), o4⟩]⟩) (fun r0 r1 => K (.tup [.own 0, .v (.bool r0)]) [.row ⟨true, 3, (.int .i64), r1⟩]) a a_1 a_2 a_3 a_4 a_5 b b_1 b_2 b_3 b_4 b_5 s t := by kernel_rfl

theorem entry_tutorref07_search {R : Type} (fuel : Nat) (K : AV → List O → Option R) (a : Int) (a_1 : Int) (a_2 : Int) (a_3 : Int) (a_4 : List Int) (a_5 : List Int) (b : Int) (b_1 : Int) (b_2 : Int) (b_3 : Int) (b_4 : List Int) (b_5 : List Int) (s : Int) (t : Int) :
    fnRun Try.prog (T_tutorref07_search @l_tutorref07_now @l_tutorref01_Join) cuts_tutorref07_search Try.f27 fuel [.agg [.v (.int .i64 a), .v (.int .i64 a_1), .v (.int .i64 a_2), .v (.int .i64 a_3), .rd ⟨false, 3, (.int .i64), a_4⟩, .rd ⟨false, 3, (.int .i64), a_5⟩], .agg [.v (.int .i64 b), .v (.int .i64 b_1), .v (.int .i64 b_2), .v (.int .i64 b_3), .rd ⟨false, 3, (.int .i64), b_4⟩, .rd ⟨false, 3, (.int .i64), b_5⟩], .v (.int .i64 s), .v (.int .i64 t)] [] K =
    e_tutorref07_search (fun i o0 o0_1 o0_2 o0_3 o0_4 o0_5 o1 o1_1 o1_2 o1_3 o1_4 o1_5 o2 o3 o4 => (runO Try.prog (T_tutorref07_search @l_tutorref07_now @l_tutorref01_Join) cuts_tutorref07_search 0 (finish Try.prog Try.f27 0 K) fuel) (at' Try.f27 8) ⟨fr0 146 [(4, .ptr 0 0), (5, .ptr 1 0), (10, .own 2), (11, .nst 3), (12, .own 4), (13, .v (.int .i64 i))], [.box 24 [.v (.int .i64 o0), .v (.int .i64 o0_1), .v (.int .i64 o0_2), .v (.int .i64 o0_3), .rd ⟨false, 3, (.int .i64), o0_4⟩, .rd ⟨false, 3, (.int .i64), o0_5⟩], .box 24 [.v (.int .i64 o1), .v (.int .i64 o1_1), .v (.int .i64 o1_2), .v (.int .i64 o1_3), .rd ⟨false, 3, (.int .i64), o1_4⟩, .rd ⟨false, 3, (.int .i64), o1_5⟩], .row ⟨true, 4, .bool, o2⟩, .nst ⟨true, 22, (.sl 3 (.int .i64)), o3⟩, .row ⟨true, 3, (.int .i64), o4⟩]⟩) (fun i s t x o0 o0_1 o0_2 o0_3 o0_4 o0_5 o1 o1_1 o1_2 o1_3 o1_4 o1_5 o2 o3 o4 => (runO Try.prog (T_tutorref07_search @l_tutorref07_now @l_tutorref01_Join) cuts_tutorref07_search 0 (finish Try.prog Try.f27 0 K) fuel) (at' Try.f27 12) ⟨fr0 146 [(4, .ptr 0 0), (5, .ptr 1 0), (10, .own 2), (11, .nst 3), (12, .own 4), (13, .v (.int .i64 i)), (14, .v (.int .i64 s)), (15, .v (.int .i64 t)), (16, .v (.int .i64 x))], [.box 24 [.v (.int .i64 o0), .v (.int .i64 o0_1), .v (.int .i64 o0_2), .v (.int .i64 o0_3), .rd ⟨false, 3, (.int .i64), o0_4⟩, .rd ⟨false, 3, (.int .i64), o0_5⟩], .box 24 [.v (.int .i64 o1), .v (.int .i64 o1_1), .v (.int .i64 o1_2), .v (.int .i64 o1_3), .rd ⟨false, 3, (.int .i64), o1_4⟩, .rd ⟨false, 3, (.int .i64), o1_5⟩], .row ⟨true, 4, .bool, o2⟩, .nst ⟨true, 22, (.sl 3 (.int .i64)), o3⟩, .row ⟨true, 3, (.int .i64), o4⟩]⟩) (fun r0 r1 => K (.tup [.own 0, .v (.bool r0)]) [.row ⟨true, 3, (.int .i64), r1⟩]) a a_1 a_2 a_3 a_4 a_5 b b_1 b_2 b_3 b_4 b_5 s t := gentry_tutorref07_search @l_tutorref07_now @l_tutorref01_Join fuel K a a_1 a_2 a_3 a_4 a_5 b b_1 b_2 b_3 b_4 b_5 s t

theorem runs_tutorref07_search {R : Type} (K : AV → List O → Option R) : ∀ fuel : Nat,
    (fun i o0 o0_1 o0_2 o0_3 o0_4 o0_5 o1 o1_1 o1_2 o1_3 o1_4 o1_5 o2 o3 o4 => (runO Try.prog (T_tutorref07_search @l_tutorref07_now @l_tutorref01_Join) cuts_tutorref07_search 0 (finish Try.prog Try.f27 0 K) fuel) (at' Try.f27 8) ⟨fr0 146 [(4, .ptr 0 0), (5, .ptr 1 0), (10, .own 2), (11, .nst 3), (12, .own 4), (13, .v (.int .i64 i))], [.box 24 [.v (.int .i64 o0), .v (.int .i64 o0_1), .v (.int .i64 o0_2), .v (.int .i64 o0_3), .rd ⟨false, 3, (.int .i64), o0_4⟩, .rd ⟨false, 3, (.int .i64), o0_5⟩], .box 24 [.v (.int .i64 o1), .v (.int .i64 o1_1), .v (.int .i64 o1_2), .v (.int .i64 o1_3), .rd ⟨false, 3, (.int .i64), o1_4⟩, .rd ⟨false, 3, (.int .i64), o1_5⟩], .row ⟨true, 4, .bool, o2⟩, .nst ⟨true, 22, (.sl 3 (.int .i64)), o3⟩, .row ⟨true, 3, (.int .i64), o4⟩]⟩) = (run_tutorref07_search (fun r0 r1 => K (.tup [.own 0, .v (.bool r0)]) [.row ⟨true, 3, (.int .i64), r1⟩]) fuel).1 ∧
    (fun i s t x o0 o0_1 o0_2 o0_3 o0_4 o0_5 o1 o1_1 o1_2 o1_3 o1_4 o1_5 o2 o3 o4 => (runO Try.prog (T_tutorref07_search @l_tutorref07_now @l_tutorref01_Join) cuts_tutorref07_search 0 (finish Try.prog Try.f27 0 K) fuel) (at' Try.f27 12) ⟨fr0 146 [(4, .ptr 0 0), (5, .ptr 1 0), (10, .own 2), (11, .nst 3), (12, .own 4), (13, .v (.int .i64 i)), (14, .v (.int .i64 s)), (15, .v (.int .i64 t)), (16, .v (.int .i64 x))], [.box 24 [.v (.int .i64 o0), .v (.int .i64 o0_1), .v (.int .i64 o0_2), .v (.int .i64 o0_3), .rd ⟨false, 3, (.int .i64), o0_4⟩, .rd ⟨false, 3, (.int .i64), o0_5⟩], .box 24 [.v (.int .i64 o1), .v (.int .i64 o1_1), .v (.int .i64 o1_2), .v (.int .i64 o1_3), .rd ⟨false, 3, (.int .i64), o1_4⟩, .rd ⟨false, 3, (.int .i64), o1_5⟩], .row ⟨true, 4, .bool, o2⟩, .nst ⟨true, 22, (.sl 3 (.int .i64)), o3⟩, .row ⟨true, 3, (.int .i64), o4⟩]⟩) = (run_tutorref07_search (fun r0 r1 => K (.tup [.own 0, .v (.bool r0)]) [.row ⟨true, 3, (.int .i64), r1⟩]) fuel).2
  | 0 => ⟨rfl, rfl⟩
  | fuel + 1 => by
    have ih := runs_tutorref07_search K fuel
    refine ⟨?_, ?_⟩
    · funext i o0 o0_1 o0_2 o0_3 o0_4 o0_5 o1 o1_1 o1_2 o1_3 o1_4 o1_5 o2 o3 o4
      refine (step_tutorref07_search_8 _ K i o0 o0_1 o0_2 o0_3 o0_4 o0_5 o1 o1_1 o1_2 o1_3 o1_4 o1_5 o2 o3 o4).trans ?_
      rw [ih.1, ih.2]
      rfl
    · funext i s t x o0 o0_1 o0_2 o0_3 o0_4 o0_5 o1 o1_1 o1_2 o1_3 o1_4 o1_5 o2 o3 o4
      refine (step_tutorref07_search_12 _ K i s t x o0 o0_1 o0_2 o0_3 o0_4 o0_5 o1 o1_1 o1_2 o1_3 o1_4 o1_5 o2 o3 o4).trans ?_
      rw [ih.1, ih.2]
      rfl

def S_tutorref07_search (l_tutorref07_search : {R : Type} → Int → Int → Int → Int → (List Int) → (List Int) → Int → Int → Int → Int → (List Int) → (List Int) → Int → Int → (Bool → (List Int) → Option R) → Option R) : Sum := ⟨[], fun {R} args ob K => match args, ob with
  | [.agg [.v (.int .i64 a), .v (.int .i64 a_1), .v (.int .i64 a_2), .v (.int .i64 a_3), .rd ⟨false, 3, (.int .i64), a_4⟩, .rd ⟨false, 3, (.int .i64), a_5⟩], .agg [.v (.int .i64 b), .v (.int .i64 b_1), .v (.int .i64 b_2), .v (.int .i64 b_3), .rd ⟨false, 3, (.int .i64), b_4⟩, .rd ⟨false, 3, (.int .i64), b_5⟩], .v (.int .i64 s), .v (.int .i64 t)], [] => l_tutorref07_search a a_1 a_2 a_3 a_4 a_5 b b_1 b_2 b_3 b_4 b_5 s t (fun r0 r1 => K (.tup [.own 0, .v (.bool r0)]) [.row ⟨true, 3, (.int .i64), r1⟩])
  | _, _ => none⟩

theorem sound_tutorref07_search : Sound Try.prog 27 (S_tutorref07_search @l_tutorref07_search) := by
  refine fn_sound (cuts := cuts_tutorref07_search) (fn := Try.f27) (Γ := (T_tutorref07_search @l_tutorref07_now @l_tutorref01_Join)) wide right_T_tutorref07_search Try.func27 fun {R} K r args ob h => ?_
  unfold S_tutorref07_search at h
  dsimp only at h
  split at h
  · obtain ⟨n, hn⟩ := ok_tutorref07_search _ _ _ _ _ _ _ _ _ _ _ _ _ _ _ h
    refine ⟨Nat.le_of_ble_eq_true (by kernel_rfl), n, (entry_tutorref07_search n K _ _ _ _ _ _ _ _ _ _ _ _ _ _).trans ?_⟩
    rw [(runs_tutorref07_search K n).1, (runs_tutorref07_search K n).2]
    exact hn
  · cases h

theorem call_tutorref07_search : Callable Try.prog 27 := ⟨_, Try.func27, by kernel_rfl, by kernel_rfl⟩

def T_tutorref07_Separate (l_tutorref07_search : {R : Type} → Int → Int → Int → Int → (List Int) → (List Int) → Int → Int → Int → Int → (List Int) → (List Int) → Int → Int → (Bool → (List Int) → Option R) → Option R) (l_tutorref03_Check : {R : Type} → Int → Int → Int → Int → (List Int) → (List Int) → (Int → Int → Option R) → Option R) : FuncId → Option Sum := (addS (addS G0 27 (S_tutorref07_search @l_tutorref07_search)) 26 (S_tutorref03_Check @l_tutorref03_Check))

theorem right_T_tutorref07_Separate : Right Try.prog (T_tutorref07_Separate @l_tutorref07_search @l_tutorref03_Check) := (right_add (right_add right_G0 call_tutorref07_search sound_tutorref07_search) call_tutorref03_Check sound_tutorref03_Check)

abbrev cuts_tutorref07_Separate : Cuts := []

theorem gentry_tutorref07_Separate (l_tutorref07_search : {R : Type} → Int → Int → Int → Int → (List Int) → (List Int) → Int → Int → Int → Int → (List Int) → (List Int) → Int → Int → (Bool → (List Int) → Option R) → Option R) (l_tutorref03_Check : {R : Type} → Int → Int → Int → Int → (List Int) → (List Int) → (Int → Int → Option R) → Option R) {R : Type} (K : AV → List O → Option R) (a : Int) (a_1 : Int) (a_2 : Int) (a_3 : Int) (a_4 : List Int) (a_5 : List Int) (b : Int) (b_1 : Int) (b_2 : Int) (b_3 : Int) (b_4 : List Int) (b_5 : List Int) :
    fnRun Try.prog (T_tutorref07_Separate @l_tutorref07_search @l_tutorref03_Check) cuts_tutorref07_Separate Try.f15 0 [.agg [.v (.int .i64 a), .v (.int .i64 a_1), .v (.int .i64 a_2), .v (.int .i64 a_3), .rd ⟨false, 3, (.int .i64), a_4⟩, .rd ⟨false, 3, (.int .i64), a_5⟩], .agg [.v (.int .i64 b), .v (.int .i64 b_1), .v (.int .i64 b_2), .v (.int .i64 b_3), .rd ⟨false, 3, (.int .i64), b_4⟩, .rd ⟨false, 3, (.int .i64), b_5⟩]] [] K =
    (fun (a : Int) (a_1 : Int) (a_2 : Int) (a_3 : Int) (a_4 : List Int) (a_5 : List Int) (b : Int) (b_1 : Int) (b_2 : Int) (b_3 : Int) (b_4 : List Int) (b_5 : List Int) (K0 : Bool → Int → (List Int) → Option R) =>
    l_tutorref03_Check a a_1 a_2 a_3 a_4 a_5
     (fun r1 r2 =>
      bi (r2 != 0)
       (K0 false r2 ([] : List Int))
       (l_tutorref03_Check b b_1 b_2 b_3 b_4 b_5
        (fun r3 r4 =>
         bi (r4 != 0)
          (K0 false r4 ([] : List Int))
          (bi (a != b)
           (K0 false 30 ([] : List Int))
           (bi (a_1 != b_1)
            (K0 false 1 ([] : List Int))
            (bi (a_2 != b_2)
             (K0 false 33 ([] : List Int))
             (l_tutorref07_search a a_1 a_2 a_3 a_4 a_5 b b_1 b_2 b_3 b_4 b_5 0 0
              (fun r5 r6 =>
               K0 r5 0 r6))))))))) a a_1 a_2 a_3 a_4 a_5 b b_1 b_2 b_3 b_4 b_5 (fun r0 r1 r2 => K (.tup [.own 0, .v (.bool r0), .v (.int .i64 r1)]) [.row ⟨true, 3, (.int .i64), r2⟩]) := by kernel_rfl

theorem entry_tutorref07_Separate {R : Type} (K : AV → List O → Option R) (a : Int) (a_1 : Int) (a_2 : Int) (a_3 : Int) (a_4 : List Int) (a_5 : List Int) (b : Int) (b_1 : Int) (b_2 : Int) (b_3 : Int) (b_4 : List Int) (b_5 : List Int) :
    fnRun Try.prog (T_tutorref07_Separate @l_tutorref07_search @l_tutorref03_Check) cuts_tutorref07_Separate Try.f15 0 [.agg [.v (.int .i64 a), .v (.int .i64 a_1), .v (.int .i64 a_2), .v (.int .i64 a_3), .rd ⟨false, 3, (.int .i64), a_4⟩, .rd ⟨false, 3, (.int .i64), a_5⟩], .agg [.v (.int .i64 b), .v (.int .i64 b_1), .v (.int .i64 b_2), .v (.int .i64 b_3), .rd ⟨false, 3, (.int .i64), b_4⟩, .rd ⟨false, 3, (.int .i64), b_5⟩]] [] K =
    l_tutorref07_Separate a a_1 a_2 a_3 a_4 a_5 b b_1 b_2 b_3 b_4 b_5 (fun r0 r1 r2 => K (.tup [.own 0, .v (.bool r0), .v (.int .i64 r1)]) [.row ⟨true, 3, (.int .i64), r2⟩]) := gentry_tutorref07_Separate @l_tutorref07_search @l_tutorref03_Check K a a_1 a_2 a_3 a_4 a_5 b b_1 b_2 b_3 b_4 b_5

def S_tutorref07_Separate (l_tutorref07_Separate : {R : Type} → Int → Int → Int → Int → (List Int) → (List Int) → Int → Int → Int → Int → (List Int) → (List Int) → (Bool → Int → (List Int) → Option R) → Option R) : Sum := ⟨[], fun {R} args ob K => match args, ob with
  | [.agg [.v (.int .i64 a), .v (.int .i64 a_1), .v (.int .i64 a_2), .v (.int .i64 a_3), .rd ⟨false, 3, (.int .i64), a_4⟩, .rd ⟨false, 3, (.int .i64), a_5⟩], .agg [.v (.int .i64 b), .v (.int .i64 b_1), .v (.int .i64 b_2), .v (.int .i64 b_3), .rd ⟨false, 3, (.int .i64), b_4⟩, .rd ⟨false, 3, (.int .i64), b_5⟩]], [] => l_tutorref07_Separate a a_1 a_2 a_3 a_4 a_5 b b_1 b_2 b_3 b_4 b_5 (fun r0 r1 r2 => K (.tup [.own 0, .v (.bool r0), .v (.int .i64 r1)]) [.row ⟨true, 3, (.int .i64), r2⟩])
  | _, _ => none⟩

theorem sound_tutorref07_Separate : Sound Try.prog 15 (S_tutorref07_Separate @l_tutorref07_Separate) := by
  refine fn_sound (cuts := cuts_tutorref07_Separate) (fn := Try.f15) (Γ := (T_tutorref07_Separate @l_tutorref07_search @l_tutorref03_Check)) wide right_T_tutorref07_Separate Try.func15 fun {R} K r args ob h => ?_
  unfold S_tutorref07_Separate at h
  dsimp only at h
  split at h
  · exact ⟨Nat.le_of_ble_eq_true (by kernel_rfl), 0, (entry_tutorref07_Separate K _ _ _ _ _ _ _ _ _ _ _ _).trans h⟩
  · cases h

theorem call_tutorref07_Separate : Callable Try.prog 15 := ⟨_, Try.func15, by kernel_rfl, by kernel_rfl⟩

def T_tutorref01_Check : FuncId → Option Sum := G0

theorem right_T_tutorref01_Check : Right Try.prog T_tutorref01_Check := right_G0

abbrev cuts_tutorref01_Check : Cuts := [(6, [0, 1, 6])]

theorem gstep_tutorref01_Check_6 {R : Type} (g : List Item → St → Option R) (K : AV → List O → Option R) (w : List Int) (k : Int) (i : Int) :
    runSeg Try.prog T_tutorref01_Check cuts_tutorref01_Check 0 g (finish Try.prog Try.f22 0 K) (at' Try.f22 6) ⟨fr0 36 [(0, .rd ⟨false, 3, (.int .i64), w⟩), (1, .v (.int .i64 k)), (6, .v (.int .i64 i))], []⟩ =
    (fun (g22_6 : (List Int) → Int → Int → Option R) (K0 : Int → Int → Option R) (w : List Int) (k : Int) (i : Int) =>
    bi (decide (i < (w.length : Int)))
     (bi (decide (0 ≤ i ∧ i < ((w.length : Nat) : Int)))
      (bi (decide ((w.getD i.toNat 0) < 0))
       (K0 i 10)
       (bi (decide (0 ≤ i ∧ i < ((w.length : Nat) : Int)))
        (bi (decide ((w.getD i.toNat 0) ≥ k))
         (K0 i 10)
         (g22_6 w k (IntKind.i64.wrap (i + 1))))
        none))
      none)
     (K0 0 0)) (fun w k i => g (at' Try.f22 6) ⟨fr0 36 [(0, .rd ⟨false, 3, (.int .i64), w⟩), (1, .v (.int .i64 k)), (6, .v (.int .i64 i))], []⟩) (fun r0 r1 => K (.tup [.v (.int .i64 r0), .v (.int .i64 r1)]) []) w k i := by kernel_rfl

theorem step_tutorref01_Check_6 {R : Type} (g : List Item → St → Option R) (K : AV → List O → Option R) (w : List Int) (k : Int) (i : Int) :
    runSeg Try.prog T_tutorref01_Check cuts_tutorref01_Check 0 g (finish Try.prog Try.f22 0 K) (at' Try.f22 6) ⟨fr0 36 [(0, .rd ⟨false, 3, (.int .i64), w⟩), (1, .v (.int .i64 k)), (6, .v (.int .i64 i))], []⟩ =
    s_tutorref01_Check_6 (fun w k i => g (at' Try.f22 6) ⟨fr0 36 [(0, .rd ⟨false, 3, (.int .i64), w⟩), (1, .v (.int .i64 k)), (6, .v (.int .i64 i))], []⟩) (fun r0 r1 => K (.tup [.v (.int .i64 r0), .v (.int .i64 r1)]) []) w k i := gstep_tutorref01_Check_6 g K w k i

theorem gentry_tutorref01_Check {R : Type} (fuel : Nat) (K : AV → List O → Option R) (w : List Int) (k : Int) :
    fnRun Try.prog T_tutorref01_Check cuts_tutorref01_Check Try.f22 fuel [.rd ⟨false, 3, (.int .i64), w⟩, .v (.int .i64 k)] [] K =
    (fun (g22_6 : (List Int) → Int → Int → Option R) (K0 : Int → Int → Option R) (w : List Int) (k : Int) =>
    bi (decide (k < 1))
     (K0 0 1)
     (bi (decide (k > 64))
      (K0 0 1)
      (bi (decide ((w.length : Int) > 4096))
       (K0 0 2)
       (g22_6 w k 0)))) (fun w k i => (runO Try.prog T_tutorref01_Check cuts_tutorref01_Check 0 (finish Try.prog Try.f22 0 K) fuel) (at' Try.f22 6) ⟨fr0 36 [(0, .rd ⟨false, 3, (.int .i64), w⟩), (1, .v (.int .i64 k)), (6, .v (.int .i64 i))], []⟩) (fun r0 r1 => K (.tup [.v (.int .i64 r0), .v (.int .i64 r1)]) []) w k := by kernel_rfl

theorem entry_tutorref01_Check {R : Type} (fuel : Nat) (K : AV → List O → Option R) (w : List Int) (k : Int) :
    fnRun Try.prog T_tutorref01_Check cuts_tutorref01_Check Try.f22 fuel [.rd ⟨false, 3, (.int .i64), w⟩, .v (.int .i64 k)] [] K =
    e_tutorref01_Check (fun w k i => (runO Try.prog T_tutorref01_Check cuts_tutorref01_Check 0 (finish Try.prog Try.f22 0 K) fuel) (at' Try.f22 6) ⟨fr0 36 [(0, .rd ⟨false, 3, (.int .i64), w⟩), (1, .v (.int .i64 k)), (6, .v (.int .i64 i))], []⟩) (fun r0 r1 => K (.tup [.v (.int .i64 r0), .v (.int .i64 r1)]) []) w k := gentry_tutorref01_Check fuel K w k

theorem runs_tutorref01_Check {R : Type} (K : AV → List O → Option R) : ∀ fuel : Nat,
    (fun w k i => (runO Try.prog T_tutorref01_Check cuts_tutorref01_Check 0 (finish Try.prog Try.f22 0 K) fuel) (at' Try.f22 6) ⟨fr0 36 [(0, .rd ⟨false, 3, (.int .i64), w⟩), (1, .v (.int .i64 k)), (6, .v (.int .i64 i))], []⟩) = (run_tutorref01_Check (fun r0 r1 => K (.tup [.v (.int .i64 r0), .v (.int .i64 r1)]) []) fuel)
  | 0 => rfl
  | fuel + 1 => by
    have ih := runs_tutorref01_Check K fuel
    funext w k i
    refine (step_tutorref01_Check_6 _ K w k i).trans ?_
    rw [ih]
    rfl

def S_tutorref01_Check (l_tutorref01_Check : {R : Type} → (List Int) → Int → (Int → Int → Option R) → Option R) : Sum := ⟨[], fun {R} args ob K => match args, ob with
  | [.rd ⟨false, 3, (.int .i64), w⟩, .v (.int .i64 k)], [] => l_tutorref01_Check w k (fun r0 r1 => K (.tup [.v (.int .i64 r0), .v (.int .i64 r1)]) [])
  | _, _ => none⟩

theorem sound_tutorref01_Check : Sound Try.prog 22 (S_tutorref01_Check @l_tutorref01_Check) := by
  refine fn_sound (cuts := cuts_tutorref01_Check) (fn := Try.f22) (Γ := T_tutorref01_Check) wide right_T_tutorref01_Check Try.func22 fun {R} K r args ob h => ?_
  unfold S_tutorref01_Check at h
  dsimp only at h
  split at h
  · obtain ⟨n, hn⟩ := ok_tutorref01_Check _ _ _ h
    refine ⟨Nat.le_of_ble_eq_true (by kernel_rfl), n, (entry_tutorref01_Check n K _ _).trans ?_⟩
    rw [(runs_tutorref01_Check K n)]
    exact hn
  · cases h

theorem call_tutorref01_Check : Callable Try.prog 22 := ⟨_, Try.func22, by kernel_rfl, by kernel_rfl⟩

def T_tutorref03_Go : FuncId → Option Sum := G0

theorem right_T_tutorref03_Go : Right Try.prog T_tutorref03_Go := right_G0

abbrev cuts_tutorref03_Go : Cuts := [(3, [1, 2, 3, 8, 9])]

theorem gstep_tutorref03_Go_3 {R : Type} (g : List Item → St → Option R) (K : AV → List O → Option R) (s : Int) (w : List Int) (i : Int) (o0 : Int) (o0_1 : Int) (o0_2 : Int) (o0_3 : Int) (o0_4 : List Int) (o0_5 : List Int) (o1 : List Int) :
    runSeg Try.prog T_tutorref03_Go cuts_tutorref03_Go 0 g (finish Try.prog Try.f40 0 K) (at' Try.f40 3) ⟨fr0 59 [(1, .v (.int .i64 s)), (2, .rd ⟨false, 3, (.int .i64), w⟩), (3, .ptr 0 0), (8, .own 1), (9, .v (.int .i64 i))], [.box 24 [.v (.int .i64 o0), .v (.int .i64 o0_1), .v (.int .i64 o0_2), .v (.int .i64 o0_3), .rd ⟨false, 3, (.int .i64), o0_4⟩, .rd ⟨false, 3, (.int .i64), o0_5⟩], .row ⟨true, 3, (.int .i64), o1⟩]⟩ =
    (fun (g40_3 : Int → (List Int) → Int → Int → Int → Int → Int → (List Int) → (List Int) → (List Int) → Option R) (K0 : Int → (List Int) → Option R) (s : Int) (w : List Int) (i : Int) (o0 : Int) (o0_1 : Int) (o0_2 : Int) (o0_3 : Int) (o0_4 : List Int) (o0_5 : List Int) (o1 : List Int) =>
    bi (decide (i < (w.length : Int)))
     (bi (o0 == 2)
      (bi (decide (0 ≤ i ∧ i < ((w.length : Nat) : Int)))
       (bi (decide (0 ≤ (IntKind.i64.wrap ((IntKind.i64.wrap (s * o0_1)) + (w.getD i.toNat 0))) ∧ (IntKind.i64.wrap ((IntKind.i64.wrap (s * o0_1)) + (w.getD i.toNat 0))) < ((o0_5.length : Nat) : Int)))
        (bi (decide ((o1.length + [o0_5.getD ((IntKind.i64.wrap ((IntKind.i64.wrap (s * o0_1)) + (w.getD i.toNat 0))).toNat) 0].length) * 8 ≤ lim))
         (bi (decide (0 ≤ i ∧ i < ((w.length : Nat) : Int)))
          (bi (decide (0 ≤ (IntKind.i64.wrap ((IntKind.i64.wrap (s * o0_1)) + (w.getD i.toNat 0))) ∧ (IntKind.i64.wrap ((IntKind.i64.wrap (s * o0_1)) + (w.getD i.toNat 0))) < ((o0_4.length : Nat) : Int)))
           (g40_3 (o0_4.getD ((IntKind.i64.wrap ((IntKind.i64.wrap (s * o0_1)) + (w.getD i.toNat 0))).toNat) 0) w (IntKind.i64.wrap (i + 1)) o0 o0_1 o0_2 o0_3 o0_4 o0_5 (o1 ++ [o0_5.getD ((IntKind.i64.wrap ((IntKind.i64.wrap (s * o0_1)) + (w.getD i.toNat 0))).toNat) 0]))
           none)
          none)
         none)
        none)
       none)
      (bi (decide (0 ≤ i ∧ i < ((w.length : Nat) : Int)))
       (bi (decide (0 ≤ (IntKind.i64.wrap ((IntKind.i64.wrap (s * o0_1)) + (w.getD i.toNat 0))) ∧ (IntKind.i64.wrap ((IntKind.i64.wrap (s * o0_1)) + (w.getD i.toNat 0))) < ((o0_4.length : Nat) : Int)))
        (g40_3 (o0_4.getD ((IntKind.i64.wrap ((IntKind.i64.wrap (s * o0_1)) + (w.getD i.toNat 0))).toNat) 0) w (IntKind.i64.wrap (i + 1)) o0 o0_1 o0_2 o0_3 o0_4 o0_5 o1)
        none)
       none))
     (bi (o0 == 1)
      (bi (decide (0 ≤ s ∧ s < ((o0_5.length : Nat) : Int)))
       (K0 s [o0_5.getD s.toNat 0])
       none)
      (K0 s o1))) (fun s w i o0 o0_1 o0_2 o0_3 o0_4 o0_5 o1 => g (at' Try.f40 3) ⟨fr0 59 [(1, .v (.int .i64 s)), (2, .rd ⟨false, 3, (.int .i64), w⟩), (3, .ptr 0 0), (8, .own 1), (9, .v (.int .i64 i))], [.box 24 [.v (.int .i64 o0), .v (.int .i64 o0_1), .v (.int .i64 o0_2), .v (.int .i64 o0_3), .rd ⟨false, 3, (.int .i64), o0_4⟩, .rd ⟨false, 3, (.int .i64), o0_5⟩], .row ⟨true, 3, (.int .i64), o1⟩]⟩) (fun r0 r1 => K (.tup [.v (.int .i64 r0), .own 0]) [.row ⟨true, 3, (.int .i64), r1⟩]) s w i o0 o0_1 o0_2 o0_3 o0_4 o0_5 o1 := by kernel_rfl

theorem step_tutorref03_Go_3 {R : Type} (g : List Item → St → Option R) (K : AV → List O → Option R) (s : Int) (w : List Int) (i : Int) (o0 : Int) (o0_1 : Int) (o0_2 : Int) (o0_3 : Int) (o0_4 : List Int) (o0_5 : List Int) (o1 : List Int) :
    runSeg Try.prog T_tutorref03_Go cuts_tutorref03_Go 0 g (finish Try.prog Try.f40 0 K) (at' Try.f40 3) ⟨fr0 59 [(1, .v (.int .i64 s)), (2, .rd ⟨false, 3, (.int .i64), w⟩), (3, .ptr 0 0), (8, .own 1), (9, .v (.int .i64 i))], [.box 24 [.v (.int .i64 o0), .v (.int .i64 o0_1), .v (.int .i64 o0_2), .v (.int .i64 o0_3), .rd ⟨false, 3, (.int .i64), o0_4⟩, .rd ⟨false, 3, (.int .i64), o0_5⟩], .row ⟨true, 3, (.int .i64), o1⟩]⟩ =
    s_tutorref03_Go_3 (fun s w i o0 o0_1 o0_2 o0_3 o0_4 o0_5 o1 => g (at' Try.f40 3) ⟨fr0 59 [(1, .v (.int .i64 s)), (2, .rd ⟨false, 3, (.int .i64), w⟩), (3, .ptr 0 0), (8, .own 1), (9, .v (.int .i64 i))], [.box 24 [.v (.int .i64 o0), .v (.int .i64 o0_1), .v (.int .i64 o0_2), .v (.int .i64 o0_3), .rd ⟨false, 3, (.int .i64), o0_4⟩, .rd ⟨false, 3, (.int .i64), o0_5⟩], .row ⟨true, 3, (.int .i64), o1⟩]⟩) (fun r0 r1 => K (.tup [.v (.int .i64 r0), .own 0]) [.row ⟨true, 3, (.int .i64), r1⟩]) s w i o0 o0_1 o0_2 o0_3 o0_4 o0_5 o1 := gstep_tutorref03_Go_3 g K s w i o0 o0_1 o0_2 o0_3 o0_4 o0_5 o1

theorem gentry_tutorref03_Go {R : Type} (fuel : Nat) (K : AV → List O → Option R) (m : Int) (m_1 : Int) (m_2 : Int) (m_3 : Int) (m_4 : List Int) (m_5 : List Int) (s : Int) (w : List Int) :
    fnRun Try.prog T_tutorref03_Go cuts_tutorref03_Go Try.f40 fuel [.agg [.v (.int .i64 m), .v (.int .i64 m_1), .v (.int .i64 m_2), .v (.int .i64 m_3), .rd ⟨false, 3, (.int .i64), m_4⟩, .rd ⟨false, 3, (.int .i64), m_5⟩], .v (.int .i64 s), .rd ⟨false, 3, (.int .i64), w⟩] [] K =
    (fun (g40_3 : Int → (List Int) → Int → Int → Int → Int → Int → (List Int) → (List Int) → (List Int) → Option R) (K0 : Int → (List Int) → Option R) (m : Int) (m_1 : Int) (m_2 : Int) (m_3 : Int) (m_4 : List Int) (m_5 : List Int) (s : Int) (w : List Int) =>
    g40_3 s w 0 m m_1 m_2 m_3 m_4 m_5 ([] : List Int)) (fun s w i o0 o0_1 o0_2 o0_3 o0_4 o0_5 o1 => (runO Try.prog T_tutorref03_Go cuts_tutorref03_Go 0 (finish Try.prog Try.f40 0 K) fuel) (at' Try.f40 3) ⟨fr0 59 [(1, .v (.int .i64 s)), (2, .rd ⟨false, 3, (.int .i64), w⟩), (3, .ptr 0 0), (8, .own 1), (9, .v (.int .i64 i))], [.box 24 [.v (.int .i64 o0), .v (.int .i64 o0_1), .v (.int .i64 o0_2), .v (.int .i64 o0_3), .rd ⟨false, 3, (.int .i64), o0_4⟩, .rd ⟨false, 3, (.int .i64), o0_5⟩], .row ⟨true, 3, (.int .i64), o1⟩]⟩) (fun r0 r1 => K (.tup [.v (.int .i64 r0), .own 0]) [.row ⟨true, 3, (.int .i64), r1⟩]) m m_1 m_2 m_3 m_4 m_5 s w := by kernel_rfl

theorem entry_tutorref03_Go {R : Type} (fuel : Nat) (K : AV → List O → Option R) (m : Int) (m_1 : Int) (m_2 : Int) (m_3 : Int) (m_4 : List Int) (m_5 : List Int) (s : Int) (w : List Int) :
    fnRun Try.prog T_tutorref03_Go cuts_tutorref03_Go Try.f40 fuel [.agg [.v (.int .i64 m), .v (.int .i64 m_1), .v (.int .i64 m_2), .v (.int .i64 m_3), .rd ⟨false, 3, (.int .i64), m_4⟩, .rd ⟨false, 3, (.int .i64), m_5⟩], .v (.int .i64 s), .rd ⟨false, 3, (.int .i64), w⟩] [] K =
    e_tutorref03_Go (fun s w i o0 o0_1 o0_2 o0_3 o0_4 o0_5 o1 => (runO Try.prog T_tutorref03_Go cuts_tutorref03_Go 0 (finish Try.prog Try.f40 0 K) fuel) (at' Try.f40 3) ⟨fr0 59 [(1, .v (.int .i64 s)), (2, .rd ⟨false, 3, (.int .i64), w⟩), (3, .ptr 0 0), (8, .own 1), (9, .v (.int .i64 i))], [.box 24 [.v (.int .i64 o0), .v (.int .i64 o0_1), .v (.int .i64 o0_2), .v (.int .i64 o0_3), .rd ⟨false, 3, (.int .i64), o0_4⟩, .rd ⟨false, 3, (.int .i64), o0_5⟩], .row ⟨true, 3, (.int .i64), o1⟩]⟩) (fun r0 r1 => K (.tup [.v (.int .i64 r0), .own 0]) [.row ⟨true, 3, (.int .i64), r1⟩]) m m_1 m_2 m_3 m_4 m_5 s w := gentry_tutorref03_Go fuel K m m_1 m_2 m_3 m_4 m_5 s w

theorem runs_tutorref03_Go {R : Type} (K : AV → List O → Option R) : ∀ fuel : Nat,
    (fun s w i o0 o0_1 o0_2 o0_3 o0_4 o0_5 o1 => (runO Try.prog T_tutorref03_Go cuts_tutorref03_Go 0 (finish Try.prog Try.f40 0 K) fuel) (at' Try.f40 3) ⟨fr0 59 [(1, .v (.int .i64 s)), (2, .rd ⟨false, 3, (.int .i64), w⟩), (3, .ptr 0 0), (8, .own 1), (9, .v (.int .i64 i))], [.box 24 [.v (.int .i64 o0), .v (.int .i64 o0_1), .v (.int .i64 o0_2), .v (.int .i64 o0_3), .rd ⟨false, 3, (.int .i64), o0_4⟩, .rd ⟨false, 3, (.int .i64), o0_5⟩], .row ⟨true, 3, (.int .i64), o1⟩]⟩) = (run_tutorref03_Go (fun r0 r1 => K (.tup [.v (.int .i64 r0), .own 0]) [.row ⟨true, 3, (.int .i64), r1⟩]) fuel)
  | 0 => rfl
  | fuel + 1 => by
    have ih := runs_tutorref03_Go K fuel
    funext s w i o0 o0_1 o0_2 o0_3 o0_4 o0_5 o1
    refine (step_tutorref03_Go_3 _ K s w i o0 o0_1 o0_2 o0_3 o0_4 o0_5 o1).trans ?_
    rw [ih]
    rfl

def S_tutorref03_Go (l_tutorref03_Go : {R : Type} → Int → Int → Int → Int → (List Int) → (List Int) → Int → (List Int) → (Int → (List Int) → Option R) → Option R) : Sum := ⟨[], fun {R} args ob K => match args, ob with
  | [.agg [.v (.int .i64 m), .v (.int .i64 m_1), .v (.int .i64 m_2), .v (.int .i64 m_3), .rd ⟨false, 3, (.int .i64), m_4⟩, .rd ⟨false, 3, (.int .i64), m_5⟩], .v (.int .i64 s), .rd ⟨false, 3, (.int .i64), w⟩], [] => l_tutorref03_Go m m_1 m_2 m_3 m_4 m_5 s w (fun r0 r1 => K (.tup [.v (.int .i64 r0), .own 0]) [.row ⟨true, 3, (.int .i64), r1⟩])
  | _, _ => none⟩

theorem sound_tutorref03_Go : Sound Try.prog 40 (S_tutorref03_Go @l_tutorref03_Go) := by
  refine fn_sound (cuts := cuts_tutorref03_Go) (fn := Try.f40) (Γ := T_tutorref03_Go) wide right_T_tutorref03_Go Try.func40 fun {R} K r args ob h => ?_
  unfold S_tutorref03_Go at h
  dsimp only at h
  split at h
  · obtain ⟨n, hn⟩ := ok_tutorref03_Go _ _ _ _ _ _ _ _ _ h
    refine ⟨Nat.le_of_ble_eq_true (by kernel_rfl), n, (entry_tutorref03_Go n K _ _ _ _ _ _ _ _).trans ?_⟩
    rw [(runs_tutorref03_Go K n)]
    exact hn
  · cases h

theorem call_tutorref03_Go : Callable Try.prog 40 := ⟨_, Try.func40, by kernel_rfl, by kernel_rfl⟩

def T_tutorref03_From (l_tutorref03_Go : {R : Type} → Int → Int → Int → Int → (List Int) → (List Int) → Int → (List Int) → (Int → (List Int) → Option R) → Option R) (l_tutorref01_Check : {R : Type} → (List Int) → Int → (Int → Int → Option R) → Option R) (l_tutorref03_Check : {R : Type} → Int → Int → Int → Int → (List Int) → (List Int) → (Int → Int → Option R) → Option R) : FuncId → Option Sum := (addS (addS (addS G0 40 (S_tutorref03_Go @l_tutorref03_Go)) 22 (S_tutorref01_Check @l_tutorref01_Check)) 26 (S_tutorref03_Check @l_tutorref03_Check))

theorem right_T_tutorref03_From : Right Try.prog (T_tutorref03_From @l_tutorref03_Go @l_tutorref01_Check @l_tutorref03_Check) := (right_add (right_add (right_add right_G0 call_tutorref03_Go sound_tutorref03_Go) call_tutorref01_Check sound_tutorref01_Check) call_tutorref03_Check sound_tutorref03_Check)

abbrev cuts_tutorref03_From : Cuts := []

theorem gentry_tutorref03_From (l_tutorref03_Go : {R : Type} → Int → Int → Int → Int → (List Int) → (List Int) → Int → (List Int) → (Int → (List Int) → Option R) → Option R) (l_tutorref01_Check : {R : Type} → (List Int) → Int → (Int → Int → Option R) → Option R) (l_tutorref03_Check : {R : Type} → Int → Int → Int → Int → (List Int) → (List Int) → (Int → Int → Option R) → Option R) {R : Type} (K : AV → List O → Option R) (m : Int) (m_1 : Int) (m_2 : Int) (m_3 : Int) (m_4 : List Int) (m_5 : List Int) (s : Int) (w : List Int) :
    fnRun Try.prog (T_tutorref03_From @l_tutorref03_Go @l_tutorref01_Check @l_tutorref03_Check) cuts_tutorref03_From Try.f28 0 [.agg [.v (.int .i64 m), .v (.int .i64 m_1), .v (.int .i64 m_2), .v (.int .i64 m_3), .rd ⟨false, 3, (.int .i64), m_4⟩, .rd ⟨false, 3, (.int .i64), m_5⟩], .v (.int .i64 s), .rd ⟨false, 3, (.int .i64), w⟩] [] K =
    (fun (m : Int) (m_1 : Int) (m_2 : Int) (m_3 : Int) (m_4 : List Int) (m_5 : List Int) (s : Int) (w : List Int) (K0 : Int → Int → (List Int) → Option R) =>
    l_tutorref03_Check m m_1 m_2 m_3 m_4 m_5
     (fun r1 r2 =>
      bi (r2 != 0)
       (K0 0 r2 ([] : List Int))
       (bi (decide (s < 0))
        (K0 0 32 ([] : List Int))
        (bi (decide (s ≥ m_3))
         (K0 0 32 ([] : List Int))
         (l_tutorref01_Check w m_1
          (fun r3 r4 =>
           bi (r4 != 0)
            (K0 0 r4 ([] : List Int))
            (l_tutorref03_Go m m_1 m_2 m_3 m_4 m_5 s w
             (fun r5 r6 =>
              K0 r5 0 r6)))))))) m m_1 m_2 m_3 m_4 m_5 s w (fun r0 r1 r2 => K (.tup [.v (.int .i64 r0), .own 0, .v (.int .i64 r1)]) [.row ⟨true, 3, (.int .i64), r2⟩]) := by kernel_rfl

theorem entry_tutorref03_From {R : Type} (K : AV → List O → Option R) (m : Int) (m_1 : Int) (m_2 : Int) (m_3 : Int) (m_4 : List Int) (m_5 : List Int) (s : Int) (w : List Int) :
    fnRun Try.prog (T_tutorref03_From @l_tutorref03_Go @l_tutorref01_Check @l_tutorref03_Check) cuts_tutorref03_From Try.f28 0 [.agg [.v (.int .i64 m), .v (.int .i64 m_1), .v (.int .i64 m_2), .v (.int .i64 m_3), .rd ⟨false, 3, (.int .i64), m_4⟩, .rd ⟨false, 3, (.int .i64), m_5⟩], .v (.int .i64 s), .rd ⟨false, 3, (.int .i64), w⟩] [] K =
    l_tutorref03_From m m_1 m_2 m_3 m_4 m_5 s w (fun r0 r1 r2 => K (.tup [.v (.int .i64 r0), .own 0, .v (.int .i64 r1)]) [.row ⟨true, 3, (.int .i64), r2⟩]) := gentry_tutorref03_From @l_tutorref03_Go @l_tutorref01_Check @l_tutorref03_Check K m m_1 m_2 m_3 m_4 m_5 s w

def S_tutorref03_From (l_tutorref03_From : {R : Type} → Int → Int → Int → Int → (List Int) → (List Int) → Int → (List Int) → (Int → Int → (List Int) → Option R) → Option R) : Sum := ⟨[], fun {R} args ob K => match args, ob with
  | [.agg [.v (.int .i64 m), .v (.int .i64 m_1), .v (.int .i64 m_2), .v (.int .i64 m_3), .rd ⟨false, 3, (.int .i64), m_4⟩, .rd ⟨false, 3, (.int .i64), m_5⟩], .v (.int .i64 s), .rd ⟨false, 3, (.int .i64), w⟩], [] => l_tutorref03_From m m_1 m_2 m_3 m_4 m_5 s w (fun r0 r1 r2 => K (.tup [.v (.int .i64 r0), .own 0, .v (.int .i64 r1)]) [.row ⟨true, 3, (.int .i64), r2⟩])
  | _, _ => none⟩

theorem sound_tutorref03_From : Sound Try.prog 28 (S_tutorref03_From @l_tutorref03_From) := by
  refine fn_sound (cuts := cuts_tutorref03_From) (fn := Try.f28) (Γ := (T_tutorref03_From @l_tutorref03_Go @l_tutorref01_Check @l_tutorref03_Check)) wide right_T_tutorref03_From Try.func28 fun {R} K r args ob h => ?_
  unfold S_tutorref03_From at h
  dsimp only at h
  split at h
  · exact ⟨Nat.le_of_ble_eq_true (by kernel_rfl), 0, (entry_tutorref03_From K _ _ _ _ _ _ _ _).trans h⟩
  · cases h

theorem call_tutorref03_From : Callable Try.prog 28 := ⟨_, Try.func28, by kernel_rfl, by kernel_rfl⟩

def T_tutorref03_Run (l_tutorref03_From : {R : Type} → Int → Int → Int → Int → (List Int) → (List Int) → Int → (List Int) → (Int → Int → (List Int) → Option R) → Option R) : FuncId → Option Sum := (addS G0 28 (S_tutorref03_From @l_tutorref03_From))

theorem right_T_tutorref03_Run : Right Try.prog (T_tutorref03_Run @l_tutorref03_From) := (right_add right_G0 call_tutorref03_From sound_tutorref03_From)

abbrev cuts_tutorref03_Run : Cuts := []

theorem gentry_tutorref03_Run (l_tutorref03_From : {R : Type} → Int → Int → Int → Int → (List Int) → (List Int) → Int → (List Int) → (Int → Int → (List Int) → Option R) → Option R) {R : Type} (K : AV → List O → Option R) (m : Int) (m_1 : Int) (m_2 : Int) (m_3 : Int) (m_4 : List Int) (m_5 : List Int) (w : List Int) :
    fnRun Try.prog (T_tutorref03_Run @l_tutorref03_From) cuts_tutorref03_Run Try.f16 0 [.agg [.v (.int .i64 m), .v (.int .i64 m_1), .v (.int .i64 m_2), .v (.int .i64 m_3), .rd ⟨false, 3, (.int .i64), m_4⟩, .rd ⟨false, 3, (.int .i64), m_5⟩], .rd ⟨false, 3, (.int .i64), w⟩] [] K =
    (fun (m : Int) (m_1 : Int) (m_2 : Int) (m_3 : Int) (m_4 : List Int) (m_5 : List Int) (w : List Int) (K0 : Int → (List Int) → Option R) =>
    l_tutorref03_From m m_1 m_2 m_3 m_4 m_5 0 w
     (fun r1 r2 r3 =>
      K0 r2 r3)) m m_1 m_2 m_3 m_4 m_5 w (fun r0 r1 => K (.tup [.own 0, .v (.int .i64 r0)]) [.row ⟨true, 3, (.int .i64), r1⟩]) := by kernel_rfl

theorem entry_tutorref03_Run {R : Type} (K : AV → List O → Option R) (m : Int) (m_1 : Int) (m_2 : Int) (m_3 : Int) (m_4 : List Int) (m_5 : List Int) (w : List Int) :
    fnRun Try.prog (T_tutorref03_Run @l_tutorref03_From) cuts_tutorref03_Run Try.f16 0 [.agg [.v (.int .i64 m), .v (.int .i64 m_1), .v (.int .i64 m_2), .v (.int .i64 m_3), .rd ⟨false, 3, (.int .i64), m_4⟩, .rd ⟨false, 3, (.int .i64), m_5⟩], .rd ⟨false, 3, (.int .i64), w⟩] [] K =
    l_tutorref03_Run m m_1 m_2 m_3 m_4 m_5 w (fun r0 r1 => K (.tup [.own 0, .v (.int .i64 r0)]) [.row ⟨true, 3, (.int .i64), r1⟩]) := gentry_tutorref03_Run @l_tutorref03_From K m m_1 m_2 m_3 m_4 m_5 w

def S_tutorref03_Run (l_tutorref03_Run : {R : Type} → Int → Int → Int → Int → (List Int) → (List Int) → (List Int) → (Int → (List Int) → Option R) → Option R) : Sum := ⟨[], fun {R} args ob K => match args, ob with
  | [.agg [.v (.int .i64 m), .v (.int .i64 m_1), .v (.int .i64 m_2), .v (.int .i64 m_3), .rd ⟨false, 3, (.int .i64), m_4⟩, .rd ⟨false, 3, (.int .i64), m_5⟩], .rd ⟨false, 3, (.int .i64), w⟩], [] => l_tutorref03_Run m m_1 m_2 m_3 m_4 m_5 w (fun r0 r1 => K (.tup [.own 0, .v (.int .i64 r0)]) [.row ⟨true, 3, (.int .i64), r1⟩])
  | _, _ => none⟩

theorem sound_tutorref03_Run : Sound Try.prog 16 (S_tutorref03_Run @l_tutorref03_Run) := by
  refine fn_sound (cuts := cuts_tutorref03_Run) (fn := Try.f16) (Γ := (T_tutorref03_Run @l_tutorref03_From)) wide right_T_tutorref03_Run Try.func16 fun {R} K r args ob h => ?_
  unfold S_tutorref03_Run at h
  dsimp only at h
  split at h
  · exact ⟨Nat.le_of_ble_eq_true (by kernel_rfl), 0, (entry_tutorref03_Run K _ _ _ _ _ _ _).trans h⟩
  · cases h

theorem call_tutorref03_Run : Callable Try.prog 16 := ⟨_, Try.func16, by kernel_rfl, by kernel_rfl⟩

def T_tutorlaw10_TeachTrue (l_tutorlaw10_live : {R : Type} → (Bool → Option R) → Option R) (l_tutorref01_Same : {R : Type} → (List Int) → (List Int) → (Bool → Option R) → Option R) (l_tutorref03_Run : {R : Type} → Int → Int → Int → Int → (List Int) → (List Int) → (List Int) → (Int → (List Int) → Option R) → Option R) (l_tutorlaw10_num : {R : Type} → Int → (Int → Option R) → Option R) (l_teach_Check : {R : Type} → Int → (List Int) → Int → Int → Int → Int → (List Int) → (List Int) → Int → (List Int) → (List Int) → (Int → Option R) → Option R) (l_tutorref07_Separate : {R : Type} → Int → Int → Int → Int → (List Int) → (List Int) → Int → Int → Int → Int → (List Int) → (List Int) → (Bool → Int → (List Int) → Option R) → Option R) (l_teach_Tell : {R : Type} → Int → Int → Int → Int → (List Int) → (List Int) → Int → (List Int) → Int → Int → Int → Int → (List Int) → (List Int) → (Int → Int → (List Int) → (List Int) → Option R) → Option R) (l_tutorref03_Big : {R : Type} → Int → Int → Int → Int → (List Int) → (List Int) → Int → (Bool → Option R) → Option R) : FuncId → Option Sum := (addS (addS (addS (addS (addS (addS (addS (addS G0 7 (S_tutorlaw10_live @l_tutorlaw10_live)) 17 (S_tutorref01_Same @l_tutorref01_Same)) 16 (S_tutorref03_Run @l_tutorref03_Run)) 8 (S_tutorlaw10_num @l_tutorlaw10_num)) 9 (S_teach_Check @l_teach_Check)) 15 (S_tutorref07_Separate @l_tutorref07_Separate)) 12 (S_teach_Tell @l_teach_Tell)) 11 (S_tutorref03_Big @l_tutorref03_Big))

theorem right_T_tutorlaw10_TeachTrue : Right Try.prog (T_tutorlaw10_TeachTrue @l_tutorlaw10_live @l_tutorref01_Same @l_tutorref03_Run @l_tutorlaw10_num @l_teach_Check @l_tutorref07_Separate @l_teach_Tell @l_tutorref03_Big) := (right_add (right_add (right_add (right_add (right_add (right_add (right_add (right_add right_G0 call_tutorlaw10_live sound_tutorlaw10_live) call_tutorref01_Same sound_tutorref01_Same) call_tutorref03_Run sound_tutorref03_Run) call_tutorlaw10_num sound_tutorlaw10_num) call_teach_Check sound_teach_Check) call_tutorref07_Separate sound_tutorref07_Separate) call_teach_Tell sound_teach_Tell) call_tutorref03_Big sound_tutorref03_Big)

abbrev cuts_tutorlaw10_TeachTrue : Cuts := []

theorem gentry_tutorlaw10_TeachTrue (l_tutorlaw10_live : {R : Type} → (Bool → Option R) → Option R) (l_tutorref01_Same : {R : Type} → (List Int) → (List Int) → (Bool → Option R) → Option R) (l_tutorref03_Run : {R : Type} → Int → Int → Int → Int → (List Int) → (List Int) → (List Int) → (Int → (List Int) → Option R) → Option R) (l_tutorlaw10_num : {R : Type} → Int → (Int → Option R) → Option R) (l_teach_Check : {R : Type} → Int → (List Int) → Int → Int → Int → Int → (List Int) → (List Int) → Int → (List Int) → (List Int) → (Int → Option R) → Option R) (l_tutorref07_Separate : {R : Type} → Int → Int → Int → Int → (List Int) → (List Int) → Int → Int → Int → Int → (List Int) → (List Int) → (Bool → Int → (List Int) → Option R) → Option R) (l_teach_Tell : {R : Type} → Int → Int → Int → Int → (List Int) → (List Int) → Int → (List Int) → Int → Int → Int → Int → (List Int) → (List Int) → (Int → Int → (List Int) → (List Int) → Option R) → Option R) (l_tutorref03_Big : {R : Type} → Int → Int → Int → Int → (List Int) → (List Int) → Int → (Bool → Option R) → Option R) {R : Type} (K : AV → List O → Option R) (m : Int) (m_1 : Int) (m_2 : Int) (m_3 : Int) (m_4 : List Int) (m_5 : List Int) (w : List Int) (h : Int) (h_1 : Int) (h_2 : Int) (h_3 : Int) (h_4 : List Int) (h_5 : List Int) :
    fnRun Try.prog (T_tutorlaw10_TeachTrue @l_tutorlaw10_live @l_tutorref01_Same @l_tutorref03_Run @l_tutorlaw10_num @l_teach_Check @l_tutorref07_Separate @l_teach_Tell @l_tutorref03_Big) cuts_tutorlaw10_TeachTrue Try.f5 0 [.agg [.v (.int .i64 m), .v (.int .i64 m_1), .v (.int .i64 m_2), .v (.int .i64 m_3), .rd ⟨false, 3, (.int .i64), m_4⟩, .rd ⟨false, 3, (.int .i64), m_5⟩], .rd ⟨false, 3, (.int .i64), w⟩, .agg [.v (.int .i64 h), .v (.int .i64 h_1), .v (.int .i64 h_2), .v (.int .i64 h_3), .rd ⟨false, 3, (.int .i64), h_4⟩, .rd ⟨false, 3, (.int .i64), h_5⟩]] [] K =
    (fun (m : Int) (m_1 : Int) (m_2 : Int) (m_3 : Int) (m_4 : List Int) (m_5 : List Int) (w : List Int) (h : Int) (h_1 : Int) (h_2 : Int) (h_3 : Int) (h_4 : List Int) (h_5 : List Int) (K0 : Bool → Option R) =>
    l_tutorref03_Big m m_1 m_2 m_3 m_4 m_5 60
     (fun r1 =>
      bi r1
       (l_tutorlaw10_live
        (fun r2 =>
         K0 r2))
       (l_tutorref03_Big h h_1 h_2 h_3 h_4 h_5 60
        (fun r3 =>
         bi r3
          (l_tutorlaw10_live
           (fun r4 =>
            K0 r4))
          (bi (decide ((w.length : Int) > 2000))
           (l_tutorlaw10_live
            (fun r5 =>
             K0 r5))
           (l_teach_Tell m m_1 m_2 m_3 m_4 m_5 1 w m m_1 m_2 0 ([] : List Int) ([] : List Int)
            (fun r6 r7 r8 r9 =>
             l_tutorlaw10_num r7
              (fun r10 =>
               bi (r10 == 0)
                (l_teach_Check 1 w m m_1 m_2 0 ([] : List Int) ([] : List Int) r6 r8 r9
                 (fun r11 =>
                  l_tutorlaw10_num r11
                   (fun r12 =>
                    bi (r12 != 0)
                     (K0 false)
                     (l_teach_Tell m m_1 m_2 m_3 m_4 m_5 2 ([] : List Int) h h_1 h_2 h_3 h_4 h_5
                      (fun r13 r14 r15 r16 =>
                       l_tutorlaw10_num r14
                        (fun r17 =>
                         bi (r17 != 0)
                          (l_tutorlaw10_live
                           (fun r18 =>
                            K0 r18))
                          (l_tutorref07_Separate m m_1 m_2 m_3 m_4 m_5 h h_1 h_2 h_3 h_4 h_5
                           (fun r19 r20 r21 =>
                            l_teach_Check 2 ([] : List Int) h h_1 h_2 h_3 h_4 h_5 r13 r15 r16
                             (fun r22 =>
                              l_tutorlaw10_num r22
                               (fun r23 =>
                                bi (r23 != 0)
                                 (K0 false)
                                 (bi (!((r13 == 3) == r19))
                                  (K0 false)
                                  (bi (!r19)
                                   (bi (r13 == 2)
                                    (l_tutorlaw10_live
                                     (fun r24 =>
                                      K0 r24))
                                    (K0 false))
                                   (l_tutorref03_Run m m_1 m_2 m_3 m_4 m_5 r16
                                    (fun r25 r26 =>
                                     l_tutorref03_Run h h_1 h_2 h_3 h_4 h_5 r16
                                      (fun r27 r28 =>
                                       l_tutorref01_Same r26 r28
                                        (fun r29 =>
                                         bi (!r29)
                                          (l_tutorlaw10_live
                                           (fun r30 =>
                                            K0 r30))
                                          (K0 false)))))))))))))))))
                (l_teach_Tell m m_1 m_2 m_3 m_4 m_5 2 ([] : List Int) h h_1 h_2 h_3 h_4 h_5
                 (fun r31 r32 r33 r34 =>
                  l_tutorlaw10_num r32
                   (fun r35 =>
                    bi (r35 != 0)
                     (l_tutorlaw10_live
                      (fun r36 =>
                       K0 r36))
                     (l_tutorref07_Separate m m_1 m_2 m_3 m_4 m_5 h h_1 h_2 h_3 h_4 h_5
                      (fun r37 r38 r39 =>
                       l_teach_Check 2 ([] : List Int) h h_1 h_2 h_3 h_4 h_5 r31 r33 r34
                        (fun r40 =>
                         l_tutorlaw10_num r40
                          (fun r41 =>
                           bi (r41 != 0)
                            (K0 false)
                            (bi (!((r31 == 3) == r37))
                             (K0 false)
                             (bi (!r37)
                              (bi (r31 == 2)
                               (l_tutorlaw10_live
                                (fun r42 =>
                                 K0 r42))
                               (K0 false))
                              (l_tutorref03_Run m m_1 m_2 m_3 m_4 m_5 r34
                               (fun r43 r44 =>
                                l_tutorref03_Run h h_1 h_2 h_3 h_4 h_5 r34
                                 (fun r45 r46 =>
                                  l_tutorref01_Same r44 r46
                                   (fun r47 =>
                                    bi (!r47)
                                     (l_tutorlaw10_live
                                      (fun r48 =>
                                       K0 r48))
                                     (K0 false)))))))))))))))))))))) m m_1 m_2 m_3 m_4 m_5 w h h_1 h_2 h_3 h_4 h_5 (fun r0 => K (.v (.bool r0)) []) := by kernel_rfl

theorem entry_tutorlaw10_TeachTrue {R : Type} (K : AV → List O → Option R) (m : Int) (m_1 : Int) (m_2 : Int) (m_3 : Int) (m_4 : List Int) (m_5 : List Int) (w : List Int) (h : Int) (h_1 : Int) (h_2 : Int) (h_3 : Int) (h_4 : List Int) (h_5 : List Int) :
    fnRun Try.prog (T_tutorlaw10_TeachTrue @l_tutorlaw10_live @l_tutorref01_Same @l_tutorref03_Run @l_tutorlaw10_num @l_teach_Check @l_tutorref07_Separate @l_teach_Tell @l_tutorref03_Big) cuts_tutorlaw10_TeachTrue Try.f5 0 [.agg [.v (.int .i64 m), .v (.int .i64 m_1), .v (.int .i64 m_2), .v (.int .i64 m_3), .rd ⟨false, 3, (.int .i64), m_4⟩, .rd ⟨false, 3, (.int .i64), m_5⟩], .rd ⟨false, 3, (.int .i64), w⟩, .agg [.v (.int .i64 h), .v (.int .i64 h_1), .v (.int .i64 h_2), .v (.int .i64 h_3), .rd ⟨false, 3, (.int .i64), h_4⟩, .rd ⟨false, 3, (.int .i64), h_5⟩]] [] K =
    l_tutorlaw10_TeachTrue m m_1 m_2 m_3 m_4 m_5 w h h_1 h_2 h_3 h_4 h_5 (fun r0 => K (.v (.bool r0)) []) := gentry_tutorlaw10_TeachTrue @l_tutorlaw10_live @l_tutorref01_Same @l_tutorref03_Run @l_tutorlaw10_num @l_teach_Check @l_tutorref07_Separate @l_teach_Tell @l_tutorref03_Big K m m_1 m_2 m_3 m_4 m_5 w h h_1 h_2 h_3 h_4 h_5

def S_tutorlaw10_TeachTrue (l_tutorlaw10_TeachTrue : {R : Type} → Int → Int → Int → Int → (List Int) → (List Int) → (List Int) → Int → Int → Int → Int → (List Int) → (List Int) → (Bool → Option R) → Option R) : Sum := ⟨[], fun {R} args ob K => match args, ob with
  | [.agg [.v (.int .i64 m), .v (.int .i64 m_1), .v (.int .i64 m_2), .v (.int .i64 m_3), .rd ⟨false, 3, (.int .i64), m_4⟩, .rd ⟨false, 3, (.int .i64), m_5⟩], .rd ⟨false, 3, (.int .i64), w⟩, .agg [.v (.int .i64 h), .v (.int .i64 h_1), .v (.int .i64 h_2), .v (.int .i64 h_3), .rd ⟨false, 3, (.int .i64), h_4⟩, .rd ⟨false, 3, (.int .i64), h_5⟩]], [] => l_tutorlaw10_TeachTrue m m_1 m_2 m_3 m_4 m_5 w h h_1 h_2 h_3 h_4 h_5 (fun r0 => K (.v (.bool r0)) [])
  | _, _ => none⟩

theorem sound_tutorlaw10_TeachTrue : Sound Try.prog 5 (S_tutorlaw10_TeachTrue @l_tutorlaw10_TeachTrue) := by
  refine fn_sound (cuts := cuts_tutorlaw10_TeachTrue) (fn := Try.f5) (Γ := (T_tutorlaw10_TeachTrue @l_tutorlaw10_live @l_tutorref01_Same @l_tutorref03_Run @l_tutorlaw10_num @l_teach_Check @l_tutorref07_Separate @l_teach_Tell @l_tutorref03_Big)) wide right_T_tutorlaw10_TeachTrue Try.func5 fun {R} K r args ob h => ?_
  unfold S_tutorlaw10_TeachTrue at h
  dsimp only at h
  split at h
  · exact ⟨Nat.le_of_ble_eq_true (by kernel_rfl), 0, (entry_tutorlaw10_TeachTrue K _ _ _ _ _ _ _ _ _ _ _ _ _).trans h⟩
  · cases h

theorem call_tutorlaw10_TeachTrue : Callable Try.prog 5 := ⟨_, Try.func5, by kernel_rfl, by kernel_rfl⟩

end
end Go.Ev
