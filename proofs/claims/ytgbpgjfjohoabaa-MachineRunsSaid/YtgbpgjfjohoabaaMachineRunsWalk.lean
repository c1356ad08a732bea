/- Each function of the program is its tree. -/
import Derived.Test.YtgbpgjfjohoabaaProg
import Derived.Test.YtgbpgjfjohoabaaEvFn
import Derived.Test.YtgbpgjfjohoabaaMachineRunsPure
namespace Go.Ev
open Go.Proofs
set_option linter.unusedVariables false
set_option linter.unusedSimpArgs false
set_option maxRecDepth 100000
set_option maxHeartbeats 4000000

theorem wide : Tables.follows Try.prog.toTables .mixedOrders = true := by kernel_rfl

def G0 : FuncId → Option Sum := fun _ => none
theorem right_G0 : Right Try.prog G0 := fun f S h => by cases h

abbrev cuts_tutorref03_Big : Cuts := []

theorem entry_tutorref03_Big {R : Type} (K : AV → List O → Option R) (m : Int) (m_1 : Int) (m_2 : Int) (m_3 : Int) (m_4 : List Int) (m_5 : List Int) (states : Int) :
    fnRun Try.prog G0 cuts_tutorref03_Big Try.f40 0 [.agg [.v (.int .i64 m), .v (.int .i64 m_1), .v (.int .i64 m_2), .v (.int .i64 m_3), .rd ⟨false, 3, (.int .i64), m_4⟩, .rd ⟨false, 3, (.int .i64), m_5⟩], .v (.int .i64 states)] [] K =
    l_tutorref03_Big m m_1 m_2 m_3 m_4 m_5 states (fun r0 => K (.v (.bool r0)) []) := by kernel_rfl

def S_tutorref03_Big : Sum := ⟨[], fun {R} args ob K => match args, ob with
  | [.agg [.v (.int .i64 m), .v (.int .i64 m_1), .v (.int .i64 m_2), .v (.int .i64 m_3), .rd ⟨false, 3, (.int .i64), m_4⟩, .rd ⟨false, 3, (.int .i64), m_5⟩], .v (.int .i64 states)], [] => l_tutorref03_Big m m_1 m_2 m_3 m_4 m_5 states (fun r0 => K (.v (.bool r0)) [])
  | _, _ => none⟩

theorem sound_tutorref03_Big : Sound Try.prog 40 S_tutorref03_Big := by
  refine fn_sound (cuts := cuts_tutorref03_Big) (fn := Try.f40) (Γ := G0) wide right_G0 Try.func40 fun {R} K r args ob h => ?_
  unfold S_tutorref03_Big at h
  dsimp only at h
  split at h
  · exact ⟨Nat.le_of_ble_eq_true (by kernel_rfl), 0, (entry_tutorref03_Big K _ _ _ _ _ _ _).trans h⟩
  · cases h

def G1 : FuncId → Option Sum := addS G0 40 S_tutorref03_Big

theorem right_G1 : Right Try.prog G1 := right_add right_G0 ⟨_, Try.func40, by kernel_rfl, by kernel_rfl⟩ sound_tutorref03_Big

abbrev cuts_machine_says : Cuts := []

theorem entry_machine_says {R : Type} (K : AV → List O → Option R) (m : Int) (m_1 : Int) (m_2 : Int) (m_3 : Int) (m_4 : List Int) (m_5 : List Int) :
    fnRun Try.prog G1 cuts_machine_says Try.f69 0 [.agg [.v (.int .i64 m), .v (.int .i64 m_1), .v (.int .i64 m_2), .v (.int .i64 m_3), .rd ⟨false, 3, (.int .i64), m_4⟩, .rd ⟨false, 3, (.int .i64), m_5⟩]] [] K =
    l_machine_says m m_1 m_2 m_3 m_4 m_5 (fun r0 => K (.v (.int .i64 r0)) []) := by kernel_rfl

def S_machine_says : Sum := ⟨[], fun {R} args ob K => match args, ob with
  | [.agg [.v (.int .i64 m), .v (.int .i64 m_1), .v (.int .i64 m_2), .v (.int .i64 m_3), .rd ⟨false, 3, (.int .i64), m_4⟩, .rd ⟨false, 3, (.int .i64), m_5⟩]], [] => l_machine_says m m_1 m_2 m_3 m_4 m_5 (fun r0 => K (.v (.int .i64 r0)) [])
  | _, _ => none⟩

theorem sound_machine_says : Sound Try.prog 69 S_machine_says := by
  refine fn_sound (cuts := cuts_machine_says) (fn := Try.f69) (Γ := G1) wide right_G1 Try.func69 fun {R} K r args ob h => ?_
  unfold S_machine_says at h
  dsimp only at h
  split at h
  · exact ⟨Nat.le_of_ble_eq_true (by kernel_rfl), 0, (entry_machine_says K _ _ _ _ _ _).trans h⟩
  · cases h

def G2 : FuncId → Option Sum := addS G1 69 S_machine_says

theorem right_G2 : Right Try.prog G2 := right_add right_G1 ⟨_, Try.func69, by kernel_rfl, by kernel_rfl⟩ sound_machine_says

abbrev cuts_machine_head : Cuts := []

theorem entry_machine_head {R : Type} (K : AV → List O → Option R) (m : Int) (m_1 : Int) (m_2 : Int) (m_3 : Int) (m_4 : List Int) (m_5 : List Int) :
    fnRun Try.prog G2 cuts_machine_head Try.f62 0 [.agg [.v (.int .i64 m), .v (.int .i64 m_1), .v (.int .i64 m_2), .v (.int .i64 m_3), .rd ⟨false, 3, (.int .i64), m_4⟩, .rd ⟨false, 3, (.int .i64), m_5⟩]] [] K =
    l_machine_head m m_1 m_2 m_3 m_4 m_5 (fun r0 => K (.v (.int .i64 r0)) []) := by kernel_rfl

def S_machine_head : Sum := ⟨[], fun {R} args ob K => match args, ob with
  | [.agg [.v (.int .i64 m), .v (.int .i64 m_1), .v (.int .i64 m_2), .v (.int .i64 m_3), .rd ⟨false, 3, (.int .i64), m_4⟩, .rd ⟨false, 3, (.int .i64), m_5⟩]], [] => l_machine_head m m_1 m_2 m_3 m_4 m_5 (fun r0 => K (.v (.int .i64 r0)) [])
  | _, _ => none⟩

theorem sound_machine_head : Sound Try.prog 62 S_machine_head := by
  refine fn_sound (cuts := cuts_machine_head) (fn := Try.f62) (Γ := G2) wide right_G2 Try.func62 fun {R} K r args ob h => ?_
  unfold S_machine_head at h
  dsimp only at h
  split at h
  · exact ⟨Nat.le_of_ble_eq_true (by kernel_rfl), 0, (entry_machine_head K _ _ _ _ _ _).trans h⟩
  · cases h

def G3 : FuncId → Option Sum := addS G2 62 S_machine_head

theorem right_G3 : Right Try.prog G3 := right_add right_G2 ⟨_, Try.func62, by kernel_rfl, by kernel_rfl⟩ sound_machine_head

abbrev cuts_machine_beyond : Cuts := [(2, [0, 1, 7, 8])]

theorem step_machine_beyond_2 {R : Type} (g : List Item → St → Option R) (K : AV → List O → Option R) (l : List Int) (n : Int) (x7 : Int) (x8 : Int) :
    runSeg Try.prog G3 cuts_machine_beyond 0 g (finish Try.prog Try.f63 0 K) (at' Try.f63 2) ⟨fr0 21 [(0, .rd ⟨false, 3, (.int .i64), l⟩), (1, .v (.int .i64 n)), (7, .v (.int .i64 x7)), (8, .v (.int .i64 x8))], []⟩ =
    s_machine_beyond_2 (fun l n x7 x8 => g (at' Try.f63 2) ⟨fr0 21 [(0, .rd ⟨false, 3, (.int .i64), l⟩), (1, .v (.int .i64 n)), (7, .v (.int .i64 x7)), (8, .v (.int .i64 x8))], []⟩) (fun r0 => K (.v (.int .i64 r0)) []) l n x7 x8 := by kernel_rfl

theorem entry_machine_beyond {R : Type} (fuel : Nat) (K : AV → List O → Option R) (l : List Int) (n : Int) :
    fnRun Try.prog G3 cuts_machine_beyond Try.f63 fuel [.rd ⟨false, 3, (.int .i64), l⟩, .v (.int .i64 n)] [] K =
    e_machine_beyond (fun l n x7 x8 => (runO Try.prog G3 cuts_machine_beyond 0 (finish Try.prog Try.f63 0 K) fuel) (at' Try.f63 2) ⟨fr0 21 [(0, .rd ⟨false, 3, (.int .i64), l⟩), (1, .v (.int .i64 n)), (7, .v (.int .i64 x7)), (8, .v (.int .i64 x8))], []⟩) (fun r0 => K (.v (.int .i64 r0)) []) l n := by kernel_rfl

theorem runs_machine_beyond {R : Type} (K : AV → List O → Option R) : ∀ fuel : Nat,
    (fun l n x7 x8 => (runO Try.prog G3 cuts_machine_beyond 0 (finish Try.prog Try.f63 0 K) fuel) (at' Try.f63 2) ⟨fr0 21 [(0, .rd ⟨false, 3, (.int .i64), l⟩), (1, .v (.int .i64 n)), (7, .v (.int .i64 x7)), (8, .v (.int .i64 x8))], []⟩) = (run_machine_beyond (fun r0 => K (.v (.int .i64 r0)) []) fuel)
  | 0 => rfl
  | fuel + 1 => by
    have ih := runs_machine_beyond K fuel
    funext l n x7 x8
    refine (step_machine_beyond_2 _ K l n x7 x8).trans ?_
    rw [ih]
    rfl

def S_machine_beyond : Sum := ⟨[], fun {R} args ob K => match args, ob with
  | [.rd ⟨false, 3, (.int .i64), l⟩, .v (.int .i64 n)], [] => l_machine_beyond l n (fun r0 => K (.v (.int .i64 r0)) [])
  | _, _ => none⟩

theorem sound_machine_beyond : Sound Try.prog 63 S_machine_beyond := by
  refine fn_sound (cuts := cuts_machine_beyond) (fn := Try.f63) (Γ := G3) wide right_G3 Try.func63 fun {R} K r args ob h => ?_
  unfold S_machine_beyond at h
  dsimp only at h
  split at h
  · obtain ⟨n, hn⟩ := ok_machine_beyond _ _ _ h
    refine ⟨Nat.le_of_ble_eq_true (by kernel_rfl), n, (entry_machine_beyond n K _ _).trans ?_⟩
    rw [(runs_machine_beyond K n)]
    exact hn
  · cases h

def G4 : FuncId → Option Sum := addS G3 63 S_machine_beyond

theorem right_G4 : Right Try.prog G4 := right_add right_G3 ⟨_, Try.func63, by kernel_rfl, by kernel_rfl⟩ sound_machine_beyond

abbrev cuts_machine_Check : Cuts := []

theorem entry_machine_Check {R : Type} (K : AV → List O → Option R) (m : Int) (m_1 : Int) (m_2 : Int) (m_3 : Int) (m_4 : List Int) (m_5 : List Int) :
    fnRun Try.prog G4 cuts_machine_Check Try.f43 0 [.agg [.v (.int .i64 m), .v (.int .i64 m_1), .v (.int .i64 m_2), .v (.int .i64 m_3), .rd ⟨false, 3, (.int .i64), m_4⟩, .rd ⟨false, 3, (.int .i64), m_5⟩]] [] K =
    l_machine_Check m m_1 m_2 m_3 m_4 m_5 (fun r0 r1 => K (.tup [.v (.int .i64 r0), .v (.int .i64 r1)]) []) := by kernel_rfl

def S_machine_Check : Sum := ⟨[], fun {R} args ob K => match args, ob with
  | [.agg [.v (.int .i64 m), .v (.int .i64 m_1), .v (.int .i64 m_2), .v (.int .i64 m_3), .rd ⟨false, 3, (.int .i64), m_4⟩, .rd ⟨false, 3, (.int .i64), m_5⟩]], [] => l_machine_Check m m_1 m_2 m_3 m_4 m_5 (fun r0 r1 => K (.tup [.v (.int .i64 r0), .v (.int .i64 r1)]) [])
  | _, _ => none⟩

theorem sound_machine_Check : Sound Try.prog 43 S_machine_Check := by
  refine fn_sound (cuts := cuts_machine_Check) (fn := Try.f43) (Γ := G4) wide right_G4 Try.func43 fun {R} K r args ob h => ?_
  unfold S_machine_Check at h
  dsimp only at h
  split at h
  · exact ⟨Nat.le_of_ble_eq_true (by kernel_rfl), 0, (entry_machine_Check K _ _ _ _ _ _).trans h⟩
  · cases h

def G5 : FuncId → Option Sum := addS G4 43 S_machine_Check

theorem right_G5 : Right Try.prog G5 := right_add right_G4 ⟨_, Try.func43, by kernel_rfl, by kernel_rfl⟩ sound_machine_Check

abbrev cuts_word_alphabet : Cuts := []

theorem entry_word_alphabet {R : Type} (K : AV → List O → Option R) (k : Int) :
    fnRun Try.prog G5 cuts_word_alphabet Try.f70 0 [.v (.int .i64 k)] [] K =
    l_word_alphabet k (fun r0 => K (.v (.bool r0)) []) := by kernel_rfl

def S_word_alphabet : Sum := ⟨[], fun {R} args ob K => match args, ob with
  | [.v (.int .i64 k)], [] => l_word_alphabet k (fun r0 => K (.v (.bool r0)) [])
  | _, _ => none⟩

theorem sound_word_alphabet : Sound Try.prog 70 S_word_alphabet := by
  refine fn_sound (cuts := cuts_word_alphabet) (fn := Try.f70) (Γ := G5) wide right_G5 Try.func70 fun {R} K r args ob h => ?_
  unfold S_word_alphabet at h
  dsimp only at h
  split at h
  · exact ⟨Nat.le_of_ble_eq_true (by kernel_rfl), 0, (entry_word_alphabet K _).trans h⟩
  · cases h

def G6 : FuncId → Option Sum := addS G5 70 S_word_alphabet

theorem right_G6 : Right Try.prog G6 := right_add right_G5 ⟨_, Try.func70, by kernel_rfl, by kernel_rfl⟩ sound_word_alphabet

abbrev cuts_word_Check : Cuts := [(6, [0, 1, 16, 17])]

theorem step_word_Check_6 {R : Type} (g : List Item → St → Option R) (K : AV → List O → Option R) (w : List Int) (k : Int) (x16 : Int) (x17 : Int) :
    runSeg Try.prog G6 cuts_word_Check 0 g (finish Try.prog Try.f64 0 K) (at' Try.f64 6) ⟨fr0 35 [(0, .rd ⟨false, 3, (.int .i64), w⟩), (1, .v (.int .i64 k)), (16, .v (.int .i64 x16)), (17, .v (.int .i64 x17))], []⟩ =
    s_word_Check_6 (fun w k x16 x17 => g (at' Try.f64 6) ⟨fr0 35 [(0, .rd ⟨false, 3, (.int .i64), w⟩), (1, .v (.int .i64 k)), (16, .v (.int .i64 x16)), (17, .v (.int .i64 x17))], []⟩) (fun r0 r1 => K (.tup [.v (.int .i64 r0), .v (.int .i64 r1)]) []) w k x16 x17 := by kernel_rfl

theorem entry_word_Check {R : Type} (fuel : Nat) (K : AV → List O → Option R) (w : List Int) (k : Int) :
    fnRun Try.prog G6 cuts_word_Check Try.f64 fuel [.rd ⟨false, 3, (.int .i64), w⟩, .v (.int .i64 k)] [] K =
    e_word_Check (fun w k x16 x17 => (runO Try.prog G6 cuts_word_Check 0 (finish Try.prog Try.f64 0 K) fuel) (at' Try.f64 6) ⟨fr0 35 [(0, .rd ⟨false, 3, (.int .i64), w⟩), (1, .v (.int .i64 k)), (16, .v (.int .i64 x16)), (17, .v (.int .i64 x17))], []⟩) (fun r0 r1 => K (.tup [.v (.int .i64 r0), .v (.int .i64 r1)]) []) w k := by kernel_rfl

theorem runs_word_Check {R : Type} (K : AV → List O → Option R) : ∀ fuel : Nat,
    (fun w k x16 x17 => (runO Try.prog G6 cuts_word_Check 0 (finish Try.prog Try.f64 0 K) fuel) (at' Try.f64 6) ⟨fr0 35 [(0, .rd ⟨false, 3, (.int .i64), w⟩), (1, .v (.int .i64 k)), (16, .v (.int .i64 x16)), (17, .v (.int .i64 x17))], []⟩) = (run_word_Check (fun r0 r1 => K (.tup [.v (.int .i64 r0), .v (.int .i64 r1)]) []) fuel)
  | 0 => rfl
  | fuel + 1 => by
    have ih := runs_word_Check K fuel
    funext w k x16 x17
    refine (step_word_Check_6 _ K w k x16 x17).trans ?_
    rw [ih]
    rfl

def S_word_Check : Sum := ⟨[], fun {R} args ob K => match args, ob with
  | [.rd ⟨false, 3, (.int .i64), w⟩, .v (.int .i64 k)], [] => l_word_Check w k (fun r0 r1 => K (.tup [.v (.int .i64 r0), .v (.int .i64 r1)]) [])
  | _, _ => none⟩

theorem sound_word_Check : Sound Try.prog 64 S_word_Check := by
  refine fn_sound (cuts := cuts_word_Check) (fn := Try.f64) (Γ := G6) wide right_G6 Try.func64 fun {R} K r args ob h => ?_
  unfold S_word_Check at h
  dsimp only at h
  split at h
  · obtain ⟨n, hn⟩ := ok_word_Check _ _ _ h
    refine ⟨Nat.le_of_ble_eq_true (by kernel_rfl), n, (entry_word_Check n K _ _).trans ?_⟩
    rw [(runs_word_Check K n)]
    exact hn
  · cases h

def G7 : FuncId → Option Sum := addS G6 64 S_word_Check

theorem right_G7 : Right Try.prog G7 := right_add right_G6 ⟨_, Try.func64, by kernel_rfl, by kernel_rfl⟩ sound_word_Check

abbrev cuts_machine_From : Cuts := [(10, [1, 3, 7, 42, 43, 44])]

theorem step_machine_From_10 {R : Type} (g : List Item → St → Option R) (K : AV → List O → Option R) (s : Int) (x42 : List Int) (x43 : Int) (x44 : Int) (o0 : Int) (o0_1 : Int) (o0_2 : Int) (o0_3 : Int) (o0_4 : List Int) (o0_5 : List Int) (o1 : List Int) :
    runSeg Try.prog G7 cuts_machine_From 0 g (finish Try.prog Try.f47 0 K) (at' Try.f47 10) ⟨fr0 82 [(1, .v (.int .i64 s)), (3, .ptr 0 0), (7, .own 1), (42, .rd ⟨false, 3, (.int .i64), x42⟩), (43, .v (.int .i64 x43)), (44, .v (.int .i64 x44))], [.box 70 [.v (.int .i64 o0), .v (.int .i64 o0_1), .v (.int .i64 o0_2), .v (.int .i64 o0_3), .rd ⟨false, 3, (.int .i64), o0_4⟩, .rd ⟨false, 3, (.int .i64), o0_5⟩], .row ⟨true, 3, (.int .i64), o1⟩]⟩ =
    s_machine_From_10 (fun s x42 x43 x44 o0 o0_1 o0_2 o0_3 o0_4 o0_5 o1 => g (at' Try.f47 10) ⟨fr0 82 [(1, .v (.int .i64 s)), (3, .ptr 0 0), (7, .own 1), (42, .rd ⟨false, 3, (.int .i64), x42⟩), (43, .v (.int .i64 x43)), (44, .v (.int .i64 x44))], [.box 70 [.v (.int .i64 o0), .v (.int .i64 o0_1), .v (.int .i64 o0_2), .v (.int .i64 o0_3), .rd ⟨false, 3, (.int .i64), o0_4⟩, .rd ⟨false, 3, (.int .i64), o0_5⟩], .row ⟨true, 3, (.int .i64), o1⟩]⟩) (fun r0 r1 r2 => K (.tup [.v (.int .i64 r0), .own 0, .v (.int .i64 r1)]) [.row ⟨true, 3, (.int .i64), r2⟩]) s x42 x43 x44 o0 o0_1 o0_2 o0_3 o0_4 o0_5 o1 := by kernel_rfl

theorem entry_machine_From {R : Type} (fuel : Nat) (K : AV → List O → Option R) (m : Int) (m_1 : Int) (m_2 : Int) (m_3 : Int) (m_4 : List Int) (m_5 : List Int) (s : Int) (w : List Int) :
    fnRun Try.prog G7 cuts_machine_From Try.f47 fuel [.agg [.v (.int .i64 m), .v (.int .i64 m_1), .v (.int .i64 m_2), .v (.int .i64 m_3), .rd ⟨false, 3, (.int .i64), m_4⟩, .rd ⟨false, 3, (.int .i64), m_5⟩], .v (.int .i64 s), .rd ⟨false, 3, (.int .i64), w⟩] [] K =
    e_machine_From (fun s x42 x43 x44 o0 o0_1 o0_2 o0_3 o0_4 o0_5 o1 => (runO Try.prog G7 cuts_machine_From 0 (finish Try.prog Try.f47 0 K) fuel) (at' Try.f47 10) ⟨fr0 82 [(1, .v (.int .i64 s)), (3, .ptr 0 0), (7, .own 1), (42, .rd ⟨false, 3, (.int .i64), x42⟩), (43, .v (.int .i64 x43)), (44, .v (.int .i64 x44))], [.box 70 [.v (.int .i64 o0), .v (.int .i64 o0_1), .v (.int .i64 o0_2), .v (.int .i64 o0_3), .rd ⟨false, 3, (.int .i64), o0_4⟩, .rd ⟨false, 3, (.int .i64), o0_5⟩], .row ⟨true, 3, (.int .i64), o1⟩]⟩) (fun r0 r1 r2 => K (.tup [.v (.int .i64 r0), .own 0, .v (.int .i64 r1)]) [.row ⟨true, 3, (.int .i64), r2⟩]) m m_1 m_2 m_3 m_4 m_5 s w := by kernel_rfl

theorem runs_machine_From {R : Type} (K : AV → List O → Option R) : ∀ fuel : Nat,
    (fun s x42 x43 x44 o0 o0_1 o0_2 o0_3 o0_4 o0_5 o1 => (runO Try.prog G7 cuts_machine_From 0 (finish Try.prog Try.f47 0 K) fuel) (at' Try.f47 10) ⟨fr0 82 [(1, .v (.int .i64 s)), (3, .ptr 0 0), (7, .own 1), (42, .rd ⟨false, 3, (.int .i64), x42⟩), (43, .v (.int .i64 x43)), (44, .v (.int .i64 x44))], [.box 70 [.v (.int .i64 o0), .v (.int .i64 o0_1), .v (.int .i64 o0_2), .v (.int .i64 o0_3), .rd ⟨false, 3, (.int .i64), o0_4⟩, .rd ⟨false, 3, (.int .i64), o0_5⟩], .row ⟨true, 3, (.int .i64), o1⟩]⟩) = (run_machine_From (fun r0 r1 r2 => K (.tup [.v (.int .i64 r0), .own 0, .v (.int .i64 r1)]) [.row ⟨true, 3, (.int .i64), r2⟩]) fuel)
  | 0 => rfl
  | fuel + 1 => by
    have ih := runs_machine_From K fuel
    funext s x42 x43 x44 o0 o0_1 o0_2 o0_3 o0_4 o0_5 o1
    refine (step_machine_From_10 _ K s x42 x43 x44 o0 o0_1 o0_2 o0_3 o0_4 o0_5 o1).trans ?_
    rw [ih]
    rfl

def S_machine_From : Sum := ⟨[], fun {R} args ob K => match args, ob with
  | [.agg [.v (.int .i64 m), .v (.int .i64 m_1), .v (.int .i64 m_2), .v (.int .i64 m_3), .rd ⟨false, 3, (.int .i64), m_4⟩, .rd ⟨false, 3, (.int .i64), m_5⟩], .v (.int .i64 s), .rd ⟨false, 3, (.int .i64), w⟩], [] => l_machine_From m m_1 m_2 m_3 m_4 m_5 s w (fun r0 r1 r2 => K (.tup [.v (.int .i64 r0), .own 0, .v (.int .i64 r1)]) [.row ⟨true, 3, (.int .i64), r2⟩])
  | _, _ => none⟩

theorem sound_machine_From : Sound Try.prog 47 S_machine_From := by
  refine fn_sound (cuts := cuts_machine_From) (fn := Try.f47) (Γ := G7) wide right_G7 Try.func47 fun {R} K r args ob h => ?_
  unfold S_machine_From at h
  dsimp only at h
  split at h
  · obtain ⟨n, hn⟩ := ok_machine_From _ _ _ _ _ _ _ _ _ h
    refine ⟨Nat.le_of_ble_eq_true (by kernel_rfl), n, (entry_machine_From n K _ _ _ _ _ _ _ _).trans ?_⟩
    rw [(runs_machine_From K n)]
    exact hn
  · cases h

def G8 : FuncId → Option Sum := addS G7 47 S_machine_From

theorem right_G8 : Right Try.prog G8 := right_add right_G7 ⟨_, Try.func47, by kernel_rfl, by kernel_rfl⟩ sound_machine_From

abbrev cuts_machine_Run : Cuts := []

theorem entry_machine_Run {R : Type} (K : AV → List O → Option R) (m : Int) (m_1 : Int) (m_2 : Int) (m_3 : Int) (m_4 : List Int) (m_5 : List Int) (w : List Int) :
    fnRun Try.prog G8 cuts_machine_Run Try.f50 0 [.agg [.v (.int .i64 m), .v (.int .i64 m_1), .v (.int .i64 m_2), .v (.int .i64 m_3), .rd ⟨false, 3, (.int .i64), m_4⟩, .rd ⟨false, 3, (.int .i64), m_5⟩], .rd ⟨false, 3, (.int .i64), w⟩] [] K =
    l_machine_Run m m_1 m_2 m_3 m_4 m_5 w (fun r0 r1 => K (.tup [.own 0, .v (.int .i64 r0)]) [.row ⟨true, 3, (.int .i64), r1⟩]) := by kernel_rfl

def S_machine_Run : Sum := ⟨[], fun {R} args ob K => match args, ob with
  | [.agg [.v (.int .i64 m), .v (.int .i64 m_1), .v (.int .i64 m_2), .v (.int .i64 m_3), .rd ⟨false, 3, (.int .i64), m_4⟩, .rd ⟨false, 3, (.int .i64), m_5⟩], .rd ⟨false, 3, (.int .i64), w⟩], [] => l_machine_Run m m_1 m_2 m_3 m_4 m_5 w (fun r0 r1 => K (.tup [.own 0, .v (.int .i64 r0)]) [.row ⟨true, 3, (.int .i64), r1⟩])
  | _, _ => none⟩

theorem sound_machine_Run : Sound Try.prog 50 S_machine_Run := by
  refine fn_sound (cuts := cuts_machine_Run) (fn := Try.f50) (Γ := G8) wide right_G8 Try.func50 fun {R} K r args ob h => ?_
  unfold S_machine_Run at h
  dsimp only at h
  split at h
  · exact ⟨Nat.le_of_ble_eq_true (by kernel_rfl), 0, (entry_machine_Run K _ _ _ _ _ _ _).trans h⟩
  · cases h

def G9 : FuncId → Option Sum := addS G8 50 S_machine_Run

theorem right_G9 : Right Try.prog G9 := right_add right_G8 ⟨_, Try.func50, by kernel_rfl, by kernel_rfl⟩ sound_machine_Run

abbrev cuts_tutorlaw03_num : Cuts := []

theorem entry_tutorlaw03_num {R : Type} (K : AV → List O → Option R) (e : Int) :
    fnRun Try.prog G9 cuts_tutorlaw03_num Try.f45 0 [.v (.int .i64 e)] [] K =
    l_tutorlaw03_num e (fun r0 => K (.v (.int .i64 r0)) []) := by kernel_rfl

def S_tutorlaw03_num : Sum := ⟨[], fun {R} args ob K => match args, ob with
  | [.v (.int .i64 e)], [] => l_tutorlaw03_num e (fun r0 => K (.v (.int .i64 r0)) [])
  | _, _ => none⟩

theorem sound_tutorlaw03_num : Sound Try.prog 45 S_tutorlaw03_num := by
  refine fn_sound (cuts := cuts_tutorlaw03_num) (fn := Try.f45) (Γ := G9) wide right_G9 Try.func45 fun {R} K r args ob h => ?_
  unfold S_tutorlaw03_num at h
  dsimp only at h
  split at h
  · exact ⟨Nat.le_of_ble_eq_true (by kernel_rfl), 0, (entry_tutorlaw03_num K _).trans h⟩
  · cases h

def G10 : FuncId → Option Sum := addS G9 45 S_tutorlaw03_num

theorem right_G10 : Right Try.prog G10 := right_add right_G9 ⟨_, Try.func45, by kernel_rfl, by kernel_rfl⟩ sound_tutorlaw03_num

abbrev cuts_tutorref01_Same : Cuts := [(4, [0, 1, 5])]

theorem step_tutorref01_Same_4 {R : Type} (g : List Item → St → Option R) (K : AV → List O → Option R) (a : List Int) (b : List Int) (i : Int) :
    runSeg Try.prog G10 cuts_tutorref01_Same 0 g (finish Try.prog Try.f22 0 K) (at' Try.f22 4) ⟨fr0 26 [(0, .rd ⟨false, 3, (.int .i64), a⟩), (1, .rd ⟨false, 3, (.int .i64), b⟩), (5, .v (.int .i64 i))], []⟩ =
    s_tutorref01_Same_4 (fun a b i => g (at' Try.f22 4) ⟨fr0 26 [(0, .rd ⟨false, 3, (.int .i64), a⟩), (1, .rd ⟨false, 3, (.int .i64), b⟩), (5, .v (.int .i64 i))], []⟩) (fun r0 => K (.v (.bool r0)) []) a b i := by kernel_rfl

theorem entry_tutorref01_Same {R : Type} (fuel : Nat) (K : AV → List O → Option R) (a : List Int) (b : List Int) :
    fnRun Try.prog G10 cuts_tutorref01_Same Try.f22 fuel [.rd ⟨false, 3, (.int .i64), a⟩, .rd ⟨false, 3, (.int .i64), b⟩] [] K =
    e_tutorref01_Same (fun a b i => (runO Try.prog G10 cuts_tutorref01_Same 0 (finish Try.prog Try.f22 0 K) fuel) (at' Try.f22 4) ⟨fr0 26 [(0, .rd ⟨false, 3, (.int .i64), a⟩), (1, .rd ⟨false, 3, (.int .i64), b⟩), (5, .v (.int .i64 i))], []⟩) (fun r0 => K (.v (.bool r0)) []) a b := by kernel_rfl

theorem runs_tutorref01_Same {R : Type} (K : AV → List O → Option R) : ∀ fuel : Nat,
    (fun a b i => (runO Try.prog G10 cuts_tutorref01_Same 0 (finish Try.prog Try.f22 0 K) fuel) (at' Try.f22 4) ⟨fr0 26 [(0, .rd ⟨false, 3, (.int .i64), a⟩), (1, .rd ⟨false, 3, (.int .i64), b⟩), (5, .v (.int .i64 i))], []⟩) = (run_tutorref01_Same (fun r0 => K (.v (.bool r0)) []) fuel)
  | 0 => rfl
  | fuel + 1 => by
    have ih := runs_tutorref01_Same K fuel
    funext a b i
    refine (step_tutorref01_Same_4 _ K a b i).trans ?_
    rw [ih]
    rfl

def S_tutorref01_Same : Sum := ⟨[], fun {R} args ob K => match args, ob with
  | [.rd ⟨false, 3, (.int .i64), a⟩, .rd ⟨false, 3, (.int .i64), b⟩], [] => l_tutorref01_Same a b (fun r0 => K (.v (.bool r0)) [])
  | _, _ => none⟩

theorem sound_tutorref01_Same : Sound Try.prog 22 S_tutorref01_Same := by
  refine fn_sound (cuts := cuts_tutorref01_Same) (fn := Try.f22) (Γ := G10) wide right_G10 Try.func22 fun {R} K r args ob h => ?_
  unfold S_tutorref01_Same at h
  dsimp only at h
  split at h
  · obtain ⟨n, hn⟩ := ok_tutorref01_Same _ _ _ h
    refine ⟨Nat.le_of_ble_eq_true (by kernel_rfl), n, (entry_tutorref01_Same n K _ _).trans ?_⟩
    rw [(runs_tutorref01_Same K n)]
    exact hn
  · cases h

def G11 : FuncId → Option Sum := addS G10 22 S_tutorref01_Same

theorem right_G11 : Right Try.prog G11 := right_add right_G10 ⟨_, Try.func22, by kernel_rfl, by kernel_rfl⟩ sound_tutorref01_Same

abbrev cuts_tutorlaw03_live : Cuts := []

theorem entry_tutorlaw03_live {R : Type} (K : AV → List O → Option R)  :
    fnRun Try.prog G11 cuts_tutorlaw03_live Try.f41 0 [] [] K =
    l_tutorlaw03_live  (fun r0 => K (.v (.bool r0)) []) := by kernel_rfl

def S_tutorlaw03_live : Sum := ⟨[], fun {R} args ob K => match args, ob with
  | [], [] => l_tutorlaw03_live  (fun r0 => K (.v (.bool r0)) [])
  | _, _ => none⟩

theorem sound_tutorlaw03_live : Sound Try.prog 41 S_tutorlaw03_live := by
  refine fn_sound (cuts := cuts_tutorlaw03_live) (fn := Try.f41) (Γ := G11) wide right_G11 Try.func41 fun {R} K r args ob h => ?_
  unfold S_tutorlaw03_live at h
  dsimp only at h
  split at h
  · exact ⟨Nat.le_of_ble_eq_true (by kernel_rfl), 0, (entry_tutorlaw03_live K).trans h⟩
  · cases h

def G12 : FuncId → Option Sum := addS G11 41 S_tutorlaw03_live

theorem right_G12 : Right Try.prog G12 := right_add right_G11 ⟨_, Try.func41, by kernel_rfl, by kernel_rfl⟩ sound_tutorlaw03_live

abbrev cuts_tutorref03_Copy : Cuts := []

theorem entry_tutorref03_Copy {R : Type} (K : AV → List O → Option R) (m : Int) (m_1 : Int) (m_2 : Int) (m_3 : Int) (m_4 : List Int) (m_5 : List Int) :
    fnRun Try.prog G12 cuts_tutorref03_Copy Try.f42 0 [.agg [.v (.int .i64 m), .v (.int .i64 m_1), .v (.int .i64 m_2), .v (.int .i64 m_3), .rd ⟨false, 3, (.int .i64), m_4⟩, .rd ⟨false, 3, (.int .i64), m_5⟩]] [] K =
    l_tutorref03_Copy m m_1 m_2 m_3 m_4 m_5 (fun r0 r1 r2 r3 r4 r5 => K (.agg [.v (.int .i64 r0), .v (.int .i64 r1), .v (.int .i64 r2), .v (.int .i64 r3), .own 0, .own 1]) [.row ⟨true, 3, (.int .i64), r4⟩, .row ⟨true, 3, (.int .i64), r5⟩]) := by kernel_rfl

def S_tutorref03_Copy : Sum := ⟨[], fun {R} args ob K => match args, ob with
  | [.agg [.v (.int .i64 m), .v (.int .i64 m_1), .v (.int .i64 m_2), .v (.int .i64 m_3), .rd ⟨false, 3, (.int .i64), m_4⟩, .rd ⟨false, 3, (.int .i64), m_5⟩]], [] => l_tutorref03_Copy m m_1 m_2 m_3 m_4 m_5 (fun r0 r1 r2 r3 r4 r5 => K (.agg [.v (.int .i64 r0), .v (.int .i64 r1), .v (.int .i64 r2), .v (.int .i64 r3), .own 0, .own 1]) [.row ⟨true, 3, (.int .i64), r4⟩, .row ⟨true, 3, (.int .i64), r5⟩])
  | _, _ => none⟩

theorem sound_tutorref03_Copy : Sound Try.prog 42 S_tutorref03_Copy := by
  refine fn_sound (cuts := cuts_tutorref03_Copy) (fn := Try.f42) (Γ := G12) wide right_G12 Try.func42 fun {R} K r args ob h => ?_
  unfold S_tutorref03_Copy at h
  dsimp only at h
  split at h
  · exact ⟨Nat.le_of_ble_eq_true (by kernel_rfl), 0, (entry_tutorref03_Copy K _ _ _ _ _ _).trans h⟩
  · cases h

def G13 : FuncId → Option Sum := addS G12 42 S_tutorref03_Copy

theorem right_G13 : Right Try.prog G13 := right_add right_G12 ⟨_, Try.func42, by kernel_rfl, by kernel_rfl⟩ sound_tutorref03_Copy

abbrev cuts_tutorref01_Lent : Cuts := []

theorem entry_tutorref01_Lent {R : Type} (K : AV → List O → Option R) (a : List Int) :
    fnRun Try.prog G13 cuts_tutorref01_Lent Try.f51 0 [.rd ⟨false, 3, (.int .i64), a⟩] [] K =
    l_tutorref01_Lent a (fun r0 r1 => K (.view 0 1 0 r0) [.row ⟨true, 3, (.int .i64), r1⟩]) := by kernel_rfl

def S_tutorref01_Lent : Sum := ⟨[], fun {R} args ob K => match args, ob with
  | [.rd ⟨false, 3, (.int .i64), a⟩], [] => l_tutorref01_Lent a (fun r0 r1 => K (.view 0 1 0 r0) [.row ⟨true, 3, (.int .i64), r1⟩])
  | _, _ => none⟩

theorem sound_tutorref01_Lent : Sound Try.prog 51 S_tutorref01_Lent := by
  refine fn_sound (cuts := cuts_tutorref01_Lent) (fn := Try.f51) (Γ := G13) wide right_G13 Try.func51 fun {R} K r args ob h => ?_
  unfold S_tutorref01_Lent at h
  dsimp only at h
  split at h
  · exact ⟨Nat.le_of_ble_eq_true (by kernel_rfl), 0, (entry_tutorref01_Lent K _).trans h⟩
  · cases h

def G14 : FuncId → Option Sum := addS G13 51 S_tutorref01_Lent

theorem right_G14 : Right Try.prog G14 := right_add right_G13 ⟨_, Try.func51, by kernel_rfl, by kernel_rfl⟩ sound_tutorref01_Lent

abbrev cuts_machine_State : Cuts := []

theorem entry_machine_State {R : Type} (K : AV → List O → Option R) (m : Int) (m_1 : Int) (m_2 : Int) (m_3 : Int) (m_4 : List Int) (m_5 : List Int) (w : List Int) :
    fnRun Try.prog G14 cuts_machine_State Try.f52 0 [.agg [.v (.int .i64 m), .v (.int .i64 m_1), .v (.int .i64 m_2), .v (.int .i64 m_3), .rd ⟨false, 3, (.int .i64), m_4⟩, .rd ⟨false, 3, (.int .i64), m_5⟩], .rd ⟨false, 3, (.int .i64), w⟩] [] K =
    l_machine_State m m_1 m_2 m_3 m_4 m_5 w (fun r0 r1 => K (.tup [.v (.int .i64 r0), .v (.int .i64 r1)]) []) := by kernel_rfl

def S_machine_State : Sum := ⟨[], fun {R} args ob K => match args, ob with
  | [.agg [.v (.int .i64 m), .v (.int .i64 m_1), .v (.int .i64 m_2), .v (.int .i64 m_3), .rd ⟨false, 3, (.int .i64), m_4⟩, .rd ⟨false, 3, (.int .i64), m_5⟩], .rd ⟨false, 3, (.int .i64), w⟩], [] => l_machine_State m m_1 m_2 m_3 m_4 m_5 w (fun r0 r1 => K (.tup [.v (.int .i64 r0), .v (.int .i64 r1)]) [])
  | _, _ => none⟩

theorem sound_machine_State : Sound Try.prog 52 S_machine_State := by
  refine fn_sound (cuts := cuts_machine_State) (fn := Try.f52) (Γ := G14) wide right_G14 Try.func52 fun {R} K r args ob h => ?_
  unfold S_machine_State at h
  dsimp only at h
  split at h
  · exact ⟨Nat.le_of_ble_eq_true (by kernel_rfl), 0, (entry_machine_State K _ _ _ _ _ _ _).trans h⟩
  · cases h

def G15 : FuncId → Option Sum := addS G14 52 S_machine_State

theorem right_G15 : Right Try.prog G15 := right_add right_G14 ⟨_, Try.func52, by kernel_rfl, by kernel_rfl⟩ sound_machine_State

abbrev cuts_tutorref03_Check : Cuts := [(15, [1, 5]), (20, [1, 6])]

theorem step_tutorref03_Check_15 {R : Type} (g : List Item → St → Option R) (K : AV → List O → Option R) (i : Int) (o0 : Int) (o0_1 : Int) (o0_2 : Int) (o0_3 : Int) (o0_4 : List Int) (o0_5 : List Int) :
    runSeg Try.prog G15 cuts_tutorref03_Check 0 g (finish Try.prog Try.f44 0 K) (at' Try.f44 15) ⟨fr0 123 [(1, .ptr 0 0), (5, .v (.int .i64 i))], [.box 70 [.v (.int .i64 o0), .v (.int .i64 o0_1), .v (.int .i64 o0_2), .v (.int .i64 o0_3), .rd ⟨false, 3, (.int .i64), o0_4⟩, .rd ⟨false, 3, (.int .i64), o0_5⟩]]⟩ =
    s_tutorref03_Check_15 (fun i o0 o0_1 o0_2 o0_3 o0_4 o0_5 => g (at' Try.f44 15) ⟨fr0 123 [(1, .ptr 0 0), (5, .v (.int .i64 i))], [.box 70 [.v (.int .i64 o0), .v (.int .i64 o0_1), .v (.int .i64 o0_2), .v (.int .i64 o0_3), .rd ⟨false, 3, (.int .i64), o0_4⟩, .rd ⟨false, 3, (.int .i64), o0_5⟩]]⟩) (fun i o0 o0_1 o0_2 o0_3 o0_4 o0_5 => g (at' Try.f44 20) ⟨fr0 123 [(1, .ptr 0 0), (6, .v (.int .i64 i))], [.box 70 [.v (.int .i64 o0), .v (.int .i64 o0_1), .v (.int .i64 o0_2), .v (.int .i64 o0_3), .rd ⟨false, 3, (.int .i64), o0_4⟩, .rd ⟨false, 3, (.int .i64), o0_5⟩]]⟩) (fun r0 r1 => K (.tup [.v (.int .i64 r0), .v (.int .i64 r1)]) []) i o0 o0_1 o0_2 o0_3 o0_4 o0_5 := by kernel_rfl

theorem step_tutorref03_Check_20 {R : Type} (g : List Item → St → Option R) (K : AV → List O → Option R) (i : Int) (o0 : Int) (o0_1 : Int) (o0_2 : Int) (o0_3 : Int) (o0_4 : List Int) (o0_5 : List Int) :
    runSeg Try.prog G15 cuts_tutorref03_Check 0 g (finish Try.prog Try.f44 0 K) (at' Try.f44 20) ⟨fr0 123 [(1, .ptr 0 0), (6, .v (.int .i64 i))], [.box 70 [.v (.int .i64 o0), .v (.int .i64 o0_1), .v (.int .i64 o0_2), .v (.int .i64 o0_3), .rd ⟨false, 3, (.int .i64), o0_4⟩, .rd ⟨false, 3, (.int .i64), o0_5⟩]]⟩ =
    s_tutorref03_Check_20 (fun i o0 o0_1 o0_2 o0_3 o0_4 o0_5 => g (at' Try.f44 15) ⟨fr0 123 [(1, .ptr 0 0), (5, .v (.int .i64 i))], [.box 70 [.v (.int .i64 o0), .v (.int .i64 o0_1), .v (.int .i64 o0_2), .v (.int .i64 o0_3), .rd ⟨false, 3, (.int .i64), o0_4⟩, .rd ⟨false, 3, (.int .i64), o0_5⟩]]⟩) (fun i o0 o0_1 o0_2 o0_3 o0_4 o0_5 => g (at' Try.f44 20) ⟨fr0 123 [(1, .ptr 0 0), (6, .v (.int .i64 i))], [.box 70 [.v (.int .i64 o0), .v (.int .i64 o0_1), .v (.int .i64 o0_2), .v (.int .i64 o0_3), .rd ⟨false, 3, (.int .i64), o0_4⟩, .rd ⟨false, 3, (.int .i64), o0_5⟩]]⟩) (fun r0 r1 => K (.tup [.v (.int .i64 r0), .v (.int .i64 r1)]) []) i o0 o0_1 o0_2 o0_3 o0_4 o0_5 := by kernel_rfl

theorem entry_tutorref03_Check {R : Type} (fuel : Nat) (K : AV → List O → Option R) (m : Int) (m_1 : Int) (m_2 : Int) (m_3 : Int) (m_4 : List Int) (m_5 : List Int) :
    fnRun Try.prog G15 cuts_tutorref03_Check Try.f44 fuel [.agg [.v (.int .i64 m), .v (.int .i64 m_1), .v (.int .i64 m_2), .v (.int .i64 m_3), .rd ⟨false, 3, (.int .i64), m_4⟩, .rd ⟨false, 3, (.int .i64), m_5⟩]] [] K =
    e_tutorref03_Check (fun i o0 o0_1 o0_2 o0_3 o0_4 o0_5 => (runO Try.prog G15 cuts_tutorref03_Check 0 (finish Try.prog Try.f44 0 K) fuel) (at' Try.f44 15) ⟨fr0 123 [(1, .ptr 0 0), (5, .v (.int .i64 i))], [.box 70 [.v (.int .i64 o0), .v (.int .i64 o0_1), .v (.int .i64 o0_2), .v (.int .i64 o0_3), .rd ⟨false, 3, (.int .i64), o0_4⟩, .rd ⟨false, 3, (.int .i64), o0_5⟩]]⟩) (fun i o0 o0_1 o0_2 o0_3 o0_4 o0_5 => (runO Try.prog G15 cuts_tutorref03_Check 0 (finish Try.prog Try.f44 0 K) fuel) (at' Try.f44 20) ⟨fr0 123 [(1, .ptr 0 0), (6, .v (.int .i64 i))], [.box 70 [.v (.int .i64 o0), .v (.int .i64 o0_1), .v (.int .i64 o0_2), .v (.int .i64 o0_3), .rd ⟨false, 3, (.int .i64), o0_4⟩, .rd ⟨false, 3, (.int .i64), o0_5⟩]]⟩) (fun r0 r1 => K (.tup [.v (.int .i64 r0), .v (.int .i64 r1)]) []) m m_1 m_2 m_3 m_4 m_5 := by kernel_rfl

theorem runs_tutorref03_Check {R : Type} (K : AV → List O → Option R) : ∀ fuel : Nat,
    (fun i o0 o0_1 o0_2 o0_3 o0_4 o0_5 => (runO Try.prog G15 cuts_tutorref03_Check 0 (finish Try.prog Try.f44 0 K) fuel) (at' Try.f44 15) ⟨fr0 123 [(1, .ptr 0 0), (5, .v (.int .i64 i))], [.box 70 [.v (.int .i64 o0), .v (.int .i64 o0_1), .v (.int .i64 o0_2), .v (.int .i64 o0_3), .rd ⟨false, 3, (.int .i64), o0_4⟩, .rd ⟨false, 3, (.int .i64), o0_5⟩]]⟩) = (run_tutorref03_Check (fun r0 r1 => K (.tup [.v (.int .i64 r0), .v (.int .i64 r1)]) []) fuel).1 ∧
    (fun i o0 o0_1 o0_2 o0_3 o0_4 o0_5 => (runO Try.prog G15 cuts_tutorref03_Check 0 (finish Try.prog Try.f44 0 K) fuel) (at' Try.f44 20) ⟨fr0 123 [(1, .ptr 0 0), (6, .v (.int .i64 i))], [.box 70 [.v (.int .i64 o0), .v (.int .i64 o0_1), .v (.int .i64 o0_2), .v (.int .i64 o0_3), .rd ⟨false, 3, (.int .i64), o0_4⟩, .rd ⟨false, 3, (.int .i64), o0_5⟩]]⟩) = (run_tutorref03_Check (fun r0 r1 => K (.tup [.v (.int .i64 r0), .v (.int .i64 r1)]) []) fuel).2
  | 0 => ⟨rfl, rfl⟩
  | fuel + 1 => by
    have ih := runs_tutorref03_Check K fuel
    refine ⟨?_, ?_⟩
    · funext i o0 o0_1 o0_2 o0_3 o0_4 o0_5
      refine (step_tutorref03_Check_15 _ K i o0 o0_1 o0_2 o0_3 o0_4 o0_5).trans ?_
      rw [ih.1, ih.2]
      rfl
    · funext i o0 o0_1 o0_2 o0_3 o0_4 o0_5
      refine (step_tutorref03_Check_20 _ K i o0 o0_1 o0_2 o0_3 o0_4 o0_5).trans ?_
      rw [ih.1, ih.2]
      rfl

def S_tutorref03_Check : Sum := ⟨[], fun {R} args ob K => match args, ob with
  | [.agg [.v (.int .i64 m), .v (.int .i64 m_1), .v (.int .i64 m_2), .v (.int .i64 m_3), .rd ⟨false, 3, (.int .i64), m_4⟩, .rd ⟨false, 3, (.int .i64), m_5⟩]], [] => l_tutorref03_Check m m_1 m_2 m_3 m_4 m_5 (fun r0 r1 => K (.tup [.v (.int .i64 r0), .v (.int .i64 r1)]) [])
  | _, _ => none⟩

theorem sound_tutorref03_Check : Sound Try.prog 44 S_tutorref03_Check := by
  refine fn_sound (cuts := cuts_tutorref03_Check) (fn := Try.f44) (Γ := G15) wide right_G15 Try.func44 fun {R} K r args ob h => ?_
  unfold S_tutorref03_Check at h
  dsimp only at h
  split at h
  · obtain ⟨n, hn⟩ := ok_tutorref03_Check _ _ _ _ _ _ _ h
    refine ⟨Nat.le_of_ble_eq_true (by kernel_rfl), n, (entry_tutorref03_Check n K _ _ _ _ _ _).trans ?_⟩
    rw [(runs_tutorref03_Check K n).1, (runs_tutorref03_Check K n).2]
    exact hn
  · cases h

def G16 : FuncId → Option Sum := addS G15 44 S_tutorref03_Check

theorem right_G16 : Right Try.prog G16 := right_add right_G15 ⟨_, Try.func44, by kernel_rfl, by kernel_rfl⟩ sound_tutorref03_Check

abbrev cuts_tutorref01_Check : Cuts := [(6, [0, 1, 6])]

theorem step_tutorref01_Check_6 {R : Type} (g : List Item → St → Option R) (K : AV → List O → Option R) (w : List Int) (k : Int) (i : Int) :
    runSeg Try.prog G16 cuts_tutorref01_Check 0 g (finish Try.prog Try.f65 0 K) (at' Try.f65 6) ⟨fr0 36 [(0, .rd ⟨false, 3, (.int .i64), w⟩), (1, .v (.int .i64 k)), (6, .v (.int .i64 i))], []⟩ =
    s_tutorref01_Check_6 (fun w k i => g (at' Try.f65 6) ⟨fr0 36 [(0, .rd ⟨false, 3, (.int .i64), w⟩), (1, .v (.int .i64 k)), (6, .v (.int .i64 i))], []⟩) (fun r0 r1 => K (.tup [.v (.int .i64 r0), .v (.int .i64 r1)]) []) w k i := by kernel_rfl

theorem entry_tutorref01_Check {R : Type} (fuel : Nat) (K : AV → List O → Option R) (w : List Int) (k : Int) :
    fnRun Try.prog G16 cuts_tutorref01_Check Try.f65 fuel [.rd ⟨false, 3, (.int .i64), w⟩, .v (.int .i64 k)] [] K =
    e_tutorref01_Check (fun w k i => (runO Try.prog G16 cuts_tutorref01_Check 0 (finish Try.prog Try.f65 0 K) fuel) (at' Try.f65 6) ⟨fr0 36 [(0, .rd ⟨false, 3, (.int .i64), w⟩), (1, .v (.int .i64 k)), (6, .v (.int .i64 i))], []⟩) (fun r0 r1 => K (.tup [.v (.int .i64 r0), .v (.int .i64 r1)]) []) w k := by kernel_rfl

theorem runs_tutorref01_Check {R : Type} (K : AV → List O → Option R) : ∀ fuel : Nat,
    (fun w k i => (runO Try.prog G16 cuts_tutorref01_Check 0 (finish Try.prog Try.f65 0 K) fuel) (at' Try.f65 6) ⟨fr0 36 [(0, .rd ⟨false, 3, (.int .i64), w⟩), (1, .v (.int .i64 k)), (6, .v (.int .i64 i))], []⟩) = (run_tutorref01_Check (fun r0 r1 => K (.tup [.v (.int .i64 r0), .v (.int .i64 r1)]) []) fuel)
  | 0 => rfl
  | fuel + 1 => by
    have ih := runs_tutorref01_Check K fuel
    funext w k i
    refine (step_tutorref01_Check_6 _ K w k i).trans ?_
    rw [ih]
    rfl

def S_tutorref01_Check : Sum := ⟨[], fun {R} args ob K => match args, ob with
  | [.rd ⟨false, 3, (.int .i64), w⟩, .v (.int .i64 k)], [] => l_tutorref01_Check w k (fun r0 r1 => K (.tup [.v (.int .i64 r0), .v (.int .i64 r1)]) [])
  | _, _ => none⟩

theorem sound_tutorref01_Check : Sound Try.prog 65 S_tutorref01_Check := by
  refine fn_sound (cuts := cuts_tutorref01_Check) (fn := Try.f65) (Γ := G16) wide right_G16 Try.func65 fun {R} K r args ob h => ?_
  unfold S_tutorref01_Check at h
  dsimp only at h
  split at h
  · obtain ⟨n, hn⟩ := ok_tutorref01_Check _ _ _ h
    refine ⟨Nat.le_of_ble_eq_true (by kernel_rfl), n, (entry_tutorref01_Check n K _ _).trans ?_⟩
    rw [(runs_tutorref01_Check K n)]
    exact hn
  · cases h

def G17 : FuncId → Option Sum := addS G16 65 S_tutorref01_Check

theorem right_G17 : Right Try.prog G17 := right_add right_G16 ⟨_, Try.func65, by kernel_rfl, by kernel_rfl⟩ sound_tutorref01_Check

abbrev cuts_tutorref03_Go : Cuts := [(3, [1, 2, 3, 8, 9])]

theorem step_tutorref03_Go_3 {R : Type} (g : List Item → St → Option R) (K : AV → List O → Option R) (s : Int) (w : List Int) (i : Int) (o0 : Int) (o0_1 : Int) (o0_2 : Int) (o0_3 : Int) (o0_4 : List Int) (o0_5 : List Int) (o1 : List Int) :
    runSeg Try.prog G17 cuts_tutorref03_Go 0 g (finish Try.prog Try.f66 0 K) (at' Try.f66 3) ⟨fr0 59 [(1, .v (.int .i64 s)), (2, .rd ⟨false, 3, (.int .i64), w⟩), (3, .ptr 0 0), (8, .own 1), (9, .v (.int .i64 i))], [.box 70 [.v (.int .i64 o0), .v (.int .i64 o0_1), .v (.int .i64 o0_2), .v (.int .i64 o0_3), .rd ⟨false, 3, (.int .i64), o0_4⟩, .rd ⟨false, 3, (.int .i64), o0_5⟩], .row ⟨true, 3, (.int .i64), o1⟩]⟩ =
    s_tutorref03_Go_3 (fun s w i o0 o0_1 o0_2 o0_3 o0_4 o0_5 o1 => g (at' Try.f66 3) ⟨fr0 59 [(1, .v (.int .i64 s)), (2, .rd ⟨false, 3, (.int .i64), w⟩), (3, .ptr 0 0), (8, .own 1), (9, .v (.int .i64 i))], [.box 70 [.v (.int .i64 o0), .v (.int .i64 o0_1), .v (.int .i64 o0_2), .v (.int .i64 o0_3), .rd ⟨false, 3, (.int .i64), o0_4⟩, .rd ⟨false, 3, (.int .i64), o0_5⟩], .row ⟨true, 3, (.int .i64), o1⟩]⟩) (fun r0 r1 => K (.tup [.v (.int .i64 r0), .own 0]) [.row ⟨true, 3, (.int .i64), r1⟩]) s w i o0 o0_1 o0_2 o0_3 o0_4 o0_5 o1 := by kernel_rfl

theorem entry_tutorref03_Go {R : Type} (fuel : Nat) (K : AV → List O → Option R) (m : Int) (m_1 : Int) (m_2 : Int) (m_3 : Int) (m_4 : List Int) (m_5 : List Int) (s : Int) (w : List Int) :
    fnRun Try.prog G17 cuts_tutorref03_Go Try.f66 fuel [.agg [.v (.int .i64 m), .v (.int .i64 m_1), .v (.int .i64 m_2), .v (.int .i64 m_3), .rd ⟨false, 3, (.int .i64), m_4⟩, .rd ⟨false, 3, (.int .i64), m_5⟩], .v (.int .i64 s), .rd ⟨false, 3, (.int .i64), w⟩] [] K =
    e_tutorref03_Go (fun s w i o0 o0_1 o0_2 o0_3 o0_4 o0_5 o1 => (runO Try.prog G17 cuts_tutorref03_Go 0 (finish Try.prog Try.f66 0 K) fuel) (at' Try.f66 3) ⟨fr0 59 [(1, .v (.int .i64 s)), (2, .rd ⟨false, 3, (.int .i64), w⟩), (3, .ptr 0 0), (8, .own 1), (9, .v (.int .i64 i))], [.box 70 [.v (.int .i64 o0), .v (.int .i64 o0_1), .v (.int .i64 o0_2), .v (.int .i64 o0_3), .rd ⟨false, 3, (.int .i64), o0_4⟩, .rd ⟨false, 3, (.int .i64), o0_5⟩], .row ⟨true, 3, (.int .i64), o1⟩]⟩) (fun r0 r1 => K (.tup [.v (.int .i64 r0), .own 0]) [.row ⟨true, 3, (.int .i64), r1⟩]) m m_1 m_2 m_3 m_4 m_5 s w := by kernel_rfl

theorem runs_tutorref03_Go {R : Type} (K : AV → List O → Option R) : ∀ fuel : Nat,
    (fun s w i o0 o0_1 o0_2 o0_3 o0_4 o0_5 o1 => (runO Try.prog G17 cuts_tutorref03_Go 0 (finish Try.prog Try.f66 0 K) fuel) (at' Try.f66 3) ⟨fr0 59 [(1, .v (.int .i64 s)), (2, .rd ⟨false, 3, (.int .i64), w⟩), (3, .ptr 0 0), (8, .own 1), (9, .v (.int .i64 i))], [.box 70 [.v (.int .i64 o0), .v (.int .i64 o0_1), .v (.int .i64 o0_2), .v (.int .i64 o0_3), .rd ⟨false, 3, (.int .i64), o0_4⟩, .rd ⟨false, 3, (.int .i64), o0_5⟩], .row ⟨true, 3, (.int .i64), o1⟩]⟩) = (run_tutorref03_Go (fun r0 r1 => K (.tup [.v (.int .i64 r0), .own 0]) [.row ⟨true, 3, (.int .i64), r1⟩]) fuel)
  | 0 => rfl
  | fuel + 1 => by
    have ih := runs_tutorref03_Go K fuel
    funext s w i o0 o0_1 o0_2 o0_3 o0_4 o0_5 o1
    refine (step_tutorref03_Go_3 _ K s w i o0 o0_1 o0_2 o0_3 o0_4 o0_5 o1).trans ?_
    rw [ih]
    rfl

def S_tutorref03_Go : Sum := ⟨[], fun {R} args ob K => match args, ob with
  | [.agg [.v (.int .i64 m), .v (.int .i64 m_1), .v (.int .i64 m_2), .v (.int .i64 m_3), .rd ⟨false, 3, (.int .i64), m_4⟩, .rd ⟨false, 3, (.int .i64), m_5⟩], .v (.int .i64 s), .rd ⟨false, 3, (.int .i64), w⟩], [] => l_tutorref03_Go m m_1 m_2 m_3 m_4 m_5 s w (fun r0 r1 => K (.tup [.v (.int .i64 r0), .own 0]) [.row ⟨true, 3, (.int .i64), r1⟩])
  | _, _ => none⟩

theorem sound_tutorref03_Go : Sound Try.prog 66 S_tutorref03_Go := by
  refine fn_sound (cuts := cuts_tutorref03_Go) (fn := Try.f66) (Γ := G17) wide right_G17 Try.func66 fun {R} K r args ob h => ?_
  unfold S_tutorref03_Go at h
  dsimp only at h
  split at h
  · obtain ⟨n, hn⟩ := ok_tutorref03_Go _ _ _ _ _ _ _ _ _ h
    refine ⟨Nat.le_of_ble_eq_true (by kernel_rfl), n, (entry_tutorref03_Go n K _ _ _ _ _ _ _ _).trans ?_⟩
    rw [(runs_tutorref03_Go K n)]
    exact hn
  · cases h

def G18 : FuncId → Option Sum := addS G17 66 S_tutorref03_Go

theorem right_G18 : Right Try.prog G18 := right_add right_G17 ⟨_, Try.func66, by kernel_rfl, by kernel_rfl⟩ sound_tutorref03_Go

abbrev cuts_tutorref03_From : Cuts := []

theorem entry_tutorref03_From {R : Type} (K : AV → List O → Option R) (m : Int) (m_1 : Int) (m_2 : Int) (m_3 : Int) (m_4 : List Int) (m_5 : List Int) (s : Int) (w : List Int) :
    fnRun Try.prog G18 cuts_tutorref03_From Try.f48 0 [.agg [.v (.int .i64 m), .v (.int .i64 m_1), .v (.int .i64 m_2), .v (.int .i64 m_3), .rd ⟨false, 3, (.int .i64), m_4⟩, .rd ⟨false, 3, (.int .i64), m_5⟩], .v (.int .i64 s), .rd ⟨false, 3, (.int .i64), w⟩] [] K =
    l_tutorref03_From m m_1 m_2 m_3 m_4 m_5 s w (fun r0 r1 r2 => K (.tup [.v (.int .i64 r0), .own 0, .v (.int .i64 r1)]) [.row ⟨true, 3, (.int .i64), r2⟩]) := by kernel_rfl

def S_tutorref03_From : Sum := ⟨[], fun {R} args ob K => match args, ob with
  | [.agg [.v (.int .i64 m), .v (.int .i64 m_1), .v (.int .i64 m_2), .v (.int .i64 m_3), .rd ⟨false, 3, (.int .i64), m_4⟩, .rd ⟨false, 3, (.int .i64), m_5⟩], .v (.int .i64 s), .rd ⟨false, 3, (.int .i64), w⟩], [] => l_tutorref03_From m m_1 m_2 m_3 m_4 m_5 s w (fun r0 r1 r2 => K (.tup [.v (.int .i64 r0), .own 0, .v (.int .i64 r1)]) [.row ⟨true, 3, (.int .i64), r2⟩])
  | _, _ => none⟩

theorem sound_tutorref03_From : Sound Try.prog 48 S_tutorref03_From := by
  refine fn_sound (cuts := cuts_tutorref03_From) (fn := Try.f48) (Γ := G18) wide right_G18 Try.func48 fun {R} K r args ob h => ?_
  unfold S_tutorref03_From at h
  dsimp only at h
  split at h
  · exact ⟨Nat.le_of_ble_eq_true (by kernel_rfl), 0, (entry_tutorref03_From K _ _ _ _ _ _ _ _).trans h⟩
  · cases h

def G19 : FuncId → Option Sum := addS G18 48 S_tutorref03_From

theorem right_G19 : Right Try.prog G19 := right_add right_G18 ⟨_, Try.func48, by kernel_rfl, by kernel_rfl⟩ sound_tutorref03_From

abbrev cuts_tutorref03_Same : Cuts := []

theorem entry_tutorref03_Same {R : Type} (K : AV → List O → Option R) (a : Int) (a_1 : Int) (a_2 : Int) (a_3 : Int) (a_4 : List Int) (a_5 : List Int) (b : Int) (b_1 : Int) (b_2 : Int) (b_3 : Int) (b_4 : List Int) (b_5 : List Int) :
    fnRun Try.prog G19 cuts_tutorref03_Same Try.f46 0 [.agg [.v (.int .i64 a), .v (.int .i64 a_1), .v (.int .i64 a_2), .v (.int .i64 a_3), .rd ⟨false, 3, (.int .i64), a_4⟩, .rd ⟨false, 3, (.int .i64), a_5⟩], .agg [.v (.int .i64 b), .v (.int .i64 b_1), .v (.int .i64 b_2), .v (.int .i64 b_3), .rd ⟨false, 3, (.int .i64), b_4⟩, .rd ⟨false, 3, (.int .i64), b_5⟩]] [] K =
    l_tutorref03_Same a a_1 a_2 a_3 a_4 a_5 b b_1 b_2 b_3 b_4 b_5 (fun r0 => K (.v (.bool r0)) []) := by kernel_rfl

def S_tutorref03_Same : Sum := ⟨[], fun {R} args ob K => match args, ob with
  | [.agg [.v (.int .i64 a), .v (.int .i64 a_1), .v (.int .i64 a_2), .v (.int .i64 a_3), .rd ⟨false, 3, (.int .i64), a_4⟩, .rd ⟨false, 3, (.int .i64), a_5⟩], .agg [.v (.int .i64 b), .v (.int .i64 b_1), .v (.int .i64 b_2), .v (.int .i64 b_3), .rd ⟨false, 3, (.int .i64), b_4⟩, .rd ⟨false, 3, (.int .i64), b_5⟩]], [] => l_tutorref03_Same a a_1 a_2 a_3 a_4 a_5 b b_1 b_2 b_3 b_4 b_5 (fun r0 => K (.v (.bool r0)) [])
  | _, _ => none⟩

theorem sound_tutorref03_Same : Sound Try.prog 46 S_tutorref03_Same := by
  refine fn_sound (cuts := cuts_tutorref03_Same) (fn := Try.f46) (Γ := G19) wide right_G19 Try.func46 fun {R} K r args ob h => ?_
  unfold S_tutorref03_Same at h
  dsimp only at h
  split at h
  · exact ⟨Nat.le_of_ble_eq_true (by kernel_rfl), 0, (entry_tutorref03_Same K _ _ _ _ _ _ _ _ _ _ _ _).trans h⟩
  · cases h

def G20 : FuncId → Option Sum := addS G19 46 S_tutorref03_Same

theorem right_G20 : Right Try.prog G20 := right_add right_G19 ⟨_, Try.func46, by kernel_rfl, by kernel_rfl⟩ sound_tutorref03_Same

abbrev cuts_tutorref01_Kept : Cuts := []

theorem entry_tutorref01_Kept {R : Type} (K : AV → List O → Option R) (b : Nat) (a : List Int) (o0 : List Int) :
    fnRun Try.prog G20 cuts_tutorref01_Kept Try.f53 0 [.view 0 1 0 b, .rd ⟨false, 3, (.int .i64), a⟩] [.row ⟨false, 3, (.int .i64), o0⟩] K =
    l_tutorref01_Kept b a o0 (fun r0 r1 => K (.v (.bool r0)) [.row ⟨false, 3, (.int .i64), r1⟩]) := by kernel_rfl

def S_tutorref01_Kept : Sum := ⟨[0], fun {R} args ob K => match args, ob with
  | [.view 0 1 0 b, .rd ⟨false, 3, (.int .i64), a⟩], [.row ⟨false, 3, (.int .i64), o0⟩] => l_tutorref01_Kept b a o0 (fun r0 r1 => K (.v (.bool r0)) [.row ⟨false, 3, (.int .i64), r1⟩])
  | _, _ => none⟩

theorem sound_tutorref01_Kept : Sound Try.prog 53 S_tutorref01_Kept := by
  refine fn_sound (cuts := cuts_tutorref01_Kept) (fn := Try.f53) (Γ := G20) wide right_G20 Try.func53 fun {R} K r args ob h => ?_
  unfold S_tutorref01_Kept at h
  dsimp only at h
  split at h
  · exact ⟨Nat.le_of_ble_eq_true (by kernel_rfl), 0, (entry_tutorref01_Kept K _ _ _).trans h⟩
  · cases h

def G21 : FuncId → Option Sum := addS G20 53 S_tutorref01_Kept

theorem right_G21 : Right Try.prog G21 := right_add right_G20 ⟨_, Try.func53, by kernel_rfl, by kernel_rfl⟩ sound_tutorref01_Kept

abbrev cuts_tutorlaw03_MachineRuns : Cuts := []

theorem entry_tutorlaw03_MachineRuns {R : Type} (K : AV → List O → Option R) (m : Int) (m_1 : Int) (m_2 : Int) (m_3 : Int) (m_4 : List Int) (m_5 : List Int) (w : List Int) :
    fnRun Try.prog G21 cuts_tutorlaw03_MachineRuns Try.f13 0 [.agg [.v (.int .i64 m), .v (.int .i64 m_1), .v (.int .i64 m_2), .v (.int .i64 m_3), .rd ⟨false, 3, (.int .i64), m_4⟩, .rd ⟨false, 3, (.int .i64), m_5⟩], .rd ⟨false, 3, (.int .i64), w⟩] [] K =
    l_tutorlaw03_MachineRuns m m_1 m_2 m_3 m_4 m_5 w (fun r0 => K (.v (.bool r0)) []) := by kernel_rfl

def S_tutorlaw03_MachineRuns : Sum := ⟨[], fun {R} args ob K => match args, ob with
  | [.agg [.v (.int .i64 m), .v (.int .i64 m_1), .v (.int .i64 m_2), .v (.int .i64 m_3), .rd ⟨false, 3, (.int .i64), m_4⟩, .rd ⟨false, 3, (.int .i64), m_5⟩], .rd ⟨false, 3, (.int .i64), w⟩], [] => l_tutorlaw03_MachineRuns m m_1 m_2 m_3 m_4 m_5 w (fun r0 => K (.v (.bool r0)) [])
  | _, _ => none⟩

theorem sound_tutorlaw03_MachineRuns : Sound Try.prog 13 S_tutorlaw03_MachineRuns := by
  refine fn_sound (cuts := cuts_tutorlaw03_MachineRuns) (fn := Try.f13) (Γ := G21) wide right_G21 Try.func13 fun {R} K r args ob h => ?_
  unfold S_tutorlaw03_MachineRuns at h
  dsimp only at h
  split at h
  · exact ⟨Nat.le_of_ble_eq_true (by kernel_rfl), 0, (entry_tutorlaw03_MachineRuns K _ _ _ _ _ _ _).trans h⟩
  · cases h

def G22 : FuncId → Option Sum := addS G21 13 S_tutorlaw03_MachineRuns

theorem right_G22 : Right Try.prog G22 := right_add right_G21 ⟨_, Try.func13, by kernel_rfl, by kernel_rfl⟩ sound_tutorlaw03_MachineRuns

end Go.Ev
