/- Each function of the program is its tree. -/
import Derived.Test.YtifkaepdialfjaaDoorProg
import Derived.Test.YtifkaepdialfjaaDoorEvFn
import Derived.Test.YtifkaepdialfjaaDoorEvTabs
import Derived.Test.YtifkaepdialfjaaDoorTeachBackPure
namespace Go.Proofs
open Go.Shelf
set_option maxRecDepth 100000
def Tryd.lays176_ren : Go.Shelf.Ren := ⟨fun | 176 => 21 | 249 => 26 | 288 => 28 | 283 => 29 | 284 => 30 | 285 => 31 | 286 => 32 | 129 => 34 | 317 => 33 | 318 => 35 | 319 => 36 | 320 => 37 | 337 => 38 | 338 => 39 | n => n, fun | 37 => 26 | 2 => 2 | 3 => 3 | 53 => 67 | 4 => 4 | 9 => 9 | 171 => 70 | 0 => 0 | 173 => 73 | 212 => 77 | 51 => 78 | 5 => 5 | 20 => 20 | 213 => 79 | 46 => 80 | 232 => 83 | 233 => 84 | n => n, fun | 17 => 0 | 18 => 1 | 19 => 2 | n => n⟩
theorem Tryd.lays176 : Go.Proofs.LaysM.n176 Tryd.prog Tryd.lays176_ren where
  mixed := by kernel_rfl
  f129 := Tryd.func34.trans (congrArg some (by kernel_rfl))
  f176 := Tryd.func21.trans (congrArg some (by kernel_rfl))
  f249 := Tryd.func26.trans (congrArg some (by kernel_rfl))
  f283 := Tryd.func29.trans (congrArg some (by kernel_rfl))
  f284 := Tryd.func30.trans (congrArg some (by kernel_rfl))
  f285 := Tryd.func31.trans (congrArg some (by kernel_rfl))
  f286 := Tryd.func32.trans (congrArg some (by kernel_rfl))
  f288 := Tryd.func28.trans (congrArg some (by kernel_rfl))
  f317 := Tryd.func33.trans (congrArg some (by kernel_rfl))
  f318 := Tryd.func35.trans (congrArg some (by kernel_rfl))
  f319 := Tryd.func36.trans (congrArg some (by kernel_rfl))
  f320 := Tryd.func37.trans (congrArg some (by kernel_rfl))
  f337 := Tryd.func38.trans (congrArg some (by kernel_rfl))
  f338 := Tryd.func39.trans (congrArg some (by kernel_rfl))
  t0 := Tryd.underlying0
  a0 := Tryd.isAgg0
  z0 := Tryd.sizeOf0
  v0 := Tryd.zeroValue0
  t2 := Tryd.underlying2
  a2 := Tryd.isAgg2
  z2 := Tryd.sizeOf2
  v2 := Tryd.zeroValue2
  t3 := Tryd.underlying3
  a3 := Tryd.isAgg3
  z3 := Tryd.sizeOf3
  v3 := Tryd.zeroValue3
  t4 := Tryd.underlying4
  a4 := Tryd.isAgg4
  z4 := Tryd.sizeOf4
  v4 := Tryd.zeroValue4
  t5 := Tryd.underlying5
  a5 := Tryd.isAgg5
  z5 := Tryd.sizeOf5
  v5 := Tryd.zeroValue5
  t9 := Tryd.underlying9
  a9 := Tryd.isAgg9
  z9 := Tryd.sizeOf9
  v9 := Tryd.zeroValue9
  t20 := Tryd.underlying20
  a20 := Tryd.isAgg20
  z20 := Tryd.sizeOf20
  v20 := Tryd.zeroValue20
  t37 := Tryd.underlying26
  a37 := Tryd.isAgg26
  z37 := Tryd.sizeOf26
  v37 := Tryd.zeroValue26
  t46 := Tryd.underlying80
  a46 := Tryd.isAgg80
  z46 := Tryd.sizeOf80
  v46 := Tryd.zeroValue80
  t51 := Tryd.underlying78
  a51 := Tryd.isAgg78
  z51 := Tryd.sizeOf78
  v51 := Tryd.zeroValue78
  t53 := Tryd.underlying67
  a53 := Tryd.isAgg67
  z53 := Tryd.sizeOf67
  v53 := Tryd.zeroValue67
  t171 := Tryd.underlying70
  a171 := Tryd.isAgg70
  z171 := Tryd.sizeOf70
  v171 := Tryd.zeroValue70
  t173 := Tryd.underlying73
  a173 := Tryd.isAgg73
  z173 := Tryd.sizeOf73
  v173 := Tryd.zeroValue73
  t212 := Tryd.underlying77
  a212 := Tryd.isAgg77
  z212 := Tryd.sizeOf77
  v212 := Tryd.zeroValue77
  t213 := Tryd.underlying79
  a213 := Tryd.isAgg79
  z213 := Tryd.sizeOf79
  t232 := Tryd.underlying83
  a232 := Tryd.isAgg83
  z232 := Tryd.sizeOf83
  v232 := Tryd.zeroValue83
  t233 := Tryd.underlying84
  a233 := Tryd.isAgg84
  z233 := Tryd.sizeOf84
  v233 := Tryd.zeroValue84
  g17 := by kernel_rfl
  g18 := by kernel_rfl
  g19 := by kernel_rfl
  i0 := by kernel_rfl
  i2 := by kernel_rfl
  i3 := by kernel_rfl
  i4 := by kernel_rfl
  i5 := by kernel_rfl
  i9 := by kernel_rfl
  i20 := by kernel_rfl
  i37 := by kernel_rfl
  i46 := by kernel_rfl
  i51 := by kernel_rfl
  i53 := by kernel_rfl
  i171 := by kernel_rfl
  i173 := by kernel_rfl
  i212 := by kernel_rfl
  i232 := by kernel_rfl
  i233 := by kernel_rfl
  m17 := by kernel_rfl
  m18 := by kernel_rfl
  m19 := by kernel_rfl
end Go.Proofs
namespace Go.Ev
open Go.Proofs
noncomputable section
set_option linter.unusedVariables false
set_option linter.unusedSimpArgs false
set_option maxRecDepth 100000
set_option maxHeartbeats 4000000

variable [TabG] [TabsHold Tryd.prog]
set_option linter.unusedSectionVars false

theorem wide : Tables.follows Tryd.prog.toTables .mixedOrders = true := by kernel_rfl

def G0 : FuncId → Option Sum := fun _ => none
theorem right_G0 : Right Tryd.prog G0 := fun f S h => by cases h

def T_text_Number : FuncId → Option Sum := G0

theorem right_T_text_Number : Right Tryd.prog T_text_Number := right_G0

abbrev cuts_text_Number : Cuts := [(4, [0, 1, 4, 7])]

theorem gstep_text_Number_4 {R : Type} (g : List Item → St → Option R) (K : AV → List O → Option R) (b : List Int) (vat : Int) (n : Int) (i : Int) :
    runSeg Tryd.prog T_text_Number cuts_text_Number 0 g (finish Tryd.prog Tryd.f22 0 K) (at' Tryd.f22 4) ⟨fr0 70 [(0, .rd ⟨false, 5, (.int .u8), b⟩), (1, .v (.int .i64 vat)), (4, .v (.int .i64 n)), (7, .v (.int .i64 i))], []⟩ =
    (fun (g22_4 : (List Int) → Int → Int → Int → Option R) (K0 : Int → Int → Int → Option R) (b : List Int) (vat : Int) (n : Int) (i : Int) =>
    bi (decide (i < (b.length : Int)))
     (bi (decide (0 ≤ i ∧ i < ((b.length : Nat) : Int)))
      (bi (decide ((b.getD i.toNat 0) ≥ 48))
       (bi (decide (0 ≤ i ∧ i < ((b.length : Nat) : Int)))
        (bi (decide ((b.getD i.toNat 0) ≤ 57))
         (bi ((IntKind.i64.wrap (i - vat)) == 4)
          (K0 0 i 6)
          (bi ((IntKind.i64.wrap (i - vat)) == 1)
           (bi (decide (0 ≤ vat ∧ vat < ((b.length : Nat) : Int)))
            (bi ((b.getD vat.toNat 0) == 48)
             (K0 0 i 6)
             (bi (decide (0 ≤ i ∧ i < ((b.length : Nat) : Int)))
              (g22_4 b vat (IntKind.i64.wrap ((IntKind.i64.wrap (10 * n)) + (IntKind.i64.wrap (IntKind.u8.wrap ((b.getD i.toNat 0) - 48))))) (IntKind.i64.wrap (i + 1)))
              none))
            none)
           (bi (decide (0 ≤ i ∧ i < ((b.length : Nat) : Int)))
            (g22_4 b vat (IntKind.i64.wrap ((IntKind.i64.wrap (10 * n)) + (IntKind.i64.wrap (IntKind.u8.wrap ((b.getD i.toNat 0) - 48))))) (IntKind.i64.wrap (i + 1)))
            none)))
         (bi (i == vat)
          (K0 0 vat 6)
          (K0 n i 0)))
        none)
       (bi (i == vat)
        (K0 0 vat 6)
        (K0 n i 0)))
      none)
     (bi (i == vat)
      (K0 0 vat 6)
      (K0 n i 0))) (fun b vat n i => g (at' Tryd.f22 4) ⟨fr0 70 [(0, .rd ⟨false, 5, (.int .u8), b⟩), (1, .v (.int .i64 vat)), (4, .v (.int .i64 n)), (7, .v (.int .i64 i))], []⟩) (fun r0 r1 r2 => K (.tup [.v (.int .i64 r0), .v (.int .i64 r1), .v (.int .i64 r2)]) []) b vat n i := by kernel_rfl

theorem step_text_Number_4 {R : Type} (g : List Item → St → Option R) (K : AV → List O → Option R) (b : List Int) (vat : Int) (n : Int) (i : Int) :
    runSeg Tryd.prog T_text_Number cuts_text_Number 0 g (finish Tryd.prog Tryd.f22 0 K) (at' Tryd.f22 4) ⟨fr0 70 [(0, .rd ⟨false, 5, (.int .u8), b⟩), (1, .v (.int .i64 vat)), (4, .v (.int .i64 n)), (7, .v (.int .i64 i))], []⟩ =
    s_text_Number_4 (fun b vat n i => g (at' Tryd.f22 4) ⟨fr0 70 [(0, .rd ⟨false, 5, (.int .u8), b⟩), (1, .v (.int .i64 vat)), (4, .v (.int .i64 n)), (7, .v (.int .i64 i))], []⟩) (fun r0 r1 r2 => K (.tup [.v (.int .i64 r0), .v (.int .i64 r1), .v (.int .i64 r2)]) []) b vat n i := gstep_text_Number_4 g K b vat n i

theorem gentry_text_Number {R : Type} (fuel : Nat) (K : AV → List O → Option R) (b : List Int) (vat : Int) :
    fnRun Tryd.prog T_text_Number cuts_text_Number Tryd.f22 fuel [.rd ⟨false, 5, (.int .u8), b⟩, .v (.int .i64 vat)] [] K =
    (fun (g22_4 : (List Int) → Int → Int → Int → Option R) (K0 : Int → Int → Int → Option R) (b : List Int) (vat : Int) =>
    bi (decide (vat < 0))
     (K0 0 0 1)
     (bi (decide (vat > (b.length : Int)))
      (K0 0 0 1)
      (g22_4 b vat 0 vat))) (fun b vat n i => (runO Tryd.prog T_text_Number cuts_text_Number 0 (finish Tryd.prog Tryd.f22 0 K) fuel) (at' Tryd.f22 4) ⟨fr0 70 [(0, .rd ⟨false, 5, (.int .u8), b⟩), (1, .v (.int .i64 vat)), (4, .v (.int .i64 n)), (7, .v (.int .i64 i))], []⟩) (fun r0 r1 r2 => K (.tup [.v (.int .i64 r0), .v (.int .i64 r1), .v (.int .i64 r2)]) []) b vat := by kernel_rfl

theorem entry_text_Number {R : Type} (fuel : Nat) (K : AV → List O → Option R) (b : List Int) (vat : Int) :
    fnRun Tryd.prog T_text_Number cuts_text_Number Tryd.f22 fuel [.rd ⟨false, 5, (.int .u8), b⟩, .v (.int .i64 vat)] [] K =
    e_text_Number (fun b vat n i => (runO Tryd.prog T_text_Number cuts_text_Number 0 (finish Tryd.prog Tryd.f22 0 K) fuel) (at' Tryd.f22 4) ⟨fr0 70 [(0, .rd ⟨false, 5, (.int .u8), b⟩), (1, .v (.int .i64 vat)), (4, .v (.int .i64 n)), (7, .v (.int .i64 i))], []⟩) (fun r0 r1 r2 => K (.tup [.v (.int .i64 r0), .v (.int .i64 r1), .v (.int .i64 r2)]) []) b vat := gentry_text_Number fuel K b vat

theorem runs_text_Number {R : Type} (K : AV → List O → Option R) : ∀ fuel : Nat,
    (fun b vat n i => (runO Tryd.prog T_text_Number cuts_text_Number 0 (finish Tryd.prog Tryd.f22 0 K) fuel) (at' Tryd.f22 4) ⟨fr0 70 [(0, .rd ⟨false, 5, (.int .u8), b⟩), (1, .v (.int .i64 vat)), (4, .v (.int .i64 n)), (7, .v (.int .i64 i))], []⟩) = (run_text_Number (fun r0 r1 r2 => K (.tup [.v (.int .i64 r0), .v (.int .i64 r1), .v (.int .i64 r2)]) []) fuel)
  | 0 => rfl
  | fuel + 1 => by
    have ih := runs_text_Number K fuel
    funext b vat n i
    refine (step_text_Number_4 _ K b vat n i).trans ?_
    rw [ih]
    rfl

def S_text_Number (l_text_Number : {R : Type} → (List Int) → Int → (Int → Int → Int → Option R) → Option R) : Sum := ⟨[], fun {R} args ob K => match args, ob with
  | [.rd ⟨false, 5, (.int .u8), b⟩, .v (.int .i64 vat)], [] => l_text_Number b vat (fun r0 r1 r2 => K (.tup [.v (.int .i64 r0), .v (.int .i64 r1), .v (.int .i64 r2)]) [])
  | _, _ => none⟩

theorem sound_text_Number : Sound Tryd.prog 22 (S_text_Number @l_text_Number) := by
  refine fn_sound (cuts := cuts_text_Number) (fn := Tryd.f22) (Γ := T_text_Number) wide right_T_text_Number Tryd.func22 fun {R} K r args ob h => ?_
  unfold S_text_Number at h
  dsimp only at h
  split at h
  · obtain ⟨n, hn⟩ := ok_text_Number _ _ _ h
    refine ⟨Nat.le_of_ble_eq_true (by kernel_rfl), n, (entry_text_Number n K _ _).trans ?_⟩
    rw [(runs_text_Number K n)]
    exact hn
  · cases h

theorem call_text_Number : Callable Tryd.prog 22 := ⟨_, Tryd.func22, by kernel_rfl, by kernel_rfl⟩

def T_teach_numbers (l_text_Number : {R : Type} → (List Int) → Int → (Int → Int → Int → Option R) → Option R) : FuncId → Option Sum := (addS G0 22 (S_text_Number @l_text_Number))

theorem right_T_teach_numbers : Right Tryd.prog (T_teach_numbers @l_text_Number) := (right_add right_G0 call_text_Number sound_text_Number)

abbrev cuts_teach_numbers : Cuts := [(1, [0, 1, 4])]

theorem gstep_teach_numbers_1 (l_text_Number : {R : Type} → (List Int) → Int → (Int → Int → Int → Option R) → Option R) {R : Type} (g : List Item → St → Option R) (K : AV → List O → Option R) (b : List Int) (vat : Int) (o0 : List Int) :
    runSeg Tryd.prog (T_teach_numbers @l_text_Number) cuts_teach_numbers 0 g (finish Tryd.prog Tryd.f18 0 K) (at' Tryd.f18 1) ⟨fr0 54 [(0, .rd ⟨false, 5, (.int .u8), b⟩), (1, .v (.int .i64 vat)), (4, .own 0)], [.row ⟨true, 3, (.int .i64), o0⟩]⟩ =
    (fun (g18_1 : (List Int) → Int → (List Int) → Option R) (K0 : Int → Int → (List Int) → Option R) (b : List Int) (vat : Int) (o0 : List Int) =>
    bi (vat == (b.length : Int))
     (K0 6 vat ([] : List Int))
     (bi (decide (0 ≤ vat ∧ vat < ((b.length : Nat) : Int)))
      (bi ((b.getD vat.toNat 0) == 10)
       (K0 0 (IntKind.i64.wrap (vat + 1)) o0)
       (bi (decide (0 ≤ vat ∧ vat < ((b.length : Nat) : Int)))
        (bi ((b.getD vat.toNat 0) != 32)
         (K0 6 vat ([] : List Int))
         (bi ((o0.length : Int) == 4096)
          (K0 2 vat ([] : List Int))
          (l_text_Number b (IntKind.i64.wrap (vat + 1))
           (fun r1 r2 r3 =>
            bi (r3 != 0)
             (K0 r3 r2 ([] : List Int))
             (bi (decide ((o0.length + [r1].length) * 8 ≤ lim))
              (g18_1 b r2 (o0 ++ [r1]))
              none)))))
        none))
      none)) (fun b vat o0 => g (at' Tryd.f18 1) ⟨fr0 54 [(0, .rd ⟨false, 5, (.int .u8), b⟩), (1, .v (.int .i64 vat)), (4, .own 0)], [.row ⟨true, 3, (.int .i64), o0⟩]⟩) (fun r0 r1 r2 => K (.tup [.own 0, .v (.int .i64 r0), .v (.int .i64 r1)]) [.row ⟨true, 3, (.int .i64), r2⟩]) b vat o0 := by kernel_rfl

theorem step_teach_numbers_1 {R : Type} (g : List Item → St → Option R) (K : AV → List O → Option R) (b : List Int) (vat : Int) (o0 : List Int) :
    runSeg Tryd.prog (T_teach_numbers @l_text_Number) cuts_teach_numbers 0 g (finish Tryd.prog Tryd.f18 0 K) (at' Tryd.f18 1) ⟨fr0 54 [(0, .rd ⟨false, 5, (.int .u8), b⟩), (1, .v (.int .i64 vat)), (4, .own 0)], [.row ⟨true, 3, (.int .i64), o0⟩]⟩ =
    s_teach_numbers_1 (fun b vat o0 => g (at' Tryd.f18 1) ⟨fr0 54 [(0, .rd ⟨false, 5, (.int .u8), b⟩), (1, .v (.int .i64 vat)), (4, .own 0)], [.row ⟨true, 3, (.int .i64), o0⟩]⟩) (fun r0 r1 r2 => K (.tup [.own 0, .v (.int .i64 r0), .v (.int .i64 r1)]) [.row ⟨true, 3, (.int .i64), r2⟩]) b vat o0 := gstep_teach_numbers_1 @l_text_Number g K b vat o0

theorem gentry_teach_numbers (l_text_Number : {R : Type} → (List Int) → Int → (Int → Int → Int → Option R) → Option R) {R : Type} (fuel : Nat) (K : AV → List O → Option R) (b : List Int) (vat : Int) :
    fnRun Tryd.prog (T_teach_numbers @l_text_Number) cuts_teach_numbers Tryd.f18 fuel [.rd ⟨false, 5, (.int .u8), b⟩, .v (.int .i64 vat)] [] K =
    (fun (g18_1 : (List Int) → Int → (List Int) → Option R) (K0 : Int → Int → (List Int) → Option R) (b : List Int) (vat : Int) =>
    g18_1 b vat ([] : List Int)) (fun b vat o0 => (runO Tryd.prog (T_teach_numbers @l_text_Number) cuts_teach_numbers 0 (finish Tryd.prog Tryd.f18 0 K) fuel) (at' Tryd.f18 1) ⟨fr0 54 [(0, .rd ⟨false, 5, (.int .u8), b⟩), (1, .v (.int .i64 vat)), (4, .own 0)], [.row ⟨true, 3, (.int .i64), o0⟩]⟩) (fun r0 r1 r2 => K (.tup [.own 0, .v (.int .i64 r0), .v (.int .i64 r1)]) [.row ⟨true, 3, (.int .i64), r2⟩]) b vat := by kernel_rfl

theorem entry_teach_numbers {R : Type} (fuel : Nat) (K : AV → List O → Option R) (b : List Int) (vat : Int) :
    fnRun Tryd.prog (T_teach_numbers @l_text_Number) cuts_teach_numbers Tryd.f18 fuel [.rd ⟨false, 5, (.int .u8), b⟩, .v (.int .i64 vat)] [] K =
    e_teach_numbers (fun b vat o0 => (runO Tryd.prog (T_teach_numbers @l_text_Number) cuts_teach_numbers 0 (finish Tryd.prog Tryd.f18 0 K) fuel) (at' Tryd.f18 1) ⟨fr0 54 [(0, .rd ⟨false, 5, (.int .u8), b⟩), (1, .v (.int .i64 vat)), (4, .own 0)], [.row ⟨true, 3, (.int .i64), o0⟩]⟩) (fun r0 r1 r2 => K (.tup [.own 0, .v (.int .i64 r0), .v (.int .i64 r1)]) [.row ⟨true, 3, (.int .i64), r2⟩]) b vat := gentry_teach_numbers @l_text_Number fuel K b vat

theorem runs_teach_numbers {R : Type} (K : AV → List O → Option R) : ∀ fuel : Nat,
    (fun b vat o0 => (runO Tryd.prog (T_teach_numbers @l_text_Number) cuts_teach_numbers 0 (finish Tryd.prog Tryd.f18 0 K) fuel) (at' Tryd.f18 1) ⟨fr0 54 [(0, .rd ⟨false, 5, (.int .u8), b⟩), (1, .v (.int .i64 vat)), (4, .own 0)], [.row ⟨true, 3, (.int .i64), o0⟩]⟩) = (run_teach_numbers (fun r0 r1 r2 => K (.tup [.own 0, .v (.int .i64 r0), .v (.int .i64 r1)]) [.row ⟨true, 3, (.int .i64), r2⟩]) fuel)
  | 0 => rfl
  | fuel + 1 => by
    have ih := runs_teach_numbers K fuel
    funext b vat o0
    refine (step_teach_numbers_1 _ K b vat o0).trans ?_
    rw [ih]
    rfl

def S_teach_numbers (l_teach_numbers : {R : Type} → (List Int) → Int → (Int → Int → (List Int) → Option R) → Option R) : Sum := ⟨[], fun {R} args ob K => match args, ob with
  | [.rd ⟨false, 5, (.int .u8), b⟩, .v (.int .i64 vat)], [] => l_teach_numbers b vat (fun r0 r1 r2 => K (.tup [.own 0, .v (.int .i64 r0), .v (.int .i64 r1)]) [.row ⟨true, 3, (.int .i64), r2⟩])
  | _, _ => none⟩

theorem sound_teach_numbers : Sound Tryd.prog 18 (S_teach_numbers @l_teach_numbers) := by
  refine fn_sound (cuts := cuts_teach_numbers) (fn := Tryd.f18) (Γ := (T_teach_numbers @l_text_Number)) wide right_T_teach_numbers Tryd.func18 fun {R} K r args ob h => ?_
  unfold S_teach_numbers at h
  dsimp only at h
  split at h
  · obtain ⟨n, hn⟩ := ok_teach_numbers _ _ _ h
    refine ⟨Nat.le_of_ble_eq_true (by kernel_rfl), n, (entry_teach_numbers n K _ _).trans ?_⟩
    rw [(runs_teach_numbers K n)]
    exact hn
  · cases h

theorem call_teach_numbers : Callable Tryd.prog 18 := ⟨_, Tryd.func18, by kernel_rfl, by kernel_rfl⟩

def T_teach_Parse (l_teach_numbers : {R : Type} → (List Int) → Int → (Int → Int → (List Int) → Option R) → Option R) : FuncId → Option Sum := (addS G0 18 (S_teach_numbers @l_teach_numbers))

theorem right_T_teach_Parse : Right Tryd.prog (T_teach_Parse @l_teach_numbers) := (right_add right_G0 call_teach_numbers sound_teach_numbers)

abbrev cuts_teach_Parse : Cuts := [(3, [0, 2, 4])]

theorem gstep_teach_Parse_3 (l_teach_numbers : {R : Type} → (List Int) → Int → (Int → Int → (List Int) → Option R) → Option R) {R : Type} (g : List Item → St → Option R) (K : AV → List O → Option R) (b : List Int) (vat : Int) (o0 : List (Int × (List Int × List Int))) :
    runSeg Tryd.prog (T_teach_Parse @l_teach_numbers) cuts_teach_Parse 0 g (finish Tryd.prog Tryd.f10 0 K) (at' Tryd.f10 3) ⟨fr0 82 [(0, .rd ⟨false, 5, (.int .u8), b⟩), (2, .own 0), (4, .v (.int .i64 vat))], [.row ⟨true, 35, (.pr (.int .i64) (.pr (.sl 3 (.int .i64)) (.sl 3 (.int .i64)))), o0⟩]⟩ =
    (fun (g10_3 : (List Int) → Int → (List (Int × (List Int × List Int))) → Option R) (K0 : Int → Int → (List (Int × (List Int × List Int))) → Option R) (b : List Int) (vat : Int) (o0 : List (Int × (List Int × List Int))) =>
    bi (decide (vat < (b.length : Int)))
     (bi ((o0.length : Int) == 65536)
      (K0 3 vat ([] : List (Int × (List Int × List Int))))
      (bi (decide (0 ≤ vat ∧ vat < ((b.length : Nat) : Int)))
       (bi ((b.getD vat.toNat 0) == 111)
        (l_teach_numbers b (IntKind.i64.wrap (vat + 1))
         (fun r1 r2 r3 =>
          bi (r1 != 0)
           (K0 r1 r2 ([] : List (Int × (List Int × List Int))))
           (bi (decide ((o0.length + [(1, (r3, ([] : List Int)))].length) * 56 ≤ lim))
            (g10_3 b r2 (o0 ++ [(1, (r3, ([] : List Int)))]))
            none)))
        (bi ((b.getD vat.toNat 0) == 121)
         (bi (decide ((IntKind.i64.wrap (vat + 1)) < (b.length : Int)))
          (bi (decide (0 ≤ (IntKind.i64.wrap (vat + 1)) ∧ (IntKind.i64.wrap (vat + 1)) < ((b.length : Nat) : Int)))
           (bi ((b.getD ((IntKind.i64.wrap (vat + 1)).toNat) 0) != 10)
            (K0 6 (IntKind.i64.wrap (vat + 1)) ([] : List (Int × (List Int × List Int))))
            (l_teach_numbers b (IntKind.i64.wrap (vat + 1))
             (fun r4 r5 r6 =>
              bi (r4 != 0)
               (K0 r4 r5 ([] : List (Int × (List Int × List Int))))
               (bi (decide ((o0.length + [(2, (([] : List Int), r6))].length) * 56 ≤ lim))
                (g10_3 b r5 (o0 ++ [(2, (([] : List Int), r6))]))
                none))))
           none)
          (l_teach_numbers b (IntKind.i64.wrap (vat + 1))
           (fun r7 r8 r9 =>
            bi (r7 != 0)
             (K0 r7 r8 ([] : List (Int × (List Int × List Int))))
             (bi (decide ((o0.length + [(2, (([] : List Int), r9))].length) * 56 ≤ lim))
              (g10_3 b r8 (o0 ++ [(2, (([] : List Int), r9))]))
              none))))
         (bi ((b.getD vat.toNat 0) == 110)
          (l_teach_numbers b (IntKind.i64.wrap (vat + 1))
           (fun r10 r11 r12 =>
            bi (r10 != 0)
             (K0 r10 r11 ([] : List (Int × (List Int × List Int))))
             (bi (decide ((o0.length + [(3, (([] : List Int), r12))].length) * 56 ≤ lim))
              (g10_3 b r11 (o0 ++ [(3, (([] : List Int), r12))]))
              none)))
          (K0 6 vat ([] : List (Int × (List Int × List Int)))))))
       none))
     (K0 0 (b.length : Int) o0)) (fun b vat o0 => g (at' Tryd.f10 3) ⟨fr0 82 [(0, .rd ⟨false, 5, (.int .u8), b⟩), (2, .own 0), (4, .v (.int .i64 vat))], [.row ⟨true, 35, (.pr (.int .i64) (.pr (.sl 3 (.int .i64)) (.sl 3 (.int .i64)))), o0⟩]⟩) (fun r0 r1 r2 => K (.tup [.own 0, .v (.int .i64 r0), .v (.int .i64 r1)]) [.row ⟨true, 35, (.pr (.int .i64) (.pr (.sl 3 (.int .i64)) (.sl 3 (.int .i64)))), r2⟩]) b vat o0 := by kernel_rfl

theorem step_teach_Parse_3 {R : Type} (g : List Item → St → Option R) (K : AV → List O → Option R) (b : List Int) (vat : Int) (o0 : List (Int × (List Int × List Int))) :
    runSeg Tryd.prog (T_teach_Parse @l_teach_numbers) cuts_teach_Parse 0 g (finish Tryd.prog Tryd.f10 0 K) (at' Tryd.f10 3) ⟨fr0 82 [(0, .rd ⟨false, 5, (.int .u8), b⟩), (2, .own 0), (4, .v (.int .i64 vat))], [.row ⟨true, 35, (.pr (.int .i64) (.pr (.sl 3 (.int .i64)) (.sl 3 (.int .i64)))), o0⟩]⟩ =
    s_teach_Parse_3 (fun b vat o0 => g (at' Tryd.f10 3) ⟨fr0 82 [(0, .rd ⟨false, 5, (.int .u8), b⟩), (2, .own 0), (4, .v (.int .i64 vat))], [.row ⟨true, 35, (.pr (.int .i64) (.pr (.sl 3 (.int .i64)) (.sl 3 (.int .i64)))), o0⟩]⟩) (fun r0 r1 r2 => K (.tup [.own 0, .v (.int .i64 r0), .v (.int .i64 r1)]) [.row ⟨true, 35, (.pr (.int .i64) (.pr (.sl 3 (.int .i64)) (.sl 3 (.int .i64)))), r2⟩]) b vat o0 := gstep_teach_Parse_3 @l_teach_numbers g K b vat o0

theorem gentry_teach_Parse (l_teach_numbers : {R : Type} → (List Int) → Int → (Int → Int → (List Int) → Option R) → Option R) {R : Type} (fuel : Nat) (K : AV → List O → Option R) (b : List Int) :
    fnRun Tryd.prog (T_teach_Parse @l_teach_numbers) cuts_teach_Parse Tryd.f10 fuel [.rd ⟨false, 5, (.int .u8), b⟩] [] K =
    (fun (g10_3 : (List Int) → Int → (List (Int × (List Int × List Int))) → Option R) (K0 : Int → Int → (List (Int × (List Int × List Int))) → Option R) (b : List Int) =>
    bi (decide ((b.length : Int) > 16777216))
     (K0 2 0 ([] : List (Int × (List Int × List Int))))
     (g10_3 b 0 ([] : List (Int × (List Int × List Int))))) (fun b vat o0 => (runO Tryd.prog (T_teach_Parse @l_teach_numbers) cuts_teach_Parse 0 (finish Tryd.prog Tryd.f10 0 K) fuel) (at' Tryd.f10 3) ⟨fr0 82 [(0, .rd ⟨false, 5, (.int .u8), b⟩), (2, .own 0), (4, .v (.int .i64 vat))], [.row ⟨true, 35, (.pr (.int .i64) (.pr (.sl 3 (.int .i64)) (.sl 3 (.int .i64)))), o0⟩]⟩) (fun r0 r1 r2 => K (.tup [.own 0, .v (.int .i64 r0), .v (.int .i64 r1)]) [.row ⟨true, 35, (.pr (.int .i64) (.pr (.sl 3 (.int .i64)) (.sl 3 (.int .i64)))), r2⟩]) b := by kernel_rfl

theorem entry_teach_Parse {R : Type} (fuel : Nat) (K : AV → List O → Option R) (b : List Int) :
    fnRun Tryd.prog (T_teach_Parse @l_teach_numbers) cuts_teach_Parse Tryd.f10 fuel [.rd ⟨false, 5, (.int .u8), b⟩] [] K =
    e_teach_Parse (fun b vat o0 => (runO Tryd.prog (T_teach_Parse @l_teach_numbers) cuts_teach_Parse 0 (finish Tryd.prog Tryd.f10 0 K) fuel) (at' Tryd.f10 3) ⟨fr0 82 [(0, .rd ⟨false, 5, (.int .u8), b⟩), (2, .own 0), (4, .v (.int .i64 vat))], [.row ⟨true, 35, (.pr (.int .i64) (.pr (.sl 3 (.int .i64)) (.sl 3 (.int .i64)))), o0⟩]⟩) (fun r0 r1 r2 => K (.tup [.own 0, .v (.int .i64 r0), .v (.int .i64 r1)]) [.row ⟨true, 35, (.pr (.int .i64) (.pr (.sl 3 (.int .i64)) (.sl 3 (.int .i64)))), r2⟩]) b := gentry_teach_Parse @l_teach_numbers fuel K b

theorem runs_teach_Parse {R : Type} (K : AV → List O → Option R) : ∀ fuel : Nat,
    (fun b vat o0 => (runO Tryd.prog (T_teach_Parse @l_teach_numbers) cuts_teach_Parse 0 (finish Tryd.prog Tryd.f10 0 K) fuel) (at' Tryd.f10 3) ⟨fr0 82 [(0, .rd ⟨false, 5, (.int .u8), b⟩), (2, .own 0), (4, .v (.int .i64 vat))], [.row ⟨true, 35, (.pr (.int .i64) (.pr (.sl 3 (.int .i64)) (.sl 3 (.int .i64)))), o0⟩]⟩) = (run_teach_Parse (fun r0 r1 r2 => K (.tup [.own 0, .v (.int .i64 r0), .v (.int .i64 r1)]) [.row ⟨true, 35, (.pr (.int .i64) (.pr (.sl 3 (.int .i64)) (.sl 3 (.int .i64)))), r2⟩]) fuel)
  | 0 => rfl
  | fuel + 1 => by
    have ih := runs_teach_Parse K fuel
    funext b vat o0
    refine (step_teach_Parse_3 _ K b vat o0).trans ?_
    rw [ih]
    rfl

def S_teach_Parse (l_teach_Parse : {R : Type} → (List Int) → (Int → Int → (List (Int × (List Int × List Int))) → Option R) → Option R) : Sum := ⟨[], fun {R} args ob K => match args, ob with
  | [.rd ⟨false, 5, (.int .u8), b⟩], [] => l_teach_Parse b (fun r0 r1 r2 => K (.tup [.own 0, .v (.int .i64 r0), .v (.int .i64 r1)]) [.row ⟨true, 35, (.pr (.int .i64) (.pr (.sl 3 (.int .i64)) (.sl 3 (.int .i64)))), r2⟩])
  | _, _ => none⟩

theorem sound_teach_Parse : Sound Tryd.prog 10 (S_teach_Parse @l_teach_Parse) := by
  refine fn_sound (cuts := cuts_teach_Parse) (fn := Tryd.f10) (Γ := (T_teach_Parse @l_teach_numbers)) wide right_T_teach_Parse Tryd.func10 fun {R} K r args ob h => ?_
  unfold S_teach_Parse at h
  dsimp only at h
  split at h
  · obtain ⟨n, hn⟩ := ok_teach_Parse _ _ h
    refine ⟨Nat.le_of_ble_eq_true (by kernel_rfl), n, (entry_teach_Parse n K _).trans ?_⟩
    rw [(runs_teach_Parse K n)]
    exact hn
  · cases h

theorem call_teach_Parse : Callable Tryd.prog 10 := ⟨_, Tryd.func10, by kernel_rfl, by kernel_rfl⟩

def T_tutorlaw10_num : FuncId → Option Sum := G0

theorem right_T_tutorlaw10_num : Right Tryd.prog T_tutorlaw10_num := right_G0

abbrev cuts_tutorlaw10_num : Cuts := []

theorem gentry_tutorlaw10_num {R : Type} (K : AV → List O → Option R) (e : Int) :
    fnRun Tryd.prog T_tutorlaw10_num cuts_tutorlaw10_num Tryd.f11 0 [.v (.int .i64 e)] [] K =
    (fun (e : Int) (K0 : Int → Option R) =>
    K0 e) e (fun r0 => K (.v (.int .i64 r0)) []) := by kernel_rfl

theorem entry_tutorlaw10_num {R : Type} (K : AV → List O → Option R) (e : Int) :
    fnRun Tryd.prog T_tutorlaw10_num cuts_tutorlaw10_num Tryd.f11 0 [.v (.int .i64 e)] [] K =
    l_tutorlaw10_num e (fun r0 => K (.v (.int .i64 r0)) []) := gentry_tutorlaw10_num K e

def S_tutorlaw10_num (l_tutorlaw10_num : {R : Type} → Int → (Int → Option R) → Option R) : Sum := ⟨[], fun {R} args ob K => match args, ob with
  | [.v (.int .i64 e)], [] => l_tutorlaw10_num e (fun r0 => K (.v (.int .i64 r0)) [])
  | _, _ => none⟩

theorem sound_tutorlaw10_num : Sound Tryd.prog 11 (S_tutorlaw10_num @l_tutorlaw10_num) := by
  refine fn_sound (cuts := cuts_tutorlaw10_num) (fn := Tryd.f11) (Γ := T_tutorlaw10_num) wide right_T_tutorlaw10_num Tryd.func11 fun {R} K r args ob h => ?_
  unfold S_tutorlaw10_num at h
  dsimp only at h
  split at h
  · exact ⟨Nat.le_of_ble_eq_true (by kernel_rfl), 0, (entry_tutorlaw10_num K _).trans h⟩
  · cases h

theorem call_tutorlaw10_num : Callable Tryd.prog 11 := ⟨_, Tryd.func11, by kernel_rfl, by kernel_rfl⟩

def T_tutorref01_Same : FuncId → Option Sum := G0

theorem right_T_tutorref01_Same : Right Tryd.prog T_tutorref01_Same := right_G0

abbrev cuts_tutorref01_Same : Cuts := [(4, [0, 1, 5])]

theorem gstep_tutorref01_Same_4 {R : Type} (g : List Item → St → Option R) (K : AV → List O → Option R) (a : List Int) (b : List Int) (i : Int) :
    runSeg Tryd.prog T_tutorref01_Same cuts_tutorref01_Same 0 g (finish Tryd.prog Tryd.f13 0 K) (at' Tryd.f13 4) ⟨fr0 26 [(0, .rd ⟨false, 3, (.int .i64), a⟩), (1, .rd ⟨false, 3, (.int .i64), b⟩), (5, .v (.int .i64 i))], []⟩ =
    (fun (g13_4 : (List Int) → (List Int) → Int → Option R) (K0 : Bool → Option R) (a : List Int) (b : List Int) (i : Int) =>
    bi (decide (i < (a.length : Int)))
     (bi (decide (0 ≤ i ∧ i < ((a.length : Nat) : Int)))
      (bi (decide (0 ≤ i ∧ i < ((b.length : Nat) : Int)))
       (bi ((a.getD i.toNat 0) != (b.getD i.toNat 0))
        (K0 false)
        (g13_4 a b (IntKind.i64.wrap (i + 1))))
       none)
      none)
     (K0 true)) (fun a b i => g (at' Tryd.f13 4) ⟨fr0 26 [(0, .rd ⟨false, 3, (.int .i64), a⟩), (1, .rd ⟨false, 3, (.int .i64), b⟩), (5, .v (.int .i64 i))], []⟩) (fun r0 => K (.v (.bool r0)) []) a b i := by kernel_rfl

theorem step_tutorref01_Same_4 {R : Type} (g : List Item → St → Option R) (K : AV → List O → Option R) (a : List Int) (b : List Int) (i : Int) :
    runSeg Tryd.prog T_tutorref01_Same cuts_tutorref01_Same 0 g (finish Tryd.prog Tryd.f13 0 K) (at' Tryd.f13 4) ⟨fr0 26 [(0, .rd ⟨false, 3, (.int .i64), a⟩), (1, .rd ⟨false, 3, (.int .i64), b⟩), (5, .v (.int .i64 i))], []⟩ =
    s_tutorref01_Same_4 (fun a b i => g (at' Tryd.f13 4) ⟨fr0 26 [(0, .rd ⟨false, 3, (.int .i64), a⟩), (1, .rd ⟨false, 3, (.int .i64), b⟩), (5, .v (.int .i64 i))], []⟩) (fun r0 => K (.v (.bool r0)) []) a b i := gstep_tutorref01_Same_4 g K a b i

theorem gentry_tutorref01_Same {R : Type} (fuel : Nat) (K : AV → List O → Option R) (a : List Int) (b : List Int) :
    fnRun Tryd.prog T_tutorref01_Same cuts_tutorref01_Same Tryd.f13 fuel [.rd ⟨false, 3, (.int .i64), a⟩, .rd ⟨false, 3, (.int .i64), b⟩] [] K =
    (fun (g13_4 : (List Int) → (List Int) → Int → Option R) (K0 : Bool → Option R) (a : List Int) (b : List Int) =>
    bi ((a.length : Int) != (b.length : Int))
     (K0 false)
     (g13_4 a b 0)) (fun a b i => (runO Tryd.prog T_tutorref01_Same cuts_tutorref01_Same 0 (finish Tryd.prog Tryd.f13 0 K) fuel) (at' Tryd.f13 4) ⟨fr0 26 [(0, .rd ⟨false, 3, (.int .i64), a⟩), (1, .rd ⟨false, 3, (.int .i64), b⟩), (5, .v (.int .i64 i))], []⟩) (fun r0 => K (.v (.bool r0)) []) a b := by kernel_rfl

theorem entry_tutorref01_Same {R : Type} (fuel : Nat) (K : AV → List O → Option R) (a : List Int) (b : List Int) :
    fnRun Tryd.prog T_tutorref01_Same cuts_tutorref01_Same Tryd.f13 fuel [.rd ⟨false, 3, (.int .i64), a⟩, .rd ⟨false, 3, (.int .i64), b⟩] [] K =
    e_tutorref01_Same (fun a b i => (runO Tryd.prog T_tutorref01_Same cuts_tutorref01_Same 0 (finish Tryd.prog Tryd.f13 0 K) fuel) (at' Tryd.f13 4) ⟨fr0 26 [(0, .rd ⟨false, 3, (.int .i64), a⟩), (1, .rd ⟨false, 3, (.int .i64), b⟩), (5, .v (.int .i64 i))], []⟩) (fun r0 => K (.v (.bool r0)) []) a b := gentry_tutorref01_Same fuel K a b

theorem runs_tutorref01_Same {R : Type} (K : AV → List O → Option R) : ∀ fuel : Nat,
    (fun a b i => (runO Tryd.prog T_tutorref01_Same cuts_tutorref01_Same 0 (finish Tryd.prog Tryd.f13 0 K) fuel) (at' Tryd.f13 4) ⟨fr0 26 [(0, .rd ⟨false, 3, (.int .i64), a⟩), (1, .rd ⟨false, 3, (.int .i64), b⟩), (5, .v (.int .i64 i))], []⟩) = (run_tutorref01_Same (fun r0 => K (.v (.bool r0)) []) fuel)
  | 0 => rfl
  | fuel + 1 => by
    have ih := runs_tutorref01_Same K fuel
    funext a b i
    refine (step_tutorref01_Same_4 _ K a b i).trans ?_
    rw [ih]
    rfl

def S_tutorref01_Same (l_tutorref01_Same : {R : Type} → (List Int) → (List Int) → (Bool → Option R) → Option R) : Sum := ⟨[], fun {R} args ob K => match args, ob with
  | [.rd ⟨false, 3, (.int .i64), a⟩, .rd ⟨false, 3, (.int .i64), b⟩], [] => l_tutorref01_Same a b (fun r0 => K (.v (.bool r0)) [])
  | _, _ => none⟩

theorem sound_tutorref01_Same : Sound Tryd.prog 13 (S_tutorref01_Same @l_tutorref01_Same) := by
  refine fn_sound (cuts := cuts_tutorref01_Same) (fn := Tryd.f13) (Γ := T_tutorref01_Same) wide right_T_tutorref01_Same Tryd.func13 fun {R} K r args ob h => ?_
  unfold S_tutorref01_Same at h
  dsimp only at h
  split at h
  · obtain ⟨n, hn⟩ := ok_tutorref01_Same _ _ _ h
    refine ⟨Nat.le_of_ble_eq_true (by kernel_rfl), n, (entry_tutorref01_Same n K _ _).trans ?_⟩
    rw [(runs_tutorref01_Same K n)]
    exact hn
  · cases h

theorem call_tutorref01_Same : Callable Tryd.prog 13 := ⟨_, Tryd.func13, by kernel_rfl, by kernel_rfl⟩

def T_teach_of : FuncId → Option Sum := G0

theorem right_T_teach_of : Right Tryd.prog T_teach_of := right_G0

abbrev cuts_teach_of : Cuts := []

theorem gentry_teach_of {R : Type} (K : AV → List O → Option R) (a : Int) (a_1 : List Int) (a_2 : List Int) :
    fnRun Tryd.prog T_teach_of cuts_teach_of Tryd.f15 0 [.agg [.v (.int .i64 a), .rd ⟨false, 3, (.int .i64), a_1⟩, .rd ⟨false, 3, (.int .i64), a_2⟩]] [] K =
    (fun (a : Int) (a_1 : List Int) (a_2 : List Int) (K0 : (List Int) → Option R) (K1 : Option R) (K2 : (List Int) → Option R) (K3 : Option R) =>
    bi (a == 1)
     (K0 a_1)
     (bi (a == 2)
      K1
      (bi (a == 3)
       (K2 a_2)
       K3))) a a_1 a_2 (fun r0 => K (.ifc 53 (.agg [.rd ⟨false, 3, (.int .i64), r0⟩])) []) (K (.ifc 56 (.agg [])) []) (fun r0 => K (.ifc 58 (.agg [.rd ⟨false, 3, (.int .i64), r0⟩])) []) (K (.v (.nilIface)) []) := by kernel_rfl

theorem entry_teach_of {R : Type} (K : AV → List O → Option R) (a : Int) (a_1 : List Int) (a_2 : List Int) :
    fnRun Tryd.prog T_teach_of cuts_teach_of Tryd.f15 0 [.agg [.v (.int .i64 a), .rd ⟨false, 3, (.int .i64), a_1⟩, .rd ⟨false, 3, (.int .i64), a_2⟩]] [] K =
    l_teach_of a a_1 a_2 (fun r0 => K (.ifc 53 (.agg [.rd ⟨false, 3, (.int .i64), r0⟩])) []) (K (.ifc 56 (.agg [])) []) (fun r0 => K (.ifc 58 (.agg [.rd ⟨false, 3, (.int .i64), r0⟩])) []) (K (.v (.nilIface)) []) := gentry_teach_of K a a_1 a_2

def S_teach_of (l_teach_of : {R : Type} → Int → (List Int) → (List Int) → ((List Int) → Option R) → (Option R) → ((List Int) → Option R) → (Option R) → Option R) : Sum := ⟨[], fun {R} args ob K => match args, ob with
  | [.agg [.v (.int .i64 a), .rd ⟨false, 3, (.int .i64), a_1⟩, .rd ⟨false, 3, (.int .i64), a_2⟩]], [] => l_teach_of a a_1 a_2 (fun r0 => K (.ifc 53 (.agg [.rd ⟨false, 3, (.int .i64), r0⟩])) []) (K (.ifc 56 (.agg [])) []) (fun r0 => K (.ifc 58 (.agg [.rd ⟨false, 3, (.int .i64), r0⟩])) []) (K (.v (.nilIface)) [])
  | _, _ => none⟩

theorem sound_teach_of : Sound Tryd.prog 15 (S_teach_of @l_teach_of) := by
  refine fn_sound (cuts := cuts_teach_of) (fn := Tryd.f15) (Γ := T_teach_of) wide right_T_teach_of Tryd.func15 fun {R} K r args ob h => ?_
  unfold S_teach_of at h
  dsimp only at h
  split at h
  · exact ⟨Nat.le_of_ble_eq_true (by kernel_rfl), 0, (entry_teach_of K _ _ _).trans h⟩
  · cases h

theorem call_teach_of : Callable Tryd.prog 15 := ⟨_, Tryd.func15, by kernel_rfl, by kernel_rfl⟩

def T_teach_member_1 : FuncId → Option Sum := G0

theorem right_T_teach_member_1 : Right Tryd.prog T_teach_member_1 := right_G0

abbrev cuts_teach_member_1 : Cuts := []

theorem gentry_teach_member_1 {R : Type} (K : AV → List O → Option R) (o : Int) (o0 : Int) :
    fnRun Tryd.prog T_teach_member_1 cuts_teach_member_1 Tryd.f24 0 [.v (.int .i64 o), .ptr 0 0] [.box 3 [.v (.int .i64 o0)]] K =
    (fun (o : Int) (o0 : Int) (K0 : Bool → Int → Option R) =>
    bi (decide (o < 0))
     (K0 true o0)
     (K0 (decide (o ≥ o0)) o0)) o o0 (fun r0 r1 => K (.v (.bool r0)) [.box 3 [.v (.int .i64 r1)]]) := by kernel_rfl

theorem entry_teach_member_1 {R : Type} (K : AV → List O → Option R) (o : Int) (o0 : Int) :
    fnRun Tryd.prog T_teach_member_1 cuts_teach_member_1 Tryd.f24 0 [.v (.int .i64 o), .ptr 0 0] [.box 3 [.v (.int .i64 o0)]] K =
    l_teach_member_1 o o0 (fun r0 r1 => K (.v (.bool r0)) [.box 3 [.v (.int .i64 r1)]]) := gentry_teach_member_1 K o o0

def S_teach_member_1 (l_teach_member_1 : {R : Type} → Int → Int → (Bool → Int → Option R) → Option R) : Sum := ⟨[], fun {R} args ob K => match args, ob with
  | [.v (.int .i64 o), .ptr 0 0], [.box 3 [.v (.int .i64 o0)]] => l_teach_member_1 o o0 (fun r0 r1 => K (.v (.bool r0)) [.box 3 [.v (.int .i64 r1)]])
  | _, _ => none⟩

theorem sound_teach_member_1 : Sound Tryd.prog 24 (S_teach_member_1 @l_teach_member_1) := by
  refine fn_sound (cuts := cuts_teach_member_1) (fn := Tryd.f24) (Γ := T_teach_member_1) wide right_T_teach_member_1 Tryd.func24 fun {R} K r args ob h => ?_
  unfold S_teach_member_1 at h
  dsimp only at h
  split at h
  · exact ⟨Nat.le_of_ble_eq_true (by kernel_rfl), 0, (entry_teach_member_1 K _ _).trans h⟩
  · cases h

theorem call_teach_member_1 : Callable Tryd.prog 24 := ⟨_, Tryd.func24, by kernel_rfl, by kernel_rfl⟩

def T_slices_IndexFunc_int_int (l_teach_member_1 : {R : Type} → Int → Int → (Bool → Int → Option R) → Option R) : FuncId → Option Sum := (addS G0 24 (S_teach_member_1 @l_teach_member_1))

theorem right_T_slices_IndexFunc_int_int : Right Tryd.prog (T_slices_IndexFunc_int_int @l_teach_member_1) := (right_add right_G0 call_teach_member_1 sound_teach_member_1)

abbrev cuts_slices_IndexFunc_int_int_fteach_member_1 : Cuts := [(2, [0, 1, 7, 8])]

theorem gstep_slices_IndexFunc_int_int_fteach_member_1_2 (l_teach_member_1 : {R : Type} → Int → Int → (Bool → Int → Option R) → Option R) {R : Type} (g : List Item → St → Option R) (K : AV → List O → Option R) (s : List Int) (x7 : Int) (x8 : Int) (o0 : Int) :
    runSeg Tryd.prog (T_slices_IndexFunc_int_int @l_teach_member_1) cuts_slices_IndexFunc_int_int_fteach_member_1 1 g (finish Tryd.prog Tryd.f27 1 K) (at' Tryd.f27 2) ⟨fr0 19 [(0, .rd ⟨false, 3, (.int .i64), s⟩), (1, .clo 24 [.ptr 0 0]), (7, .v (.int .i64 x7)), (8, .v (.int .i64 x8))], [.box 3 [.v (.int .i64 o0)]]⟩ =
    (fun (g27_2 : (List Int) → Int → Int → Int → Option R) (K0 : Int → Int → Option R) (s : List Int) (x7 : Int) (x8 : Int) (o0 : Int) =>
    bi (decide (x8 < x7))
     (bi (decide (0 ≤ x8 ∧ x8 < ((s.length : Nat) : Int)))
      (l_teach_member_1 (s.getD x8.toNat 0) o0
       (fun r1 r2 =>
        bi r1
         (K0 x8 r2)
         (g27_2 s x7 (IntKind.i64.wrap (x8 + 1)) r2)))
      none)
     (K0 (-1) o0)) (fun s x7 x8 o0 => g (at' Tryd.f27 2) ⟨fr0 19 [(0, .rd ⟨false, 3, (.int .i64), s⟩), (1, .clo 24 [.ptr 0 0]), (7, .v (.int .i64 x7)), (8, .v (.int .i64 x8))], [.box 3 [.v (.int .i64 o0)]]⟩) (fun r0 r1 => K (.v (.int .i64 r0)) [.box 3 [.v (.int .i64 r1)]]) s x7 x8 o0 := by kernel_rfl

theorem step_slices_IndexFunc_int_int_fteach_member_1_2 {R : Type} (g : List Item → St → Option R) (K : AV → List O → Option R) (s : List Int) (x7 : Int) (x8 : Int) (o0 : Int) :
    runSeg Tryd.prog (T_slices_IndexFunc_int_int @l_teach_member_1) cuts_slices_IndexFunc_int_int_fteach_member_1 1 g (finish Tryd.prog Tryd.f27 1 K) (at' Tryd.f27 2) ⟨fr0 19 [(0, .rd ⟨false, 3, (.int .i64), s⟩), (1, .clo 24 [.ptr 0 0]), (7, .v (.int .i64 x7)), (8, .v (.int .i64 x8))], [.box 3 [.v (.int .i64 o0)]]⟩ =
    s_slices_IndexFunc_int_int_fteach_member_1_2 (fun s x7 x8 o0 => g (at' Tryd.f27 2) ⟨fr0 19 [(0, .rd ⟨false, 3, (.int .i64), s⟩), (1, .clo 24 [.ptr 0 0]), (7, .v (.int .i64 x7)), (8, .v (.int .i64 x8))], [.box 3 [.v (.int .i64 o0)]]⟩) (fun r0 r1 => K (.v (.int .i64 r0)) [.box 3 [.v (.int .i64 r1)]]) s x7 x8 o0 := gstep_slices_IndexFunc_int_int_fteach_member_1_2 @l_teach_member_1 g K s x7 x8 o0

theorem gentry_slices_IndexFunc_int_int_fteach_member_1 (l_teach_member_1 : {R : Type} → Int → Int → (Bool → Int → Option R) → Option R) {R : Type} (fuel : Nat) (K : AV → List O → Option R) (s : List Int) (o0 : Int) :
    fnRun Tryd.prog (T_slices_IndexFunc_int_int @l_teach_member_1) cuts_slices_IndexFunc_int_int_fteach_member_1 Tryd.f27 fuel [.rd ⟨false, 3, (.int .i64), s⟩, .clo 24 [.ptr 0 0]] [.box 3 [.v (.int .i64 o0)]] K =
    (fun (g27_2 : (List Int) → Int → Int → Int → Option R) (K0 : Int → Int → Option R) (s : List Int) (o0 : Int) =>
    g27_2 s (s.length : Int) 0 o0) (fun s x7 x8 o0 => (runO Tryd.prog (T_slices_IndexFunc_int_int @l_teach_member_1) cuts_slices_IndexFunc_int_int_fteach_member_1 1 (finish Tryd.prog Tryd.f27 1 K) fuel) (at' Tryd.f27 2) ⟨fr0 19 [(0, .rd ⟨false, 3, (.int .i64), s⟩), (1, .clo 24 [.ptr 0 0]), (7, .v (.int .i64 x7)), (8, .v (.int .i64 x8))], [.box 3 [.v (.int .i64 o0)]]⟩) (fun r0 r1 => K (.v (.int .i64 r0)) [.box 3 [.v (.int .i64 r1)]]) s o0 := by kernel_rfl

theorem entry_slices_IndexFunc_int_int_fteach_member_1 {R : Type} (fuel : Nat) (K : AV → List O → Option R) (s : List Int) (o0 : Int) :
    fnRun Tryd.prog (T_slices_IndexFunc_int_int @l_teach_member_1) cuts_slices_IndexFunc_int_int_fteach_member_1 Tryd.f27 fuel [.rd ⟨false, 3, (.int .i64), s⟩, .clo 24 [.ptr 0 0]] [.box 3 [.v (.int .i64 o0)]] K =
    e_slices_IndexFunc_int_int_fteach_member_1 (fun s x7 x8 o0 => (runO Tryd.prog (T_slices_IndexFunc_int_int @l_teach_member_1) cuts_slices_IndexFunc_int_int_fteach_member_1 1 (finish Tryd.prog Tryd.f27 1 K) fuel) (at' Tryd.f27 2) ⟨fr0 19 [(0, .rd ⟨false, 3, (.int .i64), s⟩), (1, .clo 24 [.ptr 0 0]), (7, .v (.int .i64 x7)), (8, .v (.int .i64 x8))], [.box 3 [.v (.int .i64 o0)]]⟩) (fun r0 r1 => K (.v (.int .i64 r0)) [.box 3 [.v (.int .i64 r1)]]) s o0 := gentry_slices_IndexFunc_int_int_fteach_member_1 @l_teach_member_1 fuel K s o0

theorem runs_slices_IndexFunc_int_int_fteach_member_1 {R : Type} (K : AV → List O → Option R) : ∀ fuel : Nat,
    (fun s x7 x8 o0 => (runO Tryd.prog (T_slices_IndexFunc_int_int @l_teach_member_1) cuts_slices_IndexFunc_int_int_fteach_member_1 1 (finish Tryd.prog Tryd.f27 1 K) fuel) (at' Tryd.f27 2) ⟨fr0 19 [(0, .rd ⟨false, 3, (.int .i64), s⟩), (1, .clo 24 [.ptr 0 0]), (7, .v (.int .i64 x7)), (8, .v (.int .i64 x8))], [.box 3 [.v (.int .i64 o0)]]⟩) = (run_slices_IndexFunc_int_int_fteach_member_1 (fun r0 r1 => K (.v (.int .i64 r0)) [.box 3 [.v (.int .i64 r1)]]) fuel)
  | 0 => rfl
  | fuel + 1 => by
    have ih := runs_slices_IndexFunc_int_int_fteach_member_1 K fuel
    funext s x7 x8 o0
    refine (step_slices_IndexFunc_int_int_fteach_member_1_2 _ K s x7 x8 o0).trans ?_
    rw [ih]
    rfl

def S_slices_IndexFunc_int_int (l_slices_IndexFunc_int_int_fteach_member_1 : {R : Type} → (List Int) → Int → (Int → Int → Option R) → Option R) : Sum := ⟨[], fun {R} args ob K => match args, ob with
  | [.rd ⟨false, 3, (.int .i64), s⟩, .clo 24 [.ptr 0 0]], [.box 3 [.v (.int .i64 o0)]] => l_slices_IndexFunc_int_int_fteach_member_1 s o0 (fun r0 r1 => K (.v (.int .i64 r0)) [.box 3 [.v (.int .i64 r1)]])
  | _, _ => none⟩

theorem sound_slices_IndexFunc_int_int : Sound Tryd.prog 27 (S_slices_IndexFunc_int_int @l_slices_IndexFunc_int_int_fteach_member_1) := by
  refine fn_sound (cuts := cuts_slices_IndexFunc_int_int_fteach_member_1) (fn := Tryd.f27) (Γ := (T_slices_IndexFunc_int_int @l_teach_member_1)) wide right_T_slices_IndexFunc_int_int Tryd.func27 fun {R} K r args ob h => ?_
  unfold S_slices_IndexFunc_int_int at h
  dsimp only at h
  split at h
  · obtain ⟨n, hn⟩ := ok_slices_IndexFunc_int_int_fteach_member_1 _ _ _ h
    refine ⟨Nat.le_of_ble_eq_true (by kernel_rfl), n, (entry_slices_IndexFunc_int_int_fteach_member_1 n K _ _).trans ?_⟩
    rw [(runs_slices_IndexFunc_int_int_fteach_member_1 K n)]
    exact hn
  · cases h

theorem call_slices_IndexFunc_int_int : Callable Tryd.prog 27 := ⟨_, Tryd.func27, by kernel_rfl, by kernel_rfl⟩

def T_slices_ContainsFunc_int_int (l_slices_IndexFunc_int_int_fteach_member_1 : {R : Type} → (List Int) → Int → (Int → Int → Option R) → Option R) : FuncId → Option Sum := (addS G0 27 (S_slices_IndexFunc_int_int @l_slices_IndexFunc_int_int_fteach_member_1))

theorem right_T_slices_ContainsFunc_int_int : Right Tryd.prog (T_slices_ContainsFunc_int_int @l_slices_IndexFunc_int_int_fteach_member_1) := (right_add right_G0 call_slices_IndexFunc_int_int sound_slices_IndexFunc_int_int)

abbrev cuts_slices_ContainsFunc_int_int_fteach_member_1 : Cuts := []

theorem gentry_slices_ContainsFunc_int_int_fteach_member_1 (l_slices_IndexFunc_int_int_fteach_member_1 : {R : Type} → (List Int) → Int → (Int → Int → Option R) → Option R) {R : Type} (K : AV → List O → Option R) (s : List Int) (o0 : Int) :
    fnRun Tryd.prog (T_slices_ContainsFunc_int_int @l_slices_IndexFunc_int_int_fteach_member_1) cuts_slices_ContainsFunc_int_int_fteach_member_1 Tryd.f23 0 [.rd ⟨false, 3, (.int .i64), s⟩, .clo 24 [.ptr 0 0]] [.box 3 [.v (.int .i64 o0)]] K =
    (fun (s : List Int) (o0 : Int) (K0 : Bool → Int → Option R) =>
    l_slices_IndexFunc_int_int_fteach_member_1 s o0
     (fun r1 r2 =>
      K0 (decide (r1 ≥ 0)) r2)) s o0 (fun r0 r1 => K (.v (.bool r0)) [.box 3 [.v (.int .i64 r1)]]) := by kernel_rfl

theorem entry_slices_ContainsFunc_int_int_fteach_member_1 {R : Type} (K : AV → List O → Option R) (s : List Int) (o0 : Int) :
    fnRun Tryd.prog (T_slices_ContainsFunc_int_int @l_slices_IndexFunc_int_int_fteach_member_1) cuts_slices_ContainsFunc_int_int_fteach_member_1 Tryd.f23 0 [.rd ⟨false, 3, (.int .i64), s⟩, .clo 24 [.ptr 0 0]] [.box 3 [.v (.int .i64 o0)]] K =
    l_slices_ContainsFunc_int_int_fteach_member_1 s o0 (fun r0 r1 => K (.v (.bool r0)) [.box 3 [.v (.int .i64 r1)]]) := gentry_slices_ContainsFunc_int_int_fteach_member_1 @l_slices_IndexFunc_int_int_fteach_member_1 K s o0

def S_slices_ContainsFunc_int_int (l_slices_ContainsFunc_int_int_fteach_member_1 : {R : Type} → (List Int) → Int → (Bool → Int → Option R) → Option R) : Sum := ⟨[], fun {R} args ob K => match args, ob with
  | [.rd ⟨false, 3, (.int .i64), s⟩, .clo 24 [.ptr 0 0]], [.box 3 [.v (.int .i64 o0)]] => l_slices_ContainsFunc_int_int_fteach_member_1 s o0 (fun r0 r1 => K (.v (.bool r0)) [.box 3 [.v (.int .i64 r1)]])
  | _, _ => none⟩

theorem sound_slices_ContainsFunc_int_int : Sound Tryd.prog 23 (S_slices_ContainsFunc_int_int @l_slices_ContainsFunc_int_int_fteach_member_1) := by
  refine fn_sound (cuts := cuts_slices_ContainsFunc_int_int_fteach_member_1) (fn := Tryd.f23) (Γ := (T_slices_ContainsFunc_int_int @l_slices_IndexFunc_int_int_fteach_member_1)) wide right_T_slices_ContainsFunc_int_int Tryd.func23 fun {R} K r args ob h => ?_
  unfold S_slices_ContainsFunc_int_int at h
  dsimp only at h
  split at h
  · exact ⟨Nat.le_of_ble_eq_true (by kernel_rfl), 0, (entry_slices_ContainsFunc_int_int_fteach_member_1 K _ _).trans h⟩
  · cases h

theorem call_slices_ContainsFunc_int_int : Callable Tryd.prog 23 := ⟨_, Tryd.func23, by kernel_rfl, by kernel_rfl⟩

def T_teach_member (l_slices_ContainsFunc_int_int_fteach_member_1 : {R : Type} → (List Int) → Int → (Bool → Int → Option R) → Option R) : FuncId → Option Sum := (addS G0 23 (S_slices_ContainsFunc_int_int @l_slices_ContainsFunc_int_int_fteach_member_1))

theorem right_T_teach_member : Right Tryd.prog (T_teach_member @l_slices_ContainsFunc_int_int_fteach_member_1) := (right_add right_G0 call_slices_ContainsFunc_int_int sound_slices_ContainsFunc_int_int)

abbrev cuts_teach_member : Cuts := []

theorem gentry_teach_member (l_slices_ContainsFunc_int_int_fteach_member_1 : {R : Type} → (List Int) → Int → (Bool → Int → Option R) → Option R) {R : Type} (K : AV → List O → Option R) (q : Int) (q_1 : List Int) (q_2 : Int) (q_3 : Int) (q_4 : Int) (q_5 : Int) (q_6 : List Int) (q_7 : List Int) (out : List Int) :
    fnRun Tryd.prog (T_teach_member @l_slices_ContainsFunc_int_int_fteach_member_1) cuts_teach_member Tryd.f19 0 [.agg [.v (.int .i64 q), .rd ⟨false, 3, (.int .i64), q_1⟩, .v (.int .i64 q_2), .v (.int .i64 q_3), .v (.int .i64 q_4), .v (.int .i64 q_5), .rd ⟨false, 3, (.int .i64), q_6⟩, .rd ⟨false, 3, (.int .i64), q_7⟩], .rd ⟨false, 3, (.int .i64), out⟩] [] K =
    (fun (q : Int) (q_1 : List Int) (q_2 : Int) (q_3 : Int) (q_4 : Int) (q_5 : Int) (q_6 : List Int) (q_7 : List Int) (out : List Int) (K0 : Bool → Option R) =>
    bi (q_2 == 1)
     (bi ((out.length : Int) == 1)
      (l_slices_ContainsFunc_int_int_fteach_member_1 out 2
       (fun r1 r2 =>
        K0 (!r1)))
      (K0 false))
     (bi (q_2 == 2)
      (bi ((out.length : Int) == (q_1.length : Int))
       (l_slices_ContainsFunc_int_int_fteach_member_1 out q_4
        (fun r3 r4 =>
         K0 (!r3)))
       (K0 false))
      (K0 false))) q q_1 q_2 q_3 q_4 q_5 q_6 q_7 out (fun r0 => K (.v (.bool r0)) []) := by kernel_rfl

theorem entry_teach_member {R : Type} (K : AV → List O → Option R) (q : Int) (q_1 : List Int) (q_2 : Int) (q_3 : Int) (q_4 : Int) (q_5 : Int) (q_6 : List Int) (q_7 : List Int) (out : List Int) :
    fnRun Tryd.prog (T_teach_member @l_slices_ContainsFunc_int_int_fteach_member_1) cuts_teach_member Tryd.f19 0 [.agg [.v (.int .i64 q), .rd ⟨false, 3, (.int .i64), q_1⟩, .v (.int .i64 q_2), .v (.int .i64 q_3), .v (.int .i64 q_4), .v (.int .i64 q_5), .rd ⟨false, 3, (.int .i64), q_6⟩, .rd ⟨false, 3, (.int .i64), q_7⟩], .rd ⟨false, 3, (.int .i64), out⟩] [] K =
    l_teach_member q q_1 q_2 q_3 q_4 q_5 q_6 q_7 out (fun r0 => K (.v (.bool r0)) []) := gentry_teach_member @l_slices_ContainsFunc_int_int_fteach_member_1 K q q_1 q_2 q_3 q_4 q_5 q_6 q_7 out

def S_teach_member (l_teach_member : {R : Type} → Int → (List Int) → Int → Int → Int → Int → (List Int) → (List Int) → (List Int) → (Bool → Option R) → Option R) : Sum := ⟨[], fun {R} args ob K => match args, ob with
  | [.agg [.v (.int .i64 q), .rd ⟨false, 3, (.int .i64), q_1⟩, .v (.int .i64 q_2), .v (.int .i64 q_3), .v (.int .i64 q_4), .v (.int .i64 q_5), .rd ⟨false, 3, (.int .i64), q_6⟩, .rd ⟨false, 3, (.int .i64), q_7⟩], .rd ⟨false, 3, (.int .i64), out⟩], [] => l_teach_member q q_1 q_2 q_3 q_4 q_5 q_6 q_7 out (fun r0 => K (.v (.bool r0)) [])
  | _, _ => none⟩

theorem sound_teach_member : Sound Tryd.prog 19 (S_teach_member @l_teach_member) := by
  refine fn_sound (cuts := cuts_teach_member) (fn := Tryd.f19) (Γ := (T_teach_member @l_slices_ContainsFunc_int_int_fteach_member_1)) wide right_T_teach_member Tryd.func19 fun {R} K r args ob h => ?_
  unfold S_teach_member at h
  dsimp only at h
  split at h
  · exact ⟨Nat.le_of_ble_eq_true (by kernel_rfl), 0, (entry_teach_member K _ _ _ _ _ _ _ _ _).trans h⟩
  · cases h

theorem call_teach_member : Callable Tryd.prog 19 := ⟨_, Tryd.func19, by kernel_rfl, by kernel_rfl⟩

def T_word_alphabet : FuncId → Option Sum := G0

theorem right_T_word_alphabet : Right Tryd.prog T_word_alphabet := right_G0

abbrev cuts_word_alphabet : Cuts := []

theorem gentry_word_alphabet {R : Type} (K : AV → List O → Option R) (k : Int) :
    fnRun Tryd.prog T_word_alphabet cuts_word_alphabet Tryd.f25 0 [.v (.int .i64 k)] [] K =
    (fun (k : Int) (K0 : Bool → Option R) =>
    bi (decide (k ≥ 1))
     (K0 (decide (k ≤ 64)))
     (K0 false)) k (fun r0 => K (.v (.bool r0)) []) := by kernel_rfl

theorem entry_word_alphabet {R : Type} (K : AV → List O → Option R) (k : Int) :
    fnRun Tryd.prog T_word_alphabet cuts_word_alphabet Tryd.f25 0 [.v (.int .i64 k)] [] K =
    l_word_alphabet k (fun r0 => K (.v (.bool r0)) []) := gentry_word_alphabet K k

def S_word_alphabet (l_word_alphabet : {R : Type} → Int → (Bool → Option R) → Option R) : Sum := ⟨[], fun {R} args ob K => match args, ob with
  | [.v (.int .i64 k)], [] => l_word_alphabet k (fun r0 => K (.v (.bool r0)) [])
  | _, _ => none⟩

theorem sound_word_alphabet : Sound Tryd.prog 25 (S_word_alphabet @l_word_alphabet) := by
  refine fn_sound (cuts := cuts_word_alphabet) (fn := Tryd.f25) (Γ := T_word_alphabet) wide right_T_word_alphabet Tryd.func25 fun {R} K r args ob h => ?_
  unfold S_word_alphabet at h
  dsimp only at h
  split at h
  · exact ⟨Nat.le_of_ble_eq_true (by kernel_rfl), 0, (entry_word_alphabet K _).trans h⟩
  · cases h

theorem call_word_alphabet : Callable Tryd.prog 25 := ⟨_, Tryd.func25, by kernel_rfl, by kernel_rfl⟩

def T_word_Check (l_word_alphabet : {R : Type} → Int → (Bool → Option R) → Option R) : FuncId → Option Sum := (addS G0 25 (S_word_alphabet @l_word_alphabet))

theorem right_T_word_Check : Right Tryd.prog (T_word_Check @l_word_alphabet) := (right_add right_G0 call_word_alphabet sound_word_alphabet)

abbrev cuts_word_Check : Cuts := [(6, [0, 1, 16, 17])]

theorem gstep_word_Check_6 (l_word_alphabet : {R : Type} → Int → (Bool → Option R) → Option R) {R : Type} (g : List Item → St → Option R) (K : AV → List O → Option R) (w : List Int) (k : Int) (x16 : Int) (x17 : Int) :
    runSeg Tryd.prog (T_word_Check @l_word_alphabet) cuts_word_Check 0 g (finish Tryd.prog Tryd.f20 0 K) (at' Tryd.f20 6) ⟨fr0 35 [(0, .rd ⟨false, 3, (.int .i64), w⟩), (1, .v (.int .i64 k)), (16, .v (.int .i64 x16)), (17, .v (.int .i64 x17))], []⟩ =
    (fun (g20_6 : (List Int) → Int → Int → Int → Option R) (K0 : Int → Int → Option R) (w : List Int) (k : Int) (x16 : Int) (x17 : Int) =>
    bi (decide (x17 < x16))
     (bi (decide (0 ≤ x17 ∧ x17 < ((w.length : Nat) : Int)))
      (bi (decide ((w.getD x17.toNat 0) < 0))
       (K0 x17 10)
       (bi (decide (0 ≤ x17 ∧ x17 < ((w.length : Nat) : Int)))
        (bi (decide ((w.getD x17.toNat 0) ≥ k))
         (K0 x17 10)
         (g20_6 w k x16 (IntKind.i64.wrap (x17 + 1))))
        none))
      none)
     (K0 0 0)) (fun w k x16 x17 => g (at' Tryd.f20 6) ⟨fr0 35 [(0, .rd ⟨false, 3, (.int .i64), w⟩), (1, .v (.int .i64 k)), (16, .v (.int .i64 x16)), (17, .v (.int .i64 x17))], []⟩) (fun r0 r1 => K (.tup [.v (.int .i64 r0), .v (.int .i64 r1)]) []) w k x16 x17 := by kernel_rfl

theorem step_word_Check_6 {R : Type} (g : List Item → St → Option R) (K : AV → List O → Option R) (w : List Int) (k : Int) (x16 : Int) (x17 : Int) :
    runSeg Tryd.prog (T_word_Check @l_word_alphabet) cuts_word_Check 0 g (finish Tryd.prog Tryd.f20 0 K) (at' Tryd.f20 6) ⟨fr0 35 [(0, .rd ⟨false, 3, (.int .i64), w⟩), (1, .v (.int .i64 k)), (16, .v (.int .i64 x16)), (17, .v (.int .i64 x17))], []⟩ =
    s_word_Check_6 (fun w k x16 x17 => g (at' Tryd.f20 6) ⟨fr0 35 [(0, .rd ⟨false, 3, (.int .i64), w⟩), (1, .v (.int .i64 k)), (16, .v (.int .i64 x16)), (17, .v (.int .i64 x17))], []⟩) (fun r0 r1 => K (.tup [.v (.int .i64 r0), .v (.int .i64 r1)]) []) w k x16 x17 := gstep_word_Check_6 @l_word_alphabet g K w k x16 x17

theorem gentry_word_Check (l_word_alphabet : {R : Type} → Int → (Bool → Option R) → Option R) {R : Type} (fuel : Nat) (K : AV → List O → Option R) (w : List Int) (k : Int) :
    fnRun Tryd.prog (T_word_Check @l_word_alphabet) cuts_word_Check Tryd.f20 fuel [.rd ⟨false, 3, (.int .i64), w⟩, .v (.int .i64 k)] [] K =
    (fun (g20_6 : (List Int) → Int → Int → Int → Option R) (K0 : Int → Int → Option R) (w : List Int) (k : Int) =>
    l_word_alphabet k
     (fun r1 =>
      bi (!r1)
       (K0 0 1)
       (bi (decide ((w.length : Int) > 4096))
        (K0 0 2)
        (g20_6 w k (w.length : Int) 0)))) (fun w k x16 x17 => (runO Tryd.prog (T_word_Check @l_word_alphabet) cuts_word_Check 0 (finish Tryd.prog Tryd.f20 0 K) fuel) (at' Tryd.f20 6) ⟨fr0 35 [(0, .rd ⟨false, 3, (.int .i64), w⟩), (1, .v (.int .i64 k)), (16, .v (.int .i64 x16)), (17, .v (.int .i64 x17))], []⟩) (fun r0 r1 => K (.tup [.v (.int .i64 r0), .v (.int .i64 r1)]) []) w k := by kernel_rfl

theorem entry_word_Check {R : Type} (fuel : Nat) (K : AV → List O → Option R) (w : List Int) (k : Int) :
    fnRun Tryd.prog (T_word_Check @l_word_alphabet) cuts_word_Check Tryd.f20 fuel [.rd ⟨false, 3, (.int .i64), w⟩, .v (.int .i64 k)] [] K =
    e_word_Check (fun w k x16 x17 => (runO Tryd.prog (T_word_Check @l_word_alphabet) cuts_word_Check 0 (finish Tryd.prog Tryd.f20 0 K) fuel) (at' Tryd.f20 6) ⟨fr0 35 [(0, .rd ⟨false, 3, (.int .i64), w⟩), (1, .v (.int .i64 k)), (16, .v (.int .i64 x16)), (17, .v (.int .i64 x17))], []⟩) (fun r0 r1 => K (.tup [.v (.int .i64 r0), .v (.int .i64 r1)]) []) w k := gentry_word_Check @l_word_alphabet fuel K w k

theorem runs_word_Check {R : Type} (K : AV → List O → Option R) : ∀ fuel : Nat,
    (fun w k x16 x17 => (runO Tryd.prog (T_word_Check @l_word_alphabet) cuts_word_Check 0 (finish Tryd.prog Tryd.f20 0 K) fuel) (at' Tryd.f20 6) ⟨fr0 35 [(0, .rd ⟨false, 3, (.int .i64), w⟩), (1, .v (.int .i64 k)), (16, .v (.int .i64 x16)), (17, .v (.int .i64 x17))], []⟩) = (run_word_Check (fun r0 r1 => K (.tup [.v (.int .i64 r0), .v (.int .i64 r1)]) []) fuel)
  | 0 => rfl
  | fuel + 1 => by
    have ih := runs_word_Check K fuel
    funext w k x16 x17
    refine (step_word_Check_6 _ K w k x16 x17).trans ?_
    rw [ih]
    rfl

def S_word_Check (l_word_Check : {R : Type} → (List Int) → Int → (Int → Int → Option R) → Option R) : Sum := ⟨[], fun {R} args ob K => match args, ob with
  | [.rd ⟨false, 3, (.int .i64), w⟩, .v (.int .i64 k)], [] => l_word_Check w k (fun r0 r1 => K (.tup [.v (.int .i64 r0), .v (.int .i64 r1)]) [])
  | _, _ => none⟩

theorem sound_word_Check : Sound Tryd.prog 20 (S_word_Check @l_word_Check) := by
  refine fn_sound (cuts := cuts_word_Check) (fn := Tryd.f20) (Γ := (T_word_Check @l_word_alphabet)) wide right_T_word_Check Tryd.func20 fun {R} K r args ob h => ?_
  unfold S_word_Check at h
  dsimp only at h
  split at h
  · obtain ⟨n, hn⟩ := ok_word_Check _ _ _ h
    refine ⟨Nat.le_of_ble_eq_true (by kernel_rfl), n, (entry_word_Check n K _ _).trans ?_⟩
    rw [(runs_word_Check K n)]
    exact hn
  · cases h

theorem call_word_Check : Callable Tryd.prog 20 := ⟨_, Tryd.func20, by kernel_rfl, by kernel_rfl⟩

def T_teach_Check (l_teach_member : {R : Type} → Int → (List Int) → Int → Int → Int → Int → (List Int) → (List Int) → (List Int) → (Bool → Option R) → Option R) (l_word_Check : {R : Type} → (List Int) → Int → (Int → Int → Option R) → Option R) (l_teach_of : {R : Type} → Int → (List Int) → (List Int) → ((List Int) → Option R) → (Option R) → ((List Int) → Option R) → (Option R) → Option R) : FuncId → Option Sum := (addS (addS (addS G0 19 (S_teach_member @l_teach_member)) 20 (S_word_Check @l_word_Check)) 15 (S_teach_of @l_teach_of))

theorem right_T_teach_Check : Right Tryd.prog (T_teach_Check @l_teach_member @l_word_Check @l_teach_of) := (right_add (right_add (right_add right_G0 call_teach_member sound_teach_member) call_word_Check sound_word_Check) call_teach_of sound_teach_of)

abbrev cuts_teach_Check : Cuts := []

theorem gentry_teach_Check (l_teach_member : {R : Type} → Int → (List Int) → Int → Int → Int → Int → (List Int) → (List Int) → (List Int) → (Bool → Option R) → Option R) (l_word_Check : {R : Type} → (List Int) → Int → (Int → Int → Option R) → Option R) (l_teach_of : {R : Type} → Int → (List Int) → (List Int) → ((List Int) → Option R) → (Option R) → ((List Int) → Option R) → (Option R) → Option R) {R : Type} (K : AV → List O → Option R) (q : Int) (q_1 : List Int) (q_2 : Int) (q_3 : Int) (q_4 : Int) (q_5 : Int) (q_6 : List Int) (q_7 : List Int) (a : Int) (a_1 : List Int) (a_2 : List Int) :
    fnRun Tryd.prog (T_teach_Check @l_teach_member @l_word_Check @l_teach_of) cuts_teach_Check Tryd.f14 0 [.agg [.v (.int .i64 q), .rd ⟨false, 3, (.int .i64), q_1⟩, .v (.int .i64 q_2), .v (.int .i64 q_3), .v (.int .i64 q_4), .v (.int .i64 q_5), .rd ⟨false, 3, (.int .i64), q_6⟩, .rd ⟨false, 3, (.int .i64), q_7⟩], .agg [.v (.int .i64 a), .rd ⟨false, 3, (.int .i64), a_1⟩, .rd ⟨false, 3, (.int .i64), a_2⟩]] [] K =
    (fun (q : Int) (q_1 : List Int) (q_2 : Int) (q_3 : Int) (q_4 : Int) (q_5 : Int) (q_6 : List Int) (q_7 : List Int) (a : Int) (a_1 : List Int) (a_2 : List Int) (K0 : Int → Option R) =>
    bi (q != 1)
     (bi (q != 2)
      (K0 30)
      (l_teach_of a a_1 a_2
       (fun r1 =>
        bi (q == 1)
         (bi ((a_2.length : Int) == 0)
          (l_teach_member q q_1 q_2 q_3 q_4 q_5 q_6 q_7 r1
           (fun r2 =>
            bi (!r2)
             (K0 100)
             (K0 0)))
          (K0 100))
         (K0 100))
       (bi (q == 2)
        (bi (!((IntKind.i64.wrap ((a_2.length : Int) + (a_1.length : Int))) == 0))
         (K0 100)
         (K0 0))
        (K0 100))
       (fun r3 =>
        l_word_Check r3 q_3
         (fun r4 r5 =>
          bi (q == 2)
           (bi ((a_1.length : Int) == 0)
            (bi (!(r5 == 0))
             (K0 100)
             (K0 0))
            (K0 100))
           (K0 100)))
       (K0 100)))
     (l_teach_of a a_1 a_2
      (fun r6 =>
       bi (q == 1)
        (bi ((a_2.length : Int) == 0)
         (l_teach_member q q_1 q_2 q_3 q_4 q_5 q_6 q_7 r6
          (fun r7 =>
           bi (!r7)
            (K0 100)
            (K0 0)))
         (K0 100))
        (K0 100))
      (bi (q == 2)
       (bi (!((IntKind.i64.wrap ((a_2.length : Int) + (a_1.length : Int))) == 0))
        (K0 100)
        (K0 0))
       (K0 100))
      (fun r8 =>
       l_word_Check r8 q_3
        (fun r9 r10 =>
         bi (q == 2)
          (bi ((a_1.length : Int) == 0)
           (bi (!(r10 == 0))
            (K0 100)
            (K0 0))
           (K0 100))
          (K0 100)))
      (K0 100))) q q_1 q_2 q_3 q_4 q_5 q_6 q_7 a a_1 a_2 (fun r0 => K (.v (.int .i64 r0)) []) := by kernel_rfl

theorem entry_teach_Check {R : Type} (K : AV → List O → Option R) (q : Int) (q_1 : List Int) (q_2 : Int) (q_3 : Int) (q_4 : Int) (q_5 : Int) (q_6 : List Int) (q_7 : List Int) (a : Int) (a_1 : List Int) (a_2 : List Int) :
    fnRun Tryd.prog (T_teach_Check @l_teach_member @l_word_Check @l_teach_of) cuts_teach_Check Tryd.f14 0 [.agg [.v (.int .i64 q), .rd ⟨false, 3, (.int .i64), q_1⟩, .v (.int .i64 q_2), .v (.int .i64 q_3), .v (.int .i64 q_4), .v (.int .i64 q_5), .rd ⟨false, 3, (.int .i64), q_6⟩, .rd ⟨false, 3, (.int .i64), q_7⟩], .agg [.v (.int .i64 a), .rd ⟨false, 3, (.int .i64), a_1⟩, .rd ⟨false, 3, (.int .i64), a_2⟩]] [] K =
    l_teach_Check q q_1 q_2 q_3 q_4 q_5 q_6 q_7 a a_1 a_2 (fun r0 => K (.v (.int .i64 r0)) []) := gentry_teach_Check @l_teach_member @l_word_Check @l_teach_of K q q_1 q_2 q_3 q_4 q_5 q_6 q_7 a a_1 a_2

def S_teach_Check (l_teach_Check : {R : Type} → Int → (List Int) → Int → Int → Int → Int → (List Int) → (List Int) → Int → (List Int) → (List Int) → (Int → Option R) → Option R) : Sum := ⟨[], fun {R} args ob K => match args, ob with
  | [.agg [.v (.int .i64 q), .rd ⟨false, 3, (.int .i64), q_1⟩, .v (.int .i64 q_2), .v (.int .i64 q_3), .v (.int .i64 q_4), .v (.int .i64 q_5), .rd ⟨false, 3, (.int .i64), q_6⟩, .rd ⟨false, 3, (.int .i64), q_7⟩], .agg [.v (.int .i64 a), .rd ⟨false, 3, (.int .i64), a_1⟩, .rd ⟨false, 3, (.int .i64), a_2⟩]], [] => l_teach_Check q q_1 q_2 q_3 q_4 q_5 q_6 q_7 a a_1 a_2 (fun r0 => K (.v (.int .i64 r0)) [])
  | _, _ => none⟩

theorem sound_teach_Check : Sound Tryd.prog 14 (S_teach_Check @l_teach_Check) := by
  refine fn_sound (cuts := cuts_teach_Check) (fn := Tryd.f14) (Γ := (T_teach_Check @l_teach_member @l_word_Check @l_teach_of)) wide right_T_teach_Check Tryd.func14 fun {R} K r args ob h => ?_
  unfold S_teach_Check at h
  dsimp only at h
  split at h
  · exact ⟨Nat.le_of_ble_eq_true (by kernel_rfl), 0, (entry_teach_Check K _ _ _ _ _ _ _ _ _ _ _).trans h⟩
  · cases h

theorem call_teach_Check : Callable Tryd.prog 14 := ⟨_, Tryd.func14, by kernel_rfl, by kernel_rfl⟩

def T_tutorlaw10_live (l_tutorlaw10_num : {R : Type} → Int → (Int → Option R) → Option R) (l_teach_Check : {R : Type} → Int → (List Int) → Int → Int → Int → Int → (List Int) → (List Int) → Int → (List Int) → (List Int) → (Int → Option R) → Option R) (l_tutorref01_Same : {R : Type} → (List Int) → (List Int) → (Bool → Option R) → Option R) (l_teach_Parse : {R : Type} → (List Int) → (Int → Int → (List (Int × (List Int × List Int))) → Option R) → Option R) : FuncId → Option Sum := (addS (addS (addS (addS G0 11 (S_tutorlaw10_num @l_tutorlaw10_num)) 14 (S_teach_Check @l_teach_Check)) 13 (S_tutorref01_Same @l_tutorref01_Same)) 10 (S_teach_Parse @l_teach_Parse))

theorem right_T_tutorlaw10_live : Right Tryd.prog (T_tutorlaw10_live @l_tutorlaw10_num @l_teach_Check @l_tutorref01_Same @l_teach_Parse) := (right_add (right_add (right_add (right_add right_G0 call_tutorlaw10_num sound_tutorlaw10_num) call_teach_Check sound_teach_Check) call_tutorref01_Same sound_tutorref01_Same) call_teach_Parse sound_teach_Parse)

abbrev cuts_tutorlaw10_live : Cuts := []

theorem gentry_tutorlaw10_live (l_tutorlaw10_num : {R : Type} → Int → (Int → Option R) → Option R) (l_teach_Check : {R : Type} → Int → (List Int) → Int → Int → Int → Int → (List Int) → (List Int) → Int → (List Int) → (List Int) → (Int → Option R) → Option R) (l_tutorref01_Same : {R : Type} → (List Int) → (List Int) → (Bool → Option R) → Option R) (l_teach_Parse : {R : Type} → (List Int) → (Int → Int → (List (Int × (List Int × List Int))) → Option R) → Option R) {R : Type} (K : AV → List O → Option R)  :
    fnRun Tryd.prog (T_tutorlaw10_live @l_tutorlaw10_num @l_teach_Check @l_tutorref01_Same @l_teach_Parse) cuts_tutorlaw10_live Tryd.f6 0 [] [] K =
    (fun  (K0 : Bool → Option R) =>
    bi (decide (0 < [111, 32, 48, 32, 49, 10, 121, 10, 110, 32, 50, 10].length))
     (l_teach_Parse [111, 32, 48, 32, 49, 10, 121, 10, 110, 32, 50, 10]
      (fun r1 r2 r3 =>
       bi (decide (0 < [111, 32, 48, 49, 10].length))
        (l_teach_Parse [111, 32, 48, 49, 10]
         (fun r4 r5 r6 =>
          l_tutorlaw10_num r1
           (fun r7 =>
            bi (r7 == 0)
             (bi (r2 == 12)
              (bi ((r3.length : Int) == 3)
               (bi (decide (0 ≤ (0 : Int) ∧ (0 : Int) < ((r3.length : Nat) : Int)))
                (l_tutorref01_Same (((r3.getD 0 (0, ([], []))).2).1) [0, 1]
                 (fun r8 =>
                  bi r8
                   (bi (decide (0 ≤ (1 : Int) ∧ (1 : Int) < ((r3.length : Nat) : Int)))
                    (bi (((r3.getD 1 (0, ([], []))).1) == 2)
                     (bi (decide (0 ≤ (2 : Int) ∧ (2 : Int) < ((r3.length : Nat) : Int)))
                      (l_tutorref01_Same (((r3.getD 2 (0, ([], []))).2).2) [2]
                       (fun r9 =>
                        bi r9
                         (l_tutorlaw10_num r4
                          (fun r10 =>
                           bi (r10 == 6)
                            (bi (r5 == 3)
                             (l_teach_Check 1 ([] : List Int) 1 0 2 0 ([] : List Int) ([] : List Int) 1 [2] ([] : List Int)
                              (fun r11 =>
                               l_tutorlaw10_num r11
                                (fun r12 =>
                                 K0 (r12 == 100))))
                             (K0 false))
                            (K0 false)))
                         (K0 false)))
                      none)
                     (K0 false))
                    none)
                   (K0 false)))
                none)
               (K0 false))
              (K0 false))
             (K0 false))))
        none))
     none)  (fun r0 => K (.v (.bool r0)) []) := by kernel_rfl

theorem entry_tutorlaw10_live {R : Type} (K : AV → List O → Option R)  :
    fnRun Tryd.prog (T_tutorlaw10_live @l_tutorlaw10_num @l_teach_Check @l_tutorref01_Same @l_teach_Parse) cuts_tutorlaw10_live Tryd.f6 0 [] [] K =
    l_tutorlaw10_live  (fun r0 => K (.v (.bool r0)) []) := gentry_tutorlaw10_live @l_tutorlaw10_num @l_teach_Check @l_tutorref01_Same @l_teach_Parse K 

def S_tutorlaw10_live (l_tutorlaw10_live : {R : Type} → (Bool → Option R) → Option R) : Sum := ⟨[], fun {R} args ob K => match args, ob with
  | [], [] => l_tutorlaw10_live  (fun r0 => K (.v (.bool r0)) [])
  | _, _ => none⟩

theorem sound_tutorlaw10_live : Sound Tryd.prog 6 (S_tutorlaw10_live @l_tutorlaw10_live) := by
  refine fn_sound (cuts := cuts_tutorlaw10_live) (fn := Tryd.f6) (Γ := (T_tutorlaw10_live @l_tutorlaw10_num @l_teach_Check @l_tutorref01_Same @l_teach_Parse)) wide right_T_tutorlaw10_live Tryd.func6 fun {R} K r args ob h => ?_
  unfold S_tutorlaw10_live at h
  dsimp only at h
  split at h
  · exact ⟨Nat.le_of_ble_eq_true (by kernel_rfl), 0, (entry_tutorlaw10_live K).trans h⟩
  · cases h

theorem call_tutorlaw10_live : Callable Tryd.prog 6 := ⟨_, Tryd.func6, by kernel_rfl, by kernel_rfl⟩

def T_tutorref10_Huge : FuncId → Option Sum := G0

theorem right_T_tutorref10_Huge : Right Tryd.prog T_tutorref10_Huge := right_G0

abbrev cuts_tutorref10_Huge : Cuts := [(5, [0, 1, 5, 6])]

theorem gstep_tutorref10_Huge_5 {R : Type} (g : List Item → St → Option R) (K : AV → List O → Option R) (l : List (Int × (List Int × List Int))) (most : Int) (n : Int) (i : Int) :
    runSeg Tryd.prog T_tutorref10_Huge cuts_tutorref10_Huge 0 g (finish Tryd.prog Tryd.f5 0 K) (at' Tryd.f5 5) ⟨fr0 53 [(0, .rd ⟨false, 35, (.pr (.int .i64) (.pr (.sl 3 (.int .i64)) (.sl 3 (.int .i64)))), l⟩), (1, .v (.int .i64 most)), (5, .v (.int .i64 n)), (6, .v (.int .i64 i))], []⟩ =
    (fun (g5_5 : (List (Int × (List Int × List Int))) → Int → Int → Int → Option R) (K0 : Bool → Option R) (l : List (Int × (List Int × List Int))) (most : Int) (n : Int) (i : Int) =>
    bi (decide (i < (l.length : Int)))
     (bi (decide (0 ≤ i ∧ i < ((l.length : Nat) : Int)))
      (bi (decide (((((l.getD i.toNat (0, ([], []))).2).1).length : Int) > (IntKind.i64.wrap (most - n))))
       (K0 true)
       (bi (decide (0 ≤ i ∧ i < ((l.length : Nat) : Int)))
        (bi (decide (0 ≤ i ∧ i < ((l.length : Nat) : Int)))
         (bi (decide (((((l.getD i.toNat (0, ([], []))).2).2).length : Int) > (IntKind.i64.wrap (most - (IntKind.i64.wrap (n + ((((l.getD i.toNat (0, ([], []))).2).1).length : Int)))))))
          (K0 true)
          (bi (decide (0 ≤ i ∧ i < ((l.length : Nat) : Int)))
           (g5_5 l most (IntKind.i64.wrap ((IntKind.i64.wrap (n + ((((l.getD i.toNat (0, ([], []))).2).1).length : Int))) + ((((l.getD i.toNat (0, ([], []))).2).2).length : Int))) (IntKind.i64.wrap (i + 1)))
           none))
         none)
        none))
      none)
     (K0 false)) (fun l most n i => g (at' Tryd.f5 5) ⟨fr0 53 [(0, .rd ⟨false, 35, (.pr (.int .i64) (.pr (.sl 3 (.int .i64)) (.sl 3 (.int .i64)))), l⟩), (1, .v (.int .i64 most)), (5, .v (.int .i64 n)), (6, .v (.int .i64 i))], []⟩) (fun r0 => K (.v (.bool r0)) []) l most n i := by kernel_rfl

theorem step_tutorref10_Huge_5 {R : Type} (g : List Item → St → Option R) (K : AV → List O → Option R) (l : List (Int × (List Int × List Int))) (most : Int) (n : Int) (i : Int) :
    runSeg Tryd.prog T_tutorref10_Huge cuts_tutorref10_Huge 0 g (finish Tryd.prog Tryd.f5 0 K) (at' Tryd.f5 5) ⟨fr0 53 [(0, .rd ⟨false, 35, (.pr (.int .i64) (.pr (.sl 3 (.int .i64)) (.sl 3 (.int .i64)))), l⟩), (1, .v (.int .i64 most)), (5, .v (.int .i64 n)), (6, .v (.int .i64 i))], []⟩ =
    s_tutorref10_Huge_5 (fun l most n i => g (at' Tryd.f5 5) ⟨fr0 53 [(0, .rd ⟨false, 35, (.pr (.int .i64) (.pr (.sl 3 (.int .i64)) (.sl 3 (.int .i64)))), l⟩), (1, .v (.int .i64 most)), (5, .v (.int .i64 n)), (6, .v (.int .i64 i))], []⟩) (fun r0 => K (.v (.bool r0)) []) l most n i := gstep_tutorref10_Huge_5 g K l most n i

theorem gentry_tutorref10_Huge {R : Type} (fuel : Nat) (K : AV → List O → Option R) (l : List (Int × (List Int × List Int))) (most : Int) :
    fnRun Tryd.prog T_tutorref10_Huge cuts_tutorref10_Huge Tryd.f5 fuel [.rd ⟨false, 35, (.pr (.int .i64) (.pr (.sl 3 (.int .i64)) (.sl 3 (.int .i64)))), l⟩, .v (.int .i64 most)] [] K =
    (fun (g5_5 : (List (Int × (List Int × List Int))) → Int → Int → Int → Option R) (K0 : Bool → Option R) (l : List (Int × (List Int × List Int))) (most : Int) =>
    bi (decide ((l.length : Int) > most))
     (K0 true)
     (g5_5 l most 0 0)) (fun l most n i => (runO Tryd.prog T_tutorref10_Huge cuts_tutorref10_Huge 0 (finish Tryd.prog Tryd.f5 0 K) fuel) (at' Tryd.f5 5) ⟨fr0 53 [(0, .rd ⟨false, 35, (.pr (.int .i64) (.pr (.sl 3 (.int .i64)) (.sl 3 (.int .i64)))), l⟩), (1, .v (.int .i64 most)), (5, .v (.int .i64 n)), (6, .v (.int .i64 i))], []⟩) (fun r0 => K (.v (.bool r0)) []) l most := by kernel_rfl

theorem entry_tutorref10_Huge {R : Type} (fuel : Nat) (K : AV → List O → Option R) (l : List (Int × (List Int × List Int))) (most : Int) :
    fnRun Tryd.prog T_tutorref10_Huge cuts_tutorref10_Huge Tryd.f5 fuel [.rd ⟨false, 35, (.pr (.int .i64) (.pr (.sl 3 (.int .i64)) (.sl 3 (.int .i64)))), l⟩, .v (.int .i64 most)] [] K =
    e_tutorref10_Huge (fun l most n i => (runO Tryd.prog T_tutorref10_Huge cuts_tutorref10_Huge 0 (finish Tryd.prog Tryd.f5 0 K) fuel) (at' Tryd.f5 5) ⟨fr0 53 [(0, .rd ⟨false, 35, (.pr (.int .i64) (.pr (.sl 3 (.int .i64)) (.sl 3 (.int .i64)))), l⟩), (1, .v (.int .i64 most)), (5, .v (.int .i64 n)), (6, .v (.int .i64 i))], []⟩) (fun r0 => K (.v (.bool r0)) []) l most := gentry_tutorref10_Huge fuel K l most

theorem runs_tutorref10_Huge {R : Type} (K : AV → List O → Option R) : ∀ fuel : Nat,
    (fun l most n i => (runO Tryd.prog T_tutorref10_Huge cuts_tutorref10_Huge 0 (finish Tryd.prog Tryd.f5 0 K) fuel) (at' Tryd.f5 5) ⟨fr0 53 [(0, .rd ⟨false, 35, (.pr (.int .i64) (.pr (.sl 3 (.int .i64)) (.sl 3 (.int .i64)))), l⟩), (1, .v (.int .i64 most)), (5, .v (.int .i64 n)), (6, .v (.int .i64 i))], []⟩) = (run_tutorref10_Huge (fun r0 => K (.v (.bool r0)) []) fuel)
  | 0 => rfl
  | fuel + 1 => by
    have ih := runs_tutorref10_Huge K fuel
    funext l most n i
    refine (step_tutorref10_Huge_5 _ K l most n i).trans ?_
    rw [ih]
    rfl

def S_tutorref10_Huge (l_tutorref10_Huge : {R : Type} → (List (Int × (List Int × List Int))) → Int → (Bool → Option R) → Option R) : Sum := ⟨[], fun {R} args ob K => match args, ob with
  | [.rd ⟨false, 35, (.pr (.int .i64) (.pr (.sl 3 (.int .i64)) (.sl 3 (.int .i64)))), l⟩, .v (.int .i64 most)], [] => l_tutorref10_Huge l most (fun r0 => K (.v (.bool r0)) [])
  | _, _ => none⟩

theorem sound_tutorref10_Huge : Sound Tryd.prog 5 (S_tutorref10_Huge @l_tutorref10_Huge) := by
  refine fn_sound (cuts := cuts_tutorref10_Huge) (fn := Tryd.f5) (Γ := T_tutorref10_Huge) wide right_T_tutorref10_Huge Tryd.func5 fun {R} K r args ob h => ?_
  unfold S_tutorref10_Huge at h
  dsimp only at h
  split at h
  · obtain ⟨n, hn⟩ := ok_tutorref10_Huge _ _ _ h
    refine ⟨Nat.le_of_ble_eq_true (by kernel_rfl), n, (entry_tutorref10_Huge n K _ _).trans ?_⟩
    rw [(runs_tutorref10_Huge K n)]
    exact hn
  · cases h

theorem call_tutorref10_Huge : Callable Tryd.prog 5 := ⟨_, Tryd.func5, by kernel_rfl, by kernel_rfl⟩

def T_teach_said_letter : FuncId → Option Sum := G0

theorem right_T_teach_said_letter : Right Tryd.prog T_teach_said_letter := right_G0

abbrev cuts_teach_said_letter : Cuts := []

theorem gentry_teach_said_letter {R : Type} (K : AV → List O → Option R) (s : List Int) :
    fnRun Tryd.prog T_teach_said_letter cuts_teach_said_letter Tryd.f55 0 [.agg [.rd ⟨false, 3, (.int .i64), s⟩]] [] K =
    (fun (s : List Int) (K0 : Int → Option R) =>
    K0 111) s (fun r0 => K (.v (.int .u8 r0)) []) := by kernel_rfl

theorem entry_teach_said_letter {R : Type} (K : AV → List O → Option R) (s : List Int) :
    fnRun Tryd.prog T_teach_said_letter cuts_teach_said_letter Tryd.f55 0 [.agg [.rd ⟨false, 3, (.int .i64), s⟩]] [] K =
    l_teach_said_letter s (fun r0 => K (.v (.int .u8 r0)) []) := gentry_teach_said_letter K s

def S_teach_said_letter (l_teach_said_letter : {R : Type} → (List Int) → (Int → Option R) → Option R) : Sum := ⟨[], fun {R} args ob K => match args, ob with
  | [.agg [.rd ⟨false, 3, (.int .i64), s⟩]], [] => l_teach_said_letter s (fun r0 => K (.v (.int .u8 r0)) [])
  | _, _ => none⟩

theorem sound_teach_said_letter : Sound Tryd.prog 55 (S_teach_said_letter @l_teach_said_letter) := by
  refine fn_sound (cuts := cuts_teach_said_letter) (fn := Tryd.f55) (Γ := T_teach_said_letter) wide right_T_teach_said_letter Tryd.func55 fun {R} K r args ob h => ?_
  unfold S_teach_said_letter at h
  dsimp only at h
  split at h
  · exact ⟨Nat.le_of_ble_eq_true (by kernel_rfl), 0, (entry_teach_said_letter K _).trans h⟩
  · cases h

theorem call_teach_said_letter : Callable Tryd.prog 55 := ⟨_, Tryd.func55, by kernel_rfl, by kernel_rfl⟩

def T_teach_said_numbers : FuncId → Option Sum := G0

theorem right_T_teach_said_numbers : Right Tryd.prog T_teach_said_numbers := right_G0

abbrev cuts_teach_said_numbers : Cuts := []

theorem gentry_teach_said_numbers {R : Type} (K : AV → List O → Option R) (s : List Int) :
    fnRun Tryd.prog T_teach_said_numbers cuts_teach_said_numbers Tryd.f56 0 [.agg [.rd ⟨false, 3, (.int .i64), s⟩]] [] K =
    (fun (s : List Int) (K0 : (List Int) → Option R) =>
    K0 s) s (fun r0 => K (.rd ⟨false, 3, (.int .i64), r0⟩) []) := by kernel_rfl

theorem entry_teach_said_numbers {R : Type} (K : AV → List O → Option R) (s : List Int) :
    fnRun Tryd.prog T_teach_said_numbers cuts_teach_said_numbers Tryd.f56 0 [.agg [.rd ⟨false, 3, (.int .i64), s⟩]] [] K =
    l_teach_said_numbers s (fun r0 => K (.rd ⟨false, 3, (.int .i64), r0⟩) []) := gentry_teach_said_numbers K s

def S_teach_said_numbers (l_teach_said_numbers : {R : Type} → (List Int) → ((List Int) → Option R) → Option R) : Sum := ⟨[], fun {R} args ob K => match args, ob with
  | [.agg [.rd ⟨false, 3, (.int .i64), s⟩]], [] => l_teach_said_numbers s (fun r0 => K (.rd ⟨false, 3, (.int .i64), r0⟩) [])
  | _, _ => none⟩

theorem sound_teach_said_numbers : Sound Tryd.prog 56 (S_teach_said_numbers @l_teach_said_numbers) := by
  refine fn_sound (cuts := cuts_teach_said_numbers) (fn := Tryd.f56) (Γ := T_teach_said_numbers) wide right_T_teach_said_numbers Tryd.func56 fun {R} K r args ob h => ?_
  unfold S_teach_said_numbers at h
  dsimp only at h
  split at h
  · exact ⟨Nat.le_of_ble_eq_true (by kernel_rfl), 0, (entry_teach_said_numbers K _).trans h⟩
  · cases h

theorem call_teach_said_numbers : Callable Tryd.prog 56 := ⟨_, Tryd.func56, by kernel_rfl, by kernel_rfl⟩

def T_teach_agreed_letter : FuncId → Option Sum := G0

theorem right_T_teach_agreed_letter : Right Tryd.prog T_teach_agreed_letter := right_G0

abbrev cuts_teach_agreed_letter : Cuts := []

theorem gentry_teach_agreed_letter {R : Type} (K : AV → List O → Option R)  :
    fnRun Tryd.prog T_teach_agreed_letter cuts_teach_agreed_letter Tryd.f57 0 [.agg []] [] K =
    (fun  (K0 : Int → Option R) =>
    K0 121)  (fun r0 => K (.v (.int .u8 r0)) []) := by kernel_rfl

theorem entry_teach_agreed_letter {R : Type} (K : AV → List O → Option R)  :
    fnRun Tryd.prog T_teach_agreed_letter cuts_teach_agreed_letter Tryd.f57 0 [.agg []] [] K =
    l_teach_agreed_letter  (fun r0 => K (.v (.int .u8 r0)) []) := gentry_teach_agreed_letter K 

def S_teach_agreed_letter (l_teach_agreed_letter : {R : Type} → (Int → Option R) → Option R) : Sum := ⟨[], fun {R} args ob K => match args, ob with
  | [.agg []], [] => l_teach_agreed_letter  (fun r0 => K (.v (.int .u8 r0)) [])
  | _, _ => none⟩

theorem sound_teach_agreed_letter : Sound Tryd.prog 57 (S_teach_agreed_letter @l_teach_agreed_letter) := by
  refine fn_sound (cuts := cuts_teach_agreed_letter) (fn := Tryd.f57) (Γ := T_teach_agreed_letter) wide right_T_teach_agreed_letter Tryd.func57 fun {R} K r args ob h => ?_
  unfold S_teach_agreed_letter at h
  dsimp only at h
  split at h
  · exact ⟨Nat.le_of_ble_eq_true (by kernel_rfl), 0, (entry_teach_agreed_letter K).trans h⟩
  · cases h

theorem call_teach_agreed_letter : Callable Tryd.prog 57 := ⟨_, Tryd.func57, by kernel_rfl, by kernel_rfl⟩

def T_teach_agreed_numbers : FuncId → Option Sum := G0

theorem right_T_teach_agreed_numbers : Right Tryd.prog T_teach_agreed_numbers := right_G0

abbrev cuts_teach_agreed_numbers : Cuts := []

theorem gentry_teach_agreed_numbers {R : Type} (K : AV → List O → Option R)  :
    fnRun Tryd.prog T_teach_agreed_numbers cuts_teach_agreed_numbers Tryd.f58 0 [.agg []] [] K =
    (fun  (K0 : (List Int) → Option R) =>
    K0 ([] : List Int))  (fun r0 => K (.own 0) [.row ⟨true, 3, (.int .i64), r0⟩]) := by kernel_rfl

theorem entry_teach_agreed_numbers {R : Type} (K : AV → List O → Option R)  :
    fnRun Tryd.prog T_teach_agreed_numbers cuts_teach_agreed_numbers Tryd.f58 0 [.agg []] [] K =
    l_teach_agreed_numbers  (fun r0 => K (.own 0) [.row ⟨true, 3, (.int .i64), r0⟩]) := gentry_teach_agreed_numbers K 

def S_teach_agreed_numbers (l_teach_agreed_numbers : {R : Type} → ((List Int) → Option R) → Option R) : Sum := ⟨[], fun {R} args ob K => match args, ob with
  | [.agg []], [] => l_teach_agreed_numbers  (fun r0 => K (.own 0) [.row ⟨true, 3, (.int .i64), r0⟩])
  | _, _ => none⟩

theorem sound_teach_agreed_numbers : Sound Tryd.prog 58 (S_teach_agreed_numbers @l_teach_agreed_numbers) := by
  refine fn_sound (cuts := cuts_teach_agreed_numbers) (fn := Tryd.f58) (Γ := T_teach_agreed_numbers) wide right_T_teach_agreed_numbers Tryd.func58 fun {R} K r args ob h => ?_
  unfold S_teach_agreed_numbers at h
  dsimp only at h
  split at h
  · exact ⟨Nat.le_of_ble_eq_true (by kernel_rfl), 0, (entry_teach_agreed_numbers K).trans h⟩
  · cases h

theorem call_teach_agreed_numbers : Callable Tryd.prog 58 := ⟨_, Tryd.func58, by kernel_rfl, by kernel_rfl⟩

def T_teach_refuted_letter : FuncId → Option Sum := G0

theorem right_T_teach_refuted_letter : Right Tryd.prog T_teach_refuted_letter := right_G0

abbrev cuts_teach_refuted_letter : Cuts := []

theorem gentry_teach_refuted_letter {R : Type} (K : AV → List O → Option R) (r : List Int) :
    fnRun Tryd.prog T_teach_refuted_letter cuts_teach_refuted_letter Tryd.f59 0 [.agg [.rd ⟨false, 3, (.int .i64), r⟩]] [] K =
    (fun (r : List Int) (K0 : Int → Option R) =>
    K0 110) r (fun r0 => K (.v (.int .u8 r0)) []) := by kernel_rfl

theorem entry_teach_refuted_letter {R : Type} (K : AV → List O → Option R) (r : List Int) :
    fnRun Tryd.prog T_teach_refuted_letter cuts_teach_refuted_letter Tryd.f59 0 [.agg [.rd ⟨false, 3, (.int .i64), r⟩]] [] K =
    l_teach_refuted_letter r (fun r0 => K (.v (.int .u8 r0)) []) := gentry_teach_refuted_letter K r

def S_teach_refuted_letter (l_teach_refuted_letter : {R : Type} → (List Int) → (Int → Option R) → Option R) : Sum := ⟨[], fun {R} args ob K => match args, ob with
  | [.agg [.rd ⟨false, 3, (.int .i64), r⟩]], [] => l_teach_refuted_letter r (fun r0 => K (.v (.int .u8 r0)) [])
  | _, _ => none⟩

theorem sound_teach_refuted_letter : Sound Tryd.prog 59 (S_teach_refuted_letter @l_teach_refuted_letter) := by
  refine fn_sound (cuts := cuts_teach_refuted_letter) (fn := Tryd.f59) (Γ := T_teach_refuted_letter) wide right_T_teach_refuted_letter Tryd.func59 fun {R} K r args ob h => ?_
  unfold S_teach_refuted_letter at h
  dsimp only at h
  split at h
  · exact ⟨Nat.le_of_ble_eq_true (by kernel_rfl), 0, (entry_teach_refuted_letter K _).trans h⟩
  · cases h

theorem call_teach_refuted_letter : Callable Tryd.prog 59 := ⟨_, Tryd.func59, by kernel_rfl, by kernel_rfl⟩

def T_teach_refuted_numbers : FuncId → Option Sum := G0

theorem right_T_teach_refuted_numbers : Right Tryd.prog T_teach_refuted_numbers := right_G0

abbrev cuts_teach_refuted_numbers : Cuts := []

theorem gentry_teach_refuted_numbers {R : Type} (K : AV → List O → Option R) (r : List Int) :
    fnRun Tryd.prog T_teach_refuted_numbers cuts_teach_refuted_numbers Tryd.f60 0 [.agg [.rd ⟨false, 3, (.int .i64), r⟩]] [] K =
    (fun (r : List Int) (K0 : (List Int) → Option R) =>
    K0 r) r (fun r0 => K (.rd ⟨false, 3, (.int .i64), r0⟩) []) := by kernel_rfl

theorem entry_teach_refuted_numbers {R : Type} (K : AV → List O → Option R) (r : List Int) :
    fnRun Tryd.prog T_teach_refuted_numbers cuts_teach_refuted_numbers Tryd.f60 0 [.agg [.rd ⟨false, 3, (.int .i64), r⟩]] [] K =
    l_teach_refuted_numbers r (fun r0 => K (.rd ⟨false, 3, (.int .i64), r0⟩) []) := gentry_teach_refuted_numbers K r

def S_teach_refuted_numbers (l_teach_refuted_numbers : {R : Type} → (List Int) → ((List Int) → Option R) → Option R) : Sum := ⟨[], fun {R} args ob K => match args, ob with
  | [.agg [.rd ⟨false, 3, (.int .i64), r⟩]], [] => l_teach_refuted_numbers r (fun r0 => K (.rd ⟨false, 3, (.int .i64), r0⟩) [])
  | _, _ => none⟩

theorem sound_teach_refuted_numbers : Sound Tryd.prog 60 (S_teach_refuted_numbers @l_teach_refuted_numbers) := by
  refine fn_sound (cuts := cuts_teach_refuted_numbers) (fn := Tryd.f60) (Γ := T_teach_refuted_numbers) wide right_T_teach_refuted_numbers Tryd.func60 fun {R} K r args ob h => ?_
  unfold S_teach_refuted_numbers at h
  dsimp only at h
  split at h
  · exact ⟨Nat.le_of_ble_eq_true (by kernel_rfl), 0, (entry_teach_refuted_numbers K _).trans h⟩
  · cases h

theorem call_teach_refuted_numbers : Callable Tryd.prog 60 := ⟨_, Tryd.func60, by kernel_rfl, by kernel_rfl⟩


def S_strconv_AppendInt (l_strconv_AppendInt : {R : Type} → Int → Int → ((List Int) → Option R) → Option R) : Sum := ⟨[0], fun {R} args ob K => match args, ob with
  | [.v (.slice none 0 0), .v (.int .i64 n), .v (.int .i64 b)], [] => l_strconv_AppendInt n b (fun r0 => K (.own 0) [.row ⟨true, 5, (.int .u8), r0⟩])
  | _, _ => none⟩

theorem sound_strconv_AppendInt : Sound Tryd.prog 21 (S_strconv_AppendInt @l_strconv_AppendInt) := sound_AppendInt Tryd.lays176 TabsHold.pow10

theorem call_strconv_AppendInt : Callable Tryd.prog 21 := ⟨_, Tryd.func21, by kernel_rfl, by kernel_rfl⟩

def T_text_Put (l_strconv_AppendInt : {R : Type} → Int → Int → ((List Int) → Option R) → Option R) : FuncId → Option Sum := (addS G0 21 (S_strconv_AppendInt @l_strconv_AppendInt))

theorem right_T_text_Put : Right Tryd.prog (T_text_Put @l_strconv_AppendInt) := (right_add right_G0 call_strconv_AppendInt sound_strconv_AppendInt)

abbrev cuts_text_Put : Cuts := []

theorem gentry_text_Put (l_strconv_AppendInt : {R : Type} → Int → Int → ((List Int) → Option R) → Option R) {R : Type} (K : AV → List O → Option R) (n : Int) :
    fnRun Tryd.prog (T_text_Put @l_strconv_AppendInt) cuts_text_Put Tryd.f16 0 [.v (.int .i64 n)] [] K =
    (fun (n : Int) (K0 : (List Int) → Option R) =>
    l_strconv_AppendInt n 10
     (fun r1 =>
      K0 r1)) n (fun r0 => K (.own 0) [.row ⟨true, 5, (.int .u8), r0⟩]) := by kernel_rfl

theorem entry_text_Put {R : Type} (K : AV → List O → Option R) (n : Int) :
    fnRun Tryd.prog (T_text_Put @l_strconv_AppendInt) cuts_text_Put Tryd.f16 0 [.v (.int .i64 n)] [] K =
    l_text_Put n (fun r0 => K (.own 0) [.row ⟨true, 5, (.int .u8), r0⟩]) := gentry_text_Put @l_strconv_AppendInt K n

def S_text_Put (l_text_Put : {R : Type} → Int → ((List Int) → Option R) → Option R) : Sum := ⟨[], fun {R} args ob K => match args, ob with
  | [.v (.int .i64 n)], [] => l_text_Put n (fun r0 => K (.own 0) [.row ⟨true, 5, (.int .u8), r0⟩])
  | _, _ => none⟩

theorem sound_text_Put : Sound Tryd.prog 16 (S_text_Put @l_text_Put) := by
  refine fn_sound (cuts := cuts_text_Put) (fn := Tryd.f16) (Γ := (T_text_Put @l_strconv_AppendInt)) wide right_T_text_Put Tryd.func16 fun {R} K r args ob h => ?_
  unfold S_text_Put at h
  dsimp only at h
  split at h
  · exact ⟨Nat.le_of_ble_eq_true (by kernel_rfl), 0, (entry_text_Put K _).trans h⟩
  · cases h

theorem call_text_Put : Callable Tryd.prog 16 := ⟨_, Tryd.func16, by kernel_rfl, by kernel_rfl⟩

def T_teach_Show (l_teach_said_numbers : {R : Type} → (List Int) → ((List Int) → Option R) → Option R) (l_teach_said_letter : {R : Type} → (List Int) → (Int → Option R) → Option R) (l_teach_agreed_numbers : {R : Type} → ((List Int) → Option R) → Option R) (l_teach_agreed_letter : {R : Type} → (Int → Option R) → Option R) (l_teach_refuted_numbers : {R : Type} → (List Int) → ((List Int) → Option R) → Option R) (l_teach_refuted_letter : {R : Type} → (List Int) → (Int → Option R) → Option R) (l_teach_of : {R : Type} → Int → (List Int) → (List Int) → ((List Int) → Option R) → (Option R) → ((List Int) → Option R) → (Option R) → Option R) (l_text_Put : {R : Type} → Int → ((List Int) → Option R) → Option R) : FuncId → Option Sum := (addS (addS (addS (addS (addS (addS (addS (addS G0 56 (S_teach_said_numbers @l_teach_said_numbers)) 55 (S_teach_said_letter @l_teach_said_letter)) 58 (S_teach_agreed_numbers @l_teach_agreed_numbers)) 57 (S_teach_agreed_letter @l_teach_agreed_letter)) 60 (S_teach_refuted_numbers @l_teach_refuted_numbers)) 59 (S_teach_refuted_letter @l_teach_refuted_letter)) 15 (S_teach_of @l_teach_of)) 16 (S_text_Put @l_text_Put))

theorem right_T_teach_Show : Right Tryd.prog (T_teach_Show @l_teach_said_numbers @l_teach_said_letter @l_teach_agreed_numbers @l_teach_agreed_letter @l_teach_refuted_numbers @l_teach_refuted_letter @l_teach_of @l_text_Put) := (right_add (right_add (right_add (right_add (right_add (right_add (right_add (right_add right_G0 call_teach_said_numbers sound_teach_said_numbers) call_teach_said_letter sound_teach_said_letter) call_teach_agreed_numbers sound_teach_agreed_numbers) call_teach_agreed_letter sound_teach_agreed_letter) call_teach_refuted_numbers sound_teach_refuted_numbers) call_teach_refuted_letter sound_teach_refuted_letter) call_teach_of sound_teach_of) call_text_Put sound_text_Put)

abbrev cuts_teach_Show : Cuts := [(3, [3, 9, 10, 11]), (9, [3, 9, 10, 11, 25, 26, 27])]

theorem gstep_teach_Show_3 (l_teach_said_numbers : {R : Type} → (List Int) → ((List Int) → Option R) → Option R) (l_teach_said_letter : {R : Type} → (List Int) → (Int → Option R) → Option R) (l_teach_agreed_numbers : {R : Type} → ((List Int) → Option R) → Option R) (l_teach_agreed_letter : {R : Type} → (Int → Option R) → Option R) (l_teach_refuted_numbers : {R : Type} → (List Int) → ((List Int) → Option R) → Option R) (l_teach_refuted_letter : {R : Type} → (List Int) → (Int → Option R) → Option R) (l_teach_of : {R : Type} → Int → (List Int) → (List Int) → ((List Int) → Option R) → (Option R) → ((List Int) → Option R) → (Option R) → Option R) (l_text_Put : {R : Type} → Int → ((List Int) → Option R) → Option R) {R : Type} (g : List Item → St → Option R) (K : AV → List O → Option R) (x9 : List (Int × (List Int × List Int))) (x10 : Int) (x11 : Int) (o0 : List Int) :
    runSeg Tryd.prog (T_teach_Show @l_teach_said_numbers @l_teach_said_letter @l_teach_agreed_numbers @l_teach_agreed_letter @l_teach_refuted_numbers @l_teach_refuted_letter @l_teach_of @l_text_Put) cuts_teach_Show 0 g (finish Tryd.prog Tryd.f8 0 K) (at' Tryd.f8 3) ⟨fr0 43 [(3, .own 0), (9, .rd ⟨false, 35, (.pr (.int .i64) (.pr (.sl 3 (.int .i64)) (.sl 3 (.int .i64)))), x9⟩), (10, .v (.int .i64 x10)), (11, .v (.int .i64 x11))], [.row ⟨true, 5, (.int .u8), o0⟩]⟩ =
    (fun (g8_3 : (List (Int × (List Int × List Int))) → Int → Int → (List Int) → Option R) (g8_9 : (List (Int × (List Int × List Int))) → Int → Int → (List Int) → Int → Int → (List Int) → Option R) (g8_9b : (List (Int × (List Int × List Int))) → Int → Int → Int → Int → (List Int) → (List Int) → Option R) (K0 : (List Int) → Option R) (x9 : List (Int × (List Int × List Int))) (x10 : Int) (x11 : Int) (o0 : List Int) =>
    bi (decide (x11 < x10))
     (bi (decide (0 ≤ x11 ∧ x11 < ((x9.length : Nat) : Int)))
      (l_teach_of ((x9.getD x11.toNat (0, ([], []))).1) (((x9.getD x11.toNat (0, ([], []))).2).1) (((x9.getD x11.toNat (0, ([], []))).2).2)
       (fun r1 =>
        l_teach_said_letter r1
         (fun r2 =>
          bi (decide ((o0.length + [r2].length) * 1 ≤ lim))
           (l_teach_said_numbers r1
            (fun r3 =>
             g8_9 x9 x10 x11 r3 (r3.length : Int) 0 (o0 ++ [r2])))
           none))
       (l_teach_agreed_letter
        (fun r4 =>
         bi (decide ((o0.length + [r4].length) * 1 ≤ lim))
          (l_teach_agreed_numbers
           (fun r5 =>
            g8_9b x9 x10 x11 (r5.length : Int) 0 (o0 ++ [r4]) r5))
          none))
       (fun r6 =>
        l_teach_refuted_letter r6
         (fun r7 =>
          bi (decide ((o0.length + [r7].length) * 1 ≤ lim))
           (l_teach_refuted_numbers r6
            (fun r8 =>
             g8_9 x9 x10 x11 r8 (r8.length : Int) 0 (o0 ++ [r7])))
           none))
       (g8_3 x9 x10 (IntKind.i64.wrap (x11 + 1)) o0))
      none)
     (K0 o0)) (fun x9 x10 x11 o0 => g (at' Tryd.f8 3) ⟨fr0 43 [(3, .own 0), (9, .rd ⟨false, 35, (.pr (.int .i64) (.pr (.sl 3 (.int .i64)) (.sl 3 (.int .i64)))), x9⟩), (10, .v (.int .i64 x10)), (11, .v (.int .i64 x11))], [.row ⟨true, 5, (.int .u8), o0⟩]⟩) (fun x9 x10 x11 x25 x26 x27 o0 => g (at' Tryd.f8 9) ⟨fr0 43 [(3, .own 0), (9, .rd ⟨false, 35, (.pr (.int .i64) (.pr (.sl 3 (.int .i64)) (.sl 3 (.int .i64)))), x9⟩), (10, .v (.int .i64 x10)), (11, .v (.int .i64 x11)), (25, .rd ⟨false, 3, (.int .i64), x25⟩), (26, .v (.int .i64 x26)), (27, .v (.int .i64 x27))], [.row ⟨true, 5, (.int .u8), o0⟩]⟩) (fun x9 x10 x11 x26 x27 o0 o1 => g (at' Tryd.f8 9) ⟨fr0 43 [(3, .own 0), (9, .rd ⟨false, 35, (.pr (.int .i64) (.pr (.sl 3 (.int .i64)) (.sl 3 (.int .i64)))), x9⟩), (10, .v (.int .i64 x10)), (11, .v (.int .i64 x11)), (25, .own 1), (26, .v (.int .i64 x26)), (27, .v (.int .i64 x27))], [.row ⟨true, 5, (.int .u8), o0⟩, .row ⟨true, 3, (.int .i64), o1⟩]⟩) (fun r0 => K (.own 0) [.row ⟨true, 5, (.int .u8), r0⟩]) x9 x10 x11 o0 := by kernel_rfl

theorem step_teach_Show_3 {R : Type} (g : List Item → St → Option R) (K : AV → List O → Option R) (x9 : List (Int × (List Int × List Int))) (x10 : Int) (x11 : Int) (o0 : List Int) :
    runSeg Tryd.prog (T_teach_Show @l_teach_said_numbers @l_teach_said_letter @l_teach_agreed_numbers @l_teach_agreed_letter @l_teach_refuted_numbers @l_teach_refuted_letter @l_teach_of @l_text_Put) cuts_teach_Show 0 g (finish Tryd.prog Tryd.f8 0 K) (at' Tryd.f8 3) ⟨fr0 43 [(3, .own 0), (9, .rd ⟨false, 35, (.pr (.int .i64) (.pr (.sl 3 (.int .i64)) (.sl 3 (.int .i64)))), x9⟩), (10, .v (.int .i64 x10)), (11, .v (.int .i64 x11))], [.row ⟨true, 5, (.int .u8), o0⟩]⟩ =
    s_teach_Show_3 (fun x9 x10 x11 o0 => g (at' Tryd.f8 3) ⟨fr0 43 [(3, .own 0), (9, .rd ⟨false, 35, (.pr (.int .i64) (.pr (.sl 3 (.int .i64)) (.sl 3 (.int .i64)))), x9⟩), (10, .v (.int .i64 x10)), (11, .v (.int .i64 x11))], [.row ⟨true, 5, (.int .u8), o0⟩]⟩) (fun x9 x10 x11 x25 x26 x27 o0 => g (at' Tryd.f8 9) ⟨fr0 43 [(3, .own 0), (9, .rd ⟨false, 35, (.pr (.int .i64) (.pr (.sl 3 (.int .i64)) (.sl 3 (.int .i64)))), x9⟩), (10, .v (.int .i64 x10)), (11, .v (.int .i64 x11)), (25, .rd ⟨false, 3, (.int .i64), x25⟩), (26, .v (.int .i64 x26)), (27, .v (.int .i64 x27))], [.row ⟨true, 5, (.int .u8), o0⟩]⟩) (fun x9 x10 x11 x26 x27 o0 o1 => g (at' Tryd.f8 9) ⟨fr0 43 [(3, .own 0), (9, .rd ⟨false, 35, (.pr (.int .i64) (.pr (.sl 3 (.int .i64)) (.sl 3 (.int .i64)))), x9⟩), (10, .v (.int .i64 x10)), (11, .v (.int .i64 x11)), (25, .own 1), (26, .v (.int .i64 x26)), (27, .v (.int .i64 x27))], [.row ⟨true, 5, (.int .u8), o0⟩, .row ⟨true, 3, (.int .i64), o1⟩]⟩) (fun r0 => K (.own 0) [.row ⟨true, 5, (.int .u8), r0⟩]) x9 x10 x11 o0 := gstep_teach_Show_3 @l_teach_said_numbers @l_teach_said_letter @l_teach_agreed_numbers @l_teach_agreed_letter @l_teach_refuted_numbers @l_teach_refuted_letter @l_teach_of @l_text_Put g K x9 x10 x11 o0

theorem gstep_teach_Show_9a (l_teach_said_numbers : {R : Type} → (List Int) → ((List Int) → Option R) → Option R) (l_teach_said_letter : {R : Type} → (List Int) → (Int → Option R) → Option R) (l_teach_agreed_numbers : {R : Type} → ((List Int) → Option R) → Option R) (l_teach_agreed_letter : {R : Type} → (Int → Option R) → Option R) (l_teach_refuted_numbers : {R : Type} → (List Int) → ((List Int) → Option R) → Option R) (l_teach_refuted_letter : {R : Type} → (List Int) → (Int → Option R) → Option R) (l_teach_of : {R : Type} → Int → (List Int) → (List Int) → ((List Int) → Option R) → (Option R) → ((List Int) → Option R) → (Option R) → Option R) (l_text_Put : {R : Type} → Int → ((List Int) → Option R) → Option R) {R : Type} (g : List Item → St → Option R) (K : AV → List O → Option R) (x9 : List (Int × (List Int × List Int))) (x10 : Int) (x11 : Int) (x25 : List Int) (x26 : Int) (x27 : Int) (o0 : List Int) :
    runSeg Tryd.prog (T_teach_Show @l_teach_said_numbers @l_teach_said_letter @l_teach_agreed_numbers @l_teach_agreed_letter @l_teach_refuted_numbers @l_teach_refuted_letter @l_teach_of @l_text_Put) cuts_teach_Show 0 g (finish Tryd.prog Tryd.f8 0 K) (at' Tryd.f8 9) ⟨fr0 43 [(3, .own 0), (9, .rd ⟨false, 35, (.pr (.int .i64) (.pr (.sl 3 (.int .i64)) (.sl 3 (.int .i64)))), x9⟩), (10, .v (.int .i64 x10)), (11, .v (.int .i64 x11)), (25, .rd ⟨false, 3, (.int .i64), x25⟩), (26, .v (.int .i64 x26)), (27, .v (.int .i64 x27))], [.row ⟨true, 5, (.int .u8), o0⟩]⟩ =
    (fun (g8_3 : (List (Int × (List Int × List Int))) → Int → Int → (List Int) → Option R) (g8_9 : (List (Int × (List Int × List Int))) → Int → Int → (List Int) → Int → Int → (List Int) → Option R) (g8_9b : (List (Int × (List Int × List Int))) → Int → Int → Int → Int → (List Int) → (List Int) → Option R) (K0 : (List Int) → Option R) (x9 : List (Int × (List Int × List Int))) (x10 : Int) (x11 : Int) (x25 : List Int) (x26 : Int) (x27 : Int) (o0 : List Int) =>
    bi (decide (x27 < x26))
     (bi (decide (0 ≤ x27 ∧ x27 < ((x25.length : Nat) : Int)))
      (bi (decide ((o0.length + [32].length) * 1 ≤ lim))
       (l_text_Put (x25.getD x27.toNat 0)
        (fun r9 =>
         bi (decide (((o0 ++ [32]).length + r9.length) * 1 ≤ lim))
          (g8_9 x9 x10 x11 x25 x26 (IntKind.i64.wrap (x27 + 1)) ((o0 ++ [32]) ++ r9))
          none))
       none)
      none)
     (bi (decide ((o0.length + [10].length) * 1 ≤ lim))
      (g8_3 x9 x10 (IntKind.i64.wrap (x11 + 1)) (o0 ++ [10]))
      none)) (fun x9 x10 x11 o0 => g (at' Tryd.f8 3) ⟨fr0 43 [(3, .own 0), (9, .rd ⟨false, 35, (.pr (.int .i64) (.pr (.sl 3 (.int .i64)) (.sl 3 (.int .i64)))), x9⟩), (10, .v (.int .i64 x10)), (11, .v (.int .i64 x11))], [.row ⟨true, 5, (.int .u8), o0⟩]⟩) (fun x9 x10 x11 x25 x26 x27 o0 => g (at' Tryd.f8 9) ⟨fr0 43 [(3, .own 0), (9, .rd ⟨false, 35, (.pr (.int .i64) (.pr (.sl 3 (.int .i64)) (.sl 3 (.int .i64)))), x9⟩), (10, .v (.int .i64 x10)), (11, .v (.int .i64 x11)), (25, .rd ⟨false, 3, (.int .i64), x25⟩), (26, .v (.int .i64 x26)), (27, .v (.int .i64 x27))], [.row ⟨true, 5, (.int .u8), o0⟩]⟩) (fun x9 x10 x11 x26 x27 o0 o1 => g (at' Tryd.f8 9) ⟨fr0 43 [(3, .own 0), (9, .rd ⟨false, 35, (.pr (.int .i64) (.pr (.sl 3 (.int .i64)) (.sl 3 (.int .i64)))), x9⟩), (10, .v (.int .i64 x10)), (11, .v (.int .i64 x11)), (25, .own 1), (26, .v (.int .i64 x26)), (27, .v (.int .i64 x27))], [.row ⟨true, 5, (.int .u8), o0⟩, .row ⟨true, 3, (.int .i64), o1⟩]⟩) (fun r0 => K (.own 0) [.row ⟨true, 5, (.int .u8), r0⟩]) x9 x10 x11 x25 x26 x27 o0 := by kernel_rfl

theorem step_teach_Show_9a {R : Type} (g : List Item → St → Option R) (K : AV → List O → Option R) (x9 : List (Int × (List Int × List Int))) (x10 : Int) (x11 : Int) (x25 : List Int) (x26 : Int) (x27 : Int) (o0 : List Int) :
    runSeg Tryd.prog (T_teach_Show @l_teach_said_numbers @l_teach_said_letter @l_teach_agreed_numbers @l_teach_agreed_letter @l_teach_refuted_numbers @l_teach_refuted_letter @l_teach_of @l_text_Put) cuts_teach_Show 0 g (finish Tryd.prog Tryd.f8 0 K) (at' Tryd.f8 9) ⟨fr0 43 [(3, .own 0), (9, .rd ⟨false, 35, (.pr (.int .i64) (.pr (.sl 3 (.int .i64)) (.sl 3 (.int .i64)))), x9⟩), (10, .v (.int .i64 x10)), (11, .v (.int .i64 x11)), (25, .rd ⟨false, 3, (.int .i64), x25⟩), (26, .v (.int .i64 x26)), (27, .v (.int .i64 x27))], [.row ⟨true, 5, (.int .u8), o0⟩]⟩ =
    s_teach_Show_9a (fun x9 x10 x11 o0 => g (at' Tryd.f8 3) ⟨fr0 43 [(3, .own 0), (9, .rd ⟨false, 35, (.pr (.int .i64) (.pr (.sl 3 (.int .i64)) (.sl 3 (.int .i64)))), x9⟩), (10, .v (.int .i64 x10)), (11, .v (.int .i64 x11))], [.row ⟨true, 5, (.int .u8), o0⟩]⟩) (fun x9 x10 x11 x25 x26 x27 o0 => g (at' Tryd.f8 9) ⟨fr0 43 [(3, .own 0), (9, .rd ⟨false, 35, (.pr (.int .i64) (.pr (.sl 3 (.int .i64)) (.sl 3 (.int .i64)))), x9⟩), (10, .v (.int .i64 x10)), (11, .v (.int .i64 x11)), (25, .rd ⟨false, 3, (.int .i64), x25⟩), (26, .v (.int .i64 x26)), (27, .v (.int .i64 x27))], [.row ⟨true, 5, (.int .u8), o0⟩]⟩) (fun x9 x10 x11 x26 x27 o0 o1 => g (at' Tryd.f8 9) ⟨fr0 43 [(3, .own 0), (9, .rd ⟨false, 35, (.pr (.int .i64) (.pr (.sl 3 (.int .i64)) (.sl 3 (.int .i64)))), x9⟩), (10, .v (.int .i64 x10)), (11, .v (.int .i64 x11)), (25, .own 1), (26, .v (.int .i64 x26)), (27, .v (.int .i64 x27))], [.row ⟨true, 5, (.int .u8), o0⟩, .row ⟨true, 3, (.int .i64), o1⟩]⟩) (fun r0 => K (.own 0) [.row ⟨true, 5, (.int .u8), r0⟩]) x9 x10 x11 x25 x26 x27 o0 := gstep_teach_Show_9a @l_teach_said_numbers @l_teach_said_letter @l_teach_agreed_numbers @l_teach_agreed_letter @l_teach_refuted_numbers @l_teach_refuted_letter @l_teach_of @l_text_Put g K x9 x10 x11 x25 x26 x27 o0

theorem gstep_teach_Show_9b (l_teach_said_numbers : {R : Type} → (List Int) → ((List Int) → Option R) → Option R) (l_teach_said_letter : {R : Type} → (List Int) → (Int → Option R) → Option R) (l_teach_agreed_numbers : {R : Type} → ((List Int) → Option R) → Option R) (l_teach_agreed_letter : {R : Type} → (Int → Option R) → Option R) (l_teach_refuted_numbers : {R : Type} → (List Int) → ((List Int) → Option R) → Option R) (l_teach_refuted_letter : {R : Type} → (List Int) → (Int → Option R) → Option R) (l_teach_of : {R : Type} → Int → (List Int) → (List Int) → ((List Int) → Option R) → (Option R) → ((List Int) → Option R) → (Option R) → Option R) (l_text_Put : {R : Type} → Int → ((List Int) → Option R) → Option R) {R : Type} (g : List Item → St → Option R) (K : AV → List O → Option R) (x9 : List (Int × (List Int × List Int))) (x10 : Int) (x11 : Int) (x26 : Int) (x27 : Int) (o0 : List Int) (o1 : List Int) :
    runSeg Tryd.prog (T_teach_Show @l_teach_said_numbers @l_teach_said_letter @l_teach_agreed_numbers @l_teach_agreed_letter @l_teach_refuted_numbers @l_teach_refuted_letter @l_teach_of @l_text_Put) cuts_teach_Show 0 g (finish Tryd.prog Tryd.f8 0 K) (at' Tryd.f8 9) ⟨fr0 43 [(3, .own 0), (9, .rd ⟨false, 35, (.pr (.int .i64) (.pr (.sl 3 (.int .i64)) (.sl 3 (.int .i64)))), x9⟩), (10, .v (.int .i64 x10)), (11, .v (.int .i64 x11)), (25, .own 1), (26, .v (.int .i64 x26)), (27, .v (.int .i64 x27))], [.row ⟨true, 5, (.int .u8), o0⟩, .row ⟨true, 3, (.int .i64), o1⟩]⟩ =
    (fun (g8_3 : (List (Int × (List Int × List Int))) → Int → Int → (List Int) → Option R) (g8_9 : (List (Int × (List Int × List Int))) → Int → Int → (List Int) → Int → Int → (List Int) → Option R) (g8_9b : (List (Int × (List Int × List Int))) → Int → Int → Int → Int → (List Int) → (List Int) → Option R) (K0 : (List Int) → Option R) (x9 : List (Int × (List Int × List Int))) (x10 : Int) (x11 : Int) (x26 : Int) (x27 : Int) (o0 : List Int) (o1 : List Int) =>
    bi (decide (x27 < x26))
     (bi (decide (0 ≤ x27 ∧ x27 < ((o1.length : Nat) : Int)))
      (bi (decide ((o0.length + [32].length) * 1 ≤ lim))
       (l_text_Put (o1.getD x27.toNat 0)
        (fun r10 =>
         bi (decide (((o0 ++ [32]).length + r10.length) * 1 ≤ lim))
          (g8_9b x9 x10 x11 x26 (IntKind.i64.wrap (x27 + 1)) ((o0 ++ [32]) ++ r10) o1)
          none))
       none)
      none)
     (bi (decide ((o0.length + [10].length) * 1 ≤ lim))
      (g8_3 x9 x10 (IntKind.i64.wrap (x11 + 1)) (o0 ++ [10]))
      none)) (fun x9 x10 x11 o0 => g (at' Tryd.f8 3) ⟨fr0 43 [(3, .own 0), (9, .rd ⟨false, 35, (.pr (.int .i64) (.pr (.sl 3 (.int .i64)) (.sl 3 (.int .i64)))), x9⟩), (10, .v (.int .i64 x10)), (11, .v (.int .i64 x11))], [.row ⟨true, 5, (.int .u8), o0⟩]⟩) (fun x9 x10 x11 x25 x26 x27 o0 => g (at' Tryd.f8 9) ⟨fr0 43 [(3, .own 0), (9, .rd ⟨false, 35, (.pr (.int .i64) (.pr (.sl 3 (.int .i64)) (.sl 3 (.int .i64)))), x9⟩), (10, .v (.int .i64 x10)), (11, .v (.int .i64 x11)), (25, .rd ⟨false, 3, (.int .i64), x25⟩), (26, .v (.int .i64 x26)), (27, .v (.int .i64 x27))], [.row ⟨true, 5, (.int .u8), o0⟩]⟩) (fun x9 x10 x11 x26 x27 o0 o1 => g (at' Tryd.f8 9) ⟨fr0 43 [(3, .own 0), (9, .rd ⟨false, 35, (.pr (.int .i64) (.pr (.sl 3 (.int .i64)) (.sl 3 (.int .i64)))), x9⟩), (10, .v (.int .i64 x10)), (11, .v (.int .i64 x11)), (25, .own 1), (26, .v (.int .i64 x26)), (27, .v (.int .i64 x27))], [.row ⟨true, 5, (.int .u8), o0⟩, .row ⟨true, 3, (.int .i64), o1⟩]⟩) (fun r0 => K (.own 0) [.row ⟨true, 5, (.int .u8), r0⟩]) x9 x10 x11 x26 x27 o0 o1 := by kernel_rfl

theorem step_teach_Show_9b {R : Type} (g : List Item → St → Option R) (K : AV → List O → Option R) (x9 : List (Int × (List Int × List Int))) (x10 : Int) (x11 : Int) (x26 : Int) (x27 : Int) (o0 : List Int) (o1 : List Int) :
    runSeg Tryd.prog (T_teach_Show @l_teach_said_numbers @l_teach_said_letter @l_teach_agreed_numbers @l_teach_agreed_letter @l_teach_refuted_numbers @l_teach_refuted_letter @l_teach_of @l_text_Put) cuts_teach_Show 0 g (finish Tryd.prog Tryd.f8 0 K) (at' Tryd.f8 9) ⟨fr0 43 [(3, .own 0), (9, .rd ⟨false, 35, (.pr (.int .i64) (.pr (.sl 3 (.int .i64)) (.sl 3 (.int .i64)))), x9⟩), (10, .v (.int .i64 x10)), (11, .v (.int .i64 x11)), (25, .own 1), (26, .v (.int .i64 x26)), (27, .v (.int .i64 x27))], [.row ⟨true, 5, (.int .u8), o0⟩, .row ⟨true, 3, (.int .i64), o1⟩]⟩ =
    s_teach_Show_9b (fun x9 x10 x11 o0 => g (at' Tryd.f8 3) ⟨fr0 43 [(3, .own 0), (9, .rd ⟨false, 35, (.pr (.int .i64) (.pr (.sl 3 (.int .i64)) (.sl 3 (.int .i64)))), x9⟩), (10, .v (.int .i64 x10)), (11, .v (.int .i64 x11))], [.row ⟨true, 5, (.int .u8), o0⟩]⟩) (fun x9 x10 x11 x25 x26 x27 o0 => g (at' Tryd.f8 9) ⟨fr0 43 [(3, .own 0), (9, .rd ⟨false, 35, (.pr (.int .i64) (.pr (.sl 3 (.int .i64)) (.sl 3 (.int .i64)))), x9⟩), (10, .v (.int .i64 x10)), (11, .v (.int .i64 x11)), (25, .rd ⟨false, 3, (.int .i64), x25⟩), (26, .v (.int .i64 x26)), (27, .v (.int .i64 x27))], [.row ⟨true, 5, (.int .u8), o0⟩]⟩) (fun x9 x10 x11 x26 x27 o0 o1 => g (at' Tryd.f8 9) ⟨fr0 43 [(3, .own 0), (9, .rd ⟨false, 35, (.pr (.int .i64) (.pr (.sl 3 (.int .i64)) (.sl 3 (.int .i64)))), x9⟩), (10, .v (.int .i64 x10)), (11, .v (.int .i64 x11)), (25, .own 1), (26, .v (.int .i64 x26)), (27, .v (.int .i64 x27))], [.row ⟨true, 5, (.int .u8), o0⟩, .row ⟨true, 3, (.int .i64), o1⟩]⟩) (fun r0 => K (.own 0) [.row ⟨true, 5, (.int .u8), r0⟩]) x9 x10 x11 x26 x27 o0 o1 := gstep_teach_Show_9b @l_teach_said_numbers @l_teach_said_letter @l_teach_agreed_numbers @l_teach_agreed_letter @l_teach_refuted_numbers @l_teach_refuted_letter @l_teach_of @l_text_Put g K x9 x10 x11 x26 x27 o0 o1

theorem gentry_teach_Show (l_teach_said_numbers : {R : Type} → (List Int) → ((List Int) → Option R) → Option R) (l_teach_said_letter : {R : Type} → (List Int) → (Int → Option R) → Option R) (l_teach_agreed_numbers : {R : Type} → ((List Int) → Option R) → Option R) (l_teach_agreed_letter : {R : Type} → (Int → Option R) → Option R) (l_teach_refuted_numbers : {R : Type} → (List Int) → ((List Int) → Option R) → Option R) (l_teach_refuted_letter : {R : Type} → (List Int) → (Int → Option R) → Option R) (l_teach_of : {R : Type} → Int → (List Int) → (List Int) → ((List Int) → Option R) → (Option R) → ((List Int) → Option R) → (Option R) → Option R) (l_text_Put : {R : Type} → Int → ((List Int) → Option R) → Option R) {R : Type} (fuel : Nat) (K : AV → List O → Option R) (l : List (Int × (List Int × List Int))) :
    fnRun Tryd.prog (T_teach_Show @l_teach_said_numbers @l_teach_said_letter @l_teach_agreed_numbers @l_teach_agreed_letter @l_teach_refuted_numbers @l_teach_refuted_letter @l_teach_of @l_text_Put) cuts_teach_Show Tryd.f8 fuel [.rd ⟨false, 35, (.pr (.int .i64) (.pr (.sl 3 (.int .i64)) (.sl 3 (.int .i64)))), l⟩] [] K =
    (fun (g8_3 : (List (Int × (List Int × List Int))) → Int → Int → (List Int) → Option R) (g8_9 : (List (Int × (List Int × List Int))) → Int → Int → (List Int) → Int → Int → (List Int) → Option R) (g8_9b : (List (Int × (List Int × List Int))) → Int → Int → Int → Int → (List Int) → (List Int) → Option R) (K0 : (List Int) → Option R) (l : List (Int × (List Int × List Int))) =>
    g8_3 l (l.length : Int) 0 ([] : List Int)) (fun x9 x10 x11 o0 => (runO Tryd.prog (T_teach_Show @l_teach_said_numbers @l_teach_said_letter @l_teach_agreed_numbers @l_teach_agreed_letter @l_teach_refuted_numbers @l_teach_refuted_letter @l_teach_of @l_text_Put) cuts_teach_Show 0 (finish Tryd.prog Tryd.f8 0 K) fuel) (at' Tryd.f8 3) ⟨fr0 43 [(3, .own 0), (9, .rd ⟨false, 35, (.pr (.int .i64) (.pr (.sl 3 (.int .i64)) (.sl 3 (.int .i64)))), x9⟩), (10, .v (.int .i64 x10)), (11, .v (.int .i64 x11))], [.row ⟨true, 5, (.int .u8), o0⟩]⟩) (fun x9 x10 x11 x25 x26 x27 o0 => (runO Tryd.prog (T_teach_Show @l_teach_said_numbers @l_teach_said_letter @l_teach_agreed_numbers @l_teach_agreed_letter @l_teach_refuted_numbers @l_teach_refuted_letter @l_teach_of @l_text_Put) cuts_teach_Show 0 (finish Tryd.prog Tryd.f8 0 K) fuel) (at' Tryd.f8 9) ⟨fr0 43 [(3, .own 0), (9, .rd ⟨false, 35, (.pr (.int .i64) (.pr (.sl 3 (.int .i64)) (.sl 3 (.int .i64)))), x9⟩), (10, .v (.int .i64 x10)), (11, .v (.int .i64 x11)), (25, .rd ⟨false, 3, (.int .i64), x25⟩), (26, .v (.int .i64 x26)), (27, .v (.int .i64 x27))], [.row ⟨true, 5, (.int .u8), o0⟩]⟩) (fun x9 x10 x11 x26 x27 o0 o1 => (runO Tryd.prog (T_teach_Show @l_teach_said_numbers @l_teach_said_letter @l_teach_agreed_numbers @l_teach_agreed_letter @l_teach_refuted_numbers @l_teach_refuted_letter @l_teach_of @l_text_Put) cuts_teach_Show 0 (finish Tryd.prog Tryd.f8 0 K) fuel) (at' Tryd.f8 9) ⟨fr0 43 [(3, .own 0), (9, .rd ⟨false, 35, (.pr (.int .i64) (.pr (.sl 3 (.int .i64)) (.sl 3 (.int .i64)))), x9⟩), (10, .v (.int .i64 x10)), (11, .v (.int .i64 x11)), (25, .own 1), (26, .v (.int .i64 x26)), (27, .v (.int .i64 x27))], [.row ⟨true, 5, (.int .u8), o0⟩, .row ⟨true, 3, (.int .i64), o1⟩]⟩) (fun r0 => K (.own 0) [.row ⟨true, 5, (.int .u8), r0⟩]) l := by kernel_rfl

theorem entry_teach_Show {R : Type} (fuel : Nat) (K : AV → List O → Option R) (l : List (Int × (List Int × List Int))) :
    fnRun Tryd.prog (T_teach_Show @l_teach_said_numbers @l_teach_said_letter @l_teach_agreed_numbers @l_teach_agreed_letter @l_teach_refuted_numbers @l_teach_refuted_letter @l_teach_of @l_text_Put) cuts_teach_Show Tryd.f8 fuel [.rd ⟨false, 35, (.pr (.int .i64) (.pr (.sl 3 (.int .i64)) (.sl 3 (.int .i64)))), l⟩] [] K =
    e_teach_Show (fun x9 x10 x11 o0 => (runO Tryd.prog (T_teach_Show @l_teach_said_numbers @l_teach_said_letter @l_teach_agreed_numbers @l_teach_agreed_letter @l_teach_refuted_numbers @l_teach_refuted_letter @l_teach_of @l_text_Put) cuts_teach_Show 0 (finish Tryd.prog Tryd.f8 0 K) fuel) (at' Tryd.f8 3) ⟨fr0 43 [(3, .own 0), (9, .rd ⟨false, 35, (.pr (.int .i64) (.pr (.sl 3 (.int .i64)) (.sl 3 (.int .i64)))), x9⟩), (10, .v (.int .i64 x10)), (11, .v (.int .i64 x11))], [.row ⟨true, 5, (.int .u8), o0⟩]⟩) (fun x9 x10 x11 x25 x26 x27 o0 => (runO Tryd.prog (T_teach_Show @l_teach_said_numbers @l_teach_said_letter @l_teach_agreed_numbers @l_teach_agreed_letter @l_teach_refuted_numbers @l_teach_refuted_letter @l_teach_of @l_text_Put) cuts_teach_Show 0 (finish Tryd.prog Tryd.f8 0 K) fuel) (at' Tryd.f8 9) ⟨fr0 43 [(3, .own 0), (9, .rd ⟨false, 35, (.pr (.int .i64) (.pr (.sl 3 (.int .i64)) (.sl 3 (.int .i64)))), x9⟩), (10, .v (.int .i64 x10)), (11, .v (.int .i64 x11)), (25, .rd ⟨false, 3, (.int .i64), x25⟩), (26, .v (.int .i64 x26)), (27, .v (.int .i64 x27))], [.row ⟨true, 5, (.int .u8), o0⟩]⟩) (fun x9 x10 x11 x26 x27 o0 o1 => (runO Tryd.prog (T_teach_Show @l_teach_said_numbers @l_teach_said_letter @l_teach_agreed_numbers @l_teach_agreed_letter @l_teach_refuted_numbers @l_teach_refuted_letter @l_teach_of @l_text_Put) cuts_teach_Show 0 (finish Tryd.prog Tryd.f8 0 K) fuel) (at' Tryd.f8 9) ⟨fr0 43 [(3, .own 0), (9, .rd ⟨false, 35, (.pr (.int .i64) (.pr (.sl 3 (.int .i64)) (.sl 3 (.int .i64)))), x9⟩), (10, .v (.int .i64 x10)), (11, .v (.int .i64 x11)), (25, .own 1), (26, .v (.int .i64 x26)), (27, .v (.int .i64 x27))], [.row ⟨true, 5, (.int .u8), o0⟩, .row ⟨true, 3, (.int .i64), o1⟩]⟩) (fun r0 => K (.own 0) [.row ⟨true, 5, (.int .u8), r0⟩]) l := gentry_teach_Show @l_teach_said_numbers @l_teach_said_letter @l_teach_agreed_numbers @l_teach_agreed_letter @l_teach_refuted_numbers @l_teach_refuted_letter @l_teach_of @l_text_Put fuel K l

theorem runs_teach_Show {R : Type} (K : AV → List O → Option R) : ∀ fuel : Nat,
    (fun x9 x10 x11 o0 => (runO Tryd.prog (T_teach_Show @l_teach_said_numbers @l_teach_said_letter @l_teach_agreed_numbers @l_teach_agreed_letter @l_teach_refuted_numbers @l_teach_refuted_letter @l_teach_of @l_text_Put) cuts_teach_Show 0 (finish Tryd.prog Tryd.f8 0 K) fuel) (at' Tryd.f8 3) ⟨fr0 43 [(3, .own 0), (9, .rd ⟨false, 35, (.pr (.int .i64) (.pr (.sl 3 (.int .i64)) (.sl 3 (.int .i64)))), x9⟩), (10, .v (.int .i64 x10)), (11, .v (.int .i64 x11))], [.row ⟨true, 5, (.int .u8), o0⟩]⟩) = (run_teach_Show (fun r0 => K (.own 0) [.row ⟨true, 5, (.int .u8), r0⟩]) fuel).1 ∧
    (fun x9 x10 x11 x25 x26 x27 o0 => (runO Tryd.prog (T_teach_Show @l_teach_said_numbers @l_teach_said_letter @l_teach_agreed_numbers @l_teach_agreed_letter @l_teach_refuted_numbers @l_teach_refuted_letter @l_teach_of @l_text_Put) cuts_teach_Show 0 (finish Tryd.prog Tryd.f8 0 K) fuel) (at' Tryd.f8 9) ⟨fr0 43 [(3, .own 0), (9, .rd ⟨false, 35, (.pr (.int .i64) (.pr (.sl 3 (.int .i64)) (.sl 3 (.int .i64)))), x9⟩), (10, .v (.int .i64 x10)), (11, .v (.int .i64 x11)), (25, .rd ⟨false, 3, (.int .i64), x25⟩), (26, .v (.int .i64 x26)), (27, .v (.int .i64 x27))], [.row ⟨true, 5, (.int .u8), o0⟩]⟩) = (run_teach_Show (fun r0 => K (.own 0) [.row ⟨true, 5, (.int .u8), r0⟩]) fuel).2.1 ∧
    (fun x9 x10 x11 x26 x27 o0 o1 => (runO Tryd.prog (T_teach_Show @l_teach_said_numbers @l_teach_said_letter @l_teach_agreed_numbers @l_teach_agreed_letter @l_teach_refuted_numbers @l_teach_refuted_letter @l_teach_of @l_text_Put) cuts_teach_Show 0 (finish Tryd.prog Tryd.f8 0 K) fuel) (at' Tryd.f8 9) ⟨fr0 43 [(3, .own 0), (9, .rd ⟨false, 35, (.pr (.int .i64) (.pr (.sl 3 (.int .i64)) (.sl 3 (.int .i64)))), x9⟩), (10, .v (.int .i64 x10)), (11, .v (.int .i64 x11)), (25, .own 1), (26, .v (.int .i64 x26)), (27, .v (.int .i64 x27))], [.row ⟨true, 5, (.int .u8), o0⟩, .row ⟨true, 3, (.int .i64), o1⟩]⟩) = (run_teach_Show (fun r0 => K (.own 0) [.row ⟨true, 5, (.int .u8), r0⟩]) fuel).2.2
  | 0 => ⟨rfl, rfl, rfl⟩
  | fuel + 1 => by
    have ih := runs_teach_Show K fuel
    refine ⟨?_, ?_, ?_⟩
    · funext x9 x10 x11 o0
      refine (step_teach_Show_3 _ K x9 x10 x11 o0).trans ?_
      rw [ih.1, ih.2.1, ih.2.2]
      rfl
    · funext x9 x10 x11 x25 x26 x27 o0
      refine (step_teach_Show_9a _ K x9 x10 x11 x25 x26 x27 o0).trans ?_
      rw [ih.1, ih.2.1, ih.2.2]
      rfl
    · funext x9 x10 x11 x26 x27 o0 o1
      refine (step_teach_Show_9b _ K x9 x10 x11 x26 x27 o0 o1).trans ?_
      rw [ih.1, ih.2.1, ih.2.2]
      rfl

def S_teach_Show (l_teach_Show : {R : Type} → (List (Int × (List Int × List Int))) → ((List Int) → Option R) → Option R) : Sum := ⟨[], fun {R} args ob K => match args, ob with
  | [.rd ⟨false, 35, (.pr (.int .i64) (.pr (.sl 3 (.int .i64)) (.sl 3 (.int .i64)))), l⟩], [] => l_teach_Show l (fun r0 => K (.own 0) [.row ⟨true, 5, (.int .u8), r0⟩])
  | _, _ => none⟩

theorem sound_teach_Show : Sound Tryd.prog 8 (S_teach_Show @l_teach_Show) := by
  refine fn_sound (cuts := cuts_teach_Show) (fn := Tryd.f8) (Γ := (T_teach_Show @l_teach_said_numbers @l_teach_said_letter @l_teach_agreed_numbers @l_teach_agreed_letter @l_teach_refuted_numbers @l_teach_refuted_letter @l_teach_of @l_text_Put)) wide right_T_teach_Show Tryd.func8 fun {R} K r args ob h => ?_
  unfold S_teach_Show at h
  dsimp only at h
  split at h
  · obtain ⟨n, hn⟩ := ok_teach_Show _ _ h
    refine ⟨Nat.le_of_ble_eq_true (by kernel_rfl), n, (entry_teach_Show n K _).trans ?_⟩
    rw [(runs_teach_Show K n).1, (runs_teach_Show K n).2.1, (runs_teach_Show K n).2.2]
    exact hn
  · cases h

theorem call_teach_Show : Callable Tryd.prog 8 := ⟨_, Tryd.func8, by kernel_rfl, by kernel_rfl⟩

def T_tutorref08_Same : FuncId → Option Sum := G0

theorem right_T_tutorref08_Same : Right Tryd.prog T_tutorref08_Same := right_G0

abbrev cuts_tutorref08_Same : Cuts := []

theorem gentry_tutorref08_Same {R : Type} (K : AV → List O → Option R) (a : List Int) (b : List Int) :
    fnRun Tryd.prog T_tutorref08_Same cuts_tutorref08_Same Tryd.f7 0 [.rd ⟨false, 5, (.int .u8), a⟩, .rd ⟨false, 5, (.int .u8), b⟩] [] K =
    (fun (a : List Int) (b : List Int) (K0 : Bool → Option R) =>
    K0 ((ofBts a).toList == (ofBts b).toList)) a b (fun r0 => K (.v (.bool r0)) []) := by kernel_rfl

theorem entry_tutorref08_Same {R : Type} (K : AV → List O → Option R) (a : List Int) (b : List Int) :
    fnRun Tryd.prog T_tutorref08_Same cuts_tutorref08_Same Tryd.f7 0 [.rd ⟨false, 5, (.int .u8), a⟩, .rd ⟨false, 5, (.int .u8), b⟩] [] K =
    l_tutorref08_Same a b (fun r0 => K (.v (.bool r0)) []) := gentry_tutorref08_Same K a b

def S_tutorref08_Same (l_tutorref08_Same : {R : Type} → (List Int) → (List Int) → (Bool → Option R) → Option R) : Sum := ⟨[], fun {R} args ob K => match args, ob with
  | [.rd ⟨false, 5, (.int .u8), a⟩, .rd ⟨false, 5, (.int .u8), b⟩], [] => l_tutorref08_Same a b (fun r0 => K (.v (.bool r0)) [])
  | _, _ => none⟩

theorem sound_tutorref08_Same : Sound Tryd.prog 7 (S_tutorref08_Same @l_tutorref08_Same) := by
  refine fn_sound (cuts := cuts_tutorref08_Same) (fn := Tryd.f7) (Γ := T_tutorref08_Same) wide right_T_tutorref08_Same Tryd.func7 fun {R} K r args ob h => ?_
  unfold S_tutorref08_Same at h
  dsimp only at h
  split at h
  · exact ⟨Nat.le_of_ble_eq_true (by kernel_rfl), 0, (entry_tutorref08_Same K _ _).trans h⟩
  · cases h

theorem call_tutorref08_Same : Callable Tryd.prog 7 := ⟨_, Tryd.func7, by kernel_rfl, by kernel_rfl⟩

def T_tutorref10_Same (l_tutorref01_Same : {R : Type} → (List Int) → (List Int) → (Bool → Option R) → Option R) : FuncId → Option Sum := (addS G0 13 (S_tutorref01_Same @l_tutorref01_Same))

theorem right_T_tutorref10_Same : Right Tryd.prog (T_tutorref10_Same @l_tutorref01_Same) := (right_add right_G0 call_tutorref01_Same sound_tutorref01_Same)

abbrev cuts_tutorref10_Same : Cuts := [(4, [0, 1, 5])]

theorem gstep_tutorref10_Same_4 (l_tutorref01_Same : {R : Type} → (List Int) → (List Int) → (Bool → Option R) → Option R) {R : Type} (g : List Item → St → Option R) (K : AV → List O → Option R) (a : List (Int × (List Int × List Int))) (b : List (Int × (List Int × List Int))) (i : Int) :
    runSeg Tryd.prog (T_tutorref10_Same @l_tutorref01_Same) cuts_tutorref10_Same 0 g (finish Tryd.prog Tryd.f12 0 K) (at' Tryd.f12 4) ⟨fr0 56 [(0, .rd ⟨false, 35, (.pr (.int .i64) (.pr (.sl 3 (.int .i64)) (.sl 3 (.int .i64)))), a⟩), (1, .rd ⟨false, 35, (.pr (.int .i64) (.pr (.sl 3 (.int .i64)) (.sl 3 (.int .i64)))), b⟩), (5, .v (.int .i64 i))], []⟩ =
    (fun (g12_4 : (List (Int × (List Int × List Int))) → (List (Int × (List Int × List Int))) → Int → Option R) (K0 : Bool → Option R) (a : List (Int × (List Int × List Int))) (b : List (Int × (List Int × List Int))) (i : Int) =>
    bi (decide (i < (a.length : Int)))
     (bi (decide (0 ≤ i ∧ i < ((a.length : Nat) : Int)))
      (bi (decide (0 ≤ i ∧ i < ((b.length : Nat) : Int)))
       (bi (((a.getD i.toNat (0, ([], []))).1) != ((b.getD i.toNat (0, ([], []))).1))
        (K0 false)
        (bi (decide (0 ≤ i ∧ i < ((a.length : Nat) : Int)))
         (bi (decide (0 ≤ i ∧ i < ((b.length : Nat) : Int)))
          (l_tutorref01_Same (((a.getD i.toNat (0, ([], []))).2).1) (((b.getD i.toNat (0, ([], []))).2).1)
           (fun r1 =>
            bi (!r1)
             (K0 false)
             (bi (decide (0 ≤ i ∧ i < ((a.length : Nat) : Int)))
              (bi (decide (0 ≤ i ∧ i < ((b.length : Nat) : Int)))
               (both
                (l_tutorref01_Same (((a.getD i.toNat (0, ([], []))).2).2) (((b.getD i.toNat (0, ([], []))).2).2)
                 (fun r2 =>
                  bi (!r2)
                   (K0 false)
                   (g12_4 a b (IntKind.i64.wrap (i + 1)))))
                (l_tutorref01_Same (((a.getD i.toNat (0, ([], []))).2).2) (((b.getD i.toNat (0, ([], []))).2).2)
                 (fun r3 =>
                  bi (!r3)
                   (K0 false)
                   (g12_4 a b (IntKind.i64.wrap (i + 1))))))
               none)
              none)))
          none)
         none))
       none)
      none)
     (K0 true)) (fun a b i => g (at' Tryd.f12 4) ⟨fr0 56 [(0, .rd ⟨false, 35, (.pr (.int .i64) (.pr (.sl 3 (.int .i64)) (.sl 3 (.int .i64)))), a⟩), (1, .rd ⟨false, 35, (.pr (.int .i64) (.pr (.sl 3 (.int .i64)) (.sl 3 (.int .i64)))), b⟩), (5, .v (.int .i64 i))], []⟩) (fun r0 => K (.v (.bool r0)) []) a b i := by kernel_rfl

theorem step_tutorref10_Same_4 {R : Type} (g : List Item → St → Option R) (K : AV → List O → Option R) (a : List (Int × (List Int × List Int))) (b : List (Int × (List Int × List Int))) (i : Int) :
    runSeg Tryd.prog (T_tutorref10_Same @l_tutorref01_Same) cuts_tutorref10_Same 0 g (finish Tryd.prog Tryd.f12 0 K) (at' Tryd.f12 4) ⟨fr0 56 [(0, .rd ⟨false, 35, (.pr (.int .i64) (.pr (.sl 3 (.int .i64)) (.sl 3 (.int .i64)))), a⟩), (1, .rd ⟨false, 35, (.pr (.int .i64) (.pr (.sl 3 (.int .i64)) (.sl 3 (.int .i64)))), b⟩), (5, .v (.int .i64 i))], []⟩ =
    s_tutorref10_Same_4 (fun a b i => g (at' Tryd.f12 4) ⟨fr0 56 [(0, .rd ⟨false, 35, (.pr (.int .i64) (.pr (.sl 3 (.int .i64)) (.sl 3 (.int .i64)))), a⟩), (1, .rd ⟨false, 35, (.pr (.int .i64) (.pr (.sl 3 (.int .i64)) (.sl 3 (.int .i64)))), b⟩), (5, .v (.int .i64 i))], []⟩) (fun r0 => K (.v (.bool r0)) []) a b i := gstep_tutorref10_Same_4 @l_tutorref01_Same g K a b i

theorem gentry_tutorref10_Same (l_tutorref01_Same : {R : Type} → (List Int) → (List Int) → (Bool → Option R) → Option R) {R : Type} (fuel : Nat) (K : AV → List O → Option R) (a : List (Int × (List Int × List Int))) (b : List (Int × (List Int × List Int))) :
    fnRun Tryd.prog (T_tutorref10_Same @l_tutorref01_Same) cuts_tutorref10_Same Tryd.f12 fuel [.rd ⟨false, 35, (.pr (.int .i64) (.pr (.sl 3 (.int .i64)) (.sl 3 (.int .i64)))), a⟩, .rd ⟨false, 35, (.pr (.int .i64) (.pr (.sl 3 (.int .i64)) (.sl 3 (.int .i64)))), b⟩] [] K =
    (fun (g12_4 : (List (Int × (List Int × List Int))) → (List (Int × (List Int × List Int))) → Int → Option R) (K0 : Bool → Option R) (a : List (Int × (List Int × List Int))) (b : List (Int × (List Int × List Int))) =>
    bi ((a.length : Int) != (b.length : Int))
     (K0 false)
     (g12_4 a b 0)) (fun a b i => (runO Tryd.prog (T_tutorref10_Same @l_tutorref01_Same) cuts_tutorref10_Same 0 (finish Tryd.prog Tryd.f12 0 K) fuel) (at' Tryd.f12 4) ⟨fr0 56 [(0, .rd ⟨false, 35, (.pr (.int .i64) (.pr (.sl 3 (.int .i64)) (.sl 3 (.int .i64)))), a⟩), (1, .rd ⟨false, 35, (.pr (.int .i64) (.pr (.sl 3 (.int .i64)) (.sl 3 (.int .i64)))), b⟩), (5, .v (.int .i64 i))], []⟩) (fun r0 => K (.v (.bool r0)) []) a b := by kernel_rfl

theorem entry_tutorref10_Same {R : Type} (fuel : Nat) (K : AV → List O → Option R) (a : List (Int × (List Int × List Int))) (b : List (Int × (List Int × List Int))) :
    fnRun Tryd.prog (T_tutorref10_Same @l_tutorref01_Same) cuts_tutorref10_Same Tryd.f12 fuel [.rd ⟨false, 35, (.pr (.int .i64) (.pr (.sl 3 (.int .i64)) (.sl 3 (.int .i64)))), a⟩, .rd ⟨false, 35, (.pr (.int .i64) (.pr (.sl 3 (.int .i64)) (.sl 3 (.int .i64)))), b⟩] [] K =
    e_tutorref10_Same (fun a b i => (runO Tryd.prog (T_tutorref10_Same @l_tutorref01_Same) cuts_tutorref10_Same 0 (finish Tryd.prog Tryd.f12 0 K) fuel) (at' Tryd.f12 4) ⟨fr0 56 [(0, .rd ⟨false, 35, (.pr (.int .i64) (.pr (.sl 3 (.int .i64)) (.sl 3 (.int .i64)))), a⟩), (1, .rd ⟨false, 35, (.pr (.int .i64) (.pr (.sl 3 (.int .i64)) (.sl 3 (.int .i64)))), b⟩), (5, .v (.int .i64 i))], []⟩) (fun r0 => K (.v (.bool r0)) []) a b := gentry_tutorref10_Same @l_tutorref01_Same fuel K a b

theorem runs_tutorref10_Same {R : Type} (K : AV → List O → Option R) : ∀ fuel : Nat,
    (fun a b i => (runO Tryd.prog (T_tutorref10_Same @l_tutorref01_Same) cuts_tutorref10_Same 0 (finish Tryd.prog Tryd.f12 0 K) fuel) (at' Tryd.f12 4) ⟨fr0 56 [(0, .rd ⟨false, 35, (.pr (.int .i64) (.pr (.sl 3 (.int .i64)) (.sl 3 (.int .i64)))), a⟩), (1, .rd ⟨false, 35, (.pr (.int .i64) (.pr (.sl 3 (.int .i64)) (.sl 3 (.int .i64)))), b⟩), (5, .v (.int .i64 i))], []⟩) = (run_tutorref10_Same (fun r0 => K (.v (.bool r0)) []) fuel)
  | 0 => rfl
  | fuel + 1 => by
    have ih := runs_tutorref10_Same K fuel
    funext a b i
    refine (step_tutorref10_Same_4 _ K a b i).trans ?_
    rw [ih]
    rfl

def S_tutorref10_Same (l_tutorref10_Same : {R : Type} → (List (Int × (List Int × List Int))) → (List (Int × (List Int × List Int))) → (Bool → Option R) → Option R) : Sum := ⟨[], fun {R} args ob K => match args, ob with
  | [.rd ⟨false, 35, (.pr (.int .i64) (.pr (.sl 3 (.int .i64)) (.sl 3 (.int .i64)))), a⟩, .rd ⟨false, 35, (.pr (.int .i64) (.pr (.sl 3 (.int .i64)) (.sl 3 (.int .i64)))), b⟩], [] => l_tutorref10_Same a b (fun r0 => K (.v (.bool r0)) [])
  | _, _ => none⟩

theorem sound_tutorref10_Same : Sound Tryd.prog 12 (S_tutorref10_Same @l_tutorref10_Same) := by
  refine fn_sound (cuts := cuts_tutorref10_Same) (fn := Tryd.f12) (Γ := (T_tutorref10_Same @l_tutorref01_Same)) wide right_T_tutorref10_Same Tryd.func12 fun {R} K r args ob h => ?_
  unfold S_tutorref10_Same at h
  dsimp only at h
  split at h
  · obtain ⟨n, hn⟩ := ok_tutorref10_Same _ _ _ h
    refine ⟨Nat.le_of_ble_eq_true (by kernel_rfl), n, (entry_tutorref10_Same n K _ _).trans ?_⟩
    rw [(runs_tutorref10_Same K n)]
    exact hn
  · cases h

theorem call_tutorref10_Same : Callable Tryd.prog 12 := ⟨_, Tryd.func12, by kernel_rfl, by kernel_rfl⟩

def T_tutorlaw10_TeachBack (l_tutorlaw10_live : {R : Type} → (Bool → Option R) → Option R) (l_tutorref08_Same : {R : Type} → (List Int) → (List Int) → (Bool → Option R) → Option R) (l_teach_Show : {R : Type} → (List (Int × (List Int × List Int))) → ((List Int) → Option R) → Option R) (l_tutorlaw10_num : {R : Type} → Int → (Int → Option R) → Option R) (l_teach_Parse : {R : Type} → (List Int) → (Int → Int → (List (Int × (List Int × List Int))) → Option R) → Option R) (l_tutorref10_Huge : {R : Type} → (List (Int × (List Int × List Int))) → Int → (Bool → Option R) → Option R) (l_tutorref10_Same : {R : Type} → (List (Int × (List Int × List Int))) → (List (Int × (List Int × List Int))) → (Bool → Option R) → Option R) : FuncId → Option Sum := (addS (addS (addS (addS (addS (addS (addS G0 6 (S_tutorlaw10_live @l_tutorlaw10_live)) 7 (S_tutorref08_Same @l_tutorref08_Same)) 8 (S_teach_Show @l_teach_Show)) 11 (S_tutorlaw10_num @l_tutorlaw10_num)) 10 (S_teach_Parse @l_teach_Parse)) 5 (S_tutorref10_Huge @l_tutorref10_Huge)) 12 (S_tutorref10_Same @l_tutorref10_Same))

theorem right_T_tutorlaw10_TeachBack : Right Tryd.prog (T_tutorlaw10_TeachBack @l_tutorlaw10_live @l_tutorref08_Same @l_teach_Show @l_tutorlaw10_num @l_teach_Parse @l_tutorref10_Huge @l_tutorref10_Same) := (right_add (right_add (right_add (right_add (right_add (right_add (right_add right_G0 call_tutorlaw10_live sound_tutorlaw10_live) call_tutorref08_Same sound_tutorref08_Same) call_teach_Show sound_teach_Show) call_tutorlaw10_num sound_tutorlaw10_num) call_teach_Parse sound_teach_Parse) call_tutorref10_Huge sound_tutorref10_Huge) call_tutorref10_Same sound_tutorref10_Same)

abbrev cuts_tutorlaw10_TeachBack : Cuts := [(8, [1, 8, 9]), (13, [1, 8, 9, 10, 11])]

theorem gstep_tutorlaw10_TeachBack_8 (l_tutorlaw10_live : {R : Type} → (Bool → Option R) → Option R) (l_tutorref08_Same : {R : Type} → (List Int) → (List Int) → (Bool → Option R) → Option R) (l_teach_Show : {R : Type} → (List (Int × (List Int × List Int))) → ((List Int) → Option R) → Option R) (l_tutorlaw10_num : {R : Type} → Int → (Int → Option R) → Option R) (l_teach_Parse : {R : Type} → (List Int) → (Int → Int → (List (Int × (List Int × List Int))) → Option R) → Option R) (l_tutorref10_Huge : {R : Type} → (List (Int × (List Int × List Int))) → Int → (Bool → Option R) → Option R) (l_tutorref10_Same : {R : Type} → (List (Int × (List Int × List Int))) → (List (Int × (List Int × List Int))) → (Bool → Option R) → Option R) {R : Type} (g : List Item → St → Option R) (K : AV → List O → Option R) (l : List (Int × (List Int × List Int))) (i : Int) (o0 : List (Int × (List Int × List Int))) :
    runSeg Tryd.prog (T_tutorlaw10_TeachBack @l_tutorlaw10_live @l_tutorref08_Same @l_teach_Show @l_tutorlaw10_num @l_teach_Parse @l_tutorref10_Huge @l_tutorref10_Same) cuts_tutorlaw10_TeachBack 0 g (finish Tryd.prog Tryd.f4 0 K) (at' Tryd.f4 8) ⟨fr0 118 [(1, .rd ⟨false, 35, (.pr (.int .i64) (.pr (.sl 3 (.int .i64)) (.sl 3 (.int .i64)))), l⟩), (8, .own 0), (9, .v (.int .i64 i))], [.row ⟨true, 35, (.pr (.int .i64) (.pr (.sl 3 (.int .i64)) (.sl 3 (.int .i64)))), o0⟩]⟩ =
    (fun (g4_8 : (List (Int × (List Int × List Int))) → Int → (List (Int × (List Int × List Int))) → Option R) (g4_13 : (List (Int × (List Int × List Int))) → Int → Int → (List (Int × (List Int × List Int))) → Int → (List Int) → (List Int) → Option R) (K0 : Bool → Option R) (l : List (Int × (List Int × List Int))) (i : Int) (o0 : List (Int × (List Int × List Int))) =>
    bi (decide (i < (l.length : Int)))
     (bi (decide (0 ≤ i ∧ i < ((l.length : Nat) : Int)))
      (bi (decide (0 ≤ i ∧ i < ((l.length : Nat) : Int)))
       (bi ((IntKind.i64.wrap (BitVec.ofInt 64 ((l.getD i.toNat (0, ([], []))).1) &&& BitVec.ofInt 64 1).toNat) == 0)
        (g4_13 l i 0 o0 (IntKind.i64.wrap (1 + (IntKind.i64.wrap (BitVec.ofInt 64 ((l.getD i.toNat (0, ([], []))).1) &&& BitVec.ofInt 64 1).toNat))) ([] : List Int) ([] : List Int))
        (bi (decide ((o0.length + [(IntKind.i64.wrap (1 + (IntKind.i64.wrap (BitVec.ofInt 64 ((l.getD i.toNat (0, ([], []))).1) &&& BitVec.ofInt 64 1).toNat)), (([] : List Int), ([] : List Int)))].length) * 56 ≤ lim))
         (g4_8 l (IntKind.i64.wrap (i + 1)) (o0 ++ [(IntKind.i64.wrap (1 + (IntKind.i64.wrap (BitVec.ofInt 64 ((l.getD i.toNat (0, ([], []))).1) &&& BitVec.ofInt 64 1).toNat)), (([] : List Int), ([] : List Int)))]))
         none))
       none)
      none)
     (l_teach_Show o0
      (fun r10 =>
       l_teach_Parse r10
        (fun r11 r12 r13 =>
         l_tutorlaw10_num r11
          (fun r14 =>
           bi (r14 == 0)
            (l_teach_Show o0
             (fun r15 =>
              bi (r12 == (r15.length : Int))
               (l_tutorref10_Same r13 o0
                (fun r16 =>
                 bi r16
                  (l_tutorlaw10_live
                   (fun r17 =>
                    K0 r17))
                  (K0 false)))
               (K0 false)))
            (K0 false)))))) (fun l i o0 => g (at' Tryd.f4 8) ⟨fr0 118 [(1, .rd ⟨false, 35, (.pr (.int .i64) (.pr (.sl 3 (.int .i64)) (.sl 3 (.int .i64)))), l⟩), (8, .own 0), (9, .v (.int .i64 i))], [.row ⟨true, 35, (.pr (.int .i64) (.pr (.sl 3 (.int .i64)) (.sl 3 (.int .i64)))), o0⟩]⟩) (fun l i k o0 o1 o2 o3 => g (at' Tryd.f4 13) ⟨fr0 118 [(1, .rd ⟨false, 35, (.pr (.int .i64) (.pr (.sl 3 (.int .i64)) (.sl 3 (.int .i64)))), l⟩), (8, .own 0), (9, .v (.int .i64 i)), (10, .ptr 1 0), (11, .v (.int .i64 k))], [.row ⟨true, 35, (.pr (.int .i64) (.pr (.sl 3 (.int .i64)) (.sl 3 (.int .i64)))), o0⟩, .box 35 [.v (.int .i64 o1), .own 2, .own 3], .row ⟨true, 3, (.int .i64), o2⟩, .row ⟨true, 3, (.int .i64), o3⟩]⟩) (fun r0 => K (.v (.bool r0)) []) l i o0 := by kernel_rfl

theorem step_tutorlaw10_TeachBack_8 {R : Type} (g : List Item → St → Option R) (K : AV → List O → Option R) (l : List (Int × (List Int × List Int))) (i : Int) (o0 : List (Int × (List Int × List Int))) :
    runSeg Tryd.prog (T_tutorlaw10_TeachBack @l_tutorlaw10_live @l_tutorref08_Same @l_teach_Show @l_tutorlaw10_num @l_teach_Parse @l_tutorref10_Huge @l_tutorref10_Same) cuts_tutorlaw10_TeachBack 0 g (finish Tryd.prog Tryd.f4 0 K) (at' Tryd.f4 8) ⟨fr0 118 [(1, .rd ⟨false, 35, (.pr (.int .i64) (.pr (.sl 3 (.int .i64)) (.sl 3 (.int .i64)))), l⟩), (8, .own 0), (9, .v (.int .i64 i))], [.row ⟨true, 35, (.pr (.int .i64) (.pr (.sl 3 (.int .i64)) (.sl 3 (.int .i64)))), o0⟩]⟩ =
    s_tutorlaw10_TeachBack_8 (fun l i o0 => g (at' Tryd.f4 8) ⟨fr0 118 [(1, .rd ⟨false, 35, (.pr (.int .i64) (.pr (.sl 3 (.int .i64)) (.sl 3 (.int .i64)))), l⟩), (8, .own 0), (9, .v (.int .i64 i))], [.row ⟨true, 35, (.pr (.int .i64) (.pr (.sl 3 (.int .i64)) (.sl 3 (.int .i64)))), o0⟩]⟩) (fun l i k o0 o1 o2 o3 => g (at' Tryd.f4 13) ⟨fr0 118 [(1, .rd ⟨false, 35, (.pr (.int .i64) (.pr (.sl 3 (.int .i64)) (.sl 3 (.int .i64)))), l⟩), (8, .own 0), (9, .v (.int .i64 i)), (10, .ptr 1 0), (11, .v (.int .i64 k))], [.row ⟨true, 35, (.pr (.int .i64) (.pr (.sl 3 (.int .i64)) (.sl 3 (.int .i64)))), o0⟩, .box 35 [.v (.int .i64 o1), .own 2, .own 3], .row ⟨true, 3, (.int .i64), o2⟩, .row ⟨true, 3, (.int .i64), o3⟩]⟩) (fun r0 => K (.v (.bool r0)) []) l i o0 := gstep_tutorlaw10_TeachBack_8 @l_tutorlaw10_live @l_tutorref08_Same @l_teach_Show @l_tutorlaw10_num @l_teach_Parse @l_tutorref10_Huge @l_tutorref10_Same g K l i o0

theorem gstep_tutorlaw10_TeachBack_13 (l_tutorlaw10_live : {R : Type} → (Bool → Option R) → Option R) (l_tutorref08_Same : {R : Type} → (List Int) → (List Int) → (Bool → Option R) → Option R) (l_teach_Show : {R : Type} → (List (Int × (List Int × List Int))) → ((List Int) → Option R) → Option R) (l_tutorlaw10_num : {R : Type} → Int → (Int → Option R) → Option R) (l_teach_Parse : {R : Type} → (List Int) → (Int → Int → (List (Int × (List Int × List Int))) → Option R) → Option R) (l_tutorref10_Huge : {R : Type} → (List (Int × (List Int × List Int))) → Int → (Bool → Option R) → Option R) (l_tutorref10_Same : {R : Type} → (List (Int × (List Int × List Int))) → (List (Int × (List Int × List Int))) → (Bool → Option R) → Option R) {R : Type} (g : List Item → St → Option R) (K : AV → List O → Option R) (l : List (Int × (List Int × List Int))) (i : Int) (k : Int) (o0 : List (Int × (List Int × List Int))) (o1 : Int) (o2 : List Int) (o3 : List Int) :
    runSeg Tryd.prog (T_tutorlaw10_TeachBack @l_tutorlaw10_live @l_tutorref08_Same @l_teach_Show @l_tutorlaw10_num @l_teach_Parse @l_tutorref10_Huge @l_tutorref10_Same) cuts_tutorlaw10_TeachBack 0 g (finish Tryd.prog Tryd.f4 0 K) (at' Tryd.f4 13) ⟨fr0 118 [(1, .rd ⟨false, 35, (.pr (.int .i64) (.pr (.sl 3 (.int .i64)) (.sl 3 (.int .i64)))), l⟩), (8, .own 0), (9, .v (.int .i64 i)), (10, .ptr 1 0), (11, .v (.int .i64 k))], [.row ⟨true, 35, (.pr (.int .i64) (.pr (.sl 3 (.int .i64)) (.sl 3 (.int .i64)))), o0⟩, .box 35 [.v (.int .i64 o1), .own 2, .own 3], .row ⟨true, 3, (.int .i64), o2⟩, .row ⟨true, 3, (.int .i64), o3⟩]⟩ =
    (fun (g4_8 : (List (Int × (List Int × List Int))) → Int → (List (Int × (List Int × List Int))) → Option R) (g4_13 : (List (Int × (List Int × List Int))) → Int → Int → (List (Int × (List Int × List Int))) → Int → (List Int) → (List Int) → Option R) (K0 : Bool → Option R) (l : List (Int × (List Int × List Int))) (i : Int) (k : Int) (o0 : List (Int × (List Int × List Int))) (o1 : Int) (o2 : List Int) (o3 : List Int) =>
    bi (decide (0 ≤ i ∧ i < ((l.length : Nat) : Int)))
     (bi (decide (k < ((((l.getD i.toNat (0, ([], []))).2).1).length : Int)))
      (bi (decide (0 ≤ i ∧ i < ((l.length : Nat) : Int)))
       (bi (decide (0 ≤ k ∧ k < (((((l.getD i.toNat (0, ([], []))).2).1).length : Nat) : Int)))
        (bi (decide ((o2.length + [IntKind.i64.wrap (BitVec.ofInt 64 ((((l.getD i.toNat (0, ([], []))).2).1).getD k.toNat 0) &&& BitVec.ofInt 64 1023).toNat].length) * 8 ≤ lim))
         (g4_13 l i (IntKind.i64.wrap (k + 1)) o0 o1 (o2 ++ [IntKind.i64.wrap (BitVec.ofInt 64 ((((l.getD i.toNat (0, ([], []))).2).1).getD k.toNat 0) &&& BitVec.ofInt 64 1023).toNat]) o3)
         none)
        none)
       none)
      (bi (decide ((o0.length + [(o1, (o2, o3))].length) * 56 ≤ lim))
       (g4_8 l (IntKind.i64.wrap (i + 1)) (o0 ++ [(o1, (o2, o3))]))
       none))
     none) (fun l i o0 => g (at' Tryd.f4 8) ⟨fr0 118 [(1, .rd ⟨false, 35, (.pr (.int .i64) (.pr (.sl 3 (.int .i64)) (.sl 3 (.int .i64)))), l⟩), (8, .own 0), (9, .v (.int .i64 i))], [.row ⟨true, 35, (.pr (.int .i64) (.pr (.sl 3 (.int .i64)) (.sl 3 (.int .i64)))), o0⟩]⟩) (fun l i k o0 o1 o2 o3 => g (at' Tryd.f4 13) ⟨fr0 118 [(1, .rd ⟨false, 35, (.pr (.int .i64) (.pr (.sl 3 (.int .i64)) (.sl 3 (.int .i64)))), l⟩), (8, .own 0), (9, .v (.int .i64 i)), (10, .ptr 1 0), (11, .v (.int .i64 k))], [.row ⟨true, 35, (.pr (.int .i64) (.pr (.sl 3 (.int .i64)) (.sl 3 (.int .i64)))), o0⟩, .box 35 [.v (.int .i64 o1), .own 2, .own 3], .row ⟨true, 3, (.int .i64), o2⟩, .row ⟨true, 3, (.int .i64), o3⟩]⟩) (fun r0 => K (.v (.bool r0)) []) l i k o0 o1 o2 o3 := by kernel_rfl

theorem step_tutorlaw10_TeachBack_13 {R : Type} (g : List Item → St → Option R) (K : AV → List O → Option R) (l : List (Int × (List Int × List Int))) (i : Int) (k : Int) (o0 : List (Int × (List Int × List Int))) (o1 : Int) (o2 : List Int) (o3 : List Int) :
    runSeg Tryd.prog (T_tutorlaw10_TeachBack @l_tutorlaw10_live @l_tutorref08_Same @l_teach_Show @l_tutorlaw10_num @l_teach_Parse @l_tutorref10_Huge @l_tutorref10_Same) cuts_tutorlaw10_TeachBack 0 g (finish Tryd.prog Tryd.f4 0 K) (at' Tryd.f4 13) ⟨fr0 118 [(1, .rd ⟨false, 35, (.pr (.int .i64) (.pr (.sl 3 (.int .i64)) (.sl 3 (.int .i64)))), l⟩), (8, .own 0), (9, .v (.int .i64 i)), (10, .ptr 1 0), (11, .v (.int .i64 k))], [.row ⟨true, 35, (.pr (.int .i64) (.pr (.sl 3 (.int .i64)) (.sl 3 (.int .i64)))), o0⟩, .box 35 [.v (.int .i64 o1), .own 2, .own 3], .row ⟨true, 3, (.int .i64), o2⟩, .row ⟨true, 3, (.int .i64), o3⟩]⟩ =
    s_tutorlaw10_TeachBack_13 (fun l i o0 => g (at' Tryd.f4 8) ⟨fr0 118 [(1, .rd ⟨false, 35, (.pr (.int .i64) (.pr (.sl 3 (.int .i64)) (.sl 3 (.int .i64)))), l⟩), (8, .own 0), (9, .v (.int .i64 i))], [.row ⟨true, 35, (.pr (.int .i64) (.pr (.sl 3 (.int .i64)) (.sl 3 (.int .i64)))), o0⟩]⟩) (fun l i k o0 o1 o2 o3 => g (at' Tryd.f4 13) ⟨fr0 118 [(1, .rd ⟨false, 35, (.pr (.int .i64) (.pr (.sl 3 (.int .i64)) (.sl 3 (.int .i64)))), l⟩), (8, .own 0), (9, .v (.int .i64 i)), (10, .ptr 1 0), (11, .v (.int .i64 k))], [.row ⟨true, 35, (.pr (.int .i64) (.pr (.sl 3 (.int .i64)) (.sl 3 (.int .i64)))), o0⟩, .box 35 [.v (.int .i64 o1), .own 2, .own 3], .row ⟨true, 3, (.int .i64), o2⟩, .row ⟨true, 3, (.int .i64), o3⟩]⟩) (fun r0 => K (.v (.bool r0)) []) l i k o0 o1 o2 o3 := gstep_tutorlaw10_TeachBack_13 @l_tutorlaw10_live @l_tutorref08_Same @l_teach_Show @l_tutorlaw10_num @l_teach_Parse @l_tutorref10_Huge @l_tutorref10_Same g K l i k o0 o1 o2 o3

theorem gentry_tutorlaw10_TeachBack (l_tutorlaw10_live : {R : Type} → (Bool → Option R) → Option R) (l_tutorref08_Same : {R : Type} → (List Int) → (List Int) → (Bool → Option R) → Option R) (l_teach_Show : {R : Type} → (List (Int × (List Int × List Int))) → ((List Int) → Option R) → Option R) (l_tutorlaw10_num : {R : Type} → Int → (Int → Option R) → Option R) (l_teach_Parse : {R : Type} → (List Int) → (Int → Int → (List (Int × (List Int × List Int))) → Option R) → Option R) (l_tutorref10_Huge : {R : Type} → (List (Int × (List Int × List Int))) → Int → (Bool → Option R) → Option R) (l_tutorref10_Same : {R : Type} → (List (Int × (List Int × List Int))) → (List (Int × (List Int × List Int))) → (Bool → Option R) → Option R) {R : Type} (fuel : Nat) (K : AV → List O → Option R) (b : List Int) (l : List (Int × (List Int × List Int))) :
    fnRun Tryd.prog (T_tutorlaw10_TeachBack @l_tutorlaw10_live @l_tutorref08_Same @l_teach_Show @l_tutorlaw10_num @l_teach_Parse @l_tutorref10_Huge @l_tutorref10_Same) cuts_tutorlaw10_TeachBack Tryd.f4 fuel [.rd ⟨false, 5, (.int .u8), b⟩, .rd ⟨false, 35, (.pr (.int .i64) (.pr (.sl 3 (.int .i64)) (.sl 3 (.int .i64)))), l⟩] [] K =
    (fun (g4_8 : (List (Int × (List Int × List Int))) → Int → (List (Int × (List Int × List Int))) → Option R) (g4_13 : (List (Int × (List Int × List Int))) → Int → Int → (List (Int × (List Int × List Int))) → Int → (List Int) → (List Int) → Option R) (K0 : Bool → Option R) (b : List Int) (l : List (Int × (List Int × List Int))) =>
    bi (decide ((b.length : Int) > 20000))
     (l_tutorlaw10_live
      (fun r1 =>
       K0 r1))
     (l_tutorref10_Huge l 4000
      (fun r2 =>
       bi r2
        (l_tutorlaw10_live
         (fun r3 =>
          K0 r3))
        (l_teach_Parse b
         (fun r4 r5 r6 =>
          l_tutorlaw10_num r4
           (fun r7 =>
            bi (r7 == 0)
             (bi (r5 != (b.length : Int))
              (K0 false)
              (l_teach_Show r6
               (fun r8 =>
                l_tutorref08_Same r8 b
                 (fun r9 =>
                  bi (!r9)
                   (K0 false)
                   (g4_8 l 0 ([] : List (Int × (List Int × List Int))))))))
             (g4_8 l 0 ([] : List (Int × (List Int × List Int)))))))))) (fun l i o0 => (runO Tryd.prog (T_tutorlaw10_TeachBack @l_tutorlaw10_live @l_tutorref08_Same @l_teach_Show @l_tutorlaw10_num @l_teach_Parse @l_tutorref10_Huge @l_tutorref10_Same) cuts_tutorlaw10_TeachBack 0 (finish Tryd.prog Tryd.f4 0 K) fuel) (at' Tryd.f4 8) ⟨fr0 118 [(1, .rd ⟨false, 35, (.pr (.int .i64) (.pr (.sl 3 (.int .i64)) (.sl 3 (.int .i64)))), l⟩), (8, .own 0), (9, .v (.int .i64 i))], [.row ⟨true, 35, (.pr (.int .i64) (.pr (.sl 3 (.int .i64)) (.sl 3 (.int .i64)))), o0⟩]⟩) (fun l i k o0 o1 o2 o3 => (runO Tryd.prog (T_tutorlaw10_TeachBack @l_tutorlaw10_live @l_tutorref08_Same @l_teach_Show @l_tutorlaw10_num @l_teach_Parse @l_tutorref10_Huge @l_tutorref10_Same) cuts_tutorlaw10_TeachBack 0 (finish Tryd.prog Tryd.f4 0 K) fuel) (at' Tryd.f4 13) ⟨fr0 118 [(1, .rd ⟨false, 35, (.pr (.int .i64) (.pr (.sl 3 (.int .i64)) (.sl 3 (.int .i64)))), l⟩), (8, .own 0), (9, .v (.int .i64 i)), (10, .ptr 1 0), (11, .v (.int .i64 k))], [.row ⟨true, 35, (.pr (.int .i64) (.pr (.sl 3 (.int .i64)) (.sl 3 (.int .i64)))), o0⟩, .box 35 [.v (.int .i64 o1), .own 2, .own 3], .row ⟨true, 3, (.int .i64), o2⟩, .row ⟨true, 3, (.int .i64), o3⟩]⟩) (fun r0 => K (.v (.bool r0)) []) b l := by kernel_rfl

theorem entry_tutorlaw10_TeachBack {R : Type} (fuel : Nat) (K : AV → List O → Option R) (b : List Int) (l : List (Int × (List Int × List Int))) :
    fnRun Tryd.prog (T_tutorlaw10_TeachBack @l_tutorlaw10_live @l_tutorref08_Same @l_teach_Show @l_tutorlaw10_num @l_teach_Parse @l_tutorref10_Huge @l_tutorref10_Same) cuts_tutorlaw10_TeachBack Tryd.f4 fuel [.rd ⟨false, 5, (.int .u8), b⟩, .rd ⟨false, 35, (.pr (.int .i64) (.pr (.sl 3 (.int .i64)) (.sl 3 (.int .i64)))), l⟩] [] K =
    e_tutorlaw10_TeachBack (fun l i o0 => (runO Tryd.prog (T_tutorlaw10_TeachBack @l_tutorlaw10_live @l_tutorref08_Same @l_teach_Show @l_tutorlaw10_num @l_teach_Parse @l_tutorref10_Huge @l_tutorref10_Same) cuts_tutorlaw10_TeachBack 0 (finish Tryd.prog Tryd.f4 0 K) fuel) (at' Tryd.f4 8) ⟨fr0 118 [(1, .rd ⟨false, 35, (.pr (.int .i64) (.pr (.sl 3 (.int .i64)) (.sl 3 (.int .i64)))), l⟩), (8, .own 0), (9, .v (.int .i64 i))], [.row ⟨true, 35, (.pr (.int .i64) (.pr (.sl 3 (.int .i64)) (.sl 3 (.int .i64)))), o0⟩]⟩) (fun l i k o0 o1 o2 o3 => (runO Tryd.prog (T_tutorlaw10_TeachBack @l_tutorlaw10_live @l_tutorref08_Same @l_teach_Show @l_tutorlaw10_num @l_teach_Parse @l_tutorref10_Huge @l_tutorref10_Same) cuts_tutorlaw10_TeachBack 0 (finish Tryd.prog Tryd.f4 0 K) fuel) (at' Tryd.f4 13) ⟨fr0 118 [(1, .rd ⟨false, 35, (.pr (.int .i64) (.pr (.sl 3 (.int .i64)) (.sl 3 (.int .i64)))), l⟩), (8, .own 0), (9, .v (.int .i64 i)), (10, .ptr 1 0), (11, .v (.int .i64 k))], [.row ⟨true, 35, (.pr (.int .i64) (.pr (.sl 3 (.int .i64)) (.sl 3 (.int .i64)))), o0⟩, .box 35 [.v (.int .i64 o1), .own 2, .own 3], .row ⟨true, 3, (.int .i64), o2⟩, .row ⟨true, 3, (.int .i64), o3⟩]⟩) (fun r0 => K (.v (.bool r0)) []) b l := gentry_tutorlaw10_TeachBack @l_tutorlaw10_live @l_tutorref08_Same @l_teach_Show @l_tutorlaw10_num @l_teach_Parse @l_tutorref10_Huge @l_tutorref10_Same fuel K b l

theorem runs_tutorlaw10_TeachBack {R : Type} (K : AV → List O → Option R) : ∀ fuel : Nat,
    (fun l i o0 => (runO Tryd.prog (T_tutorlaw10_TeachBack @l_tutorlaw10_live @l_tutorref08_Same @l_teach_Show @l_tutorlaw10_num @l_teach_Parse @l_tutorref10_Huge @l_tutorref10_Same) cuts_tutorlaw10_TeachBack 0 (finish Tryd.prog Tryd.f4 0 K) fuel) (at' Tryd.f4 8) ⟨fr0 118 [(1, .rd ⟨false, 35, (.pr (.int .i64) (.pr (.sl 3 (.int .i64)) (.sl 3 (.int .i64)))), l⟩), (8, .own 0), (9, .v (.int .i64 i))], [.row ⟨true, 35, (.pr (.int .i64) (.pr (.sl 3 (.int .i64)) (.sl 3 (.int .i64)))), o0⟩]⟩) = (run_tutorlaw10_TeachBack (fun r0 => K (.v (.bool r0)) []) fuel).1 ∧
    (fun l i k o0 o1 o2 o3 => (runO Tryd.prog (T_tutorlaw10_TeachBack @l_tutorlaw10_live @l_tutorref08_Same @l_teach_Show @l_tutorlaw10_num @l_teach_Parse @l_tutorref10_Huge @l_tutorref10_Same) cuts_tutorlaw10_TeachBack 0 (finish Tryd.prog Tryd.f4 0 K) fuel) (at' Tryd.f4 13) ⟨fr0 118 [(1, .rd ⟨false, 35, (.pr (.int .i64) (.pr (.sl 3 (.int .i64)) (.sl 3 (.int .i64)))), l⟩), (8, .own 0), (9, .v (.int .i64 i)), (10, .ptr 1 0), (11, .v (.int .i64 k))], [.row ⟨true, 35, (.pr (.int .i64) (.pr (.sl 3 (.int .i64)) (.sl 3 (.int .i64)))), o0⟩, .box 35 [.v (.int .i64 o1), .own 2, .own 3], .row ⟨true, 3, (.int .i64), o2⟩, .row ⟨true, 3, (.int .i64), o3⟩]⟩) = (run_tutorlaw10_TeachBack (fun r0 => K (.v (.bool r0)) []) fuel).2
  | 0 => ⟨rfl, rfl⟩
  | fuel + 1 => by
    have ih := runs_tutorlaw10_TeachBack K fuel
    refine ⟨?_, ?_⟩
    · funext l i o0
      refine (step_tutorlaw10_TeachBack_8 _ K l i o0).trans ?_
      rw [ih.1, ih.2]
      rfl
    · funext l i k o0 o1 o2 o3
      refine (step_tutorlaw10_TeachBack_13 _ K l i k o0 o1 o2 o3).trans ?_
      rw [ih.1, ih.2]
      rfl

def S_tutorlaw10_TeachBack (l_tutorlaw10_TeachBack : {R : Type} → (List Int) → (List (Int × (List Int × List Int))) → (Bool → Option R) → Option R) : Sum := ⟨[], fun {R} args ob K => match args, ob with
  | [.rd ⟨false, 5, (.int .u8), b⟩, .rd ⟨false, 35, (.pr (.int .i64) (.pr (.sl 3 (.int .i64)) (.sl 3 (.int .i64)))), l⟩], [] => l_tutorlaw10_TeachBack b l (fun r0 => K (.v (.bool r0)) [])
  | _, _ => none⟩

theorem sound_tutorlaw10_TeachBack : Sound Tryd.prog 4 (S_tutorlaw10_TeachBack @l_tutorlaw10_TeachBack) := by
  refine fn_sound (cuts := cuts_tutorlaw10_TeachBack) (fn := Tryd.f4) (Γ := (T_tutorlaw10_TeachBack @l_tutorlaw10_live @l_tutorref08_Same @l_teach_Show @l_tutorlaw10_num @l_teach_Parse @l_tutorref10_Huge @l_tutorref10_Same)) wide right_T_tutorlaw10_TeachBack Tryd.func4 fun {R} K r args ob h => ?_
  unfold S_tutorlaw10_TeachBack at h
  dsimp only at h
  split at h
  · obtain ⟨n, hn⟩ := ok_tutorlaw10_TeachBack _ _ _ h
    refine ⟨Nat.le_of_ble_eq_true (by kernel_rfl), n, (entry_tutorlaw10_TeachBack n K _ _).trans ?_⟩
    rw [(runs_tutorlaw10_TeachBack K n).1, (runs_tutorlaw10_TeachBack K n).2]
    exact hn
  · cases h

theorem call_tutorlaw10_TeachBack : Callable Tryd.prog 4 := ⟨_, Tryd.func4, by kernel_rfl, by kernel_rfl⟩

end
end Go.Ev
