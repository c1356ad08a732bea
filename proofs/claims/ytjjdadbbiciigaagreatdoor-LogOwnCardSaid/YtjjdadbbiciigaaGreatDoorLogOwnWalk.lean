/- Each function of the program is its tree. -/
import Derived.Test.YtjjdadbbiciigaaGreatDoorProg
import Derived.Test.YtjjdadbbiciigaaGreatDoorPoEvFn
import Derived.Test.YtjjdadbbiciigaaGreatDoorPoEvTabs
import Derived.Test.YtjjdadbbiciigaaGreatDoorPoEvSrch
import Derived.Test.YtjjdadbbiciigaaGreatDoorPoEvLay9
import Derived.Test.YtjjdadbbiciigaaGreatDoorPoEvExpA9
import Derived.Test.YtjjdadbbiciigaaGreatDoorPoEvExpB9
import Derived.Test.YtjjdadbbiciigaaGreatDoorPoEvExpC9
import Derived.Test.YtjjdadbbiciigaaGreatDoorPoEvExpD9
import Derived.Test.YtjjdadbbiciigaaGreatDoorPoEvExpE9
import Derived.Test.YtjjdadbbiciigaaGreatDoorPoEvAs9
import Derived.Test.YtjjdadbbiciigaaGreatDoorPoEvAsE9
import Derived.Test.YtjjdadbbiciigaaGreatDoorLogOwnPure
namespace Go.Ev
open Go.Proofs
noncomputable section
set_option linter.unusedVariables false
set_option linter.unusedSimpArgs false
set_option maxRecDepth 100000
set_option maxHeartbeats 4000000

variable [TabG] [TabsHold Tryz.prog] [CellHold ⟨1, 0, none⟩ (.iface 194 (.agg #[.pointer (some ⟨6, 143, none⟩)]))] [IntHold ⟨0, 0, none⟩]
set_option linter.unusedSectionVars false

theorem wide : Tables.follows Tryz.prog.toTables .mixedOrders = true := by kernel_rfl

def G0 : FuncId -> Option Sum := fun _ => none
theorem right_G0 : Right Tryz.prog G0 := fun f S h => by cases h


def S_q0 (l_q0 : LT_q0) : Sum := ⟨[], fun {R} args ob K => match args, ob with
 |[.rd ⟨false, _, .int .u8, xs⟩, .rd ⟨false, _, .int .u8, ys⟩], [] => l_q0 xs ys (fun r0 => K (.v (.int .i64 r0)) [])
 |_, _ => none⟩

theorem nilI_q0 {R : Type} (K : AV -> List O -> Option R) (y0 y1 : Int) (e1 e : TypeId) :
  fnRun Tryz.prog G0 [] Tryz.f63 0 [.rd ⟨false, e1, .int .u8, []⟩, .rd ⟨false, e, .int .u8, [y0, y1]⟩] [] K = K (.v (.int .i64 (-1))) [] := by kernel_rfl

theorem nilC_q0 {R : Type} (K : AV -> List O -> Option R) (y0 y1 : Int) (e1 e : TypeId) :
  fnRun Tryz.prog (addS G0 63 S_nilIndex) [] Tryz.f39 0 [.rd ⟨false, e1, .int .u8, []⟩, .rd ⟨false, e, .int .u8, [y0, y1]⟩] [] K = K (.v (.int .i64 0)) [] := by kernel_rfl

theorem sound_nil_bytes_Count : Sound Tryz.prog 39 S_nilCount := by
 have hI : Sound Tryz.prog 63 S_nilIndex := by
  refine fn_sound (cuts := []) (fn := Tryz.f63) (Γ := G0) wide right_G0 Tryz.func63 fun {R} K r args ob h => ?_
  unfold S_nilIndex at h
  dsimp only at h
  split at h
  ·exact ⟨Nat.le_of_ble_eq_true (by kernel_rfl), 0, (nilI_q0 K _ _ _ _).trans h⟩
  ·cases h
 have hc : Callable Tryz.prog 63 := ⟨_, Tryz.func63, by kernel_rfl, by kernel_rfl⟩
 have hΓ : Right Tryz.prog (addS G0 63 S_nilIndex) := right_add right_G0 hc hI
 have hF : ∀ {R : Type} (K : AV -> List O -> Option R) (r : R) (args : List AV) (ob : List O), S_nilCount.run args ob K = some r -> args.length ≤ Tryz.f39.ntmps ∧ ∃ n, fnRun Tryz.prog (addS G0 63 S_nilIndex) [] Tryz.f39 n args ob K = some r := by
  intro R K r args ob h
  unfold S_nilCount at h
  dsimp only at h
  split at h
  ·exact ⟨Nat.le_of_ble_eq_true (by kernel_rfl), 0, (nilC_q0 K _ _ _ _).trans h⟩
  ·cases h
 intro R K r args ob h vals w β rho pb disj hW hr
 exact fn_sound (S := S_nilCount) (cuts := []) (fn := Tryz.f39) (Γ := addS G0 63 S_nilIndex) wide hΓ Tryz.func39 (fun {R} => hF) K r args ob h vals w β rho pb disj hW hr

theorem sound_q0 : Sound Tryz.prog 39 (S_q0 @l_q0) := sound_Count (g := 0) Tryz.laysC13 rfl rfl inferInstance sound_nil_bytes_Count

theorem call_q0 : Callable Tryz.prog 39 := ⟨_, Tryz.func39, by kernel_rfl, by kernel_rfl⟩

def T_q1 : FuncId -> Option Sum := G0

theorem right_T_q1 : Right Tryz.prog T_q1 := right_G0

abbrev cuts_q1 : Cuts := [(1, [0, 1, 4])]

abbrev k0_q1 {R : Type} (K : AV -> List O -> Option R) : (List Int) -> Int -> Int -> Option R := fun r0 r1 r2 => K (.tup []) [.box 87 [rb 5 r0, iv r1, iv r2]]

abbrev sta_q1_1 (s : ByteArray) (i : Int) (o0 : List Int) (o0_1 o0_2 : Int) : St := ⟨fr0 54 [(0, .ptr 0 0), (1, .v (.string s)), (4, iv i)], [.box 87 [rb 5 o0, iv o0_1, iv o0_2]]⟩

abbrev gt_q1_1 {R : Type} (g : List Item -> St -> Option R) : GT_q1_1 R := fun (s : ByteArray) (i : Int) (o0 : List Int) (o0_1 o0_2 : Int) => g (at' Tryz.f64 1) (sta_q1_1 s i o0 o0_1 o0_2)

theorem gstep_q1_1 {R : Type} (g : List Item -> St -> Option R) (K : AV -> List O -> Option R) (s : ByteArray) (i : Int) (o0 : List Int) (o0_1 o0_2 : Int) :
  runSeg Tryz.prog T_q1 cuts_q1 1 g (finish Tryz.prog Tryz.f64 1 K) (at' Tryz.f64 1) (sta_q1_1 s i o0 o0_1 o0_2) =
  s_q1_1 (gt_q1_1 g) (k0_q1 K) s i o0 o0_1 o0_2 := by kernel_rfl

theorem gentry_q1 {R : Type} (fuel : Nat) (K : AV -> List O -> Option R) (s : ByteArray) (o0 : List Int) (o0_1 o0_2 : Int) :
  fnRun Tryz.prog T_q1 cuts_q1 Tryz.f64 fuel [.ptr 0 0, .v (.string s)] [.box 87 [rb 5 o0, iv o0_1, iv o0_2]] K =
  e_q1 (gt_q1_1 (runO Tryz.prog T_q1 cuts_q1 1 (finish Tryz.prog Tryz.f64 1 K) fuel)) (k0_q1 K) s o0 o0_1 o0_2 := by kernel_rfl

theorem runs_q1 {R : Type} (K : AV -> List O -> Option R) : ∀ fuel : Nat,
  (gt_q1_1 (runO Tryz.prog T_q1 cuts_q1 1 (finish Tryz.prog Tryz.f64 1 K) fuel)) = (run_q1 (k0_q1 K) fuel)
 |0 => rfl
 |fuel + 1 => by
  have ih := runs_q1 K fuel
  funext s i o0 o0_1 o0_2
  refine (gstep_q1_1 _ K s i o0 o0_1 o0_2).trans ?_
  rw [ih]
  rfl

def S_q1 (l_q1 : LT_q1) : Sum := ⟨[], fun {R} args ob K => match args, ob with
 |[.ptr 0 0, .v (.string s)], [.box 87 [.rd ⟨false, 5, (.int .u8), o0⟩, .v (.int .i64 o0_1), .v (.int .i64 o0_2)]] => l_q1 s o0 o0_1 o0_2 (k0_q1 K)
 |_, _ => none⟩

theorem sound_q1 : Sound Tryz.prog 64 (S_q1 @l_q1) := by
 refine fn_sound (cuts := cuts_q1) (fn := Tryz.f64) (Γ := T_q1) wide right_T_q1 Tryz.func64 fun {R} K r args ob h => ?_
 unfold S_q1 at h
 dsimp only at h
 split at h
 ·obtain ⟨n, hn⟩ := evl_ok h
  refine ⟨Nat.le_of_ble_eq_true (by kernel_rfl), n, (gentry_q1 n K _ _ _ _).trans ?_⟩
  rw [(runs_q1 K n)]
  exact hn
 ·cases h

theorem call_q1 : Callable Tryz.prog 64 := ⟨_, Tryz.func64, by kernel_rfl, by kernel_rfl⟩

def T_q2 : FuncId -> Option Sum := G0

theorem right_T_q2 : Right Tryz.prog T_q2 := right_G0

abbrev cuts_q2 : Cuts := []

abbrev k0_q2 {R : Type} (K : AV -> List O -> Option R) : Bool -> Option R := fun r0 => K (.v (.bool r0)) []

theorem gentry_q2 {R : Type} (K : AV -> List O -> Option R) (a b : List Int) :
  fnRun Tryz.prog T_q2 cuts_q2 Tryz.f83 0 [rb 5 a, rb 5 b] [] K =
  l_q2 a b (k0_q2 K) := by kernel_rfl

def S_q2 (l_q2 : LT_q2) : Sum := ⟨[], fun {R} args ob K => match args, ob with
 |[.rd ⟨false, 5, (.int .u8), a⟩, .rd ⟨false, 5, (.int .u8), b⟩], [] => l_q2 a b (k0_q2 K)
 |_, _ => none⟩

theorem sound_q2 : Sound Tryz.prog 83 (S_q2 @l_q2) := by
 refine fn_sound (cuts := cuts_q2) (fn := Tryz.f83) (Γ := T_q2) wide right_T_q2 Tryz.func83 fun {R} K r args ob h => ?_
 unfold S_q2 at h
 dsimp only at h
 split at h
 ·exact ⟨Nat.le_of_ble_eq_true (by kernel_rfl), 0, (gentry_q2 K _ _).trans h⟩
 ·cases h

theorem call_q2 : Callable Tryz.prog 83 := ⟨_, Tryz.func83, by kernel_rfl, by kernel_rfl⟩

def T_q3 (a0 : LT_q2) : FuncId -> Option Sum := (addS G0 83 (S_q2 @a0))

abbrev C_q3 : FuncId -> Option Sum := T_q3 @l_q2

theorem right_T_q3 : Right Tryz.prog C_q3 := (right_add right_G0 call_q2 sound_q2)

abbrev cuts_q3 : Cuts := []

abbrev k0_q3 {R : Type} (K : AV -> List O -> Option R) : Bool -> Option R := fun r0 => K (.v (.bool r0)) []

theorem gentry_q3 {a0 : LT_q2} {R : Type} (K : AV -> List O -> Option R) (s vprefix : List Int) :
  fnRun Tryz.prog (T_q3 @a0) cuts_q3 Tryz.f66 0 [rb 5 s, rb 5 vprefix] [] K =
  gl_q3 @a0 s vprefix (k0_q3 K) := by kernel_rfl

def S_q3 (l_q3 : LT_q3) : Sum := ⟨[], fun {R} args ob K => match args, ob with
 |[.rd ⟨false, 5, (.int .u8), s⟩, .rd ⟨false, 5, (.int .u8), vprefix⟩], [] => l_q3 s vprefix (k0_q3 K)
 |_, _ => none⟩

theorem sound_q3 : Sound Tryz.prog 66 (S_q3 @l_q3) := by
 refine fn_sound (cuts := cuts_q3) (fn := Tryz.f66) (Γ := C_q3) wide right_T_q3 Tryz.func66 fun {R} K r args ob h => ?_
 unfold S_q3 at h
 dsimp only at h
 split at h
 ·exact ⟨Nat.le_of_ble_eq_true (by kernel_rfl), 0, (gentry_q3 K _ _).trans h⟩
 ·cases h

theorem call_q3 : Callable Tryz.prog 66 := ⟨_, Tryz.func66, by kernel_rfl, by kernel_rfl⟩

def T_q4 (a0 : LT_q3) : FuncId -> Option Sum := (addS G0 66 (S_q3 @a0))

abbrev C_q4 : FuncId -> Option Sum := T_q4 @l_q3

theorem right_T_q4 : Right Tryz.prog C_q4 := (right_add right_G0 call_q3 sound_q3)

abbrev cuts_q4 : Cuts := []

abbrev k0_q4 {R : Type} (K : AV -> List O -> Option R) : Bool -> (List Int) -> Int -> Int -> Option R := fun r0 r1 r2 r3 => K (.v (.bool r0)) [.box 87 [rb 5 r1, iv r2, iv r3]]

theorem gentry_q4 {a0 : LT_q3} {R : Type} (K : AV -> List O -> Option R) (s : ByteArray) (o0 : List Int) (o0_1 o0_2 : Int) :
  fnRun Tryz.prog (T_q4 @a0) cuts_q4 Tryz.f41 0 [.ptr 0 0, .v (.string s)] [.box 87 [rb 5 o0, iv o0_1, iv o0_2]] K =
  gl_q4 @a0 s o0 o0_1 o0_2 (k0_q4 K) := by kernel_rfl

def S_q4 (l_q4 : LT_q4) : Sum := ⟨[], fun {R} args ob K => match args, ob with
 |[.ptr 0 0, .v (.string s)], [.box 87 [.rd ⟨false, 5, (.int .u8), o0⟩, .v (.int .i64 o0_1), .v (.int .i64 o0_2)]] => l_q4 s o0 o0_1 o0_2 (k0_q4 K)
 |_, _ => none⟩

theorem sound_q4 : Sound Tryz.prog 41 (S_q4 @l_q4) := by
 refine fn_sound (cuts := cuts_q4) (fn := Tryz.f41) (Γ := C_q4) wide right_T_q4 Tryz.func41 fun {R} K r args ob h => ?_
 unfold S_q4 at h
 dsimp only at h
 split at h
 ·exact ⟨Nat.le_of_ble_eq_true (by kernel_rfl), 0, (gentry_q4 K _ _ _ _).trans h⟩
 ·cases h

theorem call_q4 : Callable Tryz.prog 41 := ⟨_, Tryz.func41, by kernel_rfl, by kernel_rfl⟩

def T_q5 : FuncId -> Option Sum := G0

theorem right_T_q5 : Right Tryz.prog T_q5 := right_G0

abbrev cuts_q5 : Cuts := [(4, [0, 1, 4, 7])]

abbrev k0_q5 {R : Type} (K : AV -> List O -> Option R) : Int -> Int -> Int -> Option R := fun r0 r1 r2 => K (.tup [iv r0, iv r1, iv r2]) []

abbrev sta_q5_4 (b : List Int) (vat n i : Int) : St := ⟨fr0 70 [(0, rb 5 b), (1, iv vat), (4, iv n), (7, iv i)], []⟩

abbrev gt_q5_4 {R : Type} (g : List Item -> St -> Option R) : GT_q5_4 R := fun (b : List Int) (vat n i : Int) => g (at' Tryz.f87 4) (sta_q5_4 b vat n i)

theorem gstep_q5_4 {R : Type} (g : List Item -> St -> Option R) (K : AV -> List O -> Option R) (b : List Int) (vat n i : Int) :
  runSeg Tryz.prog T_q5 cuts_q5 0 g (finish Tryz.prog Tryz.f87 0 K) (at' Tryz.f87 4) (sta_q5_4 b vat n i) =
  s_q5_4 (gt_q5_4 g) (k0_q5 K) b vat n i := by kernel_rfl

theorem gentry_q5 {R : Type} (fuel : Nat) (K : AV -> List O -> Option R) (b : List Int) (vat : Int) :
  fnRun Tryz.prog T_q5 cuts_q5 Tryz.f87 fuel [rb 5 b, iv vat] [] K =
  e_q5 (gt_q5_4 (runO Tryz.prog T_q5 cuts_q5 0 (finish Tryz.prog Tryz.f87 0 K) fuel)) (k0_q5 K) b vat := by kernel_rfl

theorem runs_q5 {R : Type} (K : AV -> List O -> Option R) : ∀ fuel : Nat,
  (gt_q5_4 (runO Tryz.prog T_q5 cuts_q5 0 (finish Tryz.prog Tryz.f87 0 K) fuel)) = (run_q5 (k0_q5 K) fuel)
 |0 => rfl
 |fuel + 1 => by
  have ih := runs_q5 K fuel
  funext b vat n i
  refine (gstep_q5_4 _ K b vat n i).trans ?_
  rw [ih]
  rfl

def S_q5 (l_q5 : LT_q5) : Sum := ⟨[], fun {R} args ob K => match args, ob with
 |[.rd ⟨false, 5, (.int .u8), b⟩, .v (.int .i64 vat)], [] => l_q5 b vat (k0_q5 K)
 |_, _ => none⟩

theorem sound_q5 : Sound Tryz.prog 87 (S_q5 @l_q5) := by
 refine fn_sound (cuts := cuts_q5) (fn := Tryz.f87) (Γ := T_q5) wide right_T_q5 Tryz.func87 fun {R} K r args ob h => ?_
 unfold S_q5 at h
 dsimp only at h
 split at h
 ·obtain ⟨n, hn⟩ := ok_q5 _ _ _ h
  refine ⟨Nat.le_of_ble_eq_true (by kernel_rfl), n, (gentry_q5 n K _ _).trans ?_⟩
  rw [(runs_q5 K n)]
  exact hn
 ·cases h

theorem call_q5 : Callable Tryz.prog 87 := ⟨_, Tryz.func87, by kernel_rfl, by kernel_rfl⟩

def T_q6 (a0 : LT_q5) : FuncId -> Option Sum := (addS G0 87 (S_q5 @a0))

abbrev C_q6 : FuncId -> Option Sum := T_q6 @l_q5

theorem right_T_q6 : Right Tryz.prog C_q6 := (right_add right_G0 call_q5 sound_q5)

abbrev cuts_q6 : Cuts := []

abbrev k0_q6 {R : Type} (K : AV -> List O -> Option R) : Int -> (List Int) -> Int -> Int -> Option R := fun r0 r1 r2 r3 => K (iv r0) [.box 87 [rb 5 r1, iv r2, iv r3]]

theorem gentry_q6 {a0 : LT_q5} {R : Type} (K : AV -> List O -> Option R) (most kind : Int) (o0 : List Int) (o0_1 o0_2 : Int) :
  fnRun Tryz.prog (T_q6 @a0) cuts_q6 Tryz.f65 0 [.ptr 0 0, iv most, iv kind] [.box 87 [rb 5 o0, iv o0_1, iv o0_2]] K =
  gl_q6 @a0 most kind o0 o0_1 o0_2 (k0_q6 K) := by kernel_rfl

def S_q6 (l_q6 : LT_q6) : Sum := ⟨[], fun {R} args ob K => match args, ob with
 |[.ptr 0 0, .v (.int .i64 most), .v (.int .i64 kind)], [.box 87 [.rd ⟨false, 5, (.int .u8), o0⟩, .v (.int .i64 o0_1), .v (.int .i64 o0_2)]] => l_q6 most kind o0 o0_1 o0_2 (k0_q6 K)
 |_, _ => none⟩

theorem sound_q6 : Sound Tryz.prog 65 (S_q6 @l_q6) := by
 refine fn_sound (cuts := cuts_q6) (fn := Tryz.f65) (Γ := C_q6) wide right_T_q6 Tryz.func65 fun {R} K r args ob h => ?_
 unfold S_q6 at h
 dsimp only at h
 split at h
 ·exact ⟨Nat.le_of_ble_eq_true (by kernel_rfl), 0, (gentry_q6 K _ _ _ _ _).trans h⟩
 ·cases h

theorem call_q6 : Callable Tryz.prog 65 := ⟨_, Tryz.func65, by kernel_rfl, by kernel_rfl⟩

def T_q7 (a0 : LT_q1) (a1 : LT_q6) (a2 : LT_q4) : FuncId -> Option Sum := (addS (addS (addS G0 64 (S_q1 @a0)) 65 (S_q6 @a1)) 41 (S_q4 @a2))

abbrev C_q7 : FuncId -> Option Sum := T_q7 @l_q1 @l_q6 @l_q4

theorem right_T_q7 : Right Tryz.prog C_q7 := (right_add (right_add (right_add right_G0 call_q1 sound_q1) call_q6 sound_q6) call_q4 sound_q4)

abbrev cuts_q7 : Cuts := []

abbrev k0_q7 {R : Type} (K : AV -> List O -> Option R) : KT0_q7 R := fun r0 r1 r2 r3 r4 r5 r6 => K (.agg [iv r0, iv r1, iv r2, .nst 1]) [.box 87 [rb 5 r3, iv r4, iv r5], .fst ⟨true, 53, (.pr (.pr (.int .i64) (.pr (.sl 3 (.int .i64)) (.pr (.int .i64) (.pr (.int .i64) (.pr (.int .i64) (.pr (.int .i64) (.pr (.sl 3 (.int .i64)) (.sl 3 (.int .i64))))))))) (.pr (.int .i64) (.pr (.sl 3 (.int .i64)) (.sl 3 (.int .i64))))), r6⟩ 0]

theorem gentry_q7 {a0 : LT_q1} {a1 : LT_q6} {a2 : LT_q4} {R : Type} (K : AV -> List O -> Option R) (o0 : List Int) (o0_1 o0_2 : Int) :
  fnRun Tryz.prog (T_q7 @a0 @a1 @a2) cuts_q7 Tryz.f40 0 [.ptr 0 0] [.box 87 [rb 5 o0, iv o0_1, iv o0_2]] K =
  gl_q7 @a0 @a1 @a2 o0 o0_1 o0_2 (k0_q7 K) := by kernel_rfl

def S_q7 (l_q7 : LT_q7) : Sum := ⟨[], fun {R} args ob K => match args, ob with
 |[.ptr 0 0], [.box 87 [.rd ⟨false, 5, (.int .u8), o0⟩, .v (.int .i64 o0_1), .v (.int .i64 o0_2)]] => l_q7 o0 o0_1 o0_2 (k0_q7 K)
 |_, _ => none⟩

theorem sound_q7 : Sound Tryz.prog 40 (S_q7 @l_q7) := by
 refine fn_sound (cuts := cuts_q7) (fn := Tryz.f40) (Γ := C_q7) wide right_T_q7 Tryz.func40 fun {R} K r args ob h => ?_
 unfold S_q7 at h
 dsimp only at h
 split at h
 ·exact ⟨Nat.le_of_ble_eq_true (by kernel_rfl), 0, (gentry_q7 K _ _ _).trans h⟩
 ·cases h

theorem call_q7 : Callable Tryz.prog 40 := ⟨_, Tryz.func40, by kernel_rfl, by kernel_rfl⟩

def T_q8 : FuncId -> Option Sum := G0

theorem right_T_q8 : Right Tryz.prog T_q8 := right_G0

abbrev cuts_q8 : Cuts := []

abbrev k0_q8 {R : Type} (K : AV -> List O -> Option R) : KT0_q8 R := fun r0 r1 r2 r3 r4 r5 r6 r7 => K (.agg [iv r0, ri 3 r1, iv r2, iv r3, iv r4, iv r5, .own 0, .own 1]) [wi 3 r6, wi 3 r7]

theorem gentry_q8 {R : Type} (K : AV -> List O -> Option R) (l l_1 l_2 : Int) (w : List Int) :
  fnRun Tryz.prog T_q8 cuts_q8 Tryz.f67 0 [.agg [iv l, iv l_1, iv l_2, .cel], ri 3 w] [] K =
  l_q8 l l_1 l_2 w (k0_q8 K) := by kernel_rfl

def S_q8 (l_q8 : LT_q8) : Sum := ⟨[], fun {R} args ob K => match args, ob with
 |[.agg [.v (.int .i64 l), .v (.int .i64 l_1), .v (.int .i64 l_2), .cel], .rd ⟨false, 3, (.int .i64), w⟩], [] => l_q8 l l_1 l_2 w (k0_q8 K)
 |_, _ => none⟩

theorem sound_q8 : Sound Tryz.prog 67 (S_q8 @l_q8) := by
 refine fn_sound (cuts := cuts_q8) (fn := Tryz.f67) (Γ := T_q8) wide right_T_q8 Tryz.func67 fun {R} K r args ob h => ?_
 unfold S_q8 at h
 dsimp only at h
 split at h
 ·exact ⟨Nat.le_of_ble_eq_true (by kernel_rfl), 0, (gentry_q8 K _ _ _ _).trans h⟩
 ·cases h

theorem call_q8 : Callable Tryz.prog 67 := ⟨_, Tryz.func67, by kernel_rfl, by kernel_rfl⟩

def T_q9 (a0 : LT_q5) : FuncId -> Option Sum := (addS G0 87 (S_q5 @a0))

abbrev C_q9 : FuncId -> Option Sum := T_q9 @l_q5

theorem right_T_q9 : Right Tryz.prog C_q9 := (right_add right_G0 call_q5 sound_q5)

abbrev cuts_q9 : Cuts := [(2, [0, 1, 5])]

abbrev k0_q9 {R : Type} (K : AV -> List O -> Option R) : (List Int) -> Int -> Int -> (List Int) -> Option R := fun r0 r1 r2 r3 => K (.own 1) [.box 87 [rb 5 r0, iv r1, iv r2], wi 3 r3]

abbrev sta_q9_2 (vall : Bool) (o0 : List Int) (o0_1 o0_2 : Int) (o1 : List Int) : St := ⟨fr0 97 [(0, .ptr 0 0), (1, .v (.bool vall)), (5, .own 1)], [.box 87 [rb 5 o0, iv o0_1, iv o0_2], wi 3 o1]⟩

abbrev gt_q9_2 {R : Type} (g : List Item -> St -> Option R) : GT_q9_2 R := fun (vall : Bool) (o0 : List Int) (o0_1 o0_2 : Int) (o1 : List Int) => g (at' Tryz.f68 2) (sta_q9_2 vall o0 o0_1 o0_2 o1)

theorem gstep_q9_2 {a0 : LT_q5} {R : Type} (g : List Item -> St -> Option R) (K : AV -> List O -> Option R) (vall : Bool) (o0 : List Int) (o0_1 o0_2 : Int) (o1 : List Int) :
  runSeg Tryz.prog (T_q9 @a0) cuts_q9 1 g (finish Tryz.prog Tryz.f68 1 K) (at' Tryz.f68 2) (sta_q9_2 vall o0 o0_1 o0_2 o1) =
  gs_q9_2 @a0 (gt_q9_2 g) (k0_q9 K) vall o0 o0_1 o0_2 o1 := by kernel_rfl

theorem gentry_q9 {a0 : LT_q5} {R : Type} (fuel : Nat) (K : AV -> List O -> Option R) (vall : Bool) (o0 : List Int) (o0_1 o0_2 : Int) :
  fnRun Tryz.prog (T_q9 @a0) cuts_q9 Tryz.f68 fuel [.ptr 0 0, .v (.bool vall)] [.box 87 [rb 5 o0, iv o0_1, iv o0_2]] K =
  ge_q9 @a0 (gt_q9_2 (runO Tryz.prog (T_q9 @a0) cuts_q9 1 (finish Tryz.prog Tryz.f68 1 K) fuel)) (k0_q9 K) vall o0 o0_1 o0_2 := by kernel_rfl

theorem runs_q9 {R : Type} (K : AV -> List O -> Option R) : ∀ fuel : Nat,
  (gt_q9_2 (runO Tryz.prog C_q9 cuts_q9 1 (finish Tryz.prog Tryz.f68 1 K) fuel)) = (run_q9 (k0_q9 K) fuel)
 |0 => rfl
 |fuel + 1 => by
  have ih := runs_q9 K fuel
  funext vall o0 o0_1 o0_2 o1
  refine (gstep_q9_2 _ K vall o0 o0_1 o0_2 o1).trans ?_
  rw [ih]
  rfl

def S_q9 (l_q9 : LT_q9) : Sum := ⟨[], fun {R} args ob K => match args, ob with
 |[.ptr 0 0, .v (.bool vall)], [.box 87 [.rd ⟨false, 5, (.int .u8), o0⟩, .v (.int .i64 o0_1), .v (.int .i64 o0_2)]] => l_q9 vall o0 o0_1 o0_2 (k0_q9 K)
 |_, _ => none⟩

theorem sound_q9 : Sound Tryz.prog 68 (S_q9 @l_q9) := by
 refine fn_sound (cuts := cuts_q9) (fn := Tryz.f68) (Γ := C_q9) wide right_T_q9 Tryz.func68 fun {R} K r args ob h => ?_
 unfold S_q9 at h
 dsimp only at h
 split at h
 ·obtain ⟨n, hn⟩ := evl_ok h
  refine ⟨Nat.le_of_ble_eq_true (by kernel_rfl), n, (gentry_q9 n K _ _ _ _).trans ?_⟩
  rw [(runs_q9 K n)]
  exact hn
 ·cases h

theorem call_q9 : Callable Tryz.prog 68 := ⟨_, Tryz.func68, by kernel_rfl, by kernel_rfl⟩

def T_qa (a0 : LT_q1) (a1 : LT_q9) (a2 : LT_q8) : FuncId -> Option Sum := (addS (addS (addS G0 64 (S_q1 @a0)) 68 (S_q9 @a1)) 67 (S_q8 @a2))

abbrev C_qa : FuncId -> Option Sum := T_qa @l_q1 @l_q9 @l_q8

theorem right_T_qa : Right Tryz.prog C_qa := (right_add (right_add (right_add right_G0 call_q1 sound_q1) call_q9 sound_q9) call_q8 sound_q8)

abbrev cuts_qa : Cuts := []

abbrev k0_qa {R : Type} (K : AV -> List O -> Option R) : KT0_qa R := fun r0 r1 r2 r3 r4 r5 r6 r7 r8 r9 r10 r11 r12 r13 => K (.agg [iv r0, .own 1, iv r1, iv r2, iv r3, iv r4, .own 2, .own 3, iv r5, .own 4, .own 5]) [.box 87 [rb 5 r6, iv r7, iv r8], wi 3 r9, wi 3 r10, wi 3 r11, wi 3 r12, wi 3 r13]

theorem gentry_qa {a0 : LT_q1} {a1 : LT_q9} {a2 : LT_q8} {R : Type} (K : AV -> List O -> Option R) (l l_1 l_2 : Int) (o0 : List Int) (o0_1 o0_2 : Int) :
  fnRun Tryz.prog (T_qa @a0 @a1 @a2) cuts_qa Tryz.f42 0 [.ptr 0 0, .agg [iv l, iv l_1, iv l_2, .cel]] [.box 87 [rb 5 o0, iv o0_1, iv o0_2]] K =
  gl_qa @a0 @a1 @a2 l l_1 l_2 o0 o0_1 o0_2 (k0_qa K) := by kernel_rfl

def S_qa (l_qa : LT_qa) : Sum := ⟨[98], fun {R} args ob K => match args, ob with
 |[.ptr 0 0, .agg [.v (.int .i64 l), .v (.int .i64 l_1), .v (.int .i64 l_2), .cel]], [.box 87 [.rd ⟨false, 5, (.int .u8), o0⟩, .v (.int .i64 o0_1), .v (.int .i64 o0_2)]] => l_qa l l_1 l_2 o0 o0_1 o0_2 (k0_qa K)
 |_, _ => none⟩

theorem sound_qa : Sound Tryz.prog 42 (S_qa @l_qa) := by
 refine fn_sound (cuts := cuts_qa) (fn := Tryz.f42) (Γ := C_qa) wide right_T_qa Tryz.func42 fun {R} K r args ob h => ?_
 unfold S_qa at h
 dsimp only at h
 split at h
 ·exact ⟨Nat.le_of_ble_eq_true (by kernel_rfl), 0, (gentry_qa K _ _ _ _ _ _).trans h⟩
 ·cases h

theorem call_qa : Callable Tryz.prog 42 := ⟨_, Tryz.func42, by kernel_rfl, by kernel_rfl⟩

def T_qb : FuncId -> Option Sum := G0

theorem right_T_qb : Right Tryz.prog T_qb := right_G0

abbrev cuts_qb : Cuts := []

abbrev k0_qb {R : Type} (K : AV -> List O -> Option R) : Int -> Int -> Int -> Int -> Int -> Int -> Option R := fun r0 r1 r2 r3 r4 r5 => K (.ifc 93 (.agg [iv r0, .cel, iv r1, iv r2, iv r3, iv r4, .cel, .cel, iv r5, .cel, .cel])) []

abbrev k1_qb {R : Type} (K : AV -> List O -> Option R) : Int -> Int -> Int -> Int -> Int -> Int -> Option R := fun r0 r1 r2 r3 r4 r5 => K (.ifc 95 (.agg [iv r0, .cel, iv r1, iv r2, iv r3, iv r4, .cel, .cel, iv r5, .cel, .cel])) []

abbrev k2_qb {R : Type} (K : AV -> List O -> Option R) : Option R := K (.v (.nilIface)) []

theorem gentry_qb {R : Type} (K : AV -> List O -> Option R) (e e_1 e_2 e_3 e_4 e_5 : Int) :
  fnRun Tryz.prog T_qb cuts_qb Tryz.f34 0 [.agg [iv e, .cel, iv e_1, iv e_2, iv e_3, iv e_4, .cel, .cel, iv e_5, .cel, .cel]] [] K =
  l_qb e e_1 e_2 e_3 e_4 e_5 (k0_qb K) (k1_qb K) (k2_qb K) := by kernel_rfl

abbrev cuts_q19 : Cuts := []

abbrev k0_q19 {R : Type} (K : AV -> List O -> Option R) : KT0_q19 R := fun r0 r1 r2 r3 r4 r5 r6 r7 r8 r9 r10 => K (.ifc 93 (.agg [iv r0, ri 3 r1, iv r2, iv r3, iv r4, iv r5, ri 3 r6, ri 3 r7, iv r8, ri 3 r9, ri 3 r10])) []

abbrev k1_q19 {R : Type} (K : AV -> List O -> Option R) : KT1_q19 R := fun r0 r1 r2 r3 r4 r5 r6 r7 r8 r9 r10 => K (.ifc 95 (.agg [iv r0, ri 3 r1, iv r2, iv r3, iv r4, iv r5, ri 3 r6, ri 3 r7, iv r8, ri 3 r9, ri 3 r10])) []

abbrev k2_q19 {R : Type} (K : AV -> List O -> Option R) : Option R := K (.v (.nilIface)) []

theorem gentry_q19 {R : Type} (K : AV -> List O -> Option R) (e : Int) (e_1 : List Int) (e_2 e_3 e_4 e_5 : Int) (e_6 e_7 : List Int) (e_8 : Int) (e_9 e_10 : List Int) :
  fnRun Tryz.prog T_qb cuts_q19 Tryz.f34 0 [.agg [iv e, ri 3 e_1, iv e_2, iv e_3, iv e_4, iv e_5, ri 3 e_6, ri 3 e_7, iv e_8, ri 3 e_9, ri 3 e_10]] [] K =
  l_q19 e e_1 e_2 e_3 e_4 e_5 e_6 e_7 e_8 e_9 e_10 (k0_q19 K) (k1_q19 K) (k2_q19 K) := by kernel_rfl

def S_qb (l_qb : LT_qb) (l_q19 : LT_q19) : Sum := ⟨[97], fun {R} args ob K => match args, ob with
 |[.agg [.v (.int .i64 e), .cel, .v (.int .i64 e_1), .v (.int .i64 e_2), .v (.int .i64 e_3), .v (.int .i64 e_4), .cel, .cel, .v (.int .i64 e_5), .cel, .cel]], [] => l_qb e e_1 e_2 e_3 e_4 e_5 (k0_qb K) (k1_qb K) (k2_qb K)
 |[.agg [.v (.int .i64 e), .rd ⟨false, 3, (.int .i64), e_1⟩, .v (.int .i64 e_2), .v (.int .i64 e_3), .v (.int .i64 e_4), .v (.int .i64 e_5), .rd ⟨false, 3, (.int .i64), e_6⟩, .rd ⟨false, 3, (.int .i64), e_7⟩, .v (.int .i64 e_8), .rd ⟨false, 3, (.int .i64), e_9⟩, .rd ⟨false, 3, (.int .i64), e_10⟩]], [] => l_q19 e e_1 e_2 e_3 e_4 e_5 e_6 e_7 e_8 e_9 e_10 (k0_q19 K) (k1_q19 K) (k2_q19 K)
 |_, _ => none⟩

theorem sound_qb : Sound Tryz.prog 34 (S_qb @l_qb @l_q19) := by
 refine fn_sound (cuts := cuts_qb) (fn := Tryz.f34) (Γ := T_qb) wide right_T_qb Tryz.func34 fun {R} K r args ob h => ?_
 unfold S_qb at h
 dsimp only at h
 split at h
 ·exact ⟨Nat.le_of_ble_eq_true (by kernel_rfl), 0, (gentry_qb K _ _ _ _ _ _).trans h⟩
 ·exact ⟨Nat.le_of_ble_eq_true (by kernel_rfl), 0, (gentry_q19 K _ _ _ _ _ _ _ _ _ _ _).trans h⟩
 ·cases h

theorem call_qb : Callable Tryz.prog 34 := ⟨_, Tryz.func34, by kernel_rfl, by kernel_rfl⟩

def T_qc : FuncId -> Option Sum := G0

theorem right_T_qc : Right Tryz.prog T_qc := right_G0

abbrev cuts_qc : Cuts := []

abbrev k0_qc {R : Type} (K : AV -> List O -> Option R) : Bool -> Option R := fun r0 => K (.v (.bool r0)) []

theorem gentry_qc {R : Type} (K : AV -> List O -> Option R) (k : Int) :
  fnRun Tryz.prog T_qc cuts_qc Tryz.f90 0 [iv k] [] K =
  l_qc k (k0_qc K) := by kernel_rfl

def S_qc (l_qc : LT_qc) : Sum := ⟨[], fun {R} args ob K => match args, ob with
 |[.v (.int .i64 k)], [] => l_qc k (k0_qc K)
 |_, _ => none⟩

theorem sound_qc : Sound Tryz.prog 90 (S_qc @l_qc) := by
 refine fn_sound (cuts := cuts_qc) (fn := Tryz.f90) (Γ := T_qc) wide right_T_qc Tryz.func90 fun {R} K r args ob h => ?_
 unfold S_qc at h
 dsimp only at h
 split at h
 ·exact ⟨Nat.le_of_ble_eq_true (by kernel_rfl), 0, (gentry_qc K _).trans h⟩
 ·cases h

theorem call_qc : Callable Tryz.prog 90 := ⟨_, Tryz.func90, by kernel_rfl, by kernel_rfl⟩

def T_qd (a0 : LT_qc) : FuncId -> Option Sum := (addS G0 90 (S_qc @a0))

abbrev C_qd : FuncId -> Option Sum := T_qd @l_qc

theorem right_T_qd : Right Tryz.prog C_qd := (right_add right_G0 call_qc sound_qc)

abbrev cuts_qd : Cuts := [(6, [0, 1, 16, 17])]

abbrev k0_qd {R : Type} (K : AV -> List O -> Option R) : Int -> Int -> Option R := fun r0 r1 => K (.tup [iv r0, iv r1]) []

abbrev sta_qd_6 (w : List Int) (k x16 x17 : Int) : St := ⟨fr0 35 [(0, ri 3 w), (1, iv k), (16, iv x16), (17, iv x17)], []⟩

abbrev gt_qd_6 {R : Type} (g : List Item -> St -> Option R) : GT_qd_6 R := fun (w : List Int) (k x16 x17 : Int) => g (at' Tryz.f70 6) (sta_qd_6 w k x16 x17)

theorem gstep_qd_6 {a0 : LT_qc} {R : Type} (g : List Item -> St -> Option R) (K : AV -> List O -> Option R) (w : List Int) (k x16 x17 : Int) :
  runSeg Tryz.prog (T_qd @a0) cuts_qd 0 g (finish Tryz.prog Tryz.f70 0 K) (at' Tryz.f70 6) (sta_qd_6 w k x16 x17) =
  gs_qd_6 @a0 (gt_qd_6 g) (k0_qd K) w k x16 x17 := by kernel_rfl

theorem gentry_qd {a0 : LT_qc} {R : Type} (fuel : Nat) (K : AV -> List O -> Option R) (w : List Int) (k : Int) :
  fnRun Tryz.prog (T_qd @a0) cuts_qd Tryz.f70 fuel [ri 3 w, iv k] [] K =
  ge_qd @a0 (gt_qd_6 (runO Tryz.prog (T_qd @a0) cuts_qd 0 (finish Tryz.prog Tryz.f70 0 K) fuel)) (k0_qd K) w k := by kernel_rfl

theorem runs_qd {R : Type} (K : AV -> List O -> Option R) : ∀ fuel : Nat,
  (gt_qd_6 (runO Tryz.prog C_qd cuts_qd 0 (finish Tryz.prog Tryz.f70 0 K) fuel)) = (run_qd (k0_qd K) fuel)
 |0 => rfl
 |fuel + 1 => by
  have ih := runs_qd K fuel
  funext w k x16 x17
  refine (gstep_qd_6 _ K w k x16 x17).trans ?_
  rw [ih]
  rfl

def S_qd (l_qd : LT_qd) : Sum := ⟨[], fun {R} args ob K => match args, ob with
 |[.rd ⟨false, 3, (.int .i64), w⟩, .v (.int .i64 k)], [] => l_qd w k (k0_qd K)
 |_, _ => none⟩

theorem sound_qd : Sound Tryz.prog 70 (S_qd @l_qd) := by
 refine fn_sound (cuts := cuts_qd) (fn := Tryz.f70) (Γ := C_qd) wide right_T_qd Tryz.func70 fun {R} K r args ob h => ?_
 unfold S_qd at h
 dsimp only at h
 split at h
 ·obtain ⟨n, hn⟩ := ok_qd _ _ _ h
  refine ⟨Nat.le_of_ble_eq_true (by kernel_rfl), n, (gentry_qd n K _ _).trans ?_⟩
  rw [(runs_qd K n)]
  exact hn
 ·cases h

theorem call_qd : Callable Tryz.prog 70 := ⟨_, Tryz.func70, by kernel_rfl, by kernel_rfl⟩

def T_qe : FuncId -> Option Sum := G0

theorem right_T_qe : Right Tryz.prog T_qe := right_G0

abbrev cuts_qe : Cuts := []

abbrev k0_qe {R : Type} (K : AV -> List O -> Option R) : (List Int) -> Option R := fun r0 => K (.ifc 157 (.agg [ri 3 r0])) []

abbrev k1_qe {R : Type} (K : AV -> List O -> Option R) : Option R := K (.ifc 160 (.agg [])) []

abbrev k2_qe {R : Type} (K : AV -> List O -> Option R) : (List Int) -> Option R := fun r0 => K (.ifc 162 (.agg [ri 3 r0])) []

abbrev k3_qe {R : Type} (K : AV -> List O -> Option R) : Option R := K (.v (.nilIface)) []

theorem gentry_qe {R : Type} (K : AV -> List O -> Option R) (a : Int) (a_1 a_2 : List Int) :
  fnRun Tryz.prog T_qe cuts_qe Tryz.f91 0 [.agg [iv a, ri 3 a_1, ri 3 a_2]] [] K =
  l_qe a a_1 a_2 (k0_qe K) (k1_qe K) (k2_qe K) (k3_qe K) := by kernel_rfl

def S_qe (l_qe : LT_qe) : Sum := ⟨[], fun {R} args ob K => match args, ob with
 |[.agg [.v (.int .i64 a), .rd ⟨false, 3, (.int .i64), a_1⟩, .rd ⟨false, 3, (.int .i64), a_2⟩]], [] => l_qe a a_1 a_2 (k0_qe K) (k1_qe K) (k2_qe K) (k3_qe K)
 |_, _ => none⟩

theorem sound_qe : Sound Tryz.prog 91 (S_qe @l_qe) := by
 refine fn_sound (cuts := cuts_qe) (fn := Tryz.f91) (Γ := T_qe) wide right_T_qe Tryz.func91 fun {R} K r args ob h => ?_
 unfold S_qe at h
 dsimp only at h
 split at h
 ·exact ⟨Nat.le_of_ble_eq_true (by kernel_rfl), 0, (gentry_qe K _ _ _).trans h⟩
 ·cases h

theorem call_qe : Callable Tryz.prog 91 := ⟨_, Tryz.func91, by kernel_rfl, by kernel_rfl⟩

def T_qf : FuncId -> Option Sum := G0

theorem right_T_qf : Right Tryz.prog T_qf := right_G0

abbrev cuts_qf : Cuts := []

abbrev k0_qf {R : Type} (K : AV -> List O -> Option R) : Bool -> Int -> Option R := fun r0 r1 => K (.v (.bool r0)) [.box 3 [iv r1]]

theorem gentry_qf {R : Type} (K : AV -> List O -> Option R) (o o0 : Int) :
  fnRun Tryz.prog T_qf cuts_qf Tryz.f109 0 [iv o, .ptr 0 0] [.box 3 [iv o0]] K =
  l_qf o o0 (k0_qf K) := by kernel_rfl

def S_qf (l_qf : LT_qf) : Sum := ⟨[], fun {R} args ob K => match args, ob with
 |[.v (.int .i64 o), .ptr 0 0], [.box 3 [.v (.int .i64 o0)]] => l_qf o o0 (k0_qf K)
 |_, _ => none⟩

theorem sound_qf : Sound Tryz.prog 109 (S_qf @l_qf) := by
 refine fn_sound (cuts := cuts_qf) (fn := Tryz.f109) (Γ := T_qf) wide right_T_qf Tryz.func109 fun {R} K r args ob h => ?_
 unfold S_qf at h
 dsimp only at h
 split at h
 ·exact ⟨Nat.le_of_ble_eq_true (by kernel_rfl), 0, (gentry_qf K _ _).trans h⟩
 ·cases h

theorem call_qf : Callable Tryz.prog 109 := ⟨_, Tryz.func109, by kernel_rfl, by kernel_rfl⟩

def T_qh (a0 : LT_qf) : FuncId -> Option Sum := (addS G0 109 (S_qf @a0))

abbrev C_qh : FuncId -> Option Sum := T_qh @l_qf

theorem right_T_qh : Right Tryz.prog C_qh := (right_add right_G0 call_qf sound_qf)

abbrev cuts_qg : Cuts := [(2, [0, 1, 7, 8])]

abbrev k0_qg {R : Type} (K : AV -> List O -> Option R) : Int -> Int -> Option R := fun r0 r1 => K (iv r0) [.box 3 [iv r1]]

abbrev sta_qg_2 (s : List Int) (x7 x8 o0 : Int) : St := ⟨fr0 19 [(0, ri 3 s), (1, .clo 109 [.ptr 0 0]), (7, iv x7), (8, iv x8)], [.box 3 [iv o0]]⟩

abbrev gt_qg_2 {R : Type} (g : List Item -> St -> Option R) : GT_qg_2 R := fun (s : List Int) (x7 x8 o0 : Int) => g (at' Tryz.f115 2) (sta_qg_2 s x7 x8 o0)

theorem gstep_qg_2 {a0 : LT_qf} {R : Type} (g : List Item -> St -> Option R) (K : AV -> List O -> Option R) (s : List Int) (x7 x8 o0 : Int) :
  runSeg Tryz.prog (T_qh @a0) cuts_qg 1 g (finish Tryz.prog Tryz.f115 1 K) (at' Tryz.f115 2) (sta_qg_2 s x7 x8 o0) =
  gs_qg_2 @a0 (gt_qg_2 g) (k0_qg K) s x7 x8 o0 := by kernel_rfl

theorem gentry_qg {a0 : LT_qf} {R : Type} (fuel : Nat) (K : AV -> List O -> Option R) (s : List Int) (o0 : Int) :
  fnRun Tryz.prog (T_qh @a0) cuts_qg Tryz.f115 fuel [ri 3 s, .clo 109 [.ptr 0 0]] [.box 3 [iv o0]] K =
  ge_qg @a0 (gt_qg_2 (runO Tryz.prog (T_qh @a0) cuts_qg 1 (finish Tryz.prog Tryz.f115 1 K) fuel)) (k0_qg K) s o0 := by kernel_rfl

theorem runs_qg {R : Type} (K : AV -> List O -> Option R) : ∀ fuel : Nat,
  (gt_qg_2 (runO Tryz.prog C_qh cuts_qg 1 (finish Tryz.prog Tryz.f115 1 K) fuel)) = (run_qg (k0_qg K) fuel)
 |0 => rfl
 |fuel + 1 => by
  have ih := runs_qg K fuel
  funext s x7 x8 o0
  refine (gstep_qg_2 _ K s x7 x8 o0).trans ?_
  rw [ih]
  rfl

def S_qh (l_qg : LT_qg) : Sum := ⟨[], fun {R} args ob K => match args, ob with
 |[.rd ⟨false, 3, (.int .i64), s⟩, .clo 109 [.ptr 0 0]], [.box 3 [.v (.int .i64 o0)]] => l_qg s o0 (k0_qg K)
 |_, _ => none⟩

theorem sound_qh : Sound Tryz.prog 115 (S_qh @l_qg) := by
 refine fn_sound (cuts := cuts_qg) (fn := Tryz.f115) (Γ := C_qh) wide right_T_qh Tryz.func115 fun {R} K r args ob h => ?_
 unfold S_qh at h
 dsimp only at h
 split at h
 ·obtain ⟨n, hn⟩ := ok_qg _ _ _ h
  refine ⟨Nat.le_of_ble_eq_true (by kernel_rfl), n, (gentry_qg n K _ _).trans ?_⟩
  rw [(runs_qg K n)]
  exact hn
 ·cases h

theorem call_qh : Callable Tryz.prog 115 := ⟨_, Tryz.func115, by kernel_rfl, by kernel_rfl⟩

def T_qj (a0 : LT_qg) : FuncId -> Option Sum := (addS G0 115 (S_qh @a0))

abbrev C_qj : FuncId -> Option Sum := T_qj @l_qg

theorem right_T_qj : Right Tryz.prog C_qj := (right_add right_G0 call_qh sound_qh)

abbrev cuts_qi : Cuts := []

abbrev k0_qi {R : Type} (K : AV -> List O -> Option R) : Bool -> Int -> Option R := fun r0 r1 => K (.v (.bool r0)) [.box 3 [iv r1]]

theorem gentry_qi {a0 : LT_qg} {R : Type} (K : AV -> List O -> Option R) (s : List Int) (o0 : Int) :
  fnRun Tryz.prog (T_qj @a0) cuts_qi Tryz.f108 0 [ri 3 s, .clo 109 [.ptr 0 0]] [.box 3 [iv o0]] K =
  gl_qi @a0 s o0 (k0_qi K) := by kernel_rfl

def S_qj (l_qi : LT_qi) : Sum := ⟨[], fun {R} args ob K => match args, ob with
 |[.rd ⟨false, 3, (.int .i64), s⟩, .clo 109 [.ptr 0 0]], [.box 3 [.v (.int .i64 o0)]] => l_qi s o0 (k0_qi K)
 |_, _ => none⟩

theorem sound_qj : Sound Tryz.prog 108 (S_qj @l_qi) := by
 refine fn_sound (cuts := cuts_qi) (fn := Tryz.f108) (Γ := C_qj) wide right_T_qj Tryz.func108 fun {R} K r args ob h => ?_
 unfold S_qj at h
 dsimp only at h
 split at h
 ·exact ⟨Nat.le_of_ble_eq_true (by kernel_rfl), 0, (gentry_qi K _ _).trans h⟩
 ·cases h

theorem call_qj : Callable Tryz.prog 108 := ⟨_, Tryz.func108, by kernel_rfl, by kernel_rfl⟩

def T_qk (a0 : LT_qi) : FuncId -> Option Sum := (addS G0 108 (S_qj @a0))

abbrev C_qk : FuncId -> Option Sum := T_qk @l_qi

theorem right_T_qk : Right Tryz.prog C_qk := (right_add right_G0 call_qj sound_qj)

abbrev cuts_qk : Cuts := []

abbrev k0_qk {R : Type} (K : AV -> List O -> Option R) : Bool -> Option R := fun r0 => K (.v (.bool r0)) []

theorem gentry_qk {a0 : LT_qi} {R : Type} (K : AV -> List O -> Option R) (q : Int) (q_1 : List Int) (q_2 q_3 q_4 q_5 : Int) (q_6 q_7 out : List Int) :
  fnRun Tryz.prog (T_qk @a0) cuts_qk Tryz.f92 0 [.agg [iv q, ri 3 q_1, iv q_2, iv q_3, iv q_4, iv q_5, ri 3 q_6, ri 3 q_7], ri 3 out] [] K =
  gl_qk @a0 q q_1 q_2 q_3 q_4 q_5 q_6 q_7 out (k0_qk K) := by kernel_rfl

def S_qk (l_qk : LT_qk) : Sum := ⟨[], fun {R} args ob K => match args, ob with
 |[.agg [.v (.int .i64 q), .rd ⟨false, 3, (.int .i64), q_1⟩, .v (.int .i64 q_2), .v (.int .i64 q_3), .v (.int .i64 q_4), .v (.int .i64 q_5), .rd ⟨false, 3, (.int .i64), q_6⟩, .rd ⟨false, 3, (.int .i64), q_7⟩], .rd ⟨false, 3, (.int .i64), out⟩], [] => l_qk q q_1 q_2 q_3 q_4 q_5 q_6 q_7 out (k0_qk K)
 |_, _ => none⟩

theorem sound_qk : Sound Tryz.prog 92 (S_qk @l_qk) := by
 refine fn_sound (cuts := cuts_qk) (fn := Tryz.f92) (Γ := C_qk) wide right_T_qk Tryz.func92 fun {R} K r args ob h => ?_
 unfold S_qk at h
 dsimp only at h
 split at h
 ·exact ⟨Nat.le_of_ble_eq_true (by kernel_rfl), 0, (gentry_qk K _ _ _ _ _ _ _ _ _).trans h⟩
 ·cases h

theorem call_qk : Callable Tryz.prog 92 := ⟨_, Tryz.func92, by kernel_rfl, by kernel_rfl⟩

def T_ql (a0 : LT_qk) (a1 : LT_qd) (a2 : LT_qe) : FuncId -> Option Sum := (addS (addS (addS G0 92 (S_qk @a0)) 70 (S_qd @a1)) 91 (S_qe @a2))

abbrev C_ql : FuncId -> Option Sum := T_ql @l_qk @l_qd @l_qe

theorem right_T_ql : Right Tryz.prog C_ql := (right_add (right_add (right_add right_G0 call_qk sound_qk) call_qd sound_qd) call_qe sound_qe)

abbrev cuts_ql : Cuts := []

abbrev k0_ql {R : Type} (K : AV -> List O -> Option R) : Int -> Option R := fun r0 => K (iv r0) []

theorem gentry_ql {a0 : LT_qk} {a1 : LT_qd} {a2 : LT_qe} {R : Type} (K : AV -> List O -> Option R) (q : Int) (q_1 : List Int) (q_2 q_3 q_4 q_5 : Int) (q_6 q_7 : List Int) (a : Int) (a_1 a_2 : List Int) :
  fnRun Tryz.prog (T_ql @a0 @a1 @a2) cuts_ql Tryz.f71 0 [.agg [iv q, ri 3 q_1, iv q_2, iv q_3, iv q_4, iv q_5, ri 3 q_6, ri 3 q_7], .agg [iv a, ri 3 a_1, ri 3 a_2]] [] K =
  gl_ql @a0 @a1 @a2 q q_1 q_2 q_3 q_4 q_5 q_6 q_7 a a_1 a_2 (k0_ql K) := by kernel_rfl

def S_ql (l_ql : LT_ql) : Sum := ⟨[], fun {R} args ob K => match args, ob with
 |[.agg [.v (.int .i64 q), .rd ⟨false, 3, (.int .i64), q_1⟩, .v (.int .i64 q_2), .v (.int .i64 q_3), .v (.int .i64 q_4), .v (.int .i64 q_5), .rd ⟨false, 3, (.int .i64), q_6⟩, .rd ⟨false, 3, (.int .i64), q_7⟩], .agg [.v (.int .i64 a), .rd ⟨false, 3, (.int .i64), a_1⟩, .rd ⟨false, 3, (.int .i64), a_2⟩]], [] => l_ql q q_1 q_2 q_3 q_4 q_5 q_6 q_7 a a_1 a_2 (k0_ql K)
 |_, _ => none⟩

theorem sound_ql : Sound Tryz.prog 71 (S_ql @l_ql) := by
 refine fn_sound (cuts := cuts_ql) (fn := Tryz.f71) (Γ := C_ql) wide right_T_ql Tryz.func71 fun {R} K r args ob h => ?_
 unfold S_ql at h
 dsimp only at h
 split at h
 ·exact ⟨Nat.le_of_ble_eq_true (by kernel_rfl), 0, (gentry_ql K _ _ _ _ _ _ _ _ _ _ _).trans h⟩
 ·cases h

theorem call_ql : Callable Tryz.prog 71 := ⟨_, Tryz.func71, by kernel_rfl, by kernel_rfl⟩

def T_qm (a0 : LT_ql) (a1 : LT_q8) (a2 : LT_qd) : FuncId -> Option Sum := (addS (addS (addS G0 71 (S_ql @a0)) 67 (S_q8 @a1)) 70 (S_qd @a2))

abbrev C_qm : FuncId -> Option Sum := T_qm @l_ql @l_q8 @l_qd

theorem right_T_qm : Right Tryz.prog C_qm := (right_add (right_add (right_add right_G0 call_ql sound_ql) call_q8 sound_q8) call_qd sound_qd)

abbrev cuts_qm : Cuts := []

abbrev k0_qm {R : Type} (K : AV -> List O -> Option R) : Int -> Option R := fun r0 => K (iv r0) []

theorem gentry_qm {a0 : LT_ql} {a1 : LT_q8} {a2 : LT_qd} {R : Type} (K : AV -> List O -> Option R) (r : Int) (r_1 : List Int) (r_2 r_3 r_4 r_5 : Int) (r_6 r_7 : List Int) (r_8 : Int) (r_9 r_10 : List Int) (l l_1 l_2 : Int) :
  fnRun Tryz.prog (T_qm @a0 @a1 @a2) cuts_qm Tryz.f44 0 [.agg [iv r, ri 3 r_1, iv r_2, iv r_3, iv r_4, iv r_5, ri 3 r_6, ri 3 r_7, iv r_8, ri 3 r_9, ri 3 r_10], .agg [iv l, iv l_1, iv l_2, .cel]] [] K =
  gl_qm @a0 @a1 @a2 r r_1 r_2 r_3 r_4 r_5 r_6 r_7 r_8 r_9 r_10 l l_1 l_2 (k0_qm K) := by kernel_rfl

def S_qm (l_qm : LT_qm) : Sum := ⟨[98], fun {R} args ob K => match args, ob with
 |[.agg [.v (.int .i64 r), .rd ⟨false, 3, (.int .i64), r_1⟩, .v (.int .i64 r_2), .v (.int .i64 r_3), .v (.int .i64 r_4), .v (.int .i64 r_5), .rd ⟨false, 3, (.int .i64), r_6⟩, .rd ⟨false, 3, (.int .i64), r_7⟩, .v (.int .i64 r_8), .rd ⟨false, 3, (.int .i64), r_9⟩, .rd ⟨false, 3, (.int .i64), r_10⟩], .agg [.v (.int .i64 l), .v (.int .i64 l_1), .v (.int .i64 l_2), .cel]], [] => l_qm r r_1 r_2 r_3 r_4 r_5 r_6 r_7 r_8 r_9 r_10 l l_1 l_2 (k0_qm K)
 |_, _ => none⟩

theorem sound_qm : Sound Tryz.prog 44 (S_qm @l_qm) := by
 refine fn_sound (cuts := cuts_qm) (fn := Tryz.f44) (Γ := C_qm) wide right_T_qm Tryz.func44 fun {R} K r args ob h => ?_
 unfold S_qm at h
 dsimp only at h
 split at h
 ·exact ⟨Nat.le_of_ble_eq_true (by kernel_rfl), 0, (gentry_qm K _ _ _ _ _ _ _ _ _ _ _ _ _ _).trans h⟩
 ·cases h

theorem call_qm : Callable Tryz.prog 44 := ⟨_, Tryz.func44, by kernel_rfl, by kernel_rfl⟩

def T_qn : FuncId -> Option Sum := G0

theorem right_T_qn : Right Tryz.prog T_qn := right_G0

abbrev cuts_qn : Cuts := []

abbrev k0_qn {R : Type} (K : AV -> List O -> Option R) : Int -> Option R := fun r0 => K (iv r0) []

theorem gentry_qn {R : Type} (K : AV -> List O -> Option R) (m m_1 m_2 m_3 : Int) (m_4 m_5 : List Int) :
  fnRun Tryz.prog T_qn cuts_qn Tryz.f98 0 [.agg [iv m, iv m_1, iv m_2, iv m_3, ri 3 m_4, ri 3 m_5]] [] K =
  l_qn m m_1 m_2 m_3 m_4 m_5 (k0_qn K) := by kernel_rfl

def S_qn (l_qn : LT_qn) : Sum := ⟨[], fun {R} args ob K => match args, ob with
 |[.agg [.v (.int .i64 m), .v (.int .i64 m_1), .v (.int .i64 m_2), .v (.int .i64 m_3), .rd ⟨false, 3, (.int .i64), m_4⟩, .rd ⟨false, 3, (.int .i64), m_5⟩]], [] => l_qn m m_1 m_2 m_3 m_4 m_5 (k0_qn K)
 |_, _ => none⟩

theorem sound_qn : Sound Tryz.prog 98 (S_qn @l_qn) := by
 refine fn_sound (cuts := cuts_qn) (fn := Tryz.f98) (Γ := T_qn) wide right_T_qn Tryz.func98 fun {R} K r args ob h => ?_
 unfold S_qn at h
 dsimp only at h
 split at h
 ·exact ⟨Nat.le_of_ble_eq_true (by kernel_rfl), 0, (gentry_qn K _ _ _ _ _ _).trans h⟩
 ·cases h

theorem call_qn : Callable Tryz.prog 98 := ⟨_, Tryz.func98, by kernel_rfl, by kernel_rfl⟩

def T_qo (a0 : LT_qn) : FuncId -> Option Sum := (addS G0 98 (S_qn @a0))

abbrev C_qo : FuncId -> Option Sum := T_qo @l_qn

theorem right_T_qo : Right Tryz.prog C_qo := (right_add right_G0 call_qn sound_qn)

abbrev cuts_qo : Cuts := []

abbrev k0_qo {R : Type} (K : AV -> List O -> Option R) : Int -> Option R := fun r0 => K (iv r0) []

theorem gentry_qo {a0 : LT_qn} {R : Type} (K : AV -> List O -> Option R) (m m_1 m_2 m_3 : Int) (m_4 m_5 : List Int) :
  fnRun Tryz.prog (T_qo @a0) cuts_qo Tryz.f78 0 [.agg [iv m, iv m_1, iv m_2, iv m_3, ri 3 m_4, ri 3 m_5]] [] K =
  gl_qo @a0 m m_1 m_2 m_3 m_4 m_5 (k0_qo K) := by kernel_rfl

def S_qo (l_qo : LT_qo) : Sum := ⟨[], fun {R} args ob K => match args, ob with
 |[.agg [.v (.int .i64 m), .v (.int .i64 m_1), .v (.int .i64 m_2), .v (.int .i64 m_3), .rd ⟨false, 3, (.int .i64), m_4⟩, .rd ⟨false, 3, (.int .i64), m_5⟩]], [] => l_qo m m_1 m_2 m_3 m_4 m_5 (k0_qo K)
 |_, _ => none⟩

theorem sound_qo : Sound Tryz.prog 78 (S_qo @l_qo) := by
 refine fn_sound (cuts := cuts_qo) (fn := Tryz.f78) (Γ := C_qo) wide right_T_qo Tryz.func78 fun {R} K r args ob h => ?_
 unfold S_qo at h
 dsimp only at h
 split at h
 ·exact ⟨Nat.le_of_ble_eq_true (by kernel_rfl), 0, (gentry_qo K _ _ _ _ _ _).trans h⟩
 ·cases h

theorem call_qo : Callable Tryz.prog 78 := ⟨_, Tryz.func78, by kernel_rfl, by kernel_rfl⟩

def T_qp : FuncId -> Option Sum := G0

theorem right_T_qp : Right Tryz.prog T_qp := right_G0

abbrev cuts_qp : Cuts := [(2, [0, 1, 7, 8])]

abbrev k0_qp {R : Type} (K : AV -> List O -> Option R) : Int -> Option R := fun r0 => K (iv r0) []

abbrev sta_qp_2 (l : List Int) (n x7 x8 : Int) : St := ⟨fr0 21 [(0, ri 3 l), (1, iv n), (7, iv x7), (8, iv x8)], []⟩

abbrev gt_qp_2 {R : Type} (g : List Item -> St -> Option R) : GT_qp_2 R := fun (l : List Int) (n x7 x8 : Int) => g (at' Tryz.f79 2) (sta_qp_2 l n x7 x8)

theorem gstep_qp_2 {R : Type} (g : List Item -> St -> Option R) (K : AV -> List O -> Option R) (l : List Int) (n x7 x8 : Int) :
  runSeg Tryz.prog T_qp cuts_qp 0 g (finish Tryz.prog Tryz.f79 0 K) (at' Tryz.f79 2) (sta_qp_2 l n x7 x8) =
  s_qp_2 (gt_qp_2 g) (k0_qp K) l n x7 x8 := by kernel_rfl

theorem gentry_qp {R : Type} (fuel : Nat) (K : AV -> List O -> Option R) (l : List Int) (n : Int) :
  fnRun Tryz.prog T_qp cuts_qp Tryz.f79 fuel [ri 3 l, iv n] [] K =
  e_qp (gt_qp_2 (runO Tryz.prog T_qp cuts_qp 0 (finish Tryz.prog Tryz.f79 0 K) fuel)) (k0_qp K) l n := by kernel_rfl

theorem runs_qp {R : Type} (K : AV -> List O -> Option R) : ∀ fuel : Nat,
  (gt_qp_2 (runO Tryz.prog T_qp cuts_qp 0 (finish Tryz.prog Tryz.f79 0 K) fuel)) = (run_qp (k0_qp K) fuel)
 |0 => rfl
 |fuel + 1 => by
  have ih := runs_qp K fuel
  funext l n x7 x8
  refine (gstep_qp_2 _ K l n x7 x8).trans ?_
  rw [ih]
  rfl

def S_qp (l_qp : LT_qp) : Sum := ⟨[], fun {R} args ob K => match args, ob with
 |[.rd ⟨false, 3, (.int .i64), l⟩, .v (.int .i64 n)], [] => l_qp l n (k0_qp K)
 |_, _ => none⟩

theorem sound_qp : Sound Tryz.prog 79 (S_qp @l_qp) := by
 refine fn_sound (cuts := cuts_qp) (fn := Tryz.f79) (Γ := T_qp) wide right_T_qp Tryz.func79 fun {R} K r args ob h => ?_
 unfold S_qp at h
 dsimp only at h
 split at h
 ·obtain ⟨n, hn⟩ := ok_qp _ _ _ h
  refine ⟨Nat.le_of_ble_eq_true (by kernel_rfl), n, (gentry_qp n K _ _).trans ?_⟩
  rw [(runs_qp K n)]
  exact hn
 ·cases h

theorem call_qp : Callable Tryz.prog 79 := ⟨_, Tryz.func79, by kernel_rfl, by kernel_rfl⟩

def T_qq (a0 : LT_qp) (a1 : LT_qo) : FuncId -> Option Sum := (addS (addS G0 79 (S_qp @a0)) 78 (S_qo @a1))

abbrev C_qq : FuncId -> Option Sum := T_qq @l_qp @l_qo

theorem right_T_qq : Right Tryz.prog C_qq := (right_add (right_add right_G0 call_qp sound_qp) call_qo sound_qo)

abbrev cuts_qq : Cuts := []

abbrev k0_qq {R : Type} (K : AV -> List O -> Option R) : Int -> Int -> Option R := fun r0 r1 => K (.tup [iv r0, iv r1]) []

theorem gentry_qq {a0 : LT_qp} {a1 : LT_qo} {R : Type} (K : AV -> List O -> Option R) (m m_1 m_2 m_3 : Int) (m_4 m_5 : List Int) :
  fnRun Tryz.prog (T_qq @a0 @a1) cuts_qq Tryz.f53 0 [.agg [iv m, iv m_1, iv m_2, iv m_3, ri 3 m_4, ri 3 m_5]] [] K =
  gl_qq @a0 @a1 m m_1 m_2 m_3 m_4 m_5 (k0_qq K) := by kernel_rfl

def S_qq (l_qq : LT_qq) : Sum := ⟨[], fun {R} args ob K => match args, ob with
 |[.agg [.v (.int .i64 m), .v (.int .i64 m_1), .v (.int .i64 m_2), .v (.int .i64 m_3), .rd ⟨false, 3, (.int .i64), m_4⟩, .rd ⟨false, 3, (.int .i64), m_5⟩]], [] => l_qq m m_1 m_2 m_3 m_4 m_5 (k0_qq K)
 |_, _ => none⟩

theorem sound_qq : Sound Tryz.prog 53 (S_qq @l_qq) := by
 refine fn_sound (cuts := cuts_qq) (fn := Tryz.f53) (Γ := C_qq) wide right_T_qq Tryz.func53 fun {R} K r args ob h => ?_
 unfold S_qq at h
 dsimp only at h
 split at h
 ·exact ⟨Nat.le_of_ble_eq_true (by kernel_rfl), 0, (gentry_qq K _ _ _ _ _ _).trans h⟩
 ·cases h

theorem call_qq : Callable Tryz.prog 53 := ⟨_, Tryz.func53, by kernel_rfl, by kernel_rfl⟩

def T_qr : FuncId -> Option Sum := G0

theorem right_T_qr : Right Tryz.prog T_qr := right_G0

abbrev cuts_qr : Cuts := []

abbrev k0_qr {R : Type} (K : AV -> List O -> Option R) : Int -> Option R := fun r0 => K (iv r0) []

theorem gentry_qr {R : Type} (K : AV -> List O -> Option R) (l l_1 l_2 m m_1 m_2 m_3 : Int) (m_4 m_5 : List Int) :
  fnRun Tryz.prog T_qr cuts_qr Tryz.f54 0 [.agg [iv l, iv l_1, iv l_2, .cel], .agg [iv m, iv m_1, iv m_2, iv m_3, ri 3 m_4, ri 3 m_5]] [] K =
  l_qr l l_1 l_2 m m_1 m_2 m_3 m_4 m_5 (k0_qr K) := by kernel_rfl

def S_qr (l_qr : LT_qr) : Sum := ⟨[], fun {R} args ob K => match args, ob with
 |[.agg [.v (.int .i64 l), .v (.int .i64 l_1), .v (.int .i64 l_2), .cel], .agg [.v (.int .i64 m), .v (.int .i64 m_1), .v (.int .i64 m_2), .v (.int .i64 m_3), .rd ⟨false, 3, (.int .i64), m_4⟩, .rd ⟨false, 3, (.int .i64), m_5⟩]], [] => l_qr l l_1 l_2 m m_1 m_2 m_3 m_4 m_5 (k0_qr K)
 |_, _ => none⟩

theorem sound_qr : Sound Tryz.prog 54 (S_qr @l_qr) := by
 refine fn_sound (cuts := cuts_qr) (fn := Tryz.f54) (Γ := T_qr) wide right_T_qr Tryz.func54 fun {R} K r args ob h => ?_
 unfold S_qr at h
 dsimp only at h
 split at h
 ·exact ⟨Nat.le_of_ble_eq_true (by kernel_rfl), 0, (gentry_qr K _ _ _ _ _ _ _ _ _).trans h⟩
 ·cases h

theorem call_qr : Callable Tryz.prog 54 := ⟨_, Tryz.func54, by kernel_rfl, by kernel_rfl⟩

def T_qs (a0 : LT_ql) (a1 : LT_qr) (a2 : LT_qq) : FuncId -> Option Sum := (addS (addS (addS G0 71 (S_ql @a0)) 54 (S_qr @a1)) 53 (S_qq @a2))

abbrev C_qs : FuncId -> Option Sum := T_qs @l_ql @l_qr @l_qq

theorem right_T_qs : Right Tryz.prog C_qs := (right_add (right_add (right_add right_G0 call_ql sound_ql) call_qr sound_qr) call_qq sound_qq)

abbrev cuts_qs : Cuts := []

abbrev k0_qs {R : Type} (K : AV -> List O -> Option R) : Int -> Option R := fun r0 => K (iv r0) []

theorem gentry_qs {a0 : LT_ql} {a1 : LT_qr} {a2 : LT_qq} {R : Type} (K : AV -> List O -> Option R) (r : Int) (r_1 : List Int) (r_2 r_3 r_4 r_5 : Int) (r_6 r_7 : List Int) (r_8 : Int) (r_9 r_10 : List Int) (l l_1 l_2 : Int) :
  fnRun Tryz.prog (T_qs @a0 @a1 @a2) cuts_qs Tryz.f45 0 [.agg [iv r, ri 3 r_1, iv r_2, iv r_3, iv r_4, iv r_5, ri 3 r_6, ri 3 r_7, iv r_8, ri 3 r_9, ri 3 r_10], .agg [iv l, iv l_1, iv l_2, .cel]] [] K =
  gl_qs @a0 @a1 @a2 r r_1 r_2 r_3 r_4 r_5 r_6 r_7 r_8 r_9 r_10 l l_1 l_2 (k0_qs K) := by kernel_rfl

def S_qs (l_qs : LT_qs) : Sum := ⟨[98], fun {R} args ob K => match args, ob with
 |[.agg [.v (.int .i64 r), .rd ⟨false, 3, (.int .i64), r_1⟩, .v (.int .i64 r_2), .v (.int .i64 r_3), .v (.int .i64 r_4), .v (.int .i64 r_5), .rd ⟨false, 3, (.int .i64), r_6⟩, .rd ⟨false, 3, (.int .i64), r_7⟩, .v (.int .i64 r_8), .rd ⟨false, 3, (.int .i64), r_9⟩, .rd ⟨false, 3, (.int .i64), r_10⟩], .agg [.v (.int .i64 l), .v (.int .i64 l_1), .v (.int .i64 l_2), .cel]], [] => l_qs r r_1 r_2 r_3 r_4 r_5 r_6 r_7 r_8 r_9 r_10 l l_1 l_2 (k0_qs K)
 |_, _ => none⟩

theorem sound_qs : Sound Tryz.prog 45 (S_qs @l_qs) := by
 refine fn_sound (cuts := cuts_qs) (fn := Tryz.f45) (Γ := C_qs) wide right_T_qs Tryz.func45 fun {R} K r args ob h => ?_
 unfold S_qs at h
 dsimp only at h
 split at h
 ·exact ⟨Nat.le_of_ble_eq_true (by kernel_rfl), 0, (gentry_qs K _ _ _ _ _ _ _ _ _ _ _ _ _ _).trans h⟩
 ·cases h

theorem call_qs : Callable Tryz.prog 45 := ⟨_, Tryz.func45, by kernel_rfl, by kernel_rfl⟩


def S_qt (l_qt : LT_qt) : Sum := ⟨[], fun {R} args ob K => match args, ob with
 |[.rd ⟨false, _, .int .u8, xs⟩, .rd ⟨false, _, .int .u8, ys⟩], [] => l_qt xs ys (fun r0 => K (.v (.int .i64 r0)) [])
 |_, _ => none⟩

theorem sound_qt : Sound Tryz.prog 63 (S_qt @l_qt) := sound_Index (g := 0) Tryz.laysC13 rfl rfl inferInstance

theorem call_qt : Callable Tryz.prog 63 := ⟨_, Tryz.func63, by kernel_rfl, by kernel_rfl⟩

def T_qv : FuncId -> Option Sum := G0

theorem right_T_qv : Right Tryz.prog T_qv := right_G0

abbrev cuts_qu : Cuts := [(1, [0, 1, 4])]

abbrev k0_qu {R : Type} (K : AV -> List O -> Option R) : (List Int) -> Int -> Int -> Int -> Option R := fun r0 r1 r2 r3 => K (.tup []) [.box 145 [rb 5 r0, iv r1, .ifc 147 (.ptr 1 0)], .box 151 [iv r2, iv r3]]

abbrev k1_qu {R : Type} (K : AV -> List O -> Option R) : (List Int) -> Int -> Option R := fun r0 r1 => K (.tup []) [.box 145 [rb 5 r0, iv r1, .v (.nilIface)]]

abbrev sta_qu_1 (s : ByteArray) (i : Int) (o0 : List Int) (o0_1 : Int) : St := ⟨fr0 61 [(0, .ptr 0 0), (1, .v (.string s)), (4, iv i)], [.box 145 [rb 5 o0, iv o0_1, .v (.nilIface)]]⟩

abbrev gt_qu_1 {R : Type} (g : List Item -> St -> Option R) : GT_qu_1 R := fun (s : ByteArray) (i : Int) (o0 : List Int) (o0_1 : Int) => g (at' Tryz.f103 1) (sta_qu_1 s i o0 o0_1)

theorem gstep_qu_1 {R : Type} (g : List Item -> St -> Option R) (K : AV -> List O -> Option R) (s : ByteArray) (i : Int) (o0 : List Int) (o0_1 : Int) :
  runSeg Tryz.prog T_qv cuts_qu 1 g (finish Tryz.prog Tryz.f103 1 K) (at' Tryz.f103 1) (sta_qu_1 s i o0 o0_1) =
  s_qu_1 (gt_qu_1 g) (k0_qu K) (k1_qu K) s i o0 o0_1 := by kernel_rfl

theorem gentry_qu {R : Type} (fuel : Nat) (K : AV -> List O -> Option R) (s : ByteArray) (o0 : List Int) (o0_1 : Int) :
  fnRun Tryz.prog T_qv cuts_qu Tryz.f103 fuel [.ptr 0 0, .v (.string s)] [.box 145 [rb 5 o0, iv o0_1, .v (.nilIface)]] K =
  e_qu (gt_qu_1 (runO Tryz.prog T_qv cuts_qu 1 (finish Tryz.prog Tryz.f103 1 K) fuel)) (k0_qu K) (k1_qu K) s o0 o0_1 := by kernel_rfl

theorem runs_qu {R : Type} (K : AV -> List O -> Option R) : ∀ fuel : Nat,
  (gt_qu_1 (runO Tryz.prog T_qv cuts_qu 1 (finish Tryz.prog Tryz.f103 1 K) fuel)) = (run_qu (k0_qu K) (k1_qu K) fuel)
 |0 => rfl
 |fuel + 1 => by
  have ih := runs_qu K fuel
  funext s i o0 o0_1
  refine (gstep_qu_1 _ K s i o0 o0_1).trans ?_
  rw [ih]
  rfl

abbrev cuts_qy : Cuts := [(1, [0, 1, 4])]

abbrev k0_qy {R : Type} (K : AV -> List O -> Option R) : (List Int) -> Int -> Int -> Int -> Option R := fun r0 r1 r2 r3 => K (.tup []) [.box 145 [rb 5 r0, iv r1, .ifc 147 (.ptr 1 0)], .box 151 [iv r2, iv r3]]

abbrev sta_qy_1 (s : ByteArray) (i : Int) (o0 : List Int) (o0_1 o1 o1_1 : Int) : St := ⟨fr0 61 [(0, .ptr 0 0), (1, .v (.string s)), (4, iv i)], [.box 145 [rb 5 o0, iv o0_1, .ifc 147 (.ptr 1 0)], .box 151 [iv o1, iv o1_1]]⟩

abbrev gt_qy_1 {R : Type} (g : List Item -> St -> Option R) : GT_qy_1 R := fun (s : ByteArray) (i : Int) (o0 : List Int) (o0_1 o1 o1_1 : Int) => g (at' Tryz.f103 1) (sta_qy_1 s i o0 o0_1 o1 o1_1)

theorem gstep_qy_1 {R : Type} (g : List Item -> St -> Option R) (K : AV -> List O -> Option R) (s : ByteArray) (i : Int) (o0 : List Int) (o0_1 o1 o1_1 : Int) :
  runSeg Tryz.prog T_qv cuts_qy 2 g (finish Tryz.prog Tryz.f103 2 K) (at' Tryz.f103 1) (sta_qy_1 s i o0 o0_1 o1 o1_1) =
  s_qy_1 (gt_qy_1 g) (k0_qy K) s i o0 o0_1 o1 o1_1 := by kernel_rfl

theorem gentry_qy {R : Type} (fuel : Nat) (K : AV -> List O -> Option R) (s : ByteArray) (o0 : List Int) (o0_1 o1 o1_1 : Int) :
  fnRun Tryz.prog T_qv cuts_qy Tryz.f103 fuel [.ptr 0 0, .v (.string s)] [.box 145 [rb 5 o0, iv o0_1, .ifc 147 (.ptr 1 0)], .box 151 [iv o1, iv o1_1]] K =
  e_qy (gt_qy_1 (runO Tryz.prog T_qv cuts_qy 2 (finish Tryz.prog Tryz.f103 2 K) fuel)) (k0_qy K) s o0 o0_1 o1 o1_1 := by kernel_rfl

theorem runs_qy {R : Type} (K : AV -> List O -> Option R) : ∀ fuel : Nat,
  (gt_qy_1 (runO Tryz.prog T_qv cuts_qy 2 (finish Tryz.prog Tryz.f103 2 K) fuel)) = (run_qy (k0_qy K) fuel)
 |0 => rfl
 |fuel + 1 => by
  have ih := runs_qy K fuel
  funext s i o0 o0_1 o1 o1_1
  refine (gstep_qy_1 _ K s i o0 o0_1 o1 o1_1).trans ?_
  rw [ih]
  rfl

def S_qv (l_qu : LT_qu) (l_qy : LT_qy) : Sum := ⟨[], fun {R} args ob K => match args, ob with
 |[.ptr 0 0, .v (.string s)], [.box 145 [.rd ⟨false, 5, (.int .u8), o0⟩, .v (.int .i64 o0_1), .v (.nilIface)]] => l_qu s o0 o0_1 (k0_qu K) (k1_qu K)
 |[.ptr 0 0, .v (.string s)], [.box 145 [.rd ⟨false, 5, (.int .u8), o0⟩, .v (.int .i64 o0_1), .ifc 147 (.ptr 1 0)], .box 151 [.v (.int .i64 o1), .v (.int .i64 o1_1)]] => l_qy s o0 o0_1 o1 o1_1 (k0_qy K)
 |_, _ => none⟩

theorem sound_qv : Sound Tryz.prog 103 (S_qv @l_qu @l_qy) := by
 refine fn_sound (cuts := cuts_qu) (fn := Tryz.f103) (Γ := T_qv) wide right_T_qv Tryz.func103 fun {R} K r args ob h => ?_
 unfold S_qv at h
 dsimp only at h
 split at h
 ·obtain ⟨n, hn⟩ := evl_ok h
  refine ⟨Nat.le_of_ble_eq_true (by kernel_rfl), n, (gentry_qu n K _ _ _).trans ?_⟩
  rw [(runs_qu K n)]
  exact hn
 ·obtain ⟨n, hn⟩ := evl_ok h
  refine ⟨Nat.le_of_ble_eq_true (by kernel_rfl), n, (gentry_qy n K _ _ _ _ _).trans ?_⟩
  rw [(runs_qy K n)]
  exact hn
 ·cases h

theorem call_qv : Callable Tryz.prog 103 := ⟨_, Tryz.func103, by kernel_rfl, by kernel_rfl⟩

def T_qx (a0 : LT_q5) : FuncId -> Option Sum := (addS G0 87 (S_q5 @a0))

abbrev C_qx : FuncId -> Option Sum := T_qx @l_q5

theorem right_T_qx : Right Tryz.prog C_qx := (right_add right_G0 call_q5 sound_q5)

abbrev cuts_qw : Cuts := []

abbrev k0_qw {R : Type} (K : AV -> List O -> Option R) : Int -> (List Int) -> Int -> Int -> Int -> Option R := fun r0 r1 r2 r3 r4 => K (iv r0) [.box 145 [rb 5 r1, iv r2, .ifc 147 (.ptr 1 0)], .box 151 [iv r3, iv r4]]

theorem gentry_qw {a0 : LT_q5} {R : Type} (K : AV -> List O -> Option R) (low high kind : Int) (o0 : List Int) (o0_1 o1 o1_1 : Int) :
  fnRun Tryz.prog (T_qx @a0) cuts_qw Tryz.f102 0 [.ptr 0 0, iv low, iv high, iv kind] [.box 145 [rb 5 o0, iv o0_1, .ifc 147 (.ptr 1 0)], .box 151 [iv o1, iv o1_1]] K =
  l_qw low high kind o0 o0_1 o1 o1_1 (k0_qw K) := by kernel_rfl

abbrev cuts_qz : Cuts := []

abbrev k0_qz {R : Type} (K : AV -> List O -> Option R) : Int -> (List Int) -> Int -> Int -> Int -> Option R := fun r0 r1 r2 r3 r4 => K (iv r0) [.box 145 [rb 5 r1, iv r2, .ifc 147 (.ptr 1 0)], .box 151 [iv r3, iv r4]]

abbrev k1_qz {R : Type} (K : AV -> List O -> Option R) : Int -> (List Int) -> Int -> Option R := fun r0 r1 r2 => K (iv r0) [.box 145 [rb 5 r1, iv r2, .v (.nilIface)]]

theorem gentry_qz {a0 : LT_q5} {R : Type} (K : AV -> List O -> Option R) (low high kind : Int) (o0 : List Int) (o0_1 : Int) :
  fnRun Tryz.prog (T_qx @a0) cuts_qz Tryz.f102 0 [.ptr 0 0, iv low, iv high, iv kind] [.box 145 [rb 5 o0, iv o0_1, .v (.nilIface)]] K =
  gl_qz @a0 low high kind o0 o0_1 (k0_qz K) (k1_qz K) := by kernel_rfl

def S_qx (l_qw : LT_qw) (l_qz : LT_qz) : Sum := ⟨[], fun {R} args ob K => match args, ob with
 |[.ptr 0 0, .v (.int .i64 low), .v (.int .i64 high), .v (.int .i64 kind)], [.box 145 [.rd ⟨false, 5, (.int .u8), o0⟩, .v (.int .i64 o0_1), .ifc 147 (.ptr 1 0)], .box 151 [.v (.int .i64 o1), .v (.int .i64 o1_1)]] => l_qw low high kind o0 o0_1 o1 o1_1 (k0_qw K)
 |[.ptr 0 0, .v (.int .i64 low), .v (.int .i64 high), .v (.int .i64 kind)], [.box 145 [.rd ⟨false, 5, (.int .u8), o0⟩, .v (.int .i64 o0_1), .v (.nilIface)]] => l_qz low high kind o0 o0_1 (k0_qz K) (k1_qz K)
 |_, _ => none⟩

theorem sound_qx : Sound Tryz.prog 102 (S_qx @l_qw @l_qz) := by
 refine fn_sound (cuts := cuts_qw) (fn := Tryz.f102) (Γ := C_qx) wide right_T_qx Tryz.func102 fun {R} K r args ob h => ?_
 unfold S_qx at h
 dsimp only at h
 split at h
 ·exact ⟨Nat.le_of_ble_eq_true (by kernel_rfl), 0, (gentry_qw K _ _ _ _ _ _ _).trans h⟩
 ·exact ⟨Nat.le_of_ble_eq_true (by kernel_rfl), 0, (gentry_qz K _ _ _ _ _).trans h⟩
 ·cases h

theorem call_qx : Callable Tryz.prog 102 := ⟨_, Tryz.func102, by kernel_rfl, by kernel_rfl⟩

def T_q11 (a0 : LT_qu) (a1 : LT_qy) (a2 : LT_qw) (a3 : LT_qz) : FuncId -> Option Sum := (addS (addS G0 103 (S_qv @a0 @a1)) 102 (S_qx @a2 @a3))

abbrev C_q11 : FuncId -> Option Sum := T_q11 @l_qu @l_qy @l_qw @l_qz

theorem right_T_q11 : Right Tryz.prog C_q11 := (right_add (right_add right_G0 call_qv sound_qv) call_qx sound_qx)

abbrev cuts_q10 : Cuts := [(15, [0, 2, 3, 4, 5, 6]), (19, [0, 2, 3, 4, 5, 6]), (20, [0, 2, 3, 4, 5, 6, 7]), (21, [0, 2, 3, 4, 5, 6, 7]), (25, [0, 2, 3, 4, 5, 6, 7])]

abbrev k0_q10 {R : Type} (K : AV -> List O -> Option R) : KT0_q10 R := fun r0 r1 r2 r3 r4 r5 r6 r7 r8 r9 => K (.agg [iv r0, iv r1, iv r2, iv r3, .own 2, .own 3]) [.box 145 [rb 5 r4, iv r5, .ifc 147 (.ptr 1 0)], .box 151 [iv r6, iv r7], wi 3 r8, wi 3 r9]

abbrev k1_q10 {R : Type} (K : AV -> List O -> Option R) : KT1_q10 R := fun r0 r1 r2 r3 r4 r5 r6 r7 => K (.agg [iv r0, iv r1, iv r2, iv r3, .own 1, .own 2]) [.box 145 [rb 5 r4, iv r5, .v (.nilIface)], wi 3 r6, wi 3 r7]

abbrev sta_q10_15a (s : Int) (o0 : List Int) (o0_1 o1 o1_1 o2 o2_1 o2_2 o2_3 : Int) (o3 o4 : List Int) (o5 o5_1 o5_2 o5_3 : Int) (o6 o7 : List Int) : St := ⟨fr0 151 [(0, .ptr 0 0), (2, .ptr 2 0), (3, .ptr 5 0), (4, .bnd 102 [.ptr 0 0]), (5, .bnd 103 [.ptr 0 0]), (6, iv s)], [.box 145 [rb 5 o0, iv o0_1, .ifc 147 (.ptr 1 0)], .box 151 [iv o1, iv o1_1], .box 47 [iv o2, iv o2_1, iv o2_2, iv o2_3, .own 3, .own 4], wi 3 o3, wi 3 o4, .box 47 [iv o5, iv o5_1, iv o5_2, iv o5_3, .own 6, .own 7], wi 3 o6, wi 3 o7]⟩

abbrev gt_q10_15a {R : Type} (g : List Item -> St -> Option R) : GT_q10_15a R := fun (s : Int) (o0 : List Int) (o0_1 o1 o1_1 o2 o2_1 o2_2 o2_3 : Int) (o3 o4 : List Int) (o5 o5_1 o5_2 o5_3 : Int) (o6 o7 : List Int) => g (at' Tryz.f88 15) (sta_q10_15a s o0 o0_1 o1 o1_1 o2 o2_1 o2_2 o2_3 o3 o4 o5 o5_1 o5_2 o5_3 o6 o7)

abbrev sta_q10_15b (s : Int) (o0 : List Int) (o0_1 o1 o1_1 o1_2 o1_3 : Int) (o2 o3 : List Int) (o4 o4_1 o4_2 o4_3 : Int) (o5 o6 : List Int) : St := ⟨fr0 151 [(0, .ptr 0 0), (2, .ptr 1 0), (3, .ptr 4 0), (4, .bnd 102 [.ptr 0 0]), (5, .bnd 103 [.ptr 0 0]), (6, iv s)], [.box 145 [rb 5 o0, iv o0_1, .v (.nilIface)], .box 47 [iv o1, iv o1_1, iv o1_2, iv o1_3, .own 2, .own 3], wi 3 o2, wi 3 o3, .box 47 [iv o4, iv o4_1, iv o4_2, iv o4_3, .own 5, .own 6], wi 3 o5, wi 3 o6]⟩

abbrev gt_q10_15b {R : Type} (g : List Item -> St -> Option R) : GT_q10_15b R := fun (s : Int) (o0 : List Int) (o0_1 o1 o1_1 o1_2 o1_3 : Int) (o2 o3 : List Int) (o4 o4_1 o4_2 o4_3 : Int) (o5 o6 : List Int) => g (at' Tryz.f88 15) (sta_q10_15b s o0 o0_1 o1 o1_1 o1_2 o1_3 o2 o3 o4 o4_1 o4_2 o4_3 o5 o6)

abbrev sta_q10_19a (s : Int) (o0 : List Int) (o0_1 o1 o1_1 o2 o2_1 o2_2 o2_3 : Int) (o3 o4 : List Int) (o5 o5_1 o5_2 o5_3 : Int) (o6 o7 : List Int) : St := ⟨fr0 151 [(0, .ptr 0 0), (2, .ptr 2 0), (3, .ptr 5 0), (4, .bnd 102 [.ptr 0 0]), (5, .bnd 103 [.ptr 0 0]), (6, iv s)], [.box 145 [rb 5 o0, iv o0_1, .ifc 147 (.ptr 1 0)], .box 151 [iv o1, iv o1_1], .box 47 [iv o2, iv o2_1, iv o2_2, iv o2_3, .own 3, .own 4], wi 3 o3, wi 3 o4, .box 47 [iv o5, iv o5_1, iv o5_2, iv o5_3, .own 6, .own 7], wi 3 o6, wi 3 o7]⟩

abbrev gt_q10_19a {R : Type} (g : List Item -> St -> Option R) : GT_q10_19a R := fun (s : Int) (o0 : List Int) (o0_1 o1 o1_1 o2 o2_1 o2_2 o2_3 : Int) (o3 o4 : List Int) (o5 o5_1 o5_2 o5_3 : Int) (o6 o7 : List Int) => g (at' Tryz.f88 19) (sta_q10_19a s o0 o0_1 o1 o1_1 o2 o2_1 o2_2 o2_3 o3 o4 o5 o5_1 o5_2 o5_3 o6 o7)

abbrev sta_q10_19b (s : Int) (o0 : List Int) (o0_1 o1 o1_1 o1_2 o1_3 : Int) (o2 o3 : List Int) (o4 o4_1 o4_2 o4_3 : Int) (o5 o6 : List Int) : St := ⟨fr0 151 [(0, .ptr 0 0), (2, .ptr 1 0), (3, .ptr 4 0), (4, .bnd 102 [.ptr 0 0]), (5, .bnd 103 [.ptr 0 0]), (6, iv s)], [.box 145 [rb 5 o0, iv o0_1, .v (.nilIface)], .box 47 [iv o1, iv o1_1, iv o1_2, iv o1_3, .own 2, .own 3], wi 3 o2, wi 3 o3, .box 47 [iv o4, iv o4_1, iv o4_2, iv o4_3, .own 5, .own 6], wi 3 o5, wi 3 o6]⟩

abbrev gt_q10_19b {R : Type} (g : List Item -> St -> Option R) : GT_q10_19b R := fun (s : Int) (o0 : List Int) (o0_1 o1 o1_1 o1_2 o1_3 : Int) (o2 o3 : List Int) (o4 o4_1 o4_2 o4_3 : Int) (o5 o6 : List Int) => g (at' Tryz.f88 19) (sta_q10_19b s o0 o0_1 o1 o1_1 o1_2 o1_3 o2 o3 o4 o4_1 o4_2 o4_3 o5 o6)

abbrev sta_q10_20a (s x : Int) (o0 : List Int) (o0_1 o1 o1_1 o2 o2_1 o2_2 o2_3 : Int) (o3 o4 : List Int) (o5 o5_1 o5_2 o5_3 : Int) (o6 o7 : List Int) : St := ⟨fr0 151 [(0, .ptr 0 0), (2, .ptr 2 0), (3, .ptr 5 0), (4, .bnd 102 [.ptr 0 0]), (5, .bnd 103 [.ptr 0 0]), (6, iv s), (7, iv x)], [.box 145 [rb 5 o0, iv o0_1, .ifc 147 (.ptr 1 0)], .box 151 [iv o1, iv o1_1], .box 47 [iv o2, iv o2_1, iv o2_2, iv o2_3, .own 3, .own 4], wi 3 o3, wi 3 o4, .box 47 [iv o5, iv o5_1, iv o5_2, iv o5_3, .own 6, .own 7], wi 3 o6, wi 3 o7]⟩

abbrev gt_q10_20a {R : Type} (g : List Item -> St -> Option R) : GT_q10_20a R := fun (s x : Int) (o0 : List Int) (o0_1 o1 o1_1 o2 o2_1 o2_2 o2_3 : Int) (o3 o4 : List Int) (o5 o5_1 o5_2 o5_3 : Int) (o6 o7 : List Int) => g (at' Tryz.f88 20) (sta_q10_20a s x o0 o0_1 o1 o1_1 o2 o2_1 o2_2 o2_3 o3 o4 o5 o5_1 o5_2 o5_3 o6 o7)

abbrev sta_q10_20b (s x : Int) (o0 : List Int) (o0_1 o1 o1_1 o1_2 o1_3 : Int) (o2 o3 : List Int) (o4 o4_1 o4_2 o4_3 : Int) (o5 o6 : List Int) : St := ⟨fr0 151 [(0, .ptr 0 0), (2, .ptr 1 0), (3, .ptr 4 0), (4, .bnd 102 [.ptr 0 0]), (5, .bnd 103 [.ptr 0 0]), (6, iv s), (7, iv x)], [.box 145 [rb 5 o0, iv o0_1, .v (.nilIface)], .box 47 [iv o1, iv o1_1, iv o1_2, iv o1_3, .own 2, .own 3], wi 3 o2, wi 3 o3, .box 47 [iv o4, iv o4_1, iv o4_2, iv o4_3, .own 5, .own 6], wi 3 o5, wi 3 o6]⟩

abbrev gt_q10_20b {R : Type} (g : List Item -> St -> Option R) : GT_q10_20b R := fun (s x : Int) (o0 : List Int) (o0_1 o1 o1_1 o1_2 o1_3 : Int) (o2 o3 : List Int) (o4 o4_1 o4_2 o4_3 : Int) (o5 o6 : List Int) => g (at' Tryz.f88 20) (sta_q10_20b s x o0 o0_1 o1 o1_1 o1_2 o1_3 o2 o3 o4 o4_1 o4_2 o4_3 o5 o6)

abbrev sta_q10_25a (s x : Int) (o0 : List Int) (o0_1 o1 o1_1 o2 o2_1 o2_2 o2_3 : Int) (o3 o4 : List Int) (o5 o5_1 o5_2 o5_3 : Int) (o6 o7 : List Int) : St := ⟨fr0 151 [(0, .ptr 0 0), (2, .ptr 2 0), (3, .ptr 5 0), (4, .bnd 102 [.ptr 0 0]), (5, .bnd 103 [.ptr 0 0]), (6, iv s), (7, iv x)], [.box 145 [rb 5 o0, iv o0_1, .ifc 147 (.ptr 1 0)], .box 151 [iv o1, iv o1_1], .box 47 [iv o2, iv o2_1, iv o2_2, iv o2_3, .own 3, .own 4], wi 3 o3, wi 3 o4, .box 47 [iv o5, iv o5_1, iv o5_2, iv o5_3, .own 6, .own 7], wi 3 o6, wi 3 o7]⟩

abbrev gt_q10_25a {R : Type} (g : List Item -> St -> Option R) : GT_q10_25a R := fun (s x : Int) (o0 : List Int) (o0_1 o1 o1_1 o2 o2_1 o2_2 o2_3 : Int) (o3 o4 : List Int) (o5 o5_1 o5_2 o5_3 : Int) (o6 o7 : List Int) => g (at' Tryz.f88 25) (sta_q10_25a s x o0 o0_1 o1 o1_1 o2 o2_1 o2_2 o2_3 o3 o4 o5 o5_1 o5_2 o5_3 o6 o7)

abbrev sta_q10_25b (s x : Int) (o0 : List Int) (o0_1 o1 o1_1 o1_2 o1_3 : Int) (o2 o3 : List Int) (o4 o4_1 o4_2 o4_3 : Int) (o5 o6 : List Int) : St := ⟨fr0 151 [(0, .ptr 0 0), (2, .ptr 1 0), (3, .ptr 4 0), (4, .bnd 102 [.ptr 0 0]), (5, .bnd 103 [.ptr 0 0]), (6, iv s), (7, iv x)], [.box 145 [rb 5 o0, iv o0_1, .v (.nilIface)], .box 47 [iv o1, iv o1_1, iv o1_2, iv o1_3, .own 2, .own 3], wi 3 o2, wi 3 o3, .box 47 [iv o4, iv o4_1, iv o4_2, iv o4_3, .own 5, .own 6], wi 3 o5, wi 3 o6]⟩

abbrev gt_q10_25b {R : Type} (g : List Item -> St -> Option R) : GT_q10_25b R := fun (s x : Int) (o0 : List Int) (o0_1 o1 o1_1 o1_2 o1_3 : Int) (o2 o3 : List Int) (o4 o4_1 o4_2 o4_3 : Int) (o5 o6 : List Int) => g (at' Tryz.f88 25) (sta_q10_25b s x o0 o0_1 o1 o1_1 o1_2 o1_3 o2 o3 o4 o4_1 o4_2 o4_3 o5 o6)

abbrev sta_q10_21a (s x : Int) (o0 : List Int) (o0_1 o1 o1_1 o2 o2_1 o2_2 o2_3 : Int) (o3 o4 : List Int) (o5 o5_1 o5_2 o5_3 : Int) (o6 o7 : List Int) : St := ⟨fr0 151 [(0, .ptr 0 0), (2, .ptr 2 0), (3, .ptr 5 0), (4, .bnd 102 [.ptr 0 0]), (5, .bnd 103 [.ptr 0 0]), (6, iv s), (7, iv x)], [.box 145 [rb 5 o0, iv o0_1, .ifc 147 (.ptr 1 0)], .box 151 [iv o1, iv o1_1], .box 47 [iv o2, iv o2_1, iv o2_2, iv o2_3, .own 3, .own 4], wi 3 o3, wi 3 o4, .box 47 [iv o5, iv o5_1, iv o5_2, iv o5_3, .own 6, .own 7], wi 3 o6, wi 3 o7]⟩

abbrev gt_q10_21a {R : Type} (g : List Item -> St -> Option R) : GT_q10_21a R := fun (s x : Int) (o0 : List Int) (o0_1 o1 o1_1 o2 o2_1 o2_2 o2_3 : Int) (o3 o4 : List Int) (o5 o5_1 o5_2 o5_3 : Int) (o6 o7 : List Int) => g (at' Tryz.f88 21) (sta_q10_21a s x o0 o0_1 o1 o1_1 o2 o2_1 o2_2 o2_3 o3 o4 o5 o5_1 o5_2 o5_3 o6 o7)

abbrev sta_q10_21b (s x : Int) (o0 : List Int) (o0_1 o1 o1_1 o1_2 o1_3 : Int) (o2 o3 : List Int) (o4 o4_1 o4_2 o4_3 : Int) (o5 o6 : List Int) : St := ⟨fr0 151 [(0, .ptr 0 0), (2, .ptr 1 0), (3, .ptr 4 0), (4, .bnd 102 [.ptr 0 0]), (5, .bnd 103 [.ptr 0 0]), (6, iv s), (7, iv x)], [.box 145 [rb 5 o0, iv o0_1, .v (.nilIface)], .box 47 [iv o1, iv o1_1, iv o1_2, iv o1_3, .own 2, .own 3], wi 3 o2, wi 3 o3, .box 47 [iv o4, iv o4_1, iv o4_2, iv o4_3, .own 5, .own 6], wi 3 o5, wi 3 o6]⟩

abbrev gt_q10_21b {R : Type} (g : List Item -> St -> Option R) : GT_q10_21b R := fun (s x : Int) (o0 : List Int) (o0_1 o1 o1_1 o1_2 o1_3 : Int) (o2 o3 : List Int) (o4 o4_1 o4_2 o4_3 : Int) (o5 o6 : List Int) => g (at' Tryz.f88 21) (sta_q10_21b s x o0 o0_1 o1 o1_1 o1_2 o1_3 o2 o3 o4 o4_1 o4_2 o4_3 o5 o6)

abbrev gtt_q10 {R : Type} (g : List Item -> St -> Option R) : RT_q10 R := ((gt_q10_15a g), (gt_q10_15b g), (gt_q10_19a g), (gt_q10_19b g), (gt_q10_20a g), (gt_q10_20b g), (gt_q10_25a g), (gt_q10_25b g), (gt_q10_21a g), (gt_q10_21b g))

theorem gstep_q10_15a {a0 : LT_qu} {a1 : LT_qy} {a2 : LT_qw} {a3 : LT_qz} {R : Type} (g : List Item -> St -> Option R) (K : AV -> List O -> Option R) (s : Int) (o0 : List Int) (o0_1 o1 o1_1 o2 o2_1 o2_2 o2_3 : Int) (o3 o4 : List Int) (o5 o5_1 o5_2 o5_3 : Int) (o6 o7 : List Int) :
  runSeg Tryz.prog (T_q11 @a0 @a1 @a2 @a3) cuts_q10 1 g (finish Tryz.prog Tryz.f88 1 K) (at' Tryz.f88 15) (sta_q10_15a s o0 o0_1 o1 o1_1 o2 o2_1 o2_2 o2_3 o3 o4 o5 o5_1 o5_2 o5_3 o6 o7) =
  gs_q10_15a @a1 @a2 @a0 @a3 (gtt_q10 g) (k0_q10 K) (k1_q10 K) s o0 o0_1 o1 o1_1 o2 o2_1 o2_2 o2_3 o3 o4 o5 o5_1 o5_2 o5_3 o6 o7 := by kernel_rfl

theorem gstep_q10_15b {a0 : LT_qu} {a1 : LT_qy} {a2 : LT_qw} {a3 : LT_qz} {R : Type} (g : List Item -> St -> Option R) (K : AV -> List O -> Option R) (s : Int) (o0 : List Int) (o0_1 o1 o1_1 o1_2 o1_3 : Int) (o2 o3 : List Int) (o4 o4_1 o4_2 o4_3 : Int) (o5 o6 : List Int) :
  runSeg Tryz.prog (T_q11 @a0 @a1 @a2 @a3) cuts_q10 1 g (finish Tryz.prog Tryz.f88 1 K) (at' Tryz.f88 15) (sta_q10_15b s o0 o0_1 o1 o1_1 o1_2 o1_3 o2 o3 o4 o4_1 o4_2 o4_3 o5 o6) =
  gs_q10_15b @a1 @a2 @a0 @a3 (gtt_q10 g) (k0_q10 K) (k1_q10 K) s o0 o0_1 o1 o1_1 o1_2 o1_3 o2 o3 o4 o4_1 o4_2 o4_3 o5 o6 := by kernel_rfl

theorem gstep_q10_19a {a0 : LT_qu} {a1 : LT_qy} {a2 : LT_qw} {a3 : LT_qz} {R : Type} (g : List Item -> St -> Option R) (K : AV -> List O -> Option R) (s : Int) (o0 : List Int) (o0_1 o1 o1_1 o2 o2_1 o2_2 o2_3 : Int) (o3 o4 : List Int) (o5 o5_1 o5_2 o5_3 : Int) (o6 o7 : List Int) :
  runSeg Tryz.prog (T_q11 @a0 @a1 @a2 @a3) cuts_q10 1 g (finish Tryz.prog Tryz.f88 1 K) (at' Tryz.f88 19) (sta_q10_19a s o0 o0_1 o1 o1_1 o2 o2_1 o2_2 o2_3 o3 o4 o5 o5_1 o5_2 o5_3 o6 o7) =
  gs_q10_19a @a1 @a2 @a0 @a3 (gtt_q10 g) (k0_q10 K) (k1_q10 K) s o0 o0_1 o1 o1_1 o2 o2_1 o2_2 o2_3 o3 o4 o5 o5_1 o5_2 o5_3 o6 o7 := by kernel_rfl

theorem gstep_q10_19b {a0 : LT_qu} {a1 : LT_qy} {a2 : LT_qw} {a3 : LT_qz} {R : Type} (g : List Item -> St -> Option R) (K : AV -> List O -> Option R) (s : Int) (o0 : List Int) (o0_1 o1 o1_1 o1_2 o1_3 : Int) (o2 o3 : List Int) (o4 o4_1 o4_2 o4_3 : Int) (o5 o6 : List Int) :
  runSeg Tryz.prog (T_q11 @a0 @a1 @a2 @a3) cuts_q10 1 g (finish Tryz.prog Tryz.f88 1 K) (at' Tryz.f88 19) (sta_q10_19b s o0 o0_1 o1 o1_1 o1_2 o1_3 o2 o3 o4 o4_1 o4_2 o4_3 o5 o6) =
  gs_q10_19b @a1 @a2 @a0 @a3 (gtt_q10 g) (k0_q10 K) (k1_q10 K) s o0 o0_1 o1 o1_1 o1_2 o1_3 o2 o3 o4 o4_1 o4_2 o4_3 o5 o6 := by kernel_rfl

theorem gstep_q10_20a {a0 : LT_qu} {a1 : LT_qy} {a2 : LT_qw} {a3 : LT_qz} {R : Type} (g : List Item -> St -> Option R) (K : AV -> List O -> Option R) (s x : Int) (o0 : List Int) (o0_1 o1 o1_1 o2 o2_1 o2_2 o2_3 : Int) (o3 o4 : List Int) (o5 o5_1 o5_2 o5_3 : Int) (o6 o7 : List Int) :
  runSeg Tryz.prog (T_q11 @a0 @a1 @a2 @a3) cuts_q10 1 g (finish Tryz.prog Tryz.f88 1 K) (at' Tryz.f88 20) (sta_q10_20a s x o0 o0_1 o1 o1_1 o2 o2_1 o2_2 o2_3 o3 o4 o5 o5_1 o5_2 o5_3 o6 o7) =
  gs_q10_20a @a1 @a2 @a0 @a3 (gtt_q10 g) (k0_q10 K) (k1_q10 K) s x o0 o0_1 o1 o1_1 o2 o2_1 o2_2 o2_3 o3 o4 o5 o5_1 o5_2 o5_3 o6 o7 := by kernel_rfl

theorem gstep_q10_20b {a0 : LT_qu} {a1 : LT_qy} {a2 : LT_qw} {a3 : LT_qz} {R : Type} (g : List Item -> St -> Option R) (K : AV -> List O -> Option R) (s x : Int) (o0 : List Int) (o0_1 o1 o1_1 o1_2 o1_3 : Int) (o2 o3 : List Int) (o4 o4_1 o4_2 o4_3 : Int) (o5 o6 : List Int) :
  runSeg Tryz.prog (T_q11 @a0 @a1 @a2 @a3) cuts_q10 1 g (finish Tryz.prog Tryz.f88 1 K) (at' Tryz.f88 20) (sta_q10_20b s x o0 o0_1 o1 o1_1 o1_2 o1_3 o2 o3 o4 o4_1 o4_2 o4_3 o5 o6) =
  gs_q10_20b @a1 @a2 @a0 @a3 (gtt_q10 g) (k0_q10 K) (k1_q10 K) s x o0 o0_1 o1 o1_1 o1_2 o1_3 o2 o3 o4 o4_1 o4_2 o4_3 o5 o6 := by kernel_rfl

theorem gstep_q10_25a {a0 : LT_qu} {a1 : LT_qy} {a2 : LT_qw} {a3 : LT_qz} {R : Type} (g : List Item -> St -> Option R) (K : AV -> List O -> Option R) (s x : Int) (o0 : List Int) (o0_1 o1 o1_1 o2 o2_1 o2_2 o2_3 : Int) (o3 o4 : List Int) (o5 o5_1 o5_2 o5_3 : Int) (o6 o7 : List Int) :
  runSeg Tryz.prog (T_q11 @a0 @a1 @a2 @a3) cuts_q10 1 g (finish Tryz.prog Tryz.f88 1 K) (at' Tryz.f88 25) (sta_q10_25a s x o0 o0_1 o1 o1_1 o2 o2_1 o2_2 o2_3 o3 o4 o5 o5_1 o5_2 o5_3 o6 o7) =
  gs_q10_25a @a1 @a2 @a0 @a3 (gtt_q10 g) (k0_q10 K) (k1_q10 K) s x o0 o0_1 o1 o1_1 o2 o2_1 o2_2 o2_3 o3 o4 o5 o5_1 o5_2 o5_3 o6 o7 := by kernel_rfl

theorem gstep_q10_25b {a0 : LT_qu} {a1 : LT_qy} {a2 : LT_qw} {a3 : LT_qz} {R : Type} (g : List Item -> St -> Option R) (K : AV -> List O -> Option R) (s x : Int) (o0 : List Int) (o0_1 o1 o1_1 o1_2 o1_3 : Int) (o2 o3 : List Int) (o4 o4_1 o4_2 o4_3 : Int) (o5 o6 : List Int) :
  runSeg Tryz.prog (T_q11 @a0 @a1 @a2 @a3) cuts_q10 1 g (finish Tryz.prog Tryz.f88 1 K) (at' Tryz.f88 25) (sta_q10_25b s x o0 o0_1 o1 o1_1 o1_2 o1_3 o2 o3 o4 o4_1 o4_2 o4_3 o5 o6) =
  gs_q10_25b @a1 @a2 @a0 @a3 (gtt_q10 g) (k0_q10 K) (k1_q10 K) s x o0 o0_1 o1 o1_1 o1_2 o1_3 o2 o3 o4 o4_1 o4_2 o4_3 o5 o6 := by kernel_rfl

theorem gstep_q10_21a {a0 : LT_qu} {a1 : LT_qy} {a2 : LT_qw} {a3 : LT_qz} {R : Type} (g : List Item -> St -> Option R) (K : AV -> List O -> Option R) (s x : Int) (o0 : List Int) (o0_1 o1 o1_1 o2 o2_1 o2_2 o2_3 : Int) (o3 o4 : List Int) (o5 o5_1 o5_2 o5_3 : Int) (o6 o7 : List Int) :
  runSeg Tryz.prog (T_q11 @a0 @a1 @a2 @a3) cuts_q10 1 g (finish Tryz.prog Tryz.f88 1 K) (at' Tryz.f88 21) (sta_q10_21a s x o0 o0_1 o1 o1_1 o2 o2_1 o2_2 o2_3 o3 o4 o5 o5_1 o5_2 o5_3 o6 o7) =
  gs_q10_21a @a1 @a2 @a0 @a3 (gtt_q10 g) (k0_q10 K) (k1_q10 K) s x o0 o0_1 o1 o1_1 o2 o2_1 o2_2 o2_3 o3 o4 o5 o5_1 o5_2 o5_3 o6 o7 := by kernel_rfl

theorem gstep_q10_21b {a0 : LT_qu} {a1 : LT_qy} {a2 : LT_qw} {a3 : LT_qz} {R : Type} (g : List Item -> St -> Option R) (K : AV -> List O -> Option R) (s x : Int) (o0 : List Int) (o0_1 o1 o1_1 o1_2 o1_3 : Int) (o2 o3 : List Int) (o4 o4_1 o4_2 o4_3 : Int) (o5 o6 : List Int) :
  runSeg Tryz.prog (T_q11 @a0 @a1 @a2 @a3) cuts_q10 1 g (finish Tryz.prog Tryz.f88 1 K) (at' Tryz.f88 21) (sta_q10_21b s x o0 o0_1 o1 o1_1 o1_2 o1_3 o2 o3 o4 o4_1 o4_2 o4_3 o5 o6) =
  gs_q10_21b @a1 @a2 @a0 @a3 (gtt_q10 g) (k0_q10 K) (k1_q10 K) s x o0 o0_1 o1 o1_1 o1_2 o1_3 o2 o3 o4 o4_1 o4_2 o4_3 o5 o6 := by kernel_rfl

theorem gentry_q10 {a0 : LT_qu} {a1 : LT_qy} {a2 : LT_qw} {a3 : LT_qz} {R : Type} (fuel : Nat) (K : AV -> List O -> Option R) (o0 : List Int) (o0_1 : Int) :
  fnRun Tryz.prog (T_q11 @a0 @a1 @a2 @a3) cuts_q10 Tryz.f88 fuel [.ptr 0 0] [.box 145 [rb 5 o0, iv o0_1, .v (.nilIface)]] K =
  ge_q10 @a1 @a2 @a0 @a3 (gtt_q10 (runO Tryz.prog (T_q11 @a0 @a1 @a2 @a3) cuts_q10 1 (finish Tryz.prog Tryz.f88 1 K) fuel)) (k0_q10 K) (k1_q10 K) o0 o0_1 := by kernel_rfl

theorem runs_q10 {R : Type} (K : AV -> List O -> Option R) : ∀ fuel : Nat, gtt_q10 (runO Tryz.prog C_q11 cuts_q10 1 (finish Tryz.prog Tryz.f88 1 K) fuel) = run_q10 (k0_q10 K) (k1_q10 K) fuel
 |0 => rfl
 |fuel + 1 => by
  have ih := runs_q10 K fuel
  refine Prod.ext ?_ (Prod.ext ?_ (Prod.ext ?_ (Prod.ext ?_ (Prod.ext ?_ (Prod.ext ?_ (Prod.ext ?_ (Prod.ext ?_ (Prod.ext ?_ ?_))))))))
  ·funext s o0 o0_1 o1 o1_1 o2 o2_1 o2_2 o2_3 o3 o4 o5 o5_1 o5_2 o5_3 o6 o7
   exact (gstep_q10_15a (a0 := @l_qu) (a1 := @l_qy) (a2 := @l_qw) (a3 := @l_qz) _ K s o0 o0_1 o1 o1_1 o2 o2_1 o2_2 o2_3 o3 o4 o5 o5_1 o5_2 o5_3 o6 o7).trans (by rw [ih]; rfl)
  ·funext s o0 o0_1 o1 o1_1 o1_2 o1_3 o2 o3 o4 o4_1 o4_2 o4_3 o5 o6
   exact (gstep_q10_15b (a0 := @l_qu) (a1 := @l_qy) (a2 := @l_qw) (a3 := @l_qz) _ K s o0 o0_1 o1 o1_1 o1_2 o1_3 o2 o3 o4 o4_1 o4_2 o4_3 o5 o6).trans (by rw [ih]; rfl)
  ·funext s o0 o0_1 o1 o1_1 o2 o2_1 o2_2 o2_3 o3 o4 o5 o5_1 o5_2 o5_3 o6 o7
   exact (gstep_q10_19a (a0 := @l_qu) (a1 := @l_qy) (a2 := @l_qw) (a3 := @l_qz) _ K s o0 o0_1 o1 o1_1 o2 o2_1 o2_2 o2_3 o3 o4 o5 o5_1 o5_2 o5_3 o6 o7).trans (by rw [ih]; rfl)
  ·funext s o0 o0_1 o1 o1_1 o1_2 o1_3 o2 o3 o4 o4_1 o4_2 o4_3 o5 o6
   exact (gstep_q10_19b (a0 := @l_qu) (a1 := @l_qy) (a2 := @l_qw) (a3 := @l_qz) _ K s o0 o0_1 o1 o1_1 o1_2 o1_3 o2 o3 o4 o4_1 o4_2 o4_3 o5 o6).trans (by rw [ih]; rfl)
  ·funext s x o0 o0_1 o1 o1_1 o2 o2_1 o2_2 o2_3 o3 o4 o5 o5_1 o5_2 o5_3 o6 o7
   exact (gstep_q10_20a (a0 := @l_qu) (a1 := @l_qy) (a2 := @l_qw) (a3 := @l_qz) _ K s x o0 o0_1 o1 o1_1 o2 o2_1 o2_2 o2_3 o3 o4 o5 o5_1 o5_2 o5_3 o6 o7).trans (by rw [ih]; rfl)
  ·funext s x o0 o0_1 o1 o1_1 o1_2 o1_3 o2 o3 o4 o4_1 o4_2 o4_3 o5 o6
   exact (gstep_q10_20b (a0 := @l_qu) (a1 := @l_qy) (a2 := @l_qw) (a3 := @l_qz) _ K s x o0 o0_1 o1 o1_1 o1_2 o1_3 o2 o3 o4 o4_1 o4_2 o4_3 o5 o6).trans (by rw [ih]; rfl)
  ·funext s x o0 o0_1 o1 o1_1 o2 o2_1 o2_2 o2_3 o3 o4 o5 o5_1 o5_2 o5_3 o6 o7
   exact (gstep_q10_25a (a0 := @l_qu) (a1 := @l_qy) (a2 := @l_qw) (a3 := @l_qz) _ K s x o0 o0_1 o1 o1_1 o2 o2_1 o2_2 o2_3 o3 o4 o5 o5_1 o5_2 o5_3 o6 o7).trans (by rw [ih]; rfl)
  ·funext s x o0 o0_1 o1 o1_1 o1_2 o1_3 o2 o3 o4 o4_1 o4_2 o4_3 o5 o6
   exact (gstep_q10_25b (a0 := @l_qu) (a1 := @l_qy) (a2 := @l_qw) (a3 := @l_qz) _ K s x o0 o0_1 o1 o1_1 o1_2 o1_3 o2 o3 o4 o4_1 o4_2 o4_3 o5 o6).trans (by rw [ih]; rfl)
  ·funext s x o0 o0_1 o1 o1_1 o2 o2_1 o2_2 o2_3 o3 o4 o5 o5_1 o5_2 o5_3 o6 o7
   exact (gstep_q10_21a (a0 := @l_qu) (a1 := @l_qy) (a2 := @l_qw) (a3 := @l_qz) _ K s x o0 o0_1 o1 o1_1 o2 o2_1 o2_2 o2_3 o3 o4 o5 o5_1 o5_2 o5_3 o6 o7).trans (by rw [ih]; rfl)
  ·funext s x o0 o0_1 o1 o1_1 o1_2 o1_3 o2 o3 o4 o4_1 o4_2 o4_3 o5 o6
   exact (gstep_q10_21b (a0 := @l_qu) (a1 := @l_qy) (a2 := @l_qw) (a3 := @l_qz) _ K s x o0 o0_1 o1 o1_1 o1_2 o1_3 o2 o3 o4 o4_1 o4_2 o4_3 o5 o6).trans (by rw [ih]; rfl)

def S_q11 (l_q10 : LT_q10) : Sum := ⟨[], fun {R} args ob K => match args, ob with
 |[.ptr 0 0], [.box 145 [.rd ⟨false, 5, (.int .u8), o0⟩, .v (.int .i64 o0_1), .v (.nilIface)]] => l_q10 o0 o0_1 (k0_q10 K) (k1_q10 K)
 |_, _ => none⟩

theorem sound_q11 : Sound Tryz.prog 88 (S_q11 @l_q10) := by
 refine fn_sound (cuts := cuts_q10) (fn := Tryz.f88) (Γ := C_q11) wide right_T_q11 Tryz.func88 fun {R} K r args ob h => ?_
 unfold S_q11 at h
 dsimp only at h
 split at h
 ·obtain ⟨n, hn⟩ := evl_ok h
  refine ⟨Nat.le_of_ble_eq_true (by kernel_rfl), n, (gentry_q10 n K _ _).trans ?_⟩
  rw [(runs_q10 K n)]
  exact hn
 ·cases h

theorem call_q11 : Callable Tryz.prog 88 := ⟨_, Tryz.func88, by kernel_rfl, by kernel_rfl⟩



def S_q13 (l_q12 : LT_q12) (l_q14 : LT_q14) : Sum := ⟨[], fun {R} args ob K => match args, ob with
 |[.ifc 147 (.ptr 0 0), .ifc 149 (.ptr 1 0)], [.box 151 [.v (.int .i64 o0), .v (.int .i64 o0_1)], .box 147 [.v (.pointer none)]] => l_q12 o0 o0_1 (fun r0 r1 => K (.v (.bool true)) [.box 151 [.v (.int .i64 r0), .v (.int .i64 r1)], .box 147 [.ptr 0 0]])
 |[.v (.nilIface), .ifc 149 (.ptr 0 0)], [.box 147 [.v (.pointer none)]] => l_q14  (K (.v (.bool false)) [.box 147 [.v (.pointer none)]])
 |_, _ => none⟩

theorem sound_q13 : Sound Tryz.prog 89 (S_q13 @l_q12 @l_q14) := sound_errorsAs

theorem call_q13 : Callable Tryz.prog 89 := ⟨_, Tryz.func89, by kernel_rfl, by kernel_rfl⟩

def T_q15 (a0 : LT_q12) (a1 : LT_q14) (a2 : LT_q10) : FuncId -> Option Sum := (addS (addS G0 89 (S_q13 @a0 @a1)) 88 (S_q11 @a2))

abbrev C_q15 : FuncId -> Option Sum := T_q15 @l_q12 @l_q14 @l_q10

theorem right_T_q15 : Right Tryz.prog C_q15 := (right_add (right_add right_G0 call_q13 sound_q13) call_q11 sound_q11)

abbrev cuts_q15 : Cuts := []

abbrev k0_q15 {R : Type} (K : AV -> List O -> Option R) : KT0_q15 R := fun r0 r1 r2 r3 r4 r5 r6 r7 => K (.tup [.agg [iv r0, iv r1, iv r2, iv r3, .own 0, .own 1], iv r4, iv r5]) [wi 3 r6, wi 3 r7]

theorem gentry_q15 {a0 : LT_q12} {a1 : LT_q14} {a2 : LT_q10} {R : Type} (K : AV -> List O -> Option R) (b : List Int) :
  fnRun Tryz.prog (T_q15 @a0 @a1 @a2) cuts_q15 Tryz.f69 0 [rb 5 b] [] K =
  gl_q15 @a0 @a1 @a2 b (k0_q15 K) := by kernel_rfl

def S_q15 (l_q15 : LT_q15) : Sum := ⟨[], fun {R} args ob K => match args, ob with
 |[.rd ⟨false, 5, (.int .u8), b⟩], [] => l_q15 b (k0_q15 K)
 |_, _ => none⟩

theorem sound_q15 : Sound Tryz.prog 69 (S_q15 @l_q15) := by
 refine fn_sound (cuts := cuts_q15) (fn := Tryz.f69) (Γ := C_q15) wide right_T_q15 Tryz.func69 fun {R} K r args ob h => ?_
 unfold S_q15 at h
 dsimp only at h
 split at h
 ·exact ⟨Nat.le_of_ble_eq_true (by kernel_rfl), 0, (gentry_q15 K _).trans h⟩
 ·cases h

theorem call_q15 : Callable Tryz.prog 69 := ⟨_, Tryz.func69, by kernel_rfl, by kernel_rfl⟩

def T_q16 (a0 : LT_q1) (a1 : LT_q9) (a2 : LT_q4) (a3 : LT_q15) (a4 : LT_qt) : FuncId -> Option Sum := (addS (addS (addS (addS (addS G0 64 (S_q1 @a0)) 68 (S_q9 @a1)) 41 (S_q4 @a2)) 69 (S_q15 @a3)) 63 (S_qt @a4))

abbrev C_q16 : FuncId -> Option Sum := T_q16 @l_q1 @l_q9 @l_q4 @l_q15 @l_qt

theorem right_T_q16 : Right Tryz.prog C_q16 := (right_add (right_add (right_add (right_add (right_add right_G0 call_q1 sound_q1) call_q9 sound_q9) call_q4 sound_q4) call_q15 sound_q15) call_qt sound_qt)

abbrev cuts_q16 : Cuts := []

abbrev k0_q16 {R : Type} (K : AV -> List O -> Option R) : KT0_q16 R := fun r0 r1 r2 r3 r4 r5 r6 r7 r8 r9 r10 r11 r12 r13 => K (.agg [iv r0, .own 1, iv r1, iv r2, iv r3, iv r4, .own 2, .own 3, iv r5, .own 4, .own 5]) [.box 87 [rb 5 r6, iv r7, iv r8], wi 3 r9, wi 3 r10, wi 3 r11, wi 3 r12, wi 3 r13]

theorem gentry_q16 {a0 : LT_q1} {a1 : LT_q9} {a2 : LT_q4} {a3 : LT_q15} {a4 : LT_qt} {R : Type} (K : AV -> List O -> Option R) (o0 : List Int) (o0_1 o0_2 : Int) :
  fnRun Tryz.prog (T_q16 @a0 @a1 @a2 @a3 @a4) cuts_q16 Tryz.f43 0 [.ptr 0 0] [.box 87 [rb 5 o0, iv o0_1, iv o0_2]] K =
  gl_q16 @a0 @a1 @a2 @a3 @a4 o0 o0_1 o0_2 (k0_q16 K) := by kernel_rfl

def S_q16 (l_q16 : LT_q16) : Sum := ⟨[], fun {R} args ob K => match args, ob with
 |[.ptr 0 0], [.box 87 [.rd ⟨false, 5, (.int .u8), o0⟩, .v (.int .i64 o0_1), .v (.int .i64 o0_2)]] => l_q16 o0 o0_1 o0_2 (k0_q16 K)
 |_, _ => none⟩

theorem sound_q16 : Sound Tryz.prog 43 (S_q16 @l_q16) := by
 refine fn_sound (cuts := cuts_q16) (fn := Tryz.f43) (Γ := C_q16) wide right_T_q16 Tryz.func43 fun {R} K r args ob h => ?_
 unfold S_q16 at h
 dsimp only at h
 split at h
 ·exact ⟨Nat.le_of_ble_eq_true (by kernel_rfl), 0, (gentry_q16 K _ _ _).trans h⟩
 ·cases h

theorem call_q16 : Callable Tryz.prog 43 := ⟨_, Tryz.func43, by kernel_rfl, by kernel_rfl⟩

def T_q17 (a0 : LT_q7) (a1 : LT_q0) (a2 : LT_qm) (a3 : LT_qs) (a4 : LT_qb) (a5 : LT_q19) (a6 : LT_qa) (a7 : LT_q16) (a8 : LT_q4) : FuncId -> Option Sum := (addS (addS (addS (addS (addS (addS (addS (addS G0 40 (S_q7 @a0)) 39 (S_q0 @a1)) 44 (S_qm @a2)) 45 (S_qs @a3)) 34 (S_qb @a4 @a5)) 42 (S_qa @a6)) 43 (S_q16 @a7)) 41 (S_q4 @a8))

abbrev C_q17 : FuncId -> Option Sum := T_q17 @l_q7 @l_q0 @l_qm @l_qs @l_qb @l_q19 @l_qa @l_q16 @l_q4

theorem right_T_q17 : Right Tryz.prog C_q17 := (right_add (right_add (right_add (right_add (right_add (right_add (right_add (right_add right_G0 call_q7 sound_q7) call_q0 sound_q0) call_qm sound_qm) call_qs sound_qs) call_qb sound_qb) call_qa sound_qa) call_q16 sound_q16) call_q4 sound_q4)

abbrev cuts_q17 : Cuts := [(10, [0, 2, 6])]

abbrev k0_q17 {R : Type} (K : AV -> List O -> Option R) : KT0_q17 R := fun r0 r1 r2 r3 r4 r5 => K (.tup [.agg [iv r0, iv r1, iv r2, .nst 0], iv r3, iv r4]) [.fst ⟨true, 53, (.pr (.pr (.int .i64) (.pr (.sl 3 (.int .i64)) (.pr (.int .i64) (.pr (.int .i64) (.pr (.int .i64) (.pr (.int .i64) (.pr (.sl 3 (.int .i64)) (.sl 3 (.int .i64))))))))) (.pr (.int .i64) (.pr (.sl 3 (.int .i64)) (.sl 3 (.int .i64))))), r5⟩ 0]

abbrev sta_q17_10 (b : List Int) (o0 o0_1 o0_2 : Int) (o1 : List Ent) (o2 : List Int) (o2_1 o2_2 : Int) : St := ⟨fr0 139 [(0, rb 5 b), (2, .ptr 0 0), (6, .ptr 2 0)], [.box 24 [iv o0, iv o0_1, iv o0_2, .nst 1], .fst ⟨true, 53, (.pr (.pr (.int .i64) (.pr (.sl 3 (.int .i64)) (.pr (.int .i64) (.pr (.int .i64) (.pr (.int .i64) (.pr (.int .i64) (.pr (.sl 3 (.int .i64)) (.sl 3 (.int .i64))))))))) (.pr (.int .i64) (.pr (.sl 3 (.int .i64)) (.sl 3 (.int .i64))))), o1⟩ 0, .box 87 [rb 5 o2, iv o2_1, iv o2_2]]⟩

abbrev gt_q17_10 {R : Type} (g : List Item -> St -> Option R) : GT_q17_10 R := fun (b : List Int) (o0 o0_1 o0_2 : Int) (o1 : List Ent) (o2 : List Int) (o2_1 o2_2 : Int) => g (at' Tryz.f18 10) (sta_q17_10 b o0 o0_1 o0_2 o1 o2 o2_1 o2_2)

theorem gstep_q17_10 {a0 : LT_q7} {a1 : LT_q0} {a2 : LT_qm} {a3 : LT_qs} {a4 : LT_qb} {a5 : LT_q19} {a6 : LT_qa} {a7 : LT_q16} {a8 : LT_q4} {R : Type} (g : List Item -> St -> Option R) (K : AV -> List O -> Option R) (b : List Int) (o0 o0_1 o0_2 : Int) (o1 : List Ent) (o2 : List Int) (o2_1 o2_2 : Int) :
  runSeg Tryz.prog (T_q17 @a0 @a1 @a2 @a3 @a4 @a5 @a6 @a7 @a8) cuts_q17 0 g (finish Tryz.prog Tryz.f18 0 K) (at' Tryz.f18 10) (sta_q17_10 b o0 o0_1 o0_2 o1 o2 o2_1 o2_2) =
  gs_q17_10 @a0 @a1 @a2 @a3 @a4 @a6 @a7 @a8 (gt_q17_10 g) (k0_q17 K) b o0 o0_1 o0_2 o1 o2 o2_1 o2_2 := by kernel_rfl

theorem gentry_q17 {a0 : LT_q7} {a1 : LT_q0} {a2 : LT_qm} {a3 : LT_qs} {a4 : LT_qb} {a5 : LT_q19} {a6 : LT_qa} {a7 : LT_q16} {a8 : LT_q4} {R : Type} (fuel : Nat) (K : AV -> List O -> Option R) (b : List Int) :
  fnRun Tryz.prog (T_q17 @a0 @a1 @a2 @a3 @a4 @a5 @a6 @a7 @a8) cuts_q17 Tryz.f18 fuel [rb 5 b] [] K =
  ge_q17 @a0 @a1 @a2 @a3 @a4 @a6 @a7 @a8 (gt_q17_10 (runO Tryz.prog (T_q17 @a0 @a1 @a2 @a3 @a4 @a5 @a6 @a7 @a8) cuts_q17 0 (finish Tryz.prog Tryz.f18 0 K) fuel)) (k0_q17 K) b := by kernel_rfl

theorem runs_q17 {R : Type} (K : AV -> List O -> Option R) : ∀ fuel : Nat,
  (gt_q17_10 (runO Tryz.prog C_q17 cuts_q17 0 (finish Tryz.prog Tryz.f18 0 K) fuel)) = (run_q17 (k0_q17 K) fuel)
 |0 => rfl
 |fuel + 1 => by
  have ih := runs_q17 K fuel
  funext b o0 o0_1 o0_2 o1 o2 o2_1 o2_2
  refine (gstep_q17_10 _ K b o0 o0_1 o0_2 o1 o2 o2_1 o2_2).trans ?_
  rw [ih]
  rfl

def S_q17 (l_q17 : LT_q17) : Sum := ⟨[], fun {R} args ob K => match args, ob with
 |[.rd ⟨false, 5, (.int .u8), b⟩], [] => l_q17 b (k0_q17 K)
 |_, _ => none⟩

theorem sound_q17 : Sound Tryz.prog 18 (S_q17 @l_q17) := by
 refine fn_sound (cuts := cuts_q17) (fn := Tryz.f18) (Γ := C_q17) wide right_T_q17 Tryz.func18 fun {R} K r args ob h => ?_
 unfold S_q17 at h
 dsimp only at h
 split at h
 ·obtain ⟨n, hn⟩ := evl_ok h
  refine ⟨Nat.le_of_ble_eq_true (by kernel_rfl), n, (gentry_q17 n K _).trans ?_⟩
  rw [(runs_q17 K n)]
  exact hn
 ·cases h

theorem call_q17 : Callable Tryz.prog 18 := ⟨_, Tryz.func18, by kernel_rfl, by kernel_rfl⟩

def T_q18 : FuncId -> Option Sum := G0

theorem right_T_q18 : Right Tryz.prog T_q18 := right_G0

abbrev cuts_q18 : Cuts := []

abbrev k0_q18 {R : Type} (K : AV -> List O -> Option R) : Int -> Option R := fun r0 => K (iv r0) []

theorem gentry_q18 {R : Type} (K : AV -> List O -> Option R) (l l_1 l_2 : Int) (l_3 : List Ent) :
  fnRun Tryz.prog T_q18 cuts_q18 Tryz.f33 0 [.agg [iv l, iv l_1, iv l_2, .rd ⟨false, 53, (.pr (.pr (.int .i64) (.pr (.sl 3 (.int .i64)) (.pr (.int .i64) (.pr (.int .i64) (.pr (.int .i64) (.pr (.int .i64) (.pr (.sl 3 (.int .i64)) (.sl 3 (.int .i64))))))))) (.pr (.int .i64) (.pr (.sl 3 (.int .i64)) (.sl 3 (.int .i64))))), l_3⟩]] [] K =
  l_q18 l l_1 l_2 l_3 (k0_q18 K) := by kernel_rfl

def S_q18 (l_q18 : LT_q18) : Sum := ⟨[], fun {R} args ob K => match args, ob with
 |[.agg [.v (.int .i64 l), .v (.int .i64 l_1), .v (.int .i64 l_2), .rd ⟨false, 53, (.pr (.pr (.int .i64) (.pr (.sl 3 (.int .i64)) (.pr (.int .i64) (.pr (.int .i64) (.pr (.int .i64) (.pr (.int .i64) (.pr (.sl 3 (.int .i64)) (.sl 3 (.int .i64))))))))) (.pr (.int .i64) (.pr (.sl 3 (.int .i64)) (.sl 3 (.int .i64))))), l_3⟩]], [] => l_q18 l l_1 l_2 l_3 (k0_q18 K)
 |_, _ => none⟩

theorem sound_q18 : Sound Tryz.prog 33 (S_q18 @l_q18) := by
 refine fn_sound (cuts := cuts_q18) (fn := Tryz.f33) (Γ := T_q18) wide right_T_q18 Tryz.func33 fun {R} K r args ob h => ?_
 unfold S_q18 at h
 dsimp only at h
 split at h
 ·exact ⟨Nat.le_of_ble_eq_true (by kernel_rfl), 0, (gentry_q18 K _ _ _ _).trans h⟩
 ·cases h

theorem call_q18 : Callable Tryz.prog 33 := ⟨_, Tryz.func33, by kernel_rfl, by kernel_rfl⟩

def T_q1a (a0 : LT_q18) (a1 : LT_qm) (a2 : LT_qs) (a3 : LT_qb) (a4 : LT_q19) : FuncId -> Option Sum := (addS (addS (addS (addS G0 33 (S_q18 @a0)) 44 (S_qm @a1)) 45 (S_qs @a2)) 34 (S_qb @a3 @a4))

abbrev C_q1a : FuncId -> Option Sum := T_q1a @l_q18 @l_qm @l_qs @l_qb @l_q19

theorem right_T_q1a : Right Tryz.prog C_q1a := (right_add (right_add (right_add (right_add right_G0 call_q18 sound_q18) call_qm sound_qm) call_qs sound_qs) call_qb sound_qb)

abbrev cuts_q1a : Cuts := [(5, [1, 15, 16, 17])]

abbrev k0_q1a {R : Type} (K : AV -> List O -> Option R) : Int -> Int -> Option R := fun r0 r1 => K (.tup [iv r0, iv r1]) []

abbrev sta_q1a_5 (x15 : List Ent) (x16 x17 o0 o0_1 o0_2 : Int) (o0_3 : List Ent) : St := ⟨fr0 38 [(1, .ptr 0 0), (15, .rd ⟨false, 53, (.pr (.pr (.int .i64) (.pr (.sl 3 (.int .i64)) (.pr (.int .i64) (.pr (.int .i64) (.pr (.int .i64) (.pr (.int .i64) (.pr (.sl 3 (.int .i64)) (.sl 3 (.int .i64))))))))) (.pr (.int .i64) (.pr (.sl 3 (.int .i64)) (.sl 3 (.int .i64))))), x15⟩), (16, iv x16), (17, iv x17)], [.box 24 [iv o0, iv o0_1, iv o0_2, .rd ⟨false, 53, (.pr (.pr (.int .i64) (.pr (.sl 3 (.int .i64)) (.pr (.int .i64) (.pr (.int .i64) (.pr (.int .i64) (.pr (.int .i64) (.pr (.sl 3 (.int .i64)) (.sl 3 (.int .i64))))))))) (.pr (.int .i64) (.pr (.sl 3 (.int .i64)) (.sl 3 (.int .i64))))), o0_3⟩]]⟩

abbrev gt_q1a_5 {R : Type} (g : List Item -> St -> Option R) : GT_q1a_5 R := fun (x15 : List Ent) (x16 x17 o0 o0_1 o0_2 : Int) (o0_3 : List Ent) => g (at' Tryz.f12 5) (sta_q1a_5 x15 x16 x17 o0 o0_1 o0_2 o0_3)

theorem gstep_q1a_5 {a0 : LT_q18} {a1 : LT_qm} {a2 : LT_qs} {a3 : LT_qb} {a4 : LT_q19} {R : Type} (g : List Item -> St -> Option R) (K : AV -> List O -> Option R) (x15 : List Ent) (x16 x17 o0 o0_1 o0_2 : Int) (o0_3 : List Ent) :
  runSeg Tryz.prog (T_q1a @a0 @a1 @a2 @a3 @a4) cuts_q1a 0 g (finish Tryz.prog Tryz.f12 0 K) (at' Tryz.f12 5) (sta_q1a_5 x15 x16 x17 o0 o0_1 o0_2 o0_3) =
  gs_q1a_5 @a0 @a1 @a2 @a4 (gt_q1a_5 g) (k0_q1a K) x15 x16 x17 o0 o0_1 o0_2 o0_3 := by kernel_rfl

theorem gentry_q1a {a0 : LT_q18} {a1 : LT_qm} {a2 : LT_qs} {a3 : LT_qb} {a4 : LT_q19} {R : Type} (fuel : Nat) (K : AV -> List O -> Option R) (l l_1 l_2 : Int) (l_3 : List Ent) :
  fnRun Tryz.prog (T_q1a @a0 @a1 @a2 @a3 @a4) cuts_q1a Tryz.f12 fuel [.agg [iv l, iv l_1, iv l_2, .rd ⟨false, 53, (.pr (.pr (.int .i64) (.pr (.sl 3 (.int .i64)) (.pr (.int .i64) (.pr (.int .i64) (.pr (.int .i64) (.pr (.int .i64) (.pr (.sl 3 (.int .i64)) (.sl 3 (.int .i64))))))))) (.pr (.int .i64) (.pr (.sl 3 (.int .i64)) (.sl 3 (.int .i64))))), l_3⟩]] [] K =
  ge_q1a @a0 @a1 @a2 @a4 (gt_q1a_5 (runO Tryz.prog (T_q1a @a0 @a1 @a2 @a3 @a4) cuts_q1a 0 (finish Tryz.prog Tryz.f12 0 K) fuel)) (k0_q1a K) l l_1 l_2 l_3 := by kernel_rfl

theorem runs_q1a {R : Type} (K : AV -> List O -> Option R) : ∀ fuel : Nat,
  (gt_q1a_5 (runO Tryz.prog C_q1a cuts_q1a 0 (finish Tryz.prog Tryz.f12 0 K) fuel)) = (run_q1a (k0_q1a K) fuel)
 |0 => rfl
 |fuel + 1 => by
  have ih := runs_q1a K fuel
  funext x15 x16 x17 o0 o0_1 o0_2 o0_3
  refine (gstep_q1a_5 _ K x15 x16 x17 o0 o0_1 o0_2 o0_3).trans ?_
  rw [ih]
  rfl

def S_q1a (l_q1a : LT_q1a) : Sum := ⟨[], fun {R} args ob K => match args, ob with
 |[.agg [.v (.int .i64 l), .v (.int .i64 l_1), .v (.int .i64 l_2), .rd ⟨false, 53, (.pr (.pr (.int .i64) (.pr (.sl 3 (.int .i64)) (.pr (.int .i64) (.pr (.int .i64) (.pr (.int .i64) (.pr (.int .i64) (.pr (.sl 3 (.int .i64)) (.sl 3 (.int .i64))))))))) (.pr (.int .i64) (.pr (.sl 3 (.int .i64)) (.sl 3 (.int .i64))))), l_3⟩]], [] => l_q1a l l_1 l_2 l_3 (k0_q1a K)
 |_, _ => none⟩

theorem sound_q1a : Sound Tryz.prog 12 (S_q1a @l_q1a) := by
 refine fn_sound (cuts := cuts_q1a) (fn := Tryz.f12) (Γ := C_q1a) wide right_T_q1a Tryz.func12 fun {R} K r args ob h => ?_
 unfold S_q1a at h
 dsimp only at h
 split at h
 ·obtain ⟨n, hn⟩ := evl_ok h
  refine ⟨Nat.le_of_ble_eq_true (by kernel_rfl), n, (gentry_q1a n K _ _ _ _).trans ?_⟩
  rw [(runs_q1a K n)]
  exact hn
 ·cases h

theorem call_q1a : Callable Tryz.prog 12 := ⟨_, Tryz.func12, by kernel_rfl, by kernel_rfl⟩


def S_q1b (l_q1b : LT_q1b) : Sum := ⟨[0], fun {R} args ob K => match args, ob with
 |[.v (.slice none 0 0), .v (.int .i64 n), .v (.int .i64 b)], [] => l_q1b n b (fun r0 => K (.own 0) [.row ⟨true, 5, (.int .u8), r0⟩])
 |_, _ => none⟩

theorem sound_q1b : Sound Tryz.prog 80 (S_q1b @l_q1b) := sound_AppendInt Tryz.lays176 TabsHold.pow10

theorem call_q1b : Callable Tryz.prog 80 := ⟨_, Tryz.func80, by kernel_rfl, by kernel_rfl⟩

def T_q1c (a0 : LT_q1b) : FuncId -> Option Sum := (addS G0 80 (S_q1b @a0))

abbrev C_q1c : FuncId -> Option Sum := T_q1c @l_q1b

theorem right_T_q1c : Right Tryz.prog C_q1c := (right_add right_G0 call_q1b sound_q1b)

abbrev cuts_q1c : Cuts := []

abbrev k0_q1c {R : Type} (K : AV -> List O -> Option R) : (List Int) -> Option R := fun r0 => K (.own 0) [wb 5 r0]

theorem gentry_q1c {a0 : LT_q1b} {R : Type} (K : AV -> List O -> Option R) (n : Int) :
  fnRun Tryz.prog (T_q1c @a0) cuts_q1c Tryz.f59 0 [iv n] [] K =
  gl_q1c @a0 n (k0_q1c K) := by kernel_rfl

def S_q1c (l_q1c : LT_q1c) : Sum := ⟨[], fun {R} args ob K => match args, ob with
 |[.v (.int .i64 n)], [] => l_q1c n (k0_q1c K)
 |_, _ => none⟩

theorem sound_q1c : Sound Tryz.prog 59 (S_q1c @l_q1c) := by
 refine fn_sound (cuts := cuts_q1c) (fn := Tryz.f59) (Γ := C_q1c) wide right_T_q1c Tryz.func59 fun {R} K r args ob h => ?_
 unfold S_q1c at h
 dsimp only at h
 split at h
 ·exact ⟨Nat.le_of_ble_eq_true (by kernel_rfl), 0, (gentry_q1c K _).trans h⟩
 ·cases h

theorem call_q1c : Callable Tryz.prog 59 := ⟨_, Tryz.func59, by kernel_rfl, by kernel_rfl⟩

def T_q1d (a0 : LT_q1c) : FuncId -> Option Sum := (addS G0 59 (S_q1c @a0))

abbrev C_q1d : FuncId -> Option Sum := T_q1d @l_q1c

theorem right_T_q1d : Right Tryz.prog C_q1d := (right_add right_G0 call_q1c sound_q1c)

abbrev cuts_q1d : Cuts := [(2, [0, 7, 8, 9])]

abbrev k0_q1d {R : Type} (K : AV -> List O -> Option R) : (List Int) -> Option R := fun r0 => K (.own 0) [.row ⟨false, 5, (.int .u8), r0⟩]

abbrev k1_q1d {R : Type} (K : AV -> List O -> Option R) : (List Int) -> Option R := fun r0 => K (.own 1) [.gone, .row ⟨false, 5, (.int .u8), r0⟩]

abbrev sta_q1d_2a (x7 : List Int) (x8 x9 : Int) (o0 : List Int) : St := ⟨fr0 21 [(0, .own 0), (7, ri 3 x7), (8, iv x8), (9, iv x9)], [.row ⟨false, 5, (.int .u8), o0⟩]⟩

abbrev gt_q1d_2a {R : Type} (g : List Item -> St -> Option R) : GT_q1d_2a R := fun (x7 : List Int) (x8 x9 : Int) (o0 : List Int) => g (at' Tryz.f36 2) (sta_q1d_2a x7 x8 x9 o0)

abbrev sta_q1d_2b (x7 : List Int) (x8 x9 : Int) (o1 : List Int) : St := ⟨fr0 21 [(0, .own 1), (7, ri 3 x7), (8, iv x8), (9, iv x9)], [.gone, .row ⟨false, 5, (.int .u8), o1⟩]⟩

abbrev gt_q1d_2b {R : Type} (g : List Item -> St -> Option R) : GT_q1d_2b R := fun (x7 : List Int) (x8 x9 : Int) (o1 : List Int) => g (at' Tryz.f36 2) (sta_q1d_2b x7 x8 x9 o1)

theorem gstep_q1d_2a {a0 : LT_q1c} {R : Type} (g : List Item -> St -> Option R) (K : AV -> List O -> Option R) (x7 : List Int) (x8 x9 : Int) (o0 : List Int) :
  runSeg Tryz.prog (T_q1d @a0) cuts_q1d 1 g (finish Tryz.prog Tryz.f36 1 K) (at' Tryz.f36 2) (sta_q1d_2a x7 x8 x9 o0) =
  gs_q1d_2a @a0 (gt_q1d_2a g) (gt_q1d_2b g) (k0_q1d K) (k1_q1d K) x7 x8 x9 o0 := by kernel_rfl

theorem gstep_q1d_2b {a0 : LT_q1c} {R : Type} (g : List Item -> St -> Option R) (K : AV -> List O -> Option R) (x7 : List Int) (x8 x9 : Int) (o1 : List Int) :
  runSeg Tryz.prog (T_q1d @a0) cuts_q1d 1 g (finish Tryz.prog Tryz.f36 1 K) (at' Tryz.f36 2) (sta_q1d_2b x7 x8 x9 o1) =
  gs_q1d_2b @a0 (gt_q1d_2a g) (gt_q1d_2b g) (k0_q1d K) (k1_q1d K) x7 x8 x9 o1 := by kernel_rfl

theorem gentry_q1d {a0 : LT_q1c} {R : Type} (fuel : Nat) (K : AV -> List O -> Option R) (l o0 : List Int) :
  fnRun Tryz.prog (T_q1d @a0) cuts_q1d Tryz.f36 fuel [.own 0, ri 3 l] [.row ⟨false, 5, (.int .u8), o0⟩] K =
  ge_q1d @a0 (gt_q1d_2a (runO Tryz.prog (T_q1d @a0) cuts_q1d 1 (finish Tryz.prog Tryz.f36 1 K) fuel)) (gt_q1d_2b (runO Tryz.prog (T_q1d @a0) cuts_q1d 1 (finish Tryz.prog Tryz.f36 1 K) fuel)) (k0_q1d K) (k1_q1d K) l o0 := by kernel_rfl

theorem runs_q1d {R : Type} (K : AV -> List O -> Option R) : ∀ fuel : Nat,
  (gt_q1d_2a (runO Tryz.prog C_q1d cuts_q1d 1 (finish Tryz.prog Tryz.f36 1 K) fuel)) = (run_q1d (k0_q1d K) (k1_q1d K) fuel).1 ∧
  (gt_q1d_2b (runO Tryz.prog C_q1d cuts_q1d 1 (finish Tryz.prog Tryz.f36 1 K) fuel)) = (run_q1d (k0_q1d K) (k1_q1d K) fuel).2
 |0 => ⟨rfl, rfl⟩
 |fuel + 1 => by
  have ih := runs_q1d K fuel
  refine ⟨?_, ?_⟩
  ·funext x7 x8 x9 o0
   refine (gstep_q1d_2a _ K x7 x8 x9 o0).trans ?_
   rw [ih.1, ih.2]
   rfl
  ·funext x7 x8 x9 o1
   refine (gstep_q1d_2b _ K x7 x8 x9 o1).trans ?_
   rw [ih.1, ih.2]
   rfl

def S_q1d (l_q1d : LT_q1d) : Sum := ⟨[0], fun {R} args ob K => match args, ob with
 |[.own 0, .rd ⟨false, 3, (.int .i64), l⟩], [.row ⟨false, 5, (.int .u8), o0⟩] => l_q1d l o0 (k0_q1d K) (k1_q1d K)
 |_, _ => none⟩

theorem sound_q1d : Sound Tryz.prog 36 (S_q1d @l_q1d) := by
 refine fn_sound (cuts := cuts_q1d) (fn := Tryz.f36) (Γ := C_q1d) wide right_T_q1d Tryz.func36 fun {R} K r args ob h => ?_
 unfold S_q1d at h
 dsimp only at h
 split at h
 ·obtain ⟨n, hn⟩ := evl_ok h
  refine ⟨Nat.le_of_ble_eq_true (by kernel_rfl), n, (gentry_q1d n K _ _).trans ?_⟩
  rw [(runs_q1d K n).1, (runs_q1d K n).2]
  exact hn
 ·cases h

theorem call_q1d : Callable Tryz.prog 36 := ⟨_, Tryz.func36, by kernel_rfl, by kernel_rfl⟩

def T_q1e (a0 : LT_q1d) : FuncId -> Option Sum := (addS G0 36 (S_q1d @a0))

abbrev C_q1e : FuncId -> Option Sum := T_q1e @l_q1d

theorem right_T_q1e : Right Tryz.prog C_q1e := (right_add right_G0 call_q1d sound_q1d)

abbrev cuts_q1e : Cuts := []

abbrev k0_q1e {R : Type} (K : AV -> List O -> Option R) : (List Int) -> Option R := fun r0 => K (.own 0) [wb 5 r0]

abbrev k1_q1e {R : Type} (K : AV -> List O -> Option R) : (List Int) -> Option R := fun r0 => K (.own 0) [.row ⟨false, 5, (.int .u8), r0⟩]

theorem gentry_q1e {a0 : LT_q1d} {R : Type} (K : AV -> List O -> Option R) (r : Int) (r_1 : List Int) (r_2 r_3 r_4 r_5 : Int) (r_6 r_7 : List Int) (r_8 : Int) (r_9 r_10 : List Int) :
  fnRun Tryz.prog (T_q1e @a0) cuts_q1e Tryz.f144 0 [.agg [iv r, ri 3 r_1, iv r_2, iv r_3, iv r_4, iv r_5, ri 3 r_6, ri 3 r_7, iv r_8, ri 3 r_9, ri 3 r_10]] [] K =
  gl_q1e @a0 r r_1 r_2 r_3 r_4 r_5 r_6 r_7 r_8 r_9 r_10 (k0_q1e K) (k1_q1e K) := by kernel_rfl

def S_q1e (l_q1e : LT_q1e) : Sum := ⟨[], fun {R} args ob K => match args, ob with
 |[.agg [.v (.int .i64 r), .rd ⟨false, 3, (.int .i64), r_1⟩, .v (.int .i64 r_2), .v (.int .i64 r_3), .v (.int .i64 r_4), .v (.int .i64 r_5), .rd ⟨false, 3, (.int .i64), r_6⟩, .rd ⟨false, 3, (.int .i64), r_7⟩, .v (.int .i64 r_8), .rd ⟨false, 3, (.int .i64), r_9⟩, .rd ⟨false, 3, (.int .i64), r_10⟩]], [] => l_q1e r r_1 r_2 r_3 r_4 r_5 r_6 r_7 r_8 r_9 r_10 (k0_q1e K) (k1_q1e K)
 |_, _ => none⟩

theorem sound_q1e : Sound Tryz.prog 144 (S_q1e @l_q1e) := by
 refine fn_sound (cuts := cuts_q1e) (fn := Tryz.f144) (Γ := C_q1e) wide right_T_q1e Tryz.func144 fun {R} K r args ob h => ?_
 unfold S_q1e at h
 dsimp only at h
 split at h
 ·exact ⟨Nat.le_of_ble_eq_true (by kernel_rfl), 0, (gentry_q1e K _ _ _ _ _ _ _ _ _ _ _).trans h⟩
 ·cases h

theorem call_q1e : Callable Tryz.prog 144 := ⟨_, Tryz.func144, by kernel_rfl, by kernel_rfl⟩


def S_q1f (l_q1f : LT_q1f) : Sum := ⟨[], fun {R} args ob K => match args, ob with
 |[.agg [.v (.int .i64 m), .v (.int .i64 m_1), .v (.int .i64 m_2), .v (.int .i64 m_3), .rd ⟨false, 3, (.int .i64), m_4⟩, .rd ⟨false, 3, (.int .i64), m_5⟩]], [] => l_q1f m m_1 m_2 m_3 m_4 m_5 (fun r0 r1 => K (.tup [.own 0, .v (.int .i64 r0)]) [.row ⟨true, 5, (.int .u8), r1⟩])
 |_, _ => none⟩

theorem sound_q1f : Sound Tryz.prog 151 (S_q1f @l_q1f) := sound_export sound_qq (fun k K O N nx ou h1 h2 KK => check_eq k K O N nx ou h1 h2 (fun r0 r1 => KK (.tup [.v (.int .i64 r0), .v (.int .i64 r1)]) []))

theorem call_q1f : Callable Tryz.prog 151 := ⟨_, Tryz.func151, by kernel_rfl, by kernel_rfl⟩

def T_q1g : FuncId -> Option Sum := G0

theorem right_T_q1g : Right Tryz.prog T_q1g := right_G0

abbrev cuts_q1g : Cuts := []

abbrev k0_q1g {R : Type} (K : AV -> List O -> Option R) : Nat -> (List Int) -> Option R := fun r0 r1 => K (.view 0 1 0 r0) [wb 5 r1]

abbrev k1_q1g {R : Type} (K : AV -> List O -> Option R) : (List Int) -> Option R := fun r0 => K (.own 0) [wb 5 r0]

theorem gentry_q1g {R : Type} (K : AV -> List O -> Option R) (n : Int) :
  fnRun Tryz.prog T_q1g cuts_q1g Tryz.f160 0 [.v (.slice none 0 0), iv n] [] K =
  l_q1g n (k0_q1g K) (k1_q1g K) := by kernel_rfl

def S_q1g (l_q1g : LT_q1g) : Sum := ⟨[0], fun {R} args ob K => match args, ob with
 |[.v (.slice none 0 0), .v (.int .i64 n)], [] => l_q1g n (k0_q1g K) (k1_q1g K)
 |_, _ => none⟩

theorem sound_q1g : Sound Tryz.prog 160 (S_q1g @l_q1g) := by
 refine fn_sound (cuts := cuts_q1g) (fn := Tryz.f160) (Γ := T_q1g) wide right_T_q1g Tryz.func160 fun {R} K r args ob h => ?_
 unfold S_q1g at h
 dsimp only at h
 split at h
 ·exact ⟨Nat.le_of_ble_eq_true (by kernel_rfl), 0, (gentry_q1g K _).trans h⟩
 ·cases h

theorem call_q1g : Callable Tryz.prog 160 := ⟨_, Tryz.func160, by kernel_rfl, by kernel_rfl⟩

def T_q1h (a0 : LT_q1g) : FuncId -> Option Sum := (addS G0 160 (S_q1g @a0))

abbrev C_q1h : FuncId -> Option Sum := T_q1h @l_q1g

theorem right_T_q1h : Right Tryz.prog C_q1h := (right_add right_G0 call_q1g sound_q1g)

abbrev cuts_q1h : Cuts := [(3, [0, 3, 9, 10, 11]), (11, [6, 25, 26, 27])]

abbrev k0_q1h {R : Type} (K : AV -> List O -> Option R) : Nat -> (List Int) -> Option R := fun r0 r1 => K (.view 0 1 0 r0) [wb 5 r1]

abbrev k1_q1h {R : Type} (K : AV -> List O -> Option R) : (List Int) -> Option R := fun r0 => K (.own 0) [wb 5 r0]

abbrev sta_q1h_3 (slices : List (List Int)) (size : Int) (x9 : List (List Int)) (x10 x11 : Int) : St := ⟨fr0 36 [(0, .rd ⟨false, 34, (.sl 5 (.int .u8)), slices⟩), (3, iv size), (9, .rd ⟨false, 34, (.sl 5 (.int .u8)), x9⟩), (10, iv x10), (11, iv x11)], []⟩

abbrev gt_q1h_3 {R : Type} (g : List Item -> St -> Option R) : GT_q1h_3 R := fun (slices : List (List Int)) (size : Int) (x9 : List (List Int)) (x10 x11 : Int) => g (at' Tryz.f152 3) (sta_q1h_3 slices size x9 x10 x11)

abbrev sta_q1h_11a (newslice : Nat) (x25 : List (List Int)) (x26 x27 : Int) (o0 : List Int) : St := ⟨fr0 36 [(6, .view 0 1 0 newslice), (25, .rd ⟨false, 34, (.sl 5 (.int .u8)), x25⟩), (26, iv x26), (27, iv x27)], [wb 5 o0]⟩

abbrev gt_q1h_11a {R : Type} (g : List Item -> St -> Option R) : GT_q1h_11a R := fun (newslice : Nat) (x25 : List (List Int)) (x26 x27 : Int) (o0 : List Int) => g (at' Tryz.f152 11) (sta_q1h_11a newslice x25 x26 x27 o0)

abbrev sta_q1h_11b (x25 : List (List Int)) (x26 x27 : Int) (o0 : List Int) : St := ⟨fr0 36 [(6, .own 0), (25, .rd ⟨false, 34, (.sl 5 (.int .u8)), x25⟩), (26, iv x26), (27, iv x27)], [wb 5 o0]⟩

abbrev gt_q1h_11b {R : Type} (g : List Item -> St -> Option R) : GT_q1h_11b R := fun (x25 : List (List Int)) (x26 x27 : Int) (o0 : List Int) => g (at' Tryz.f152 11) (sta_q1h_11b x25 x26 x27 o0)

theorem gstep_q1h_3 {a0 : LT_q1g} {R : Type} (g : List Item -> St -> Option R) (K : AV -> List O -> Option R) (slices : List (List Int)) (size : Int) (x9 : List (List Int)) (x10 x11 : Int) :
  runSeg Tryz.prog (T_q1h @a0) cuts_q1h 0 g (finish Tryz.prog Tryz.f152 0 K) (at' Tryz.f152 3) (sta_q1h_3 slices size x9 x10 x11) =
  gs_q1h_3 @a0 (gt_q1h_3 g) (gt_q1h_11a g) (gt_q1h_11b g) (k0_q1h K) (k1_q1h K) slices size x9 x10 x11 := by kernel_rfl

theorem gstep_q1h_11a {a0 : LT_q1g} {R : Type} (g : List Item -> St -> Option R) (K : AV -> List O -> Option R) (newslice : Nat) (x25 : List (List Int)) (x26 x27 : Int) (o0 : List Int) :
  runSeg Tryz.prog (T_q1h @a0) cuts_q1h 0 g (finish Tryz.prog Tryz.f152 0 K) (at' Tryz.f152 11) (sta_q1h_11a newslice x25 x26 x27 o0) =
  gs_q1h_11a @a0 (gt_q1h_3 g) (gt_q1h_11a g) (gt_q1h_11b g) (k0_q1h K) (k1_q1h K) newslice x25 x26 x27 o0 := by kernel_rfl

theorem gstep_q1h_11b {a0 : LT_q1g} {R : Type} (g : List Item -> St -> Option R) (K : AV -> List O -> Option R) (x25 : List (List Int)) (x26 x27 : Int) (o0 : List Int) :
  runSeg Tryz.prog (T_q1h @a0) cuts_q1h 0 g (finish Tryz.prog Tryz.f152 0 K) (at' Tryz.f152 11) (sta_q1h_11b x25 x26 x27 o0) =
  gs_q1h_11b @a0 (gt_q1h_3 g) (gt_q1h_11a g) (gt_q1h_11b g) (k0_q1h K) (k1_q1h K) x25 x26 x27 o0 := by kernel_rfl

theorem gentry_q1h {a0 : LT_q1g} {R : Type} (fuel : Nat) (K : AV -> List O -> Option R) (slices : List (List Int)) :
  fnRun Tryz.prog (T_q1h @a0) cuts_q1h Tryz.f152 fuel [.rd ⟨false, 34, (.sl 5 (.int .u8)), slices⟩] [] K =
  ge_q1h @a0 (gt_q1h_3 (runO Tryz.prog (T_q1h @a0) cuts_q1h 0 (finish Tryz.prog Tryz.f152 0 K) fuel)) (gt_q1h_11a (runO Tryz.prog (T_q1h @a0) cuts_q1h 0 (finish Tryz.prog Tryz.f152 0 K) fuel)) (gt_q1h_11b (runO Tryz.prog (T_q1h @a0) cuts_q1h 0 (finish Tryz.prog Tryz.f152 0 K) fuel)) (k0_q1h K) (k1_q1h K) slices := by kernel_rfl

theorem runs_q1h {R : Type} (K : AV -> List O -> Option R) : ∀ fuel : Nat,
  (gt_q1h_3 (runO Tryz.prog C_q1h cuts_q1h 0 (finish Tryz.prog Tryz.f152 0 K) fuel)) = (run_q1h (k0_q1h K) (k1_q1h K) fuel).1 ∧
  (gt_q1h_11a (runO Tryz.prog C_q1h cuts_q1h 0 (finish Tryz.prog Tryz.f152 0 K) fuel)) = (run_q1h (k0_q1h K) (k1_q1h K) fuel).2.1 ∧
  (gt_q1h_11b (runO Tryz.prog C_q1h cuts_q1h 0 (finish Tryz.prog Tryz.f152 0 K) fuel)) = (run_q1h (k0_q1h K) (k1_q1h K) fuel).2.2
 |0 => ⟨rfl, rfl, rfl⟩
 |fuel + 1 => by
  have ih := runs_q1h K fuel
  refine ⟨?_, ?_, ?_⟩
  ·funext slices size x9 x10 x11
   refine (gstep_q1h_3 _ K slices size x9 x10 x11).trans ?_
   rw [ih.1, ih.2.1, ih.2.2]
   rfl
  ·funext newslice x25 x26 x27 o0
   refine (gstep_q1h_11a _ K newslice x25 x26 x27 o0).trans ?_
   rw [ih.1, ih.2.1, ih.2.2]
   rfl
  ·funext x25 x26 x27 o0
   refine (gstep_q1h_11b _ K x25 x26 x27 o0).trans ?_
   rw [ih.1, ih.2.1, ih.2.2]
   rfl

def S_q1h (l_q1h : LT_q1h) : Sum := ⟨[], fun {R} args ob K => match args, ob with
 |[.rd ⟨false, 34, (.sl 5 (.int .u8)), slices⟩], [] => l_q1h slices (k0_q1h K) (k1_q1h K)
 |_, _ => none⟩

theorem sound_q1h : Sound Tryz.prog 152 (S_q1h @l_q1h) := by
 refine fn_sound (cuts := cuts_q1h) (fn := Tryz.f152) (Γ := C_q1h) wide right_T_q1h Tryz.func152 fun {R} K r args ob h => ?_
 unfold S_q1h at h
 dsimp only at h
 split at h
 ·obtain ⟨n, hn⟩ := evl_ok h
  refine ⟨Nat.le_of_ble_eq_true (by kernel_rfl), n, (gentry_q1h n K _).trans ?_⟩
  rw [(runs_q1h K n).1, (runs_q1h K n).2.1, (runs_q1h K n).2.2]
  exact hn
 ·cases h

theorem call_q1h : Callable Tryz.prog 152 := ⟨_, Tryz.func152, by kernel_rfl, by kernel_rfl⟩

def T_q1i (a0 : LT_q1d) (a1 : LT_q1h) (a2 : LT_q1f) : FuncId -> Option Sum := (addS (addS (addS G0 36 (S_q1d @a0)) 152 (S_q1h @a1)) 151 (S_q1f @a2))

abbrev C_q1i : FuncId -> Option Sum := T_q1i @l_q1d @l_q1h @l_q1f

theorem right_T_q1i : Right Tryz.prog C_q1i := (right_add (right_add (right_add right_G0 call_q1d sound_q1d) call_q1h sound_q1h) call_q1f sound_q1f)

abbrev cuts_q1i : Cuts := []

abbrev k0_q1i {R : Type} (K : AV -> List O -> Option R) : (List Int) -> Option R := fun r0 => K (.own 0) [wb 5 r0]

abbrev k1_q1i {R : Type} (K : AV -> List O -> Option R) : (List Int) -> Option R := fun r0 => K (.own 0) [.row ⟨false, 5, (.int .u8), r0⟩]

theorem gentry_q1i {a0 : LT_q1d} {a1 : LT_q1h} {a2 : LT_q1f} {R : Type} (K : AV -> List O -> Option R) (r : Int) (r_1 : List Int) (r_2 r_3 r_4 r_5 : Int) (r_6 r_7 : List Int) (r_8 : Int) (r_9 r_10 : List Int) :
  fnRun Tryz.prog (T_q1i @a0 @a1 @a2) cuts_q1i Tryz.f149 0 [.agg [iv r, ri 3 r_1, iv r_2, iv r_3, iv r_4, iv r_5, ri 3 r_6, ri 3 r_7, iv r_8, ri 3 r_9, ri 3 r_10]] [] K =
  gl_q1i @a0 @a1 @a2 r r_1 r_2 r_3 r_4 r_5 r_6 r_7 r_8 r_9 r_10 (k0_q1i K) (k1_q1i K) := by kernel_rfl

def S_q1i (l_q1i : LT_q1i) : Sum := ⟨[], fun {R} args ob K => match args, ob with
 |[.agg [.v (.int .i64 r), .rd ⟨false, 3, (.int .i64), r_1⟩, .v (.int .i64 r_2), .v (.int .i64 r_3), .v (.int .i64 r_4), .v (.int .i64 r_5), .rd ⟨false, 3, (.int .i64), r_6⟩, .rd ⟨false, 3, (.int .i64), r_7⟩, .v (.int .i64 r_8), .rd ⟨false, 3, (.int .i64), r_9⟩, .rd ⟨false, 3, (.int .i64), r_10⟩]], [] => l_q1i r r_1 r_2 r_3 r_4 r_5 r_6 r_7 r_8 r_9 r_10 (k0_q1i K) (k1_q1i K)
 |_, _ => none⟩

theorem sound_q1i : Sound Tryz.prog 149 (S_q1i @l_q1i) := by
 refine fn_sound (cuts := cuts_q1i) (fn := Tryz.f149) (Γ := C_q1i) wide right_T_q1i Tryz.func149 fun {R} K r args ob h => ?_
 unfold S_q1i at h
 dsimp only at h
 split at h
 ·exact ⟨Nat.le_of_ble_eq_true (by kernel_rfl), 0, (gentry_q1i K _ _ _ _ _ _ _ _ _ _ _).trans h⟩
 ·cases h

theorem call_q1i : Callable Tryz.prog 149 := ⟨_, Tryz.func149, by kernel_rfl, by kernel_rfl⟩

def T_q1j (a0 : LT_q1d) (a1 : LT_q1a) (a2 : LT_q1e) (a3 : LT_q1i) (a4 : LT_qb) (a5 : LT_q19) : FuncId -> Option Sum := (addS (addS (addS (addS (addS G0 36 (S_q1d @a0)) 12 (S_q1a @a1)) 144 (S_q1e @a2)) 149 (S_q1i @a3)) 34 (S_qb @a4 @a5))

abbrev C_q1j : FuncId -> Option Sum := T_q1j @l_q1d @l_q1a @l_q1e @l_q1i @l_qb @l_q19

theorem right_T_q1j : Right Tryz.prog C_q1j := (right_add (right_add (right_add (right_add (right_add right_G0 call_q1d sound_q1d) call_q1a sound_q1a) call_q1e sound_q1e) call_q1i sound_q1i) call_qb sound_qb)

abbrev cuts_q1j : Cuts := [(9, [6, 38, 39, 40])]

abbrev k0_q1j {R : Type} (K : AV -> List O -> Option R) : Int -> (List Int) -> Option R := fun r0 r1 => K (.tup [.own 0, iv r0]) [wb 5 r1]

abbrev k1_q1j {R : Type} (K : AV -> List O -> Option R) : Int -> (List Int) -> Option R := fun r0 r1 => K (.tup [.own 0, iv r0]) [.row ⟨false, 5, (.int .u8), r1⟩]

abbrev sta_q1j_9a (x38 : List Ent) (x39 x40 : Int) (o0 : List Int) : St := ⟨fr0 51 [(6, .own 0), (38, .rd ⟨false, 53, (.pr (.pr (.int .i64) (.pr (.sl 3 (.int .i64)) (.pr (.int .i64) (.pr (.int .i64) (.pr (.int .i64) (.pr (.int .i64) (.pr (.sl 3 (.int .i64)) (.sl 3 (.int .i64))))))))) (.pr (.int .i64) (.pr (.sl 3 (.int .i64)) (.sl 3 (.int .i64))))), x38⟩), (39, iv x39), (40, iv x40)], [wb 5 o0]⟩

abbrev gt_q1j_9a {R : Type} (g : List Item -> St -> Option R) : GT_q1j_9a R := fun (x38 : List Ent) (x39 x40 : Int) (o0 : List Int) => g (at' Tryz.f15 9) (sta_q1j_9a x38 x39 x40 o0)

abbrev sta_q1j_9b (x38 : List Ent) (x39 x40 : Int) (o0 : List Int) : St := ⟨fr0 51 [(6, .own 0), (38, .rd ⟨false, 53, (.pr (.pr (.int .i64) (.pr (.sl 3 (.int .i64)) (.pr (.int .i64) (.pr (.int .i64) (.pr (.int .i64) (.pr (.int .i64) (.pr (.sl 3 (.int .i64)) (.sl 3 (.int .i64))))))))) (.pr (.int .i64) (.pr (.sl 3 (.int .i64)) (.sl 3 (.int .i64))))), x38⟩), (39, iv x39), (40, iv x40)], [.row ⟨false, 5, (.int .u8), o0⟩]⟩

abbrev gt_q1j_9b {R : Type} (g : List Item -> St -> Option R) : GT_q1j_9b R := fun (x38 : List Ent) (x39 x40 : Int) (o0 : List Int) => g (at' Tryz.f15 9) (sta_q1j_9b x38 x39 x40 o0)

theorem gstep_q1j_9a {a0 : LT_q1d} {a1 : LT_q1a} {a2 : LT_q1e} {a3 : LT_q1i} {a4 : LT_qb} {a5 : LT_q19} {R : Type} (g : List Item -> St -> Option R) (K : AV -> List O -> Option R) (x38 : List Ent) (x39 x40 : Int) (o0 : List Int) :
  runSeg Tryz.prog (T_q1j @a0 @a1 @a2 @a3 @a4 @a5) cuts_q1j 0 g (finish Tryz.prog Tryz.f15 0 K) (at' Tryz.f15 9) (sta_q1j_9a x38 x39 x40 o0) =
  gs_q1j_9a @a0 @a1 @a2 @a3 @a5 (gt_q1j_9a g) (gt_q1j_9b g) (k0_q1j K) (k1_q1j K) x38 x39 x40 o0 := by kernel_rfl

theorem gstep_q1j_9b {a0 : LT_q1d} {a1 : LT_q1a} {a2 : LT_q1e} {a3 : LT_q1i} {a4 : LT_qb} {a5 : LT_q19} {R : Type} (g : List Item -> St -> Option R) (K : AV -> List O -> Option R) (x38 : List Ent) (x39 x40 : Int) (o0 : List Int) :
  runSeg Tryz.prog (T_q1j @a0 @a1 @a2 @a3 @a4 @a5) cuts_q1j 0 g (finish Tryz.prog Tryz.f15 0 K) (at' Tryz.f15 9) (sta_q1j_9b x38 x39 x40 o0) =
  gs_q1j_9b @a0 @a1 @a2 @a3 @a5 (gt_q1j_9a g) (gt_q1j_9b g) (k0_q1j K) (k1_q1j K) x38 x39 x40 o0 := by kernel_rfl

theorem gentry_q1j {a0 : LT_q1d} {a1 : LT_q1a} {a2 : LT_q1e} {a3 : LT_q1i} {a4 : LT_qb} {a5 : LT_q19} {R : Type} (fuel : Nat) (K : AV -> List O -> Option R) (l l_1 l_2 : Int) (l_3 : List Ent) :
  fnRun Tryz.prog (T_q1j @a0 @a1 @a2 @a3 @a4 @a5) cuts_q1j Tryz.f15 fuel [.agg [iv l, iv l_1, iv l_2, .rd ⟨false, 53, (.pr (.pr (.int .i64) (.pr (.sl 3 (.int .i64)) (.pr (.int .i64) (.pr (.int .i64) (.pr (.int .i64) (.pr (.int .i64) (.pr (.sl 3 (.int .i64)) (.sl 3 (.int .i64))))))))) (.pr (.int .i64) (.pr (.sl 3 (.int .i64)) (.sl 3 (.int .i64))))), l_3⟩]] [] K =
  ge_q1j @a0 @a1 @a2 @a3 @a5 (gt_q1j_9a (runO Tryz.prog (T_q1j @a0 @a1 @a2 @a3 @a4 @a5) cuts_q1j 0 (finish Tryz.prog Tryz.f15 0 K) fuel)) (gt_q1j_9b (runO Tryz.prog (T_q1j @a0 @a1 @a2 @a3 @a4 @a5) cuts_q1j 0 (finish Tryz.prog Tryz.f15 0 K) fuel)) (k0_q1j K) (k1_q1j K) l l_1 l_2 l_3 := by kernel_rfl

theorem runs_q1j {R : Type} (K : AV -> List O -> Option R) : ∀ fuel : Nat,
  (gt_q1j_9a (runO Tryz.prog C_q1j cuts_q1j 0 (finish Tryz.prog Tryz.f15 0 K) fuel)) = (run_q1j (k0_q1j K) (k1_q1j K) fuel).1 ∧
  (gt_q1j_9b (runO Tryz.prog C_q1j cuts_q1j 0 (finish Tryz.prog Tryz.f15 0 K) fuel)) = (run_q1j (k0_q1j K) (k1_q1j K) fuel).2
 |0 => ⟨rfl, rfl⟩
 |fuel + 1 => by
  have ih := runs_q1j K fuel
  refine ⟨?_, ?_⟩
  ·funext x38 x39 x40 o0
   refine (gstep_q1j_9a _ K x38 x39 x40 o0).trans ?_
   rw [ih.1, ih.2]
   rfl
  ·funext x38 x39 x40 o0
   refine (gstep_q1j_9b _ K x38 x39 x40 o0).trans ?_
   rw [ih.1, ih.2]
   rfl

def S_q1j (l_q1j : LT_q1j) : Sum := ⟨[], fun {R} args ob K => match args, ob with
 |[.agg [.v (.int .i64 l), .v (.int .i64 l_1), .v (.int .i64 l_2), .rd ⟨false, 53, (.pr (.pr (.int .i64) (.pr (.sl 3 (.int .i64)) (.pr (.int .i64) (.pr (.int .i64) (.pr (.int .i64) (.pr (.int .i64) (.pr (.sl 3 (.int .i64)) (.sl 3 (.int .i64))))))))) (.pr (.int .i64) (.pr (.sl 3 (.int .i64)) (.sl 3 (.int .i64))))), l_3⟩]], [] => l_q1j l l_1 l_2 l_3 (k0_q1j K) (k1_q1j K)
 |_, _ => none⟩

theorem sound_q1j : Sound Tryz.prog 15 (S_q1j @l_q1j) := by
 refine fn_sound (cuts := cuts_q1j) (fn := Tryz.f15) (Γ := C_q1j) wide right_T_q1j Tryz.func15 fun {R} K r args ob h => ?_
 unfold S_q1j at h
 dsimp only at h
 split at h
 ·obtain ⟨n, hn⟩ := evl_ok h
  refine ⟨Nat.le_of_ble_eq_true (by kernel_rfl), n, (gentry_q1j n K _ _ _ _).trans ?_⟩
  rw [(runs_q1j K n).1, (runs_q1j K n).2]
  exact hn
 ·cases h

theorem call_q1j : Callable Tryz.prog 15 := ⟨_, Tryz.func15, by kernel_rfl, by kernel_rfl⟩

def T_q1k : FuncId -> Option Sum := G0

theorem right_T_q1k : Right Tryz.prog T_q1k := right_G0

abbrev cuts_q1k : Cuts := [(2, [2, 3, 4, 8, 9, 10])]

abbrev k0_q1k {R : Type} (K : AV -> List O -> Option R) : Int -> Int -> Int -> Option R := fun r0 r1 r2 => K (.tup [iv r0, iv r1, iv r2]) []

abbrev sta_q1k_2 (members hypos symbols : Int) (x8 : List Ent) (x9 x10 : Int) : St := ⟨fr0 36 [(2, iv members), (3, iv hypos), (4, iv symbols), (8, .rd ⟨false, 53, (.pr (.pr (.int .i64) (.pr (.sl 3 (.int .i64)) (.pr (.int .i64) (.pr (.int .i64) (.pr (.int .i64) (.pr (.int .i64) (.pr (.sl 3 (.int .i64)) (.sl 3 (.int .i64))))))))) (.pr (.int .i64) (.pr (.sl 3 (.int .i64)) (.sl 3 (.int .i64))))), x8⟩), (9, iv x9), (10, iv x10)], []⟩

abbrev gt_q1k_2 {R : Type} (g : List Item -> St -> Option R) : GT_q1k_2 R := fun (members hypos symbols : Int) (x8 : List Ent) (x9 x10 : Int) => g (at' Tryz.f28 2) (sta_q1k_2 members hypos symbols x8 x9 x10)

theorem gstep_q1k_2 {R : Type} (g : List Item -> St -> Option R) (K : AV -> List O -> Option R) (members hypos symbols : Int) (x8 : List Ent) (x9 x10 : Int) :
  runSeg Tryz.prog T_q1k cuts_q1k 0 g (finish Tryz.prog Tryz.f28 0 K) (at' Tryz.f28 2) (sta_q1k_2 members hypos symbols x8 x9 x10) =
  s_q1k_2 (gt_q1k_2 g) (k0_q1k K) members hypos symbols x8 x9 x10 := by kernel_rfl

theorem gentry_q1k {R : Type} (fuel : Nat) (K : AV -> List O -> Option R) (l l_1 l_2 : Int) (l_3 : List Ent) :
  fnRun Tryz.prog T_q1k cuts_q1k Tryz.f28 fuel [.agg [iv l, iv l_1, iv l_2, .rd ⟨false, 53, (.pr (.pr (.int .i64) (.pr (.sl 3 (.int .i64)) (.pr (.int .i64) (.pr (.int .i64) (.pr (.int .i64) (.pr (.int .i64) (.pr (.sl 3 (.int .i64)) (.sl 3 (.int .i64))))))))) (.pr (.int .i64) (.pr (.sl 3 (.int .i64)) (.sl 3 (.int .i64))))), l_3⟩]] [] K =
  e_q1k (gt_q1k_2 (runO Tryz.prog T_q1k cuts_q1k 0 (finish Tryz.prog Tryz.f28 0 K) fuel)) (k0_q1k K) l l_1 l_2 l_3 := by kernel_rfl

theorem runs_q1k {R : Type} (K : AV -> List O -> Option R) : ∀ fuel : Nat,
  (gt_q1k_2 (runO Tryz.prog T_q1k cuts_q1k 0 (finish Tryz.prog Tryz.f28 0 K) fuel)) = (run_q1k (k0_q1k K) fuel)
 |0 => rfl
 |fuel + 1 => by
  have ih := runs_q1k K fuel
  funext members hypos symbols x8 x9 x10
  refine (gstep_q1k_2 _ K members hypos symbols x8 x9 x10).trans ?_
  rw [ih]
  rfl

def S_q1k (l_q1k : LT_q1k) : Sum := ⟨[], fun {R} args ob K => match args, ob with
 |[.agg [.v (.int .i64 l), .v (.int .i64 l_1), .v (.int .i64 l_2), .rd ⟨false, 53, (.pr (.pr (.int .i64) (.pr (.sl 3 (.int .i64)) (.pr (.int .i64) (.pr (.int .i64) (.pr (.int .i64) (.pr (.int .i64) (.pr (.sl 3 (.int .i64)) (.sl 3 (.int .i64))))))))) (.pr (.int .i64) (.pr (.sl 3 (.int .i64)) (.sl 3 (.int .i64))))), l_3⟩]], [] => l_q1k l l_1 l_2 l_3 (k0_q1k K)
 |_, _ => none⟩

theorem sound_q1k : Sound Tryz.prog 28 (S_q1k @l_q1k) := by
 refine fn_sound (cuts := cuts_q1k) (fn := Tryz.f28) (Γ := T_q1k) wide right_T_q1k Tryz.func28 fun {R} K r args ob h => ?_
 unfold S_q1k at h
 dsimp only at h
 split at h
 ·obtain ⟨n, hn⟩ := evl_ok h
  refine ⟨Nat.le_of_ble_eq_true (by kernel_rfl), n, (gentry_q1k n K _ _ _ _).trans ?_⟩
  rw [(runs_q1k K n)]
  exact hn
 ·cases h

theorem call_q1k : Callable Tryz.prog 28 := ⟨_, Tryz.func28, by kernel_rfl, by kernel_rfl⟩

def T_q1l : FuncId -> Option Sum := G0

theorem right_T_q1l : Right Tryz.prog T_q1l := right_G0

abbrev cuts_q1l : Cuts := []

abbrev k0_q1l {R : Type} (K : AV -> List O -> Option R) : Int -> Option R := fun r0 => K (iv r0) []

theorem gentry_q1l {R : Type} (K : AV -> List O -> Option R) (e : Int) :
  fnRun Tryz.prog T_q1l cuts_q1l Tryz.f14 0 [iv e] [] K =
  l_q1l e (k0_q1l K) := by kernel_rfl

def S_q1l (l_q1l : LT_q1l) : Sum := ⟨[], fun {R} args ob K => match args, ob with
 |[.v (.int .i64 e)], [] => l_q1l e (k0_q1l K)
 |_, _ => none⟩

theorem sound_q1l : Sound Tryz.prog 14 (S_q1l @l_q1l) := by
 refine fn_sound (cuts := cuts_q1l) (fn := Tryz.f14) (Γ := T_q1l) wide right_T_q1l Tryz.func14 fun {R} K r args ob h => ?_
 unfold S_q1l at h
 dsimp only at h
 split at h
 ·exact ⟨Nat.le_of_ble_eq_true (by kernel_rfl), 0, (gentry_q1l K _).trans h⟩
 ·cases h

theorem call_q1l : Callable Tryz.prog 14 := ⟨_, Tryz.func14, by kernel_rfl, by kernel_rfl⟩

def T_q1m (a0 : LT_q1l) (a1 : LT_q17) (a2 : LT_q1k) (a3 : LT_q1j) : FuncId -> Option Sum := (addS (addS (addS (addS G0 14 (S_q1l @a0)) 18 (S_q17 @a1)) 28 (S_q1k @a2)) 15 (S_q1j @a3))

abbrev C_q1m : FuncId -> Option Sum := T_q1m @l_q1l @l_q17 @l_q1k @l_q1j

theorem right_T_q1m : Right Tryz.prog C_q1m := (right_add (right_add (right_add (right_add right_G0 call_q1l sound_q1l) call_q17 sound_q17) call_q1k sound_q1k) call_q1j sound_q1j)

abbrev cuts_q1m : Cuts := []

abbrev k0_q1m {R : Type} (K : AV -> List O -> Option R) : Bool -> Option R := fun r0 => K (.v (.bool r0)) []

theorem gentry_q1m {a0 : LT_q1l} {a1 : LT_q17} {a2 : LT_q1k} {a3 : LT_q1j} {R : Type} (K : AV -> List O -> Option R)  :
  fnRun Tryz.prog (T_q1m @a0 @a1 @a2 @a3) cuts_q1m Tryz.f11 0 [] [] K =
  gl_q1m @a0 @a1 @a2 @a3  (k0_q1m K) := by kernel_rfl

def S_q1m (l_q1m : LT_q1m) : Sum := ⟨[], fun {R} args ob K => match args, ob with
 |[], [] => l_q1m  (k0_q1m K)
 |_, _ => none⟩

theorem sound_q1m : Sound Tryz.prog 11 (S_q1m @l_q1m) := by
 refine fn_sound (cuts := cuts_q1m) (fn := Tryz.f11) (Γ := C_q1m) wide right_T_q1m Tryz.func11 fun {R} K r args ob h => ?_
 unfold S_q1m at h
 dsimp only at h
 split at h
 ·exact ⟨Nat.le_of_ble_eq_true (by kernel_rfl), 0, (gentry_q1m K).trans h⟩
 ·cases h

theorem call_q1m : Callable Tryz.prog 11 := ⟨_, Tryz.func11, by kernel_rfl, by kernel_rfl⟩

def T_q1n : FuncId -> Option Sum := G0

theorem right_T_q1n : Right Tryz.prog T_q1n := right_G0

abbrev cuts_q1n : Cuts := [(2, [0, 1, 2, 8])]

abbrev k0_q1n {R : Type} (K : AV -> List O -> Option R) : Int -> Int -> Option R := fun r0 r1 => K (.tup [iv r0, iv r1]) []

abbrev sta_q1n_2 (b : List Int) (vat : Int) (s : ByteArray) (i : Int) : St := ⟨fr0 33 [(0, rb 5 b), (1, iv vat), (2, .v (.string s)), (8, iv i)], []⟩

abbrev gt_q1n_2 {R : Type} (g : List Item -> St -> Option R) : GT_q1n_2 R := fun (b : List Int) (vat : Int) (s : ByteArray) (i : Int) => g (at' Tryz.f72 2) (sta_q1n_2 b vat s i)

theorem gstep_q1n_2 {R : Type} (g : List Item -> St -> Option R) (K : AV -> List O -> Option R) (b : List Int) (vat : Int) (s : ByteArray) (i : Int) :
  runSeg Tryz.prog T_q1n cuts_q1n 0 g (finish Tryz.prog Tryz.f72 0 K) (at' Tryz.f72 2) (sta_q1n_2 b vat s i) =
  s_q1n_2 (gt_q1n_2 g) (k0_q1n K) b vat s i := by kernel_rfl

theorem gentry_q1n {R : Type} (fuel : Nat) (K : AV -> List O -> Option R) (b : List Int) (vat : Int) (s : ByteArray) :
  fnRun Tryz.prog T_q1n cuts_q1n Tryz.f72 fuel [rb 5 b, iv vat, .v (.string s)] [] K =
  e_q1n (gt_q1n_2 (runO Tryz.prog T_q1n cuts_q1n 0 (finish Tryz.prog Tryz.f72 0 K) fuel)) (k0_q1n K) b vat s := by kernel_rfl

theorem runs_q1n {R : Type} (K : AV -> List O -> Option R) : ∀ fuel : Nat,
  (gt_q1n_2 (runO Tryz.prog T_q1n cuts_q1n 0 (finish Tryz.prog Tryz.f72 0 K) fuel)) = (run_q1n (k0_q1n K) fuel)
 |0 => rfl
 |fuel + 1 => by
  have ih := runs_q1n K fuel
  funext b vat s i
  refine (gstep_q1n_2 _ K b vat s i).trans ?_
  rw [ih]
  rfl

def S_q1n (l_q1n : LT_q1n) : Sum := ⟨[], fun {R} args ob K => match args, ob with
 |[.rd ⟨false, 5, (.int .u8), b⟩, .v (.int .i64 vat), .v (.string s)], [] => l_q1n b vat s (k0_q1n K)
 |_, _ => none⟩

theorem sound_q1n : Sound Tryz.prog 72 (S_q1n @l_q1n) := by
 refine fn_sound (cuts := cuts_q1n) (fn := Tryz.f72) (Γ := T_q1n) wide right_T_q1n Tryz.func72 fun {R} K r args ob h => ?_
 unfold S_q1n at h
 dsimp only at h
 split at h
 ·obtain ⟨n, hn⟩ := evl_ok h
  refine ⟨Nat.le_of_ble_eq_true (by kernel_rfl), n, (gentry_q1n n K _ _ _).trans ?_⟩
  rw [(runs_q1n K n)]
  exact hn
 ·cases h

theorem call_q1n : Callable Tryz.prog 72 := ⟨_, Tryz.func72, by kernel_rfl, by kernel_rfl⟩

def T_q1o : FuncId -> Option Sum := G0

theorem right_T_q1o : Right Tryz.prog T_q1o := right_G0

abbrev cuts_q1o : Cuts := [(4, [0, 1, 7]), (14, [0, 1, 7, 8, 9])]

abbrev k0_q1o {R : Type} (K : AV -> List O -> Option R) : Int -> Int -> Int -> Option R := fun r0 r1 r2 => K (.tup [iv r0, iv r1, iv r2]) []

abbrev sta_q1o_4 (b : List Int) (vat k : Int) : St := ⟨fr0 83 [(0, rb 5 b), (1, iv vat), (7, iv k)], []⟩

abbrev gt_q1o_4 {R : Type} (g : List Item -> St -> Option R) : GT_q1o_4 R := fun (b : List Int) (vat k : Int) => g (at' Tryz.f93 4) (sta_q1o_4 b vat k)

abbrev sta_q1o_14 (b : List Int) (vat k n i : Int) : St := ⟨fr0 83 [(0, rb 5 b), (1, iv vat), (7, iv k), (8, iv n), (9, iv i)], []⟩

abbrev gt_q1o_14 {R : Type} (g : List Item -> St -> Option R) : GT_q1o_14 R := fun (b : List Int) (vat k n i : Int) => g (at' Tryz.f93 14) (sta_q1o_14 b vat k n i)

theorem gstep_q1o_4 {R : Type} (g : List Item -> St -> Option R) (K : AV -> List O -> Option R) (b : List Int) (vat k : Int) :
  runSeg Tryz.prog T_q1o cuts_q1o 0 g (finish Tryz.prog Tryz.f93 0 K) (at' Tryz.f93 4) (sta_q1o_4 b vat k) =
  s_q1o_4 (gt_q1o_4 g) (gt_q1o_14 g) (k0_q1o K) b vat k := by kernel_rfl

theorem gstep_q1o_14 {R : Type} (g : List Item -> St -> Option R) (K : AV -> List O -> Option R) (b : List Int) (vat k n i : Int) :
  runSeg Tryz.prog T_q1o cuts_q1o 0 g (finish Tryz.prog Tryz.f93 0 K) (at' Tryz.f93 14) (sta_q1o_14 b vat k n i) =
  s_q1o_14 (gt_q1o_4 g) (gt_q1o_14 g) (k0_q1o K) b vat k n i := by kernel_rfl

theorem gentry_q1o {R : Type} (fuel : Nat) (K : AV -> List O -> Option R) (b : List Int) (vat : Int) :
  fnRun Tryz.prog T_q1o cuts_q1o Tryz.f93 fuel [rb 5 b, iv vat] [] K =
  e_q1o (gt_q1o_4 (runO Tryz.prog T_q1o cuts_q1o 0 (finish Tryz.prog Tryz.f93 0 K) fuel)) (gt_q1o_14 (runO Tryz.prog T_q1o cuts_q1o 0 (finish Tryz.prog Tryz.f93 0 K) fuel)) (k0_q1o K) b vat := by kernel_rfl

theorem runs_q1o {R : Type} (K : AV -> List O -> Option R) : ∀ fuel : Nat,
  (gt_q1o_4 (runO Tryz.prog T_q1o cuts_q1o 0 (finish Tryz.prog Tryz.f93 0 K) fuel)) = (run_q1o (k0_q1o K) fuel).1 ∧
  (gt_q1o_14 (runO Tryz.prog T_q1o cuts_q1o 0 (finish Tryz.prog Tryz.f93 0 K) fuel)) = (run_q1o (k0_q1o K) fuel).2
 |0 => ⟨rfl, rfl⟩
 |fuel + 1 => by
  have ih := runs_q1o K fuel
  refine ⟨?_, ?_⟩
  ·funext b vat k
   refine (gstep_q1o_4 _ K b vat k).trans ?_
   rw [ih.1, ih.2]
   rfl
  ·funext b vat k n i
   refine (gstep_q1o_14 _ K b vat k n i).trans ?_
   rw [ih.1, ih.2]
   rfl

def S_q1o (l_q1o : LT_q1o) : Sum := ⟨[], fun {R} args ob K => match args, ob with
 |[.rd ⟨false, 5, (.int .u8), b⟩, .v (.int .i64 vat)], [] => l_q1o b vat (k0_q1o K)
 |_, _ => none⟩

theorem sound_q1o : Sound Tryz.prog 93 (S_q1o @l_q1o) := by
 refine fn_sound (cuts := cuts_q1o) (fn := Tryz.f93) (Γ := T_q1o) wide right_T_q1o Tryz.func93 fun {R} K r args ob h => ?_
 unfold S_q1o at h
 dsimp only at h
 split at h
 ·obtain ⟨n, hn⟩ := evl_ok h
  refine ⟨Nat.le_of_ble_eq_true (by kernel_rfl), n, (gentry_q1o n K _ _).trans ?_⟩
  rw [(runs_q1o K n).1, (runs_q1o K n).2]
  exact hn
 ·cases h

theorem call_q1o : Callable Tryz.prog 93 := ⟨_, Tryz.func93, by kernel_rfl, by kernel_rfl⟩

def T_q1p (a0 : LT_q1o) : FuncId -> Option Sum := (addS G0 93 (S_q1o @a0))

abbrev C_q1p : FuncId -> Option Sum := T_q1p @l_q1o

theorem right_T_q1p : Right Tryz.prog C_q1p := (right_add right_G0 call_q1o sound_q1o)

abbrev cuts_q1p : Cuts := []

abbrev k0_q1p {R : Type} (K : AV -> List O -> Option R) : Int -> Int -> Int -> Option R := fun r0 r1 r2 => K (.tup [iv r0, iv r1, iv r2]) []

theorem gentry_q1p {a0 : LT_q1o} {R : Type} (K : AV -> List O -> Option R) (b : List Int) (vat most kind : Int) :
  fnRun Tryz.prog (T_q1p @a0) cuts_q1p Tryz.f73 0 [rb 5 b, iv vat, iv most, iv kind] [] K =
  gl_q1p @a0 b vat most kind (k0_q1p K) := by kernel_rfl

def S_q1p (l_q1p : LT_q1p) : Sum := ⟨[], fun {R} args ob K => match args, ob with
 |[.rd ⟨false, 5, (.int .u8), b⟩, .v (.int .i64 vat), .v (.int .i64 most), .v (.int .i64 kind)], [] => l_q1p b vat most kind (k0_q1p K)
 |_, _ => none⟩

theorem sound_q1p : Sound Tryz.prog 73 (S_q1p @l_q1p) := by
 refine fn_sound (cuts := cuts_q1p) (fn := Tryz.f73) (Γ := C_q1p) wide right_T_q1p Tryz.func73 fun {R} K r args ob h => ?_
 unfold S_q1p at h
 dsimp only at h
 split at h
 ·exact ⟨Nat.le_of_ble_eq_true (by kernel_rfl), 0, (gentry_q1p K _ _ _ _).trans h⟩
 ·cases h

theorem call_q1p : Callable Tryz.prog 73 := ⟨_, Tryz.func73, by kernel_rfl, by kernel_rfl⟩

def T_q1q (a0 : LT_q1n) (a1 : LT_q1p) : FuncId -> Option Sum := (addS (addS G0 72 (S_q1n @a0)) 73 (S_q1p @a1))

abbrev C_q1q : FuncId -> Option Sum := T_q1q @l_q1n @l_q1p

theorem right_T_q1q : Right Tryz.prog C_q1q := (right_add (right_add right_G0 call_q1n sound_q1n) call_q1p sound_q1p)

abbrev cuts_q1q : Cuts := []

abbrev k0_q1q {R : Type} (K : AV -> List O -> Option R) : KT0_q1q R := fun r0 r1 r2 r3 r4 r5 => K (.tup [.agg [iv r0, iv r1, iv r2, .nst 0], iv r3, iv r4]) [.fst ⟨true, 53, (.pr (.pr (.int .i64) (.pr (.sl 3 (.int .i64)) (.pr (.int .i64) (.pr (.int .i64) (.pr (.int .i64) (.pr (.int .i64) (.pr (.sl 3 (.int .i64)) (.sl 3 (.int .i64))))))))) (.pr (.int .i64) (.pr (.sl 3 (.int .i64)) (.sl 3 (.int .i64))))), r5⟩ 0]

theorem gentry_q1q {a0 : LT_q1n} {a1 : LT_q1p} {R : Type} (K : AV -> List O -> Option R) (b : List Int) :
  fnRun Tryz.prog (T_q1q @a0 @a1) cuts_q1q Tryz.f46 0 [rb 5 b] [] K =
  gl_q1q @a0 @a1 b (k0_q1q K) := by kernel_rfl

def S_q1q (l_q1q : LT_q1q) : Sum := ⟨[], fun {R} args ob K => match args, ob with
 |[.rd ⟨false, 5, (.int .u8), b⟩], [] => l_q1q b (k0_q1q K)
 |_, _ => none⟩

theorem sound_q1q : Sound Tryz.prog 46 (S_q1q @l_q1q) := by
 refine fn_sound (cuts := cuts_q1q) (fn := Tryz.f46) (Γ := C_q1q) wide right_T_q1q Tryz.func46 fun {R} K r args ob h => ?_
 unfold S_q1q at h
 dsimp only at h
 split at h
 ·exact ⟨Nat.le_of_ble_eq_true (by kernel_rfl), 0, (gentry_q1q K _).trans h⟩
 ·cases h

theorem call_q1q : Callable Tryz.prog 46 := ⟨_, Tryz.func46, by kernel_rfl, by kernel_rfl⟩

def T_q1r (a0 : LT_q1o) : FuncId -> Option Sum := (addS G0 93 (S_q1o @a0))

abbrev C_q1r : FuncId -> Option Sum := T_q1r @l_q1o

theorem right_T_q1r : Right Tryz.prog C_q1r := (right_add right_G0 call_q1o sound_q1o)

abbrev cuts_q1r : Cuts := [(2, [0, 1, 2, 9])]

abbrev k0_q1r {R : Type} (K : AV -> List O -> Option R) : Int -> Int -> (List Int) -> Option R := fun r0 r1 r2 => K (.tup [.own 0, iv r0, iv r1]) [wi 3 r2]

abbrev sta_q1r_2 (b : List Int) (vat : Int) (equal : Bool) (o0 : List Int) : St := ⟨fr0 62 [(0, rb 5 b), (1, iv vat), (2, .v (.bool equal)), (9, .own 0)], [wi 3 o0]⟩

abbrev gt_q1r_2 {R : Type} (g : List Item -> St -> Option R) : GT_q1r_2 R := fun (b : List Int) (vat : Int) (equal : Bool) (o0 : List Int) => g (at' Tryz.f74 2) (sta_q1r_2 b vat equal o0)

theorem gstep_q1r_2 {a0 : LT_q1o} {R : Type} (g : List Item -> St -> Option R) (K : AV -> List O -> Option R) (b : List Int) (vat : Int) (equal : Bool) (o0 : List Int) :
  runSeg Tryz.prog (T_q1r @a0) cuts_q1r 0 g (finish Tryz.prog Tryz.f74 0 K) (at' Tryz.f74 2) (sta_q1r_2 b vat equal o0) =
  gs_q1r_2 @a0 (gt_q1r_2 g) (k0_q1r K) b vat equal o0 := by kernel_rfl

theorem gentry_q1r {a0 : LT_q1o} {R : Type} (fuel : Nat) (K : AV -> List O -> Option R) (b : List Int) (vat : Int) (equal : Bool) :
  fnRun Tryz.prog (T_q1r @a0) cuts_q1r Tryz.f74 fuel [rb 5 b, iv vat, .v (.bool equal)] [] K =
  ge_q1r @a0 (gt_q1r_2 (runO Tryz.prog (T_q1r @a0) cuts_q1r 0 (finish Tryz.prog Tryz.f74 0 K) fuel)) (k0_q1r K) b vat equal := by kernel_rfl

theorem runs_q1r {R : Type} (K : AV -> List O -> Option R) : ∀ fuel : Nat,
  (gt_q1r_2 (runO Tryz.prog C_q1r cuts_q1r 0 (finish Tryz.prog Tryz.f74 0 K) fuel)) = (run_q1r (k0_q1r K) fuel)
 |0 => rfl
 |fuel + 1 => by
  have ih := runs_q1r K fuel
  funext b vat equal o0
  refine (gstep_q1r_2 _ K b vat equal o0).trans ?_
  rw [ih]
  rfl

def S_q1r (l_q1r : LT_q1r) : Sum := ⟨[], fun {R} args ob K => match args, ob with
 |[.rd ⟨false, 5, (.int .u8), b⟩, .v (.int .i64 vat), .v (.bool equal)], [] => l_q1r b vat equal (k0_q1r K)
 |_, _ => none⟩

theorem sound_q1r : Sound Tryz.prog 74 (S_q1r @l_q1r) := by
 refine fn_sound (cuts := cuts_q1r) (fn := Tryz.f74) (Γ := C_q1r) wide right_T_q1r Tryz.func74 fun {R} K r args ob h => ?_
 unfold S_q1r at h
 dsimp only at h
 split at h
 ·obtain ⟨n, hn⟩ := evl_ok h
  refine ⟨Nat.le_of_ble_eq_true (by kernel_rfl), n, (gentry_q1r n K _ _ _).trans ?_⟩
  rw [(runs_q1r K n)]
  exact hn
 ·cases h

theorem call_q1r : Callable Tryz.prog 74 := ⟨_, Tryz.func74, by kernel_rfl, by kernel_rfl⟩

def T_q1s : FuncId -> Option Sum := G0

theorem right_T_q1s : Right Tryz.prog T_q1s := right_G0

abbrev cuts_q1s : Cuts := [(2, [0, 1, 2, 8])]

abbrev k0_q1s {R : Type} (K : AV -> List O -> Option R) : Int -> Int -> Option R := fun r0 r1 => K (.tup [iv r0, iv r1]) []

abbrev sta_q1s_2 (b : List Int) (vat : Int) (s : ByteArray) (i : Int) : St := ⟨fr0 40 [(0, rb 5 b), (1, iv vat), (2, .v (.string s)), (8, iv i)], []⟩

abbrev gt_q1s_2 {R : Type} (g : List Item -> St -> Option R) : GT_q1s_2 R := fun (b : List Int) (vat : Int) (s : ByteArray) (i : Int) => g (at' Tryz.f110 2) (sta_q1s_2 b vat s i)

theorem gstep_q1s_2 {R : Type} (g : List Item -> St -> Option R) (K : AV -> List O -> Option R) (b : List Int) (vat : Int) (s : ByteArray) (i : Int) :
  runSeg Tryz.prog T_q1s cuts_q1s 0 g (finish Tryz.prog Tryz.f110 0 K) (at' Tryz.f110 2) (sta_q1s_2 b vat s i) =
  s_q1s_2 (gt_q1s_2 g) (k0_q1s K) b vat s i := by kernel_rfl

theorem gentry_q1s {R : Type} (fuel : Nat) (K : AV -> List O -> Option R) (b : List Int) (vat : Int) (s : ByteArray) :
  fnRun Tryz.prog T_q1s cuts_q1s Tryz.f110 fuel [rb 5 b, iv vat, .v (.string s)] [] K =
  e_q1s (gt_q1s_2 (runO Tryz.prog T_q1s cuts_q1s 0 (finish Tryz.prog Tryz.f110 0 K) fuel)) (k0_q1s K) b vat s := by kernel_rfl

theorem runs_q1s {R : Type} (K : AV -> List O -> Option R) : ∀ fuel : Nat,
  (gt_q1s_2 (runO Tryz.prog T_q1s cuts_q1s 0 (finish Tryz.prog Tryz.f110 0 K) fuel)) = (run_q1s (k0_q1s K) fuel)
 |0 => rfl
 |fuel + 1 => by
  have ih := runs_q1s K fuel
  funext b vat s i
  refine (gstep_q1s_2 _ K b vat s i).trans ?_
  rw [ih]
  rfl

def S_q1s (l_q1s : LT_q1s) : Sum := ⟨[], fun {R} args ob K => match args, ob with
 |[.rd ⟨false, 5, (.int .u8), b⟩, .v (.int .i64 vat), .v (.string s)], [] => l_q1s b vat s (k0_q1s K)
 |_, _ => none⟩

theorem sound_q1s : Sound Tryz.prog 110 (S_q1s @l_q1s) := by
 refine fn_sound (cuts := cuts_q1s) (fn := Tryz.f110) (Γ := T_q1s) wide right_T_q1s Tryz.func110 fun {R} K r args ob h => ?_
 unfold S_q1s at h
 dsimp only at h
 split at h
 ·obtain ⟨n, hn⟩ := evl_ok h
  refine ⟨Nat.le_of_ble_eq_true (by kernel_rfl), n, (gentry_q1s n K _ _ _).trans ?_⟩
  rw [(runs_q1s K n)]
  exact hn
 ·cases h

theorem call_q1s : Callable Tryz.prog 110 := ⟨_, Tryz.func110, by kernel_rfl, by kernel_rfl⟩

def T_q1t (a0 : LT_q1s) (a1 : LT_q1o) : FuncId -> Option Sum := (addS (addS G0 110 (S_q1s @a0)) 93 (S_q1o @a1))

abbrev C_q1t : FuncId -> Option Sum := T_q1t @l_q1s @l_q1o

theorem right_T_q1t : Right Tryz.prog C_q1t := (right_add (right_add right_G0 call_q1s sound_q1s) call_q1o sound_q1o)

abbrev cuts_q1t : Cuts := [(3, [0, 1, 2, 9, 10])]

abbrev k0_q1t {R : Type} (K : AV -> List O -> Option R) : Int -> Int -> (List Int) -> Option R := fun r0 r1 r2 => K (.tup [.own 0, iv r0, iv r1]) [wi 3 r2]

abbrev sta_q1t_3 (b : List Int) (vat : Int) (l : List (ByteArray × (Int × (Int × Int)))) (i : Int) (o0 : List Int) : St := ⟨fr0 84 [(0, rb 5 b), (1, iv vat), (2, .rd ⟨false, 165, (.pr .str (.pr (.int .i64) (.pr (.int .i64) (.int .i64)))), l⟩), (9, .own 0), (10, iv i)], [wi 3 o0]⟩

abbrev gt_q1t_3 {R : Type} (g : List Item -> St -> Option R) : GT_q1t_3 R := fun (b : List Int) (vat : Int) (l : List (ByteArray × (Int × (Int × Int)))) (i : Int) (o0 : List Int) => g (at' Tryz.f94 3) (sta_q1t_3 b vat l i o0)

theorem gstep_q1t_3 {a0 : LT_q1s} {a1 : LT_q1o} {R : Type} (g : List Item -> St -> Option R) (K : AV -> List O -> Option R) (b : List Int) (vat : Int) (l : List (ByteArray × (Int × (Int × Int)))) (i : Int) (o0 : List Int) :
  runSeg Tryz.prog (T_q1t @a0 @a1) cuts_q1t 0 g (finish Tryz.prog Tryz.f94 0 K) (at' Tryz.f94 3) (sta_q1t_3 b vat l i o0) =
  gs_q1t_3 @a0 @a1 (gt_q1t_3 g) (k0_q1t K) b vat l i o0 := by kernel_rfl

theorem gentry_q1t {a0 : LT_q1s} {a1 : LT_q1o} {R : Type} (fuel : Nat) (K : AV -> List O -> Option R) (b : List Int) (vat : Int) (l : List (ByteArray × (Int × (Int × Int)))) :
  fnRun Tryz.prog (T_q1t @a0 @a1) cuts_q1t Tryz.f94 fuel [rb 5 b, iv vat, .rd ⟨false, 165, (.pr .str (.pr (.int .i64) (.pr (.int .i64) (.int .i64)))), l⟩] [] K =
  ge_q1t @a0 @a1 (gt_q1t_3 (runO Tryz.prog (T_q1t @a0 @a1) cuts_q1t 0 (finish Tryz.prog Tryz.f94 0 K) fuel)) (k0_q1t K) b vat l := by kernel_rfl

theorem runs_q1t {R : Type} (K : AV -> List O -> Option R) : ∀ fuel : Nat,
  (gt_q1t_3 (runO Tryz.prog C_q1t cuts_q1t 0 (finish Tryz.prog Tryz.f94 0 K) fuel)) = (run_q1t (k0_q1t K) fuel)
 |0 => rfl
 |fuel + 1 => by
  have ih := runs_q1t K fuel
  funext b vat l i o0
  refine (gstep_q1t_3 _ K b vat l i o0).trans ?_
  rw [ih]
  rfl

def S_q1t (l_q1t : LT_q1t) : Sum := ⟨[], fun {R} args ob K => match args, ob with
 |[.rd ⟨false, 5, (.int .u8), b⟩, .v (.int .i64 vat), .rd ⟨false, 165, (.pr .str (.pr (.int .i64) (.pr (.int .i64) (.int .i64)))), l⟩], [] => l_q1t b vat l (k0_q1t K)
 |_, _ => none⟩

theorem sound_q1t : Sound Tryz.prog 94 (S_q1t @l_q1t) := by
 refine fn_sound (cuts := cuts_q1t) (fn := Tryz.f94) (Γ := C_q1t) wide right_T_q1t Tryz.func94 fun {R} K r args ob h => ?_
 unfold S_q1t at h
 dsimp only at h
 split at h
 ·obtain ⟨n, hn⟩ := evl_ok h
  refine ⟨Nat.le_of_ble_eq_true (by kernel_rfl), n, (gentry_q1t n K _ _ _).trans ?_⟩
  rw [(runs_q1t K n)]
  exact hn
 ·cases h

theorem call_q1t : Callable Tryz.prog 94 := ⟨_, Tryz.func94, by kernel_rfl, by kernel_rfl⟩

def T_q1u (a0 : LT_q1t) : FuncId -> Option Sum := (addS G0 94 (S_q1t @a0))

abbrev C_q1u : FuncId -> Option Sum := T_q1u @l_q1t

theorem right_T_q1u : Right Tryz.prog C_q1u := (right_add right_G0 call_q1t sound_q1t)

abbrev cuts_q1u : Cuts := [(4, [0, 2, 5, 6, 7]), (5, [0, 2, 5, 6, 7, 8, 9]), (12, [0, 2, 8, 9, 10, 11, 12, 13]), (14, [0, 2, 8, 9, 10, 11, 12]), (17, [0, 2, 8, 9, 10, 12]), (18, [0, 2, 8, 9, 10, 12, 14, 15]), (20, [0, 2, 8, 9, 10, 12, 14, 15, 16, 17]), (24, [0, 2, 8, 9, 10, 12, 14, 15, 16, 17]), (26, [0, 2, 8, 9, 10, 12, 14, 15, 16, 17]), (27, [0, 2, 8, 9, 10, 12, 14, 15, 16, 17]), (31, [0, 2, 10, 12, 16, 18]), (41, [0, 2, 10, 12, 16, 18, 19, 22])]

abbrev k0_q1u {R : Type} (K : AV -> List O -> Option R) : KT0_q1u R := fun r0 r1 r2 r3 r4 r5 r6 r7 => K (.tup [.agg [iv r0, iv r1, iv r2, iv r3, .own 0, .own 1], iv r4, iv r5]) [wi 3 r6, wi 3 r7]

abbrev sta_q1u_4 (b : List Int) (o0 o0_1 o0_2 o0_3 : Int) (o1 o2 : List Int) (o3 : ByteArray) (o3_1 o3_2 o3_3 : Int) (o4 : ByteArray) (o4_1 o4_2 o4_3 : Int) (o5 : ByteArray) (o5_1 o5_2 o5_3 : Int) : St := ⟨fr0 217 [(0, rb 5 b), (2, .ptr 0 0), (5, .ptr 3 0), (6, .ptr 4 0), (7, .ptr 5 0)], [.box 47 [iv o0, iv o0_1, iv o0_2, iv o0_3, .own 1, .own 2], wi 3 o1, wi 3 o2, .box 165 [.v (.string o3), iv o3_1, iv o3_2, iv o3_3], .box 165 [.v (.string o4), iv o4_1, iv o4_2, iv o4_3], .box 165 [.v (.string o5), iv o5_1, iv o5_2, iv o5_3]]⟩

abbrev gt_q1u_4 {R : Type} (g : List Item -> St -> Option R) : GT_q1u_4 R := fun (b : List Int) (o0 o0_1 o0_2 o0_3 : Int) (o1 o2 : List Int) (o3 : ByteArray) (o3_1 o3_2 o3_3 : Int) (o4 : ByteArray) (o4_1 o4_2 o4_3 : Int) (o5 : ByteArray) (o5_1 o5_2 o5_3 : Int) => g (at' Tryz.f75 4) (sta_q1u_4 b o0 o0_1 o0_2 o0_3 o1 o2 o3 o3_1 o3_2 o3_3 o4 o4_1 o4_2 o4_3 o5 o5_1 o5_2 o5_3)

abbrev sta_q1u_5 (b : List Int) (o0 o0_1 o0_2 o0_3 : Int) (o1 o2 : List Int) (o3 : ByteArray) (o3_1 o3_2 o3_3 : Int) (o4 : ByteArray) (o4_1 o4_2 o4_3 : Int) (o5 : ByteArray) (o5_1 o5_2 o5_3 : Int) (o6 : ByteArray) (o6_1 o6_2 o6_3 : Int) (o7 : ByteArray) (o7_1 o7_2 o7_3 : Int) : St := ⟨fr0 217 [(0, rb 5 b), (2, .ptr 0 0), (5, .ptr 3 0), (6, .ptr 4 0), (7, .ptr 5 0), (8, .ptr 6 0), (9, .ptr 7 0)], [.box 47 [iv o0, iv o0_1, iv o0_2, iv o0_3, .own 1, .own 2], wi 3 o1, wi 3 o2, .box 165 [.v (.string o3), iv o3_1, iv o3_2, iv o3_3], .box 165 [.v (.string o4), iv o4_1, iv o4_2, iv o4_3], .box 165 [.v (.string o5), iv o5_1, iv o5_2, iv o5_3], .box 165 [.v (.string o6), iv o6_1, iv o6_2, iv o6_3], .box 165 [.v (.string o7), iv o7_1, iv o7_2, iv o7_3]]⟩

abbrev gt_q1u_5 {R : Type} (g : List Item -> St -> Option R) : GT_q1u_5 R := fun (b : List Int) (o0 o0_1 o0_2 o0_3 : Int) (o1 o2 : List Int) (o3 : ByteArray) (o3_1 o3_2 o3_3 : Int) (o4 : ByteArray) (o4_1 o4_2 o4_3 : Int) (o5 : ByteArray) (o5_1 o5_2 o5_3 : Int) (o6 : ByteArray) (o6_1 o6_2 o6_3 : Int) (o7 : ByteArray) (o7_1 o7_2 o7_3 : Int) => g (at' Tryz.f75 5) (sta_q1u_5 b o0 o0_1 o0_2 o0_3 o1 o2 o3 o3_1 o3_2 o3_3 o4 o4_1 o4_2 o4_3 o5 o5_1 o5_2 o5_3 o6 o6_1 o6_2 o6_3 o7 o7_1 o7_2 o7_3)

abbrev sta_q1u_12 (b : List Int) (vat e o0 o0_1 o0_2 o0_3 : Int) (o1 o2 : List Int) (o3 : ByteArray) (o3_1 o3_2 o3_3 : Int) (o4 : ByteArray) (o4_1 o4_2 o4_3 o5 o5_1 o5_2 o5_3 : Int) (o6 o7 o8 : List Int) : St := ⟨fr0 217 [(0, rb 5 b), (2, .ptr 0 0), (8, .ptr 3 0), (9, .ptr 4 0), (10, .ptr 5 0), (11, .own 8), (12, iv vat), (13, iv e)], [.box 47 [iv o0, iv o0_1, iv o0_2, iv o0_3, .own 1, .own 2], wi 3 o1, wi 3 o2, .box 165 [.v (.string o3), iv o3_1, iv o3_2, iv o3_3], .box 165 [.v (.string o4), iv o4_1, iv o4_2, iv o4_3], .box 47 [iv o5, iv o5_1, iv o5_2, iv o5_3, .own 6, .own 7], wi 3 o6, wi 3 o7, wi 3 o8]⟩

abbrev gt_q1u_12 {R : Type} (g : List Item -> St -> Option R) : GT_q1u_12 R := fun (b : List Int) (vat e o0 o0_1 o0_2 o0_3 : Int) (o1 o2 : List Int) (o3 : ByteArray) (o3_1 o3_2 o3_3 : Int) (o4 : ByteArray) (o4_1 o4_2 o4_3 o5 o5_1 o5_2 o5_3 : Int) (o6 o7 o8 : List Int) => g (at' Tryz.f75 12) (sta_q1u_12 b vat e o0 o0_1 o0_2 o0_3 o1 o2 o3 o3_1 o3_2 o3_3 o4 o4_1 o4_2 o4_3 o5 o5_1 o5_2 o5_3 o6 o7 o8)

abbrev sta_q1u_14 (b : List Int) (vat o0 o0_1 o0_2 o0_3 : Int) (o1 o2 : List Int) (o3 : ByteArray) (o3_1 o3_2 o3_3 : Int) (o4 : ByteArray) (o4_1 o4_2 o4_3 o5 o5_1 o5_2 o5_3 : Int) (o6 o7 o8 : List Int) : St := ⟨fr0 217 [(0, rb 5 b), (2, .ptr 0 0), (8, .ptr 3 0), (9, .ptr 4 0), (10, .ptr 5 0), (11, .own 8), (12, iv vat)], [.box 47 [iv o0, iv o0_1, iv o0_2, iv o0_3, .own 1, .own 2], wi 3 o1, wi 3 o2, .box 165 [.v (.string o3), iv o3_1, iv o3_2, iv o3_3], .box 165 [.v (.string o4), iv o4_1, iv o4_2, iv o4_3], .box 47 [iv o5, iv o5_1, iv o5_2, iv o5_3, .own 6, .own 7], wi 3 o6, wi 3 o7, wi 3 o8]⟩

abbrev gt_q1u_14 {R : Type} (g : List Item -> St -> Option R) : GT_q1u_14 R := fun (b : List Int) (vat o0 o0_1 o0_2 o0_3 : Int) (o1 o2 : List Int) (o3 : ByteArray) (o3_1 o3_2 o3_3 : Int) (o4 : ByteArray) (o4_1 o4_2 o4_3 o5 o5_1 o5_2 o5_3 : Int) (o6 o7 o8 : List Int) => g (at' Tryz.f75 14) (sta_q1u_14 b vat o0 o0_1 o0_2 o0_3 o1 o2 o3 o3_1 o3_2 o3_3 o4 o4_1 o4_2 o4_3 o5 o5_1 o5_2 o5_3 o6 o7 o8)

abbrev sta_q1u_17 (b : List Int) (vat o0 o0_1 o0_2 o0_3 : Int) (o1 o2 : List Int) (o3 : ByteArray) (o3_1 o3_2 o3_3 : Int) (o4 : ByteArray) (o4_1 o4_2 o4_3 o5 o5_1 o5_2 o5_3 : Int) (o6 o7 : List Int) : St := ⟨fr0 217 [(0, rb 5 b), (2, .ptr 0 0), (8, .ptr 3 0), (9, .ptr 4 0), (10, .ptr 5 0), (12, iv vat)], [.box 47 [iv o0, iv o0_1, iv o0_2, iv o0_3, .own 1, .own 2], wi 3 o1, wi 3 o2, .box 165 [.v (.string o3), iv o3_1, iv o3_2, iv o3_3], .box 165 [.v (.string o4), iv o4_1, iv o4_2, iv o4_3], .box 47 [iv o5, iv o5_1, iv o5_2, iv o5_3, .own 6, .own 7], wi 3 o6, wi 3 o7]⟩

abbrev gt_q1u_17 {R : Type} (g : List Item -> St -> Option R) : GT_q1u_17 R := fun (b : List Int) (vat o0 o0_1 o0_2 o0_3 : Int) (o1 o2 : List Int) (o3 : ByteArray) (o3_1 o3_2 o3_3 : Int) (o4 : ByteArray) (o4_1 o4_2 o4_3 o5 o5_1 o5_2 o5_3 : Int) (o6 o7 : List Int) => g (at' Tryz.f75 17) (sta_q1u_17 b vat o0 o0_1 o0_2 o0_3 o1 o2 o3 o3_1 o3_2 o3_3 o4 o4_1 o4_2 o4_3 o5 o5_1 o5_2 o5_3 o6 o7)

abbrev sta_q1u_18 (b : List Int) (vat o0 o0_1 o0_2 o0_3 : Int) (o1 o2 : List Int) (o3 : ByteArray) (o3_1 o3_2 o3_3 : Int) (o4 : ByteArray) (o4_1 o4_2 o4_3 o5 o5_1 o5_2 o5_3 : Int) (o6 o7 : List Int) (o8 : ByteArray) (o8_1 o8_2 o8_3 : Int) (o9 : ByteArray) (o9_1 o9_2 o9_3 : Int) : St := ⟨fr0 217 [(0, rb 5 b), (2, .ptr 0 0), (8, .ptr 3 0), (9, .ptr 4 0), (10, .ptr 5 0), (12, iv vat), (14, .ptr 8 0), (15, .ptr 9 0)], [.box 47 [iv o0, iv o0_1, iv o0_2, iv o0_3, .own 1, .own 2], wi 3 o1, wi 3 o2, .box 165 [.v (.string o3), iv o3_1, iv o3_2, iv o3_3], .box 165 [.v (.string o4), iv o4_1, iv o4_2, iv o4_3], .box 47 [iv o5, iv o5_1, iv o5_2, iv o5_3, .own 6, .own 7], wi 3 o6, wi 3 o7, .box 165 [.v (.string o8), iv o8_1, iv o8_2, iv o8_3], .box 165 [.v (.string o9), iv o9_1, iv o9_2, iv o9_3]]⟩

abbrev gt_q1u_18 {R : Type} (g : List Item -> St -> Option R) : GT_q1u_18 R := fun (b : List Int) (vat o0 o0_1 o0_2 o0_3 : Int) (o1 o2 : List Int) (o3 : ByteArray) (o3_1 o3_2 o3_3 : Int) (o4 : ByteArray) (o4_1 o4_2 o4_3 o5 o5_1 o5_2 o5_3 : Int) (o6 o7 : List Int) (o8 : ByteArray) (o8_1 o8_2 o8_3 : Int) (o9 : ByteArray) (o9_1 o9_2 o9_3 : Int) => g (at' Tryz.f75 18) (sta_q1u_18 b vat o0 o0_1 o0_2 o0_3 o1 o2 o3 o3_1 o3_2 o3_3 o4 o4_1 o4_2 o4_3 o5 o5_1 o5_2 o5_3 o6 o7 o8 o8_1 o8_2 o8_3 o9 o9_1 o9_2 o9_3)

abbrev sta_q1u_20 (b : List Int) (vat x o0 o0_1 o0_2 o0_3 : Int) (o1 o2 : List Int) (o3 : ByteArray) (o3_1 o3_2 o3_3 : Int) (o4 : ByteArray) (o4_1 o4_2 o4_3 o5 o5_1 o5_2 o5_3 : Int) (o6 o7 : List Int) (o8 : ByteArray) (o8_1 o8_2 o8_3 : Int) (o9 : ByteArray) (o9_1 o9_2 o9_3 : Int) (o10 : List (ByteArray × (Int × (Int × Int)))) : St := ⟨fr0 217 [(0, rb 5 b), (2, .ptr 0 0), (8, .ptr 3 0), (9, .ptr 4 0), (10, .ptr 5 0), (12, iv vat), (14, .ptr 8 0), (15, .ptr 9 0), (16, .own 10), (17, iv x)], [.box 47 [iv o0, iv o0_1, iv o0_2, iv o0_3, .own 1, .own 2], wi 3 o1, wi 3 o2, .box 165 [.v (.string o3), iv o3_1, iv o3_2, iv o3_3], .box 165 [.v (.string o4), iv o4_1, iv o4_2, iv o4_3], .box 47 [iv o5, iv o5_1, iv o5_2, iv o5_3, .own 6, .own 7], wi 3 o6, wi 3 o7, .box 165 [.v (.string o8), iv o8_1, iv o8_2, iv o8_3], .box 165 [.v (.string o9), iv o9_1, iv o9_2, iv o9_3], .row ⟨true, 165, (.pr .str (.pr (.int .i64) (.pr (.int .i64) (.int .i64)))), o10⟩]⟩

abbrev gt_q1u_20 {R : Type} (g : List Item -> St -> Option R) : GT_q1u_20 R := fun (b : List Int) (vat x o0 o0_1 o0_2 o0_3 : Int) (o1 o2 : List Int) (o3 : ByteArray) (o3_1 o3_2 o3_3 : Int) (o4 : ByteArray) (o4_1 o4_2 o4_3 o5 o5_1 o5_2 o5_3 : Int) (o6 o7 : List Int) (o8 : ByteArray) (o8_1 o8_2 o8_3 : Int) (o9 : ByteArray) (o9_1 o9_2 o9_3 : Int) (o10 : List (ByteArray × (Int × (Int × Int)))) => g (at' Tryz.f75 20) (sta_q1u_20 b vat x o0 o0_1 o0_2 o0_3 o1 o2 o3 o3_1 o3_2 o3_3 o4 o4_1 o4_2 o4_3 o5 o5_1 o5_2 o5_3 o6 o7 o8 o8_1 o8_2 o8_3 o9 o9_1 o9_2 o9_3 o10)

abbrev sta_q1u_24 (b : List Int) (vat x o0 o0_1 o0_2 o0_3 : Int) (o1 o2 : List Int) (o3 : ByteArray) (o3_1 o3_2 o3_3 : Int) (o4 : ByteArray) (o4_1 o4_2 o4_3 o5 o5_1 o5_2 o5_3 : Int) (o6 o7 : List Int) (o8 : ByteArray) (o8_1 o8_2 o8_3 : Int) (o9 : ByteArray) (o9_1 o9_2 o9_3 : Int) (o10 : List (ByteArray × (Int × (Int × Int)))) : St := ⟨fr0 217 [(0, rb 5 b), (2, .ptr 0 0), (8, .ptr 3 0), (9, .ptr 4 0), (10, .ptr 5 0), (12, iv vat), (14, .ptr 8 0), (15, .ptr 9 0), (16, .own 10), (17, iv x)], [.box 47 [iv o0, iv o0_1, iv o0_2, iv o0_3, .own 1, .own 2], wi 3 o1, wi 3 o2, .box 165 [.v (.string o3), iv o3_1, iv o3_2, iv o3_3], .box 165 [.v (.string o4), iv o4_1, iv o4_2, iv o4_3], .box 47 [iv o5, iv o5_1, iv o5_2, iv o5_3, .own 6, .own 7], wi 3 o6, wi 3 o7, .box 165 [.v (.string o8), iv o8_1, iv o8_2, iv o8_3], .box 165 [.v (.string o9), iv o9_1, iv o9_2, iv o9_3], .row ⟨true, 165, (.pr .str (.pr (.int .i64) (.pr (.int .i64) (.int .i64)))), o10⟩]⟩

abbrev gt_q1u_24 {R : Type} (g : List Item -> St -> Option R) : GT_q1u_24 R := fun (b : List Int) (vat x o0 o0_1 o0_2 o0_3 : Int) (o1 o2 : List Int) (o3 : ByteArray) (o3_1 o3_2 o3_3 : Int) (o4 : ByteArray) (o4_1 o4_2 o4_3 o5 o5_1 o5_2 o5_3 : Int) (o6 o7 : List Int) (o8 : ByteArray) (o8_1 o8_2 o8_3 : Int) (o9 : ByteArray) (o9_1 o9_2 o9_3 : Int) (o10 : List (ByteArray × (Int × (Int × Int)))) => g (at' Tryz.f75 24) (sta_q1u_24 b vat x o0 o0_1 o0_2 o0_3 o1 o2 o3 o3_1 o3_2 o3_3 o4 o4_1 o4_2 o4_3 o5 o5_1 o5_2 o5_3 o6 o7 o8 o8_1 o8_2 o8_3 o9 o9_1 o9_2 o9_3 o10)

abbrev sta_q1u_31 (b : List Int) (vat s o0 o0_1 o0_2 o0_3 : Int) (o1 o2 : List Int) (o3 o3_1 o3_2 o3_3 : Int) (o4 o5 : List Int) (o6 : List (ByteArray × (Int × (Int × Int)))) : St := ⟨fr0 217 [(0, rb 5 b), (2, .ptr 0 0), (10, .ptr 3 0), (12, iv vat), (16, .own 6), (18, iv s)], [.box 47 [iv o0, iv o0_1, iv o0_2, iv o0_3, .own 1, .own 2], wi 3 o1, wi 3 o2, .box 47 [iv o3, iv o3_1, iv o3_2, iv o3_3, .own 4, .own 5], wi 3 o4, wi 3 o5, .row ⟨true, 165, (.pr .str (.pr (.int .i64) (.pr (.int .i64) (.int .i64)))), o6⟩]⟩

abbrev gt_q1u_31 {R : Type} (g : List Item -> St -> Option R) : GT_q1u_31 R := fun (b : List Int) (vat s o0 o0_1 o0_2 o0_3 : Int) (o1 o2 : List Int) (o3 o3_1 o3_2 o3_3 : Int) (o4 o5 : List Int) (o6 : List (ByteArray × (Int × (Int × Int)))) => g (at' Tryz.f75 31) (sta_q1u_31 b vat s o0 o0_1 o0_2 o0_3 o1 o2 o3 o3_1 o3_2 o3_3 o4 o5 o6)

abbrev sta_q1u_26 (b : List Int) (vat x o0 o0_1 o0_2 o0_3 : Int) (o1 o2 : List Int) (o3 : ByteArray) (o3_1 o3_2 o3_3 : Int) (o4 : ByteArray) (o4_1 o4_2 o4_3 o5 o5_1 o5_2 o5_3 : Int) (o6 o7 : List Int) (o8 : ByteArray) (o8_1 o8_2 o8_3 : Int) (o9 : ByteArray) (o9_1 o9_2 o9_3 : Int) (o10 : List (ByteArray × (Int × (Int × Int)))) : St := ⟨fr0 217 [(0, rb 5 b), (2, .ptr 0 0), (8, .ptr 3 0), (9, .ptr 4 0), (10, .ptr 5 0), (12, iv vat), (14, .ptr 8 0), (15, .ptr 9 0), (16, .own 10), (17, iv x)], [.box 47 [iv o0, iv o0_1, iv o0_2, iv o0_3, .own 1, .own 2], wi 3 o1, wi 3 o2, .box 165 [.v (.string o3), iv o3_1, iv o3_2, iv o3_3], .box 165 [.v (.string o4), iv o4_1, iv o4_2, iv o4_3], .box 47 [iv o5, iv o5_1, iv o5_2, iv o5_3, .own 6, .own 7], wi 3 o6, wi 3 o7, .box 165 [.v (.string o8), iv o8_1, iv o8_2, iv o8_3], .box 165 [.v (.string o9), iv o9_1, iv o9_2, iv o9_3], .row ⟨true, 165, (.pr .str (.pr (.int .i64) (.pr (.int .i64) (.int .i64)))), o10⟩]⟩

abbrev gt_q1u_26 {R : Type} (g : List Item -> St -> Option R) : GT_q1u_26 R := fun (b : List Int) (vat x o0 o0_1 o0_2 o0_3 : Int) (o1 o2 : List Int) (o3 : ByteArray) (o3_1 o3_2 o3_3 : Int) (o4 : ByteArray) (o4_1 o4_2 o4_3 o5 o5_1 o5_2 o5_3 : Int) (o6 o7 : List Int) (o8 : ByteArray) (o8_1 o8_2 o8_3 : Int) (o9 : ByteArray) (o9_1 o9_2 o9_3 : Int) (o10 : List (ByteArray × (Int × (Int × Int)))) => g (at' Tryz.f75 26) (sta_q1u_26 b vat x o0 o0_1 o0_2 o0_3 o1 o2 o3 o3_1 o3_2 o3_3 o4 o4_1 o4_2 o4_3 o5 o5_1 o5_2 o5_3 o6 o7 o8 o8_1 o8_2 o8_3 o9 o9_1 o9_2 o9_3 o10)

abbrev sta_q1u_41a (b : List Int) (vat s : Int) (l : Nat) (i o0 o0_1 o0_2 o0_3 : Int) (o1 o2 : List Int) (o3 o3_1 o3_2 o3_3 : Int) (o4 o5 : List Int) (o6 : List (ByteArray × (Int × (Int × Int)))) (o7 : List Int) : St := ⟨fr0 217 [(0, rb 5 b), (2, .ptr 0 0), (10, .ptr 3 0), (12, iv vat), (16, .own 6), (18, iv s), (19, .view 7 1 1 l), (22, iv i)], [.box 47 [iv o0, iv o0_1, iv o0_2, iv o0_3, .own 1, .own 2], wi 3 o1, wi 3 o2, .box 47 [iv o3, iv o3_1, iv o3_2, iv o3_3, .own 4, .own 5], wi 3 o4, wi 3 o5, .row ⟨true, 165, (.pr .str (.pr (.int .i64) (.pr (.int .i64) (.int .i64)))), o6⟩, wi 3 o7]⟩

abbrev gt_q1u_41a {R : Type} (g : List Item -> St -> Option R) : GT_q1u_41a R := fun (b : List Int) (vat s : Int) (l : Nat) (i o0 o0_1 o0_2 o0_3 : Int) (o1 o2 : List Int) (o3 o3_1 o3_2 o3_3 : Int) (o4 o5 : List Int) (o6 : List (ByteArray × (Int × (Int × Int)))) (o7 : List Int) => g (at' Tryz.f75 41) (sta_q1u_41a b vat s l i o0 o0_1 o0_2 o0_3 o1 o2 o3 o3_1 o3_2 o3_3 o4 o5 o6 o7)

abbrev sta_q1u_41b (b : List Int) (vat s i o0 o0_1 o0_2 o0_3 : Int) (o1 o2 : List Int) (o3 o3_1 o3_2 o3_3 : Int) (o4 o5 : List Int) (o6 : List (ByteArray × (Int × (Int × Int)))) (o7 : List Int) : St := ⟨fr0 217 [(0, rb 5 b), (2, .ptr 0 0), (10, .ptr 3 0), (12, iv vat), (16, .own 6), (18, iv s), (19, .own 7), (22, iv i)], [.box 47 [iv o0, iv o0_1, iv o0_2, iv o0_3, .own 1, .own 2], wi 3 o1, wi 3 o2, .box 47 [iv o3, iv o3_1, iv o3_2, iv o3_3, .own 4, .own 5], wi 3 o4, wi 3 o5, .row ⟨true, 165, (.pr .str (.pr (.int .i64) (.pr (.int .i64) (.int .i64)))), o6⟩, wi 3 o7]⟩

abbrev gt_q1u_41b {R : Type} (g : List Item -> St -> Option R) : GT_q1u_41b R := fun (b : List Int) (vat s i o0 o0_1 o0_2 o0_3 : Int) (o1 o2 : List Int) (o3 o3_1 o3_2 o3_3 : Int) (o4 o5 : List Int) (o6 : List (ByteArray × (Int × (Int × Int)))) (o7 : List Int) => g (at' Tryz.f75 41) (sta_q1u_41b b vat s i o0 o0_1 o0_2 o0_3 o1 o2 o3 o3_1 o3_2 o3_3 o4 o5 o6 o7)

abbrev sta_q1u_27 (b : List Int) (vat x o0 o0_1 o0_2 o0_3 : Int) (o1 o2 : List Int) (o3 : ByteArray) (o3_1 o3_2 o3_3 : Int) (o4 : ByteArray) (o4_1 o4_2 o4_3 o5 o5_1 o5_2 o5_3 : Int) (o6 o7 : List Int) (o8 : ByteArray) (o8_1 o8_2 o8_3 : Int) (o9 : ByteArray) (o9_1 o9_2 o9_3 : Int) (o10 : List (ByteArray × (Int × (Int × Int)))) : St := ⟨fr0 217 [(0, rb 5 b), (2, .ptr 0 0), (8, .ptr 3 0), (9, .ptr 4 0), (10, .ptr 5 0), (12, iv vat), (14, .ptr 8 0), (15, .ptr 9 0), (16, .own 10), (17, iv x)], [.box 47 [iv o0, iv o0_1, iv o0_2, iv o0_3, .own 1, .own 2], wi 3 o1, wi 3 o2, .box 165 [.v (.string o3), iv o3_1, iv o3_2, iv o3_3], .box 165 [.v (.string o4), iv o4_1, iv o4_2, iv o4_3], .box 47 [iv o5, iv o5_1, iv o5_2, iv o5_3, .own 6, .own 7], wi 3 o6, wi 3 o7, .box 165 [.v (.string o8), iv o8_1, iv o8_2, iv o8_3], .box 165 [.v (.string o9), iv o9_1, iv o9_2, iv o9_3], .row ⟨true, 165, (.pr .str (.pr (.int .i64) (.pr (.int .i64) (.int .i64)))), o10⟩]⟩

abbrev gt_q1u_27 {R : Type} (g : List Item -> St -> Option R) : GT_q1u_27 R := fun (b : List Int) (vat x o0 o0_1 o0_2 o0_3 : Int) (o1 o2 : List Int) (o3 : ByteArray) (o3_1 o3_2 o3_3 : Int) (o4 : ByteArray) (o4_1 o4_2 o4_3 o5 o5_1 o5_2 o5_3 : Int) (o6 o7 : List Int) (o8 : ByteArray) (o8_1 o8_2 o8_3 : Int) (o9 : ByteArray) (o9_1 o9_2 o9_3 : Int) (o10 : List (ByteArray × (Int × (Int × Int)))) => g (at' Tryz.f75 27) (sta_q1u_27 b vat x o0 o0_1 o0_2 o0_3 o1 o2 o3 o3_1 o3_2 o3_3 o4 o4_1 o4_2 o4_3 o5 o5_1 o5_2 o5_3 o6 o7 o8 o8_1 o8_2 o8_3 o9 o9_1 o9_2 o9_3 o10)

abbrev gtt_q1u {R : Type} (g : List Item -> St -> Option R) : RT_q1u R := ((gt_q1u_4 g), (gt_q1u_5 g), (gt_q1u_12 g), (gt_q1u_14 g), (gt_q1u_17 g), (gt_q1u_18 g), (gt_q1u_20 g), (gt_q1u_24 g), (gt_q1u_31 g), (gt_q1u_26 g), (gt_q1u_41a g), (gt_q1u_41b g), (gt_q1u_27 g))

theorem gstep_q1u_4 {a0 : LT_q1t} {R : Type} (g : List Item -> St -> Option R) (K : AV -> List O -> Option R) (b : List Int) (o0 o0_1 o0_2 o0_3 : Int) (o1 o2 : List Int) (o3 : ByteArray) (o3_1 o3_2 o3_3 : Int) (o4 : ByteArray) (o4_1 o4_2 o4_3 : Int) (o5 : ByteArray) (o5_1 o5_2 o5_3 : Int) :
  runSeg Tryz.prog (T_q1u @a0) cuts_q1u 0 g (finish Tryz.prog Tryz.f75 0 K) (at' Tryz.f75 4) (sta_q1u_4 b o0 o0_1 o0_2 o0_3 o1 o2 o3 o3_1 o3_2 o3_3 o4 o4_1 o4_2 o4_3 o5 o5_1 o5_2 o5_3) =
  gs_q1u_4 @a0 (gtt_q1u g) (k0_q1u K) b o0 o0_1 o0_2 o0_3 o1 o2 o3 o3_1 o3_2 o3_3 o4 o4_1 o4_2 o4_3 o5 o5_1 o5_2 o5_3 := by kernel_rfl

theorem gstep_q1u_5 {a0 : LT_q1t} {R : Type} (g : List Item -> St -> Option R) (K : AV -> List O -> Option R) (b : List Int) (o0 o0_1 o0_2 o0_3 : Int) (o1 o2 : List Int) (o3 : ByteArray) (o3_1 o3_2 o3_3 : Int) (o4 : ByteArray) (o4_1 o4_2 o4_3 : Int) (o5 : ByteArray) (o5_1 o5_2 o5_3 : Int) (o6 : ByteArray) (o6_1 o6_2 o6_3 : Int) (o7 : ByteArray) (o7_1 o7_2 o7_3 : Int) :
  runSeg Tryz.prog (T_q1u @a0) cuts_q1u 0 g (finish Tryz.prog Tryz.f75 0 K) (at' Tryz.f75 5) (sta_q1u_5 b o0 o0_1 o0_2 o0_3 o1 o2 o3 o3_1 o3_2 o3_3 o4 o4_1 o4_2 o4_3 o5 o5_1 o5_2 o5_3 o6 o6_1 o6_2 o6_3 o7 o7_1 o7_2 o7_3) =
  gs_q1u_5 @a0 (gtt_q1u g) (k0_q1u K) b o0 o0_1 o0_2 o0_3 o1 o2 o3 o3_1 o3_2 o3_3 o4 o4_1 o4_2 o4_3 o5 o5_1 o5_2 o5_3 o6 o6_1 o6_2 o6_3 o7 o7_1 o7_2 o7_3 := by kernel_rfl

theorem gstep_q1u_12 {a0 : LT_q1t} {R : Type} (g : List Item -> St -> Option R) (K : AV -> List O -> Option R) (b : List Int) (vat e o0 o0_1 o0_2 o0_3 : Int) (o1 o2 : List Int) (o3 : ByteArray) (o3_1 o3_2 o3_3 : Int) (o4 : ByteArray) (o4_1 o4_2 o4_3 o5 o5_1 o5_2 o5_3 : Int) (o6 o7 o8 : List Int) :
  runSeg Tryz.prog (T_q1u @a0) cuts_q1u 0 g (finish Tryz.prog Tryz.f75 0 K) (at' Tryz.f75 12) (sta_q1u_12 b vat e o0 o0_1 o0_2 o0_3 o1 o2 o3 o3_1 o3_2 o3_3 o4 o4_1 o4_2 o4_3 o5 o5_1 o5_2 o5_3 o6 o7 o8) =
  gs_q1u_12 @a0 (gtt_q1u g) (k0_q1u K) b vat e o0 o0_1 o0_2 o0_3 o1 o2 o3 o3_1 o3_2 o3_3 o4 o4_1 o4_2 o4_3 o5 o5_1 o5_2 o5_3 o6 o7 o8 := by kernel_rfl

theorem gstep_q1u_14 {a0 : LT_q1t} {R : Type} (g : List Item -> St -> Option R) (K : AV -> List O -> Option R) (b : List Int) (vat o0 o0_1 o0_2 o0_3 : Int) (o1 o2 : List Int) (o3 : ByteArray) (o3_1 o3_2 o3_3 : Int) (o4 : ByteArray) (o4_1 o4_2 o4_3 o5 o5_1 o5_2 o5_3 : Int) (o6 o7 o8 : List Int) :
  runSeg Tryz.prog (T_q1u @a0) cuts_q1u 0 g (finish Tryz.prog Tryz.f75 0 K) (at' Tryz.f75 14) (sta_q1u_14 b vat o0 o0_1 o0_2 o0_3 o1 o2 o3 o3_1 o3_2 o3_3 o4 o4_1 o4_2 o4_3 o5 o5_1 o5_2 o5_3 o6 o7 o8) =
  gs_q1u_14 @a0 (gtt_q1u g) (k0_q1u K) b vat o0 o0_1 o0_2 o0_3 o1 o2 o3 o3_1 o3_2 o3_3 o4 o4_1 o4_2 o4_3 o5 o5_1 o5_2 o5_3 o6 o7 o8 := by kernel_rfl

theorem gstep_q1u_17 {a0 : LT_q1t} {R : Type} (g : List Item -> St -> Option R) (K : AV -> List O -> Option R) (b : List Int) (vat o0 o0_1 o0_2 o0_3 : Int) (o1 o2 : List Int) (o3 : ByteArray) (o3_1 o3_2 o3_3 : Int) (o4 : ByteArray) (o4_1 o4_2 o4_3 o5 o5_1 o5_2 o5_3 : Int) (o6 o7 : List Int) :
  runSeg Tryz.prog (T_q1u @a0) cuts_q1u 0 g (finish Tryz.prog Tryz.f75 0 K) (at' Tryz.f75 17) (sta_q1u_17 b vat o0 o0_1 o0_2 o0_3 o1 o2 o3 o3_1 o3_2 o3_3 o4 o4_1 o4_2 o4_3 o5 o5_1 o5_2 o5_3 o6 o7) =
  gs_q1u_17 @a0 (gtt_q1u g) (k0_q1u K) b vat o0 o0_1 o0_2 o0_3 o1 o2 o3 o3_1 o3_2 o3_3 o4 o4_1 o4_2 o4_3 o5 o5_1 o5_2 o5_3 o6 o7 := by kernel_rfl

theorem gstep_q1u_18 {a0 : LT_q1t} {R : Type} (g : List Item -> St -> Option R) (K : AV -> List O -> Option R) (b : List Int) (vat o0 o0_1 o0_2 o0_3 : Int) (o1 o2 : List Int) (o3 : ByteArray) (o3_1 o3_2 o3_3 : Int) (o4 : ByteArray) (o4_1 o4_2 o4_3 o5 o5_1 o5_2 o5_3 : Int) (o6 o7 : List Int) (o8 : ByteArray) (o8_1 o8_2 o8_3 : Int) (o9 : ByteArray) (o9_1 o9_2 o9_3 : Int) :
  runSeg Tryz.prog (T_q1u @a0) cuts_q1u 0 g (finish Tryz.prog Tryz.f75 0 K) (at' Tryz.f75 18) (sta_q1u_18 b vat o0 o0_1 o0_2 o0_3 o1 o2 o3 o3_1 o3_2 o3_3 o4 o4_1 o4_2 o4_3 o5 o5_1 o5_2 o5_3 o6 o7 o8 o8_1 o8_2 o8_3 o9 o9_1 o9_2 o9_3) =
  gs_q1u_18 @a0 (gtt_q1u g) (k0_q1u K) b vat o0 o0_1 o0_2 o0_3 o1 o2 o3 o3_1 o3_2 o3_3 o4 o4_1 o4_2 o4_3 o5 o5_1 o5_2 o5_3 o6 o7 o8 o8_1 o8_2 o8_3 o9 o9_1 o9_2 o9_3 := by kernel_rfl

theorem gstep_q1u_20 {a0 : LT_q1t} {R : Type} (g : List Item -> St -> Option R) (K : AV -> List O -> Option R) (b : List Int) (vat x o0 o0_1 o0_2 o0_3 : Int) (o1 o2 : List Int) (o3 : ByteArray) (o3_1 o3_2 o3_3 : Int) (o4 : ByteArray) (o4_1 o4_2 o4_3 o5 o5_1 o5_2 o5_3 : Int) (o6 o7 : List Int) (o8 : ByteArray) (o8_1 o8_2 o8_3 : Int) (o9 : ByteArray) (o9_1 o9_2 o9_3 : Int) (o10 : List (ByteArray × (Int × (Int × Int)))) :
  runSeg Tryz.prog (T_q1u @a0) cuts_q1u 0 g (finish Tryz.prog Tryz.f75 0 K) (at' Tryz.f75 20) (sta_q1u_20 b vat x o0 o0_1 o0_2 o0_3 o1 o2 o3 o3_1 o3_2 o3_3 o4 o4_1 o4_2 o4_3 o5 o5_1 o5_2 o5_3 o6 o7 o8 o8_1 o8_2 o8_3 o9 o9_1 o9_2 o9_3 o10) =
  gs_q1u_20 @a0 (gtt_q1u g) (k0_q1u K) b vat x o0 o0_1 o0_2 o0_3 o1 o2 o3 o3_1 o3_2 o3_3 o4 o4_1 o4_2 o4_3 o5 o5_1 o5_2 o5_3 o6 o7 o8 o8_1 o8_2 o8_3 o9 o9_1 o9_2 o9_3 o10 := by kernel_rfl

theorem gstep_q1u_24 {a0 : LT_q1t} {R : Type} (g : List Item -> St -> Option R) (K : AV -> List O -> Option R) (b : List Int) (vat x o0 o0_1 o0_2 o0_3 : Int) (o1 o2 : List Int) (o3 : ByteArray) (o3_1 o3_2 o3_3 : Int) (o4 : ByteArray) (o4_1 o4_2 o4_3 o5 o5_1 o5_2 o5_3 : Int) (o6 o7 : List Int) (o8 : ByteArray) (o8_1 o8_2 o8_3 : Int) (o9 : ByteArray) (o9_1 o9_2 o9_3 : Int) (o10 : List (ByteArray × (Int × (Int × Int)))) :
  runSeg Tryz.prog (T_q1u @a0) cuts_q1u 0 g (finish Tryz.prog Tryz.f75 0 K) (at' Tryz.f75 24) (sta_q1u_24 b vat x o0 o0_1 o0_2 o0_3 o1 o2 o3 o3_1 o3_2 o3_3 o4 o4_1 o4_2 o4_3 o5 o5_1 o5_2 o5_3 o6 o7 o8 o8_1 o8_2 o8_3 o9 o9_1 o9_2 o9_3 o10) =
  gs_q1u_24 @a0 (gtt_q1u g) (k0_q1u K) b vat x o0 o0_1 o0_2 o0_3 o1 o2 o3 o3_1 o3_2 o3_3 o4 o4_1 o4_2 o4_3 o5 o5_1 o5_2 o5_3 o6 o7 o8 o8_1 o8_2 o8_3 o9 o9_1 o9_2 o9_3 o10 := by kernel_rfl

theorem gstep_q1u_31 {a0 : LT_q1t} {R : Type} (g : List Item -> St -> Option R) (K : AV -> List O -> Option R) (b : List Int) (vat s o0 o0_1 o0_2 o0_3 : Int) (o1 o2 : List Int) (o3 o3_1 o3_2 o3_3 : Int) (o4 o5 : List Int) (o6 : List (ByteArray × (Int × (Int × Int)))) :
  runSeg Tryz.prog (T_q1u @a0) cuts_q1u 0 g (finish Tryz.prog Tryz.f75 0 K) (at' Tryz.f75 31) (sta_q1u_31 b vat s o0 o0_1 o0_2 o0_3 o1 o2 o3 o3_1 o3_2 o3_3 o4 o5 o6) =
  gs_q1u_31 @a0 (gtt_q1u g) (k0_q1u K) b vat s o0 o0_1 o0_2 o0_3 o1 o2 o3 o3_1 o3_2 o3_3 o4 o5 o6 := by kernel_rfl

theorem gstep_q1u_26 {a0 : LT_q1t} {R : Type} (g : List Item -> St -> Option R) (K : AV -> List O -> Option R) (b : List Int) (vat x o0 o0_1 o0_2 o0_3 : Int) (o1 o2 : List Int) (o3 : ByteArray) (o3_1 o3_2 o3_3 : Int) (o4 : ByteArray) (o4_1 o4_2 o4_3 o5 o5_1 o5_2 o5_3 : Int) (o6 o7 : List Int) (o8 : ByteArray) (o8_1 o8_2 o8_3 : Int) (o9 : ByteArray) (o9_1 o9_2 o9_3 : Int) (o10 : List (ByteArray × (Int × (Int × Int)))) :
  runSeg Tryz.prog (T_q1u @a0) cuts_q1u 0 g (finish Tryz.prog Tryz.f75 0 K) (at' Tryz.f75 26) (sta_q1u_26 b vat x o0 o0_1 o0_2 o0_3 o1 o2 o3 o3_1 o3_2 o3_3 o4 o4_1 o4_2 o4_3 o5 o5_1 o5_2 o5_3 o6 o7 o8 o8_1 o8_2 o8_3 o9 o9_1 o9_2 o9_3 o10) =
  gs_q1u_26 @a0 (gtt_q1u g) (k0_q1u K) b vat x o0 o0_1 o0_2 o0_3 o1 o2 o3 o3_1 o3_2 o3_3 o4 o4_1 o4_2 o4_3 o5 o5_1 o5_2 o5_3 o6 o7 o8 o8_1 o8_2 o8_3 o9 o9_1 o9_2 o9_3 o10 := by kernel_rfl

theorem gstep_q1u_41a {a0 : LT_q1t} {R : Type} (g : List Item -> St -> Option R) (K : AV -> List O -> Option R) (b : List Int) (vat s : Int) (l : Nat) (i o0 o0_1 o0_2 o0_3 : Int) (o1 o2 : List Int) (o3 o3_1 o3_2 o3_3 : Int) (o4 o5 : List Int) (o6 : List (ByteArray × (Int × (Int × Int)))) (o7 : List Int) :
  runSeg Tryz.prog (T_q1u @a0) cuts_q1u 0 g (finish Tryz.prog Tryz.f75 0 K) (at' Tryz.f75 41) (sta_q1u_41a b vat s l i o0 o0_1 o0_2 o0_3 o1 o2 o3 o3_1 o3_2 o3_3 o4 o5 o6 o7) =
  gs_q1u_41a @a0 (gtt_q1u g) (k0_q1u K) b vat s l i o0 o0_1 o0_2 o0_3 o1 o2 o3 o3_1 o3_2 o3_3 o4 o5 o6 o7 := by kernel_rfl

theorem gstep_q1u_41b {a0 : LT_q1t} {R : Type} (g : List Item -> St -> Option R) (K : AV -> List O -> Option R) (b : List Int) (vat s i o0 o0_1 o0_2 o0_3 : Int) (o1 o2 : List Int) (o3 o3_1 o3_2 o3_3 : Int) (o4 o5 : List Int) (o6 : List (ByteArray × (Int × (Int × Int)))) (o7 : List Int) :
  runSeg Tryz.prog (T_q1u @a0) cuts_q1u 0 g (finish Tryz.prog Tryz.f75 0 K) (at' Tryz.f75 41) (sta_q1u_41b b vat s i o0 o0_1 o0_2 o0_3 o1 o2 o3 o3_1 o3_2 o3_3 o4 o5 o6 o7) =
  gs_q1u_41b @a0 (gtt_q1u g) (k0_q1u K) b vat s i o0 o0_1 o0_2 o0_3 o1 o2 o3 o3_1 o3_2 o3_3 o4 o5 o6 o7 := by kernel_rfl

theorem gstep_q1u_27 {a0 : LT_q1t} {R : Type} (g : List Item -> St -> Option R) (K : AV -> List O -> Option R) (b : List Int) (vat x o0 o0_1 o0_2 o0_3 : Int) (o1 o2 : List Int) (o3 : ByteArray) (o3_1 o3_2 o3_3 : Int) (o4 : ByteArray) (o4_1 o4_2 o4_3 o5 o5_1 o5_2 o5_3 : Int) (o6 o7 : List Int) (o8 : ByteArray) (o8_1 o8_2 o8_3 : Int) (o9 : ByteArray) (o9_1 o9_2 o9_3 : Int) (o10 : List (ByteArray × (Int × (Int × Int)))) :
  runSeg Tryz.prog (T_q1u @a0) cuts_q1u 0 g (finish Tryz.prog Tryz.f75 0 K) (at' Tryz.f75 27) (sta_q1u_27 b vat x o0 o0_1 o0_2 o0_3 o1 o2 o3 o3_1 o3_2 o3_3 o4 o4_1 o4_2 o4_3 o5 o5_1 o5_2 o5_3 o6 o7 o8 o8_1 o8_2 o8_3 o9 o9_1 o9_2 o9_3 o10) =
  gs_q1u_27 @a0 (gtt_q1u g) (k0_q1u K) b vat x o0 o0_1 o0_2 o0_3 o1 o2 o3 o3_1 o3_2 o3_3 o4 o4_1 o4_2 o4_3 o5 o5_1 o5_2 o5_3 o6 o7 o8 o8_1 o8_2 o8_3 o9 o9_1 o9_2 o9_3 o10 := by kernel_rfl

theorem gentry_q1u {a0 : LT_q1t} {R : Type} (fuel : Nat) (K : AV -> List O -> Option R) (b : List Int) :
  fnRun Tryz.prog (T_q1u @a0) cuts_q1u Tryz.f75 fuel [rb 5 b] [] K =
  ge_q1u @a0 (gtt_q1u (runO Tryz.prog (T_q1u @a0) cuts_q1u 0 (finish Tryz.prog Tryz.f75 0 K) fuel)) (k0_q1u K) b := by kernel_rfl

theorem runs_q1u {R : Type} (K : AV -> List O -> Option R) : ∀ fuel : Nat, gtt_q1u (runO Tryz.prog C_q1u cuts_q1u 0 (finish Tryz.prog Tryz.f75 0 K) fuel) = run_q1u (k0_q1u K) fuel
 |0 => rfl
 |fuel + 1 => by
  have ih := runs_q1u K fuel
  refine Prod.ext ?_ (Prod.ext ?_ (Prod.ext ?_ (Prod.ext ?_ (Prod.ext ?_ (Prod.ext ?_ (Prod.ext ?_ (Prod.ext ?_ (Prod.ext ?_ (Prod.ext ?_ (Prod.ext ?_ (Prod.ext ?_ ?_)))))))))))
  ·funext b o0 o0_1 o0_2 o0_3 o1 o2 o3 o3_1 o3_2 o3_3 o4 o4_1 o4_2 o4_3 o5 o5_1 o5_2 o5_3
   exact (gstep_q1u_4 (a0 := @l_q1t) _ K b o0 o0_1 o0_2 o0_3 o1 o2 o3 o3_1 o3_2 o3_3 o4 o4_1 o4_2 o4_3 o5 o5_1 o5_2 o5_3).trans (by rw [ih]; rfl)
  ·funext b o0 o0_1 o0_2 o0_3 o1 o2 o3 o3_1 o3_2 o3_3 o4 o4_1 o4_2 o4_3 o5 o5_1 o5_2 o5_3 o6 o6_1 o6_2 o6_3 o7 o7_1 o7_2 o7_3
   exact (gstep_q1u_5 (a0 := @l_q1t) _ K b o0 o0_1 o0_2 o0_3 o1 o2 o3 o3_1 o3_2 o3_3 o4 o4_1 o4_2 o4_3 o5 o5_1 o5_2 o5_3 o6 o6_1 o6_2 o6_3 o7 o7_1 o7_2 o7_3).trans (by rw [ih]; rfl)
  ·funext b vat e o0 o0_1 o0_2 o0_3 o1 o2 o3 o3_1 o3_2 o3_3 o4 o4_1 o4_2 o4_3 o5 o5_1 o5_2 o5_3 o6 o7 o8
   exact (gstep_q1u_12 (a0 := @l_q1t) _ K b vat e o0 o0_1 o0_2 o0_3 o1 o2 o3 o3_1 o3_2 o3_3 o4 o4_1 o4_2 o4_3 o5 o5_1 o5_2 o5_3 o6 o7 o8).trans (by rw [ih]; rfl)
  ·funext b vat o0 o0_1 o0_2 o0_3 o1 o2 o3 o3_1 o3_2 o3_3 o4 o4_1 o4_2 o4_3 o5 o5_1 o5_2 o5_3 o6 o7 o8
   exact (gstep_q1u_14 (a0 := @l_q1t) _ K b vat o0 o0_1 o0_2 o0_3 o1 o2 o3 o3_1 o3_2 o3_3 o4 o4_1 o4_2 o4_3 o5 o5_1 o5_2 o5_3 o6 o7 o8).trans (by rw [ih]; rfl)
  ·funext b vat o0 o0_1 o0_2 o0_3 o1 o2 o3 o3_1 o3_2 o3_3 o4 o4_1 o4_2 o4_3 o5 o5_1 o5_2 o5_3 o6 o7
   exact (gstep_q1u_17 (a0 := @l_q1t) _ K b vat o0 o0_1 o0_2 o0_3 o1 o2 o3 o3_1 o3_2 o3_3 o4 o4_1 o4_2 o4_3 o5 o5_1 o5_2 o5_3 o6 o7).trans (by rw [ih]; rfl)
  ·funext b vat o0 o0_1 o0_2 o0_3 o1 o2 o3 o3_1 o3_2 o3_3 o4 o4_1 o4_2 o4_3 o5 o5_1 o5_2 o5_3 o6 o7 o8 o8_1 o8_2 o8_3 o9 o9_1 o9_2 o9_3
   exact (gstep_q1u_18 (a0 := @l_q1t) _ K b vat o0 o0_1 o0_2 o0_3 o1 o2 o3 o3_1 o3_2 o3_3 o4 o4_1 o4_2 o4_3 o5 o5_1 o5_2 o5_3 o6 o7 o8 o8_1 o8_2 o8_3 o9 o9_1 o9_2 o9_3).trans (by rw [ih]; rfl)
  ·funext b vat x o0 o0_1 o0_2 o0_3 o1 o2 o3 o3_1 o3_2 o3_3 o4 o4_1 o4_2 o4_3 o5 o5_1 o5_2 o5_3 o6 o7 o8 o8_1 o8_2 o8_3 o9 o9_1 o9_2 o9_3 o10
   exact (gstep_q1u_20 (a0 := @l_q1t) _ K b vat x o0 o0_1 o0_2 o0_3 o1 o2 o3 o3_1 o3_2 o3_3 o4 o4_1 o4_2 o4_3 o5 o5_1 o5_2 o5_3 o6 o7 o8 o8_1 o8_2 o8_3 o9 o9_1 o9_2 o9_3 o10).trans (by rw [ih]; rfl)
  ·funext b vat x o0 o0_1 o0_2 o0_3 o1 o2 o3 o3_1 o3_2 o3_3 o4 o4_1 o4_2 o4_3 o5 o5_1 o5_2 o5_3 o6 o7 o8 o8_1 o8_2 o8_3 o9 o9_1 o9_2 o9_3 o10
   exact (gstep_q1u_24 (a0 := @l_q1t) _ K b vat x o0 o0_1 o0_2 o0_3 o1 o2 o3 o3_1 o3_2 o3_3 o4 o4_1 o4_2 o4_3 o5 o5_1 o5_2 o5_3 o6 o7 o8 o8_1 o8_2 o8_3 o9 o9_1 o9_2 o9_3 o10).trans (by rw [ih]; rfl)
  ·funext b vat s o0 o0_1 o0_2 o0_3 o1 o2 o3 o3_1 o3_2 o3_3 o4 o5 o6
   exact (gstep_q1u_31 (a0 := @l_q1t) _ K b vat s o0 o0_1 o0_2 o0_3 o1 o2 o3 o3_1 o3_2 o3_3 o4 o5 o6).trans (by rw [ih]; rfl)
  ·funext b vat x o0 o0_1 o0_2 o0_3 o1 o2 o3 o3_1 o3_2 o3_3 o4 o4_1 o4_2 o4_3 o5 o5_1 o5_2 o5_3 o6 o7 o8 o8_1 o8_2 o8_3 o9 o9_1 o9_2 o9_3 o10
   exact (gstep_q1u_26 (a0 := @l_q1t) _ K b vat x o0 o0_1 o0_2 o0_3 o1 o2 o3 o3_1 o3_2 o3_3 o4 o4_1 o4_2 o4_3 o5 o5_1 o5_2 o5_3 o6 o7 o8 o8_1 o8_2 o8_3 o9 o9_1 o9_2 o9_3 o10).trans (by rw [ih]; rfl)
  ·funext b vat s l i o0 o0_1 o0_2 o0_3 o1 o2 o3 o3_1 o3_2 o3_3 o4 o5 o6 o7
   exact (gstep_q1u_41a (a0 := @l_q1t) _ K b vat s l i o0 o0_1 o0_2 o0_3 o1 o2 o3 o3_1 o3_2 o3_3 o4 o5 o6 o7).trans (by rw [ih]; rfl)
  ·funext b vat s i o0 o0_1 o0_2 o0_3 o1 o2 o3 o3_1 o3_2 o3_3 o4 o5 o6 o7
   exact (gstep_q1u_41b (a0 := @l_q1t) _ K b vat s i o0 o0_1 o0_2 o0_3 o1 o2 o3 o3_1 o3_2 o3_3 o4 o5 o6 o7).trans (by rw [ih]; rfl)
  ·funext b vat x o0 o0_1 o0_2 o0_3 o1 o2 o3 o3_1 o3_2 o3_3 o4 o4_1 o4_2 o4_3 o5 o5_1 o5_2 o5_3 o6 o7 o8 o8_1 o8_2 o8_3 o9 o9_1 o9_2 o9_3 o10
   exact (gstep_q1u_27 (a0 := @l_q1t) _ K b vat x o0 o0_1 o0_2 o0_3 o1 o2 o3 o3_1 o3_2 o3_3 o4 o4_1 o4_2 o4_3 o5 o5_1 o5_2 o5_3 o6 o7 o8 o8_1 o8_2 o8_3 o9 o9_1 o9_2 o9_3 o10).trans (by rw [ih]; rfl)

def S_q1u (l_q1u : LT_q1u) : Sum := ⟨[], fun {R} args ob K => match args, ob with
 |[.rd ⟨false, 5, (.int .u8), b⟩], [] => l_q1u b (k0_q1u K)
 |_, _ => none⟩

theorem sound_q1u : Sound Tryz.prog 75 (S_q1u @l_q1u) := by
 refine fn_sound (cuts := cuts_q1u) (fn := Tryz.f75) (Γ := C_q1u) wide right_T_q1u Tryz.func75 fun {R} K r args ob h => ?_
 unfold S_q1u at h
 dsimp only at h
 split at h
 ·obtain ⟨n, hn⟩ := evl_ok h
  refine ⟨Nat.le_of_ble_eq_true (by kernel_rfl), n, (gentry_q1u n K _).trans ?_⟩
  rw [(runs_q1u K n)]
  exact hn
 ·cases h

theorem call_q1u : Callable Tryz.prog 75 := ⟨_, Tryz.func75, by kernel_rfl, by kernel_rfl⟩

def T_q1v (a0 : LT_q1n) (a1 : LT_q1r) (a2 : LT_q1u) : FuncId -> Option Sum := (addS (addS (addS G0 72 (S_q1n @a0)) 74 (S_q1r @a1)) 75 (S_q1u @a2))

abbrev C_q1v : FuncId -> Option Sum := T_q1v @l_q1n @l_q1r @l_q1u

theorem right_T_q1v : Right Tryz.prog C_q1v := (right_add (right_add (right_add right_G0 call_q1n sound_q1n) call_q1r sound_q1r) call_q1u sound_q1u)

abbrev cuts_q1v : Cuts := [(18, [1, 2, 6, 9, 11])]

abbrev k0_q1v {R : Type} (K : AV -> List O -> Option R) : KT0_q1v R := fun r0 r1 r2 r3 r4 r5 r6 r7 r8 r9 r10 r11 r12 => K (.tup [.agg [iv r0, .own 0, iv r1, iv r2, iv r3, iv r4, .own 1, .own 2, iv r5, .own 3, .own 4], iv r6, iv r7]) [wi 3 r8, wi 3 r9, wi 3 r10, wi 3 r11, wi 3 r12]

abbrev sta_q1v_18 (b : List Int) (vat vend o0 o0_1 o0_2 o0_3 o0_4 o0_5 : Int) (o1 o2 o3 o4 o5 : List Int) (o6 o6_1 o6_2 o6_3 o6_4 o6_5 : Int) (o7 o8 o9 o10 o11 : List Int) : St := ⟨fr0 187 [(1, rb 5 b), (2, iv vat), (6, .ptr 0 0), (9, .ptr 6 0), (11, iv vend)], [.box 53 [iv o0, .own 1, iv o0_1, iv o0_2, iv o0_3, iv o0_4, .own 2, .own 3, iv o0_5, .own 4, .own 5], wi 3 o1, wi 3 o2, wi 3 o3, wi 3 o4, wi 3 o5, .box 53 [iv o6, .own 7, iv o6_1, iv o6_2, iv o6_3, iv o6_4, .own 8, .own 9, iv o6_5, .own 10, .own 11], wi 3 o7, wi 3 o8, wi 3 o9, wi 3 o10, wi 3 o11]⟩

abbrev gt_q1v_18 {R : Type} (g : List Item -> St -> Option R) : GT_q1v_18 R := fun (b : List Int) (vat vend o0 o0_1 o0_2 o0_3 o0_4 o0_5 : Int) (o1 o2 o3 o4 o5 : List Int) (o6 o6_1 o6_2 o6_3 o6_4 o6_5 : Int) (o7 o8 o9 o10 o11 : List Int) => g (at' Tryz.f47 18) (sta_q1v_18 b vat vend o0 o0_1 o0_2 o0_3 o0_4 o0_5 o1 o2 o3 o4 o5 o6 o6_1 o6_2 o6_3 o6_4 o6_5 o7 o8 o9 o10 o11)

theorem gstep_q1v_18 {a0 : LT_q1n} {a1 : LT_q1r} {a2 : LT_q1u} {R : Type} (g : List Item -> St -> Option R) (K : AV -> List O -> Option R) (b : List Int) (vat vend o0 o0_1 o0_2 o0_3 o0_4 o0_5 : Int) (o1 o2 o3 o4 o5 : List Int) (o6 o6_1 o6_2 o6_3 o6_4 o6_5 : Int) (o7 o8 o9 o10 o11 : List Int) :
  runSeg Tryz.prog (T_q1v @a0 @a1 @a2) cuts_q1v 0 g (finish Tryz.prog Tryz.f47 0 K) (at' Tryz.f47 18) (sta_q1v_18 b vat vend o0 o0_1 o0_2 o0_3 o0_4 o0_5 o1 o2 o3 o4 o5 o6 o6_1 o6_2 o6_3 o6_4 o6_5 o7 o8 o9 o10 o11) =
  gs_q1v_18 @a0 @a1 @a2 (gt_q1v_18 g) (k0_q1v K) b vat vend o0 o0_1 o0_2 o0_3 o0_4 o0_5 o1 o2 o3 o4 o5 o6 o6_1 o6_2 o6_3 o6_4 o6_5 o7 o8 o9 o10 o11 := by kernel_rfl

theorem gentry_q1v {a0 : LT_q1n} {a1 : LT_q1r} {a2 : LT_q1u} {R : Type} (fuel : Nat) (K : AV -> List O -> Option R) (l l_1 l_2 : Int) (l_3 : List Ent) (b : List Int) (vat : Int) :
  fnRun Tryz.prog (T_q1v @a0 @a1 @a2) cuts_q1v Tryz.f47 fuel [.agg [iv l, iv l_1, iv l_2, .rd ⟨false, 53, (.pr (.pr (.int .i64) (.pr (.sl 3 (.int .i64)) (.pr (.int .i64) (.pr (.int .i64) (.pr (.int .i64) (.pr (.int .i64) (.pr (.sl 3 (.int .i64)) (.sl 3 (.int .i64))))))))) (.pr (.int .i64) (.pr (.sl 3 (.int .i64)) (.sl 3 (.int .i64))))), l_3⟩], rb 5 b, iv vat] [] K =
  ge_q1v @a0 @a1 @a2 (gt_q1v_18 (runO Tryz.prog (T_q1v @a0 @a1 @a2) cuts_q1v 0 (finish Tryz.prog Tryz.f47 0 K) fuel)) (k0_q1v K) l l_1 l_2 l_3 b vat := by kernel_rfl

theorem runs_q1v {R : Type} (K : AV -> List O -> Option R) : ∀ fuel : Nat,
  (gt_q1v_18 (runO Tryz.prog C_q1v cuts_q1v 0 (finish Tryz.prog Tryz.f47 0 K) fuel)) = (run_q1v (k0_q1v K) fuel)
 |0 => rfl
 |fuel + 1 => by
  have ih := runs_q1v K fuel
  funext b vat vend o0 o0_1 o0_2 o0_3 o0_4 o0_5 o1 o2 o3 o4 o5 o6 o6_1 o6_2 o6_3 o6_4 o6_5 o7 o8 o9 o10 o11
  refine (gstep_q1v_18 _ K b vat vend o0 o0_1 o0_2 o0_3 o0_4 o0_5 o1 o2 o3 o4 o5 o6 o6_1 o6_2 o6_3 o6_4 o6_5 o7 o8 o9 o10 o11).trans ?_
  rw [ih]
  rfl

def S_q1v (l_q1v : LT_q1v) : Sum := ⟨[], fun {R} args ob K => match args, ob with
 |[.agg [.v (.int .i64 l), .v (.int .i64 l_1), .v (.int .i64 l_2), .rd ⟨false, 53, (.pr (.pr (.int .i64) (.pr (.sl 3 (.int .i64)) (.pr (.int .i64) (.pr (.int .i64) (.pr (.int .i64) (.pr (.int .i64) (.pr (.sl 3 (.int .i64)) (.sl 3 (.int .i64))))))))) (.pr (.int .i64) (.pr (.sl 3 (.int .i64)) (.sl 3 (.int .i64))))), l_3⟩], .rd ⟨false, 5, (.int .u8), b⟩, .v (.int .i64 vat)], [] => l_q1v l l_1 l_2 l_3 b vat (k0_q1v K)
 |_, _ => none⟩

theorem sound_q1v : Sound Tryz.prog 47 (S_q1v @l_q1v) := by
 refine fn_sound (cuts := cuts_q1v) (fn := Tryz.f47) (Γ := C_q1v) wide right_T_q1v Tryz.func47 fun {R} K r args ob h => ?_
 unfold S_q1v at h
 dsimp only at h
 split at h
 ·obtain ⟨n, hn⟩ := evl_ok h
  refine ⟨Nat.le_of_ble_eq_true (by kernel_rfl), n, (gentry_q1v n K _ _ _ _ _ _).trans ?_⟩
  rw [(runs_q1v K n)]
  exact hn
 ·cases h

theorem call_q1v : Callable Tryz.prog 47 := ⟨_, Tryz.func47, by kernel_rfl, by kernel_rfl⟩

def T_q1w : FuncId -> Option Sum := G0

theorem right_T_q1w : Right Tryz.prog T_q1w := right_G0

abbrev cuts_q1w : Cuts := [(6, [0, 1, 6])]

abbrev k0_q1w {R : Type} (K : AV -> List O -> Option R) : Int -> Int -> Option R := fun r0 r1 => K (.tup [iv r0, iv r1]) []

abbrev sta_q1w_6 (w : List Int) (k i : Int) : St := ⟨fr0 36 [(0, ri 3 w), (1, iv k), (6, iv i)], []⟩

abbrev gt_q1w_6 {R : Type} (g : List Item -> St -> Option R) : GT_q1w_6 R := fun (w : List Int) (k i : Int) => g (at' Tryz.f57 6) (sta_q1w_6 w k i)

theorem gstep_q1w_6 {R : Type} (g : List Item -> St -> Option R) (K : AV -> List O -> Option R) (w : List Int) (k i : Int) :
  runSeg Tryz.prog T_q1w cuts_q1w 0 g (finish Tryz.prog Tryz.f57 0 K) (at' Tryz.f57 6) (sta_q1w_6 w k i) =
  s_q1w_6 (gt_q1w_6 g) (k0_q1w K) w k i := by kernel_rfl

theorem gentry_q1w {R : Type} (fuel : Nat) (K : AV -> List O -> Option R) (w : List Int) (k : Int) :
  fnRun Tryz.prog T_q1w cuts_q1w Tryz.f57 fuel [ri 3 w, iv k] [] K =
  e_q1w (gt_q1w_6 (runO Tryz.prog T_q1w cuts_q1w 0 (finish Tryz.prog Tryz.f57 0 K) fuel)) (k0_q1w K) w k := by kernel_rfl

theorem runs_q1w {R : Type} (K : AV -> List O -> Option R) : ∀ fuel : Nat,
  (gt_q1w_6 (runO Tryz.prog T_q1w cuts_q1w 0 (finish Tryz.prog Tryz.f57 0 K) fuel)) = (run_q1w (k0_q1w K) fuel)
 |0 => rfl
 |fuel + 1 => by
  have ih := runs_q1w K fuel
  funext w k i
  refine (gstep_q1w_6 _ K w k i).trans ?_
  rw [ih]
  rfl

def S_q1w (l_q1w : LT_q1w) : Sum := ⟨[], fun {R} args ob K => match args, ob with
 |[.rd ⟨false, 3, (.int .i64), w⟩, .v (.int .i64 k)], [] => l_q1w w k (k0_q1w K)
 |_, _ => none⟩

theorem sound_q1w : Sound Tryz.prog 57 (S_q1w @l_q1w) := by
 refine fn_sound (cuts := cuts_q1w) (fn := Tryz.f57) (Γ := T_q1w) wide right_T_q1w Tryz.func57 fun {R} K r args ob h => ?_
 unfold S_q1w at h
 dsimp only at h
 split at h
 ·obtain ⟨n, hn⟩ := ok_q1w _ _ _ h
  refine ⟨Nat.le_of_ble_eq_true (by kernel_rfl), n, (gentry_q1w n K _ _).trans ?_⟩
  rw [(runs_q1w K n)]
  exact hn
 ·cases h

theorem call_q1w : Callable Tryz.prog 57 := ⟨_, Tryz.func57, by kernel_rfl, by kernel_rfl⟩

def T_q1x (a0 : LT_q1w) : FuncId -> Option Sum := (addS G0 57 (S_q1w @a0))

abbrev C_q1x : FuncId -> Option Sum := T_q1x @l_q1w

theorem right_T_q1x : Right Tryz.prog C_q1x := (right_add right_G0 call_q1w sound_q1w)

abbrev cuts_q1x : Cuts := [(14, [3, 8, 9])]

abbrev k0_q1x {R : Type} (K : AV -> List O -> Option R) : Int -> Option R := fun r0 => K (iv r0) []

abbrev sta_q1x_14 (most i o0 : Int) (o0_1 o0_2 : List Int) : St := ⟨fr0 114 [(3, .ptr 0 0), (8, iv most), (9, iv i)], [.box 51 [iv o0, ri 3 o0_1, ri 3 o0_2]]⟩

abbrev gt_q1x_14 {R : Type} (g : List Item -> St -> Option R) : GT_q1x_14 R := fun (most i o0 : Int) (o0_1 o0_2 : List Int) => g (at' Tryz.f58 14) (sta_q1x_14 most i o0 o0_1 o0_2)

theorem gstep_q1x_14 {a0 : LT_q1w} {R : Type} (g : List Item -> St -> Option R) (K : AV -> List O -> Option R) (most i o0 : Int) (o0_1 o0_2 : List Int) :
  runSeg Tryz.prog (T_q1x @a0) cuts_q1x 0 g (finish Tryz.prog Tryz.f58 0 K) (at' Tryz.f58 14) (sta_q1x_14 most i o0 o0_1 o0_2) =
  gs_q1x_14 @a0 (gt_q1x_14 g) (k0_q1x K) most i o0 o0_1 o0_2 := by kernel_rfl

theorem gentry_q1x {a0 : LT_q1w} {R : Type} (fuel : Nat) (K : AV -> List O -> Option R) (q : Int) (q_1 : List Int) (q_2 q_3 q_4 q_5 : Int) (q_6 q_7 : List Int) (a : Int) (a_1 a_2 : List Int) :
  fnRun Tryz.prog (T_q1x @a0) cuts_q1x Tryz.f58 fuel [.agg [iv q, ri 3 q_1, iv q_2, iv q_3, iv q_4, iv q_5, ri 3 q_6, ri 3 q_7], .agg [iv a, ri 3 a_1, ri 3 a_2]] [] K =
  ge_q1x @a0 (gt_q1x_14 (runO Tryz.prog (T_q1x @a0) cuts_q1x 0 (finish Tryz.prog Tryz.f58 0 K) fuel)) (k0_q1x K) q q_1 q_2 q_3 q_4 q_5 q_6 q_7 a a_1 a_2 := by kernel_rfl

theorem runs_q1x {R : Type} (K : AV -> List O -> Option R) : ∀ fuel : Nat,
  (gt_q1x_14 (runO Tryz.prog C_q1x cuts_q1x 0 (finish Tryz.prog Tryz.f58 0 K) fuel)) = (run_q1x (k0_q1x K) fuel)
 |0 => rfl
 |fuel + 1 => by
  have ih := runs_q1x K fuel
  funext most i o0 o0_1 o0_2
  refine (gstep_q1x_14 _ K most i o0 o0_1 o0_2).trans ?_
  rw [ih]
  rfl

def S_q1x (l_q1x : LT_q1x) : Sum := ⟨[], fun {R} args ob K => match args, ob with
 |[.agg [.v (.int .i64 q), .rd ⟨false, 3, (.int .i64), q_1⟩, .v (.int .i64 q_2), .v (.int .i64 q_3), .v (.int .i64 q_4), .v (.int .i64 q_5), .rd ⟨false, 3, (.int .i64), q_6⟩, .rd ⟨false, 3, (.int .i64), q_7⟩], .agg [.v (.int .i64 a), .rd ⟨false, 3, (.int .i64), a_1⟩, .rd ⟨false, 3, (.int .i64), a_2⟩]], [] => l_q1x q q_1 q_2 q_3 q_4 q_5 q_6 q_7 a a_1 a_2 (k0_q1x K)
 |_, _ => none⟩

theorem sound_q1x : Sound Tryz.prog 58 (S_q1x @l_q1x) := by
 refine fn_sound (cuts := cuts_q1x) (fn := Tryz.f58) (Γ := C_q1x) wide right_T_q1x Tryz.func58 fun {R} K r args ob h => ?_
 unfold S_q1x at h
 dsimp only at h
 split at h
 ·obtain ⟨n, hn⟩ := ok_q1x _ _ _ _ _ _ _ _ _ _ _ _ h
  refine ⟨Nat.le_of_ble_eq_true (by kernel_rfl), n, (gentry_q1x n K _ _ _ _ _ _ _ _ _ _ _).trans ?_⟩
  rw [(runs_q1x K n)]
  exact hn
 ·cases h

theorem call_q1x : Callable Tryz.prog 58 := ⟨_, Tryz.func58, by kernel_rfl, by kernel_rfl⟩

def T_q1y : FuncId -> Option Sum := G0

theorem right_T_q1y : Right Tryz.prog T_q1y := right_G0

abbrev cuts_q1y : Cuts := [(15, [1, 5]), (20, [1, 6])]

abbrev k0_q1y {R : Type} (K : AV -> List O -> Option R) : Int -> Int -> Option R := fun r0 r1 => K (.tup [iv r0, iv r1]) []

abbrev sta_q1y_15 (i o0 o0_1 o0_2 o0_3 : Int) (o0_4 o0_5 : List Int) : St := ⟨fr0 123 [(1, .ptr 0 0), (5, iv i)], [.box 47 [iv o0, iv o0_1, iv o0_2, iv o0_3, ri 3 o0_4, ri 3 o0_5]]⟩

abbrev gt_q1y_15 {R : Type} (g : List Item -> St -> Option R) : GT_q1y_15 R := fun (i o0 o0_1 o0_2 o0_3 : Int) (o0_4 o0_5 : List Int) => g (at' Tryz.f50 15) (sta_q1y_15 i o0 o0_1 o0_2 o0_3 o0_4 o0_5)

abbrev sta_q1y_20 (i o0 o0_1 o0_2 o0_3 : Int) (o0_4 o0_5 : List Int) : St := ⟨fr0 123 [(1, .ptr 0 0), (6, iv i)], [.box 47 [iv o0, iv o0_1, iv o0_2, iv o0_3, ri 3 o0_4, ri 3 o0_5]]⟩

abbrev gt_q1y_20 {R : Type} (g : List Item -> St -> Option R) : GT_q1y_20 R := fun (i o0 o0_1 o0_2 o0_3 : Int) (o0_4 o0_5 : List Int) => g (at' Tryz.f50 20) (sta_q1y_20 i o0 o0_1 o0_2 o0_3 o0_4 o0_5)

theorem gstep_q1y_15 {R : Type} (g : List Item -> St -> Option R) (K : AV -> List O -> Option R) (i o0 o0_1 o0_2 o0_3 : Int) (o0_4 o0_5 : List Int) :
  runSeg Tryz.prog T_q1y cuts_q1y 0 g (finish Tryz.prog Tryz.f50 0 K) (at' Tryz.f50 15) (sta_q1y_15 i o0 o0_1 o0_2 o0_3 o0_4 o0_5) =
  s_q1y_15 (gt_q1y_15 g) (gt_q1y_20 g) (k0_q1y K) i o0 o0_1 o0_2 o0_3 o0_4 o0_5 := by kernel_rfl

theorem gstep_q1y_20 {R : Type} (g : List Item -> St -> Option R) (K : AV -> List O -> Option R) (i o0 o0_1 o0_2 o0_3 : Int) (o0_4 o0_5 : List Int) :
  runSeg Tryz.prog T_q1y cuts_q1y 0 g (finish Tryz.prog Tryz.f50 0 K) (at' Tryz.f50 20) (sta_q1y_20 i o0 o0_1 o0_2 o0_3 o0_4 o0_5) =
  s_q1y_20 (gt_q1y_15 g) (gt_q1y_20 g) (k0_q1y K) i o0 o0_1 o0_2 o0_3 o0_4 o0_5 := by kernel_rfl

theorem gentry_q1y {R : Type} (fuel : Nat) (K : AV -> List O -> Option R) (m m_1 m_2 m_3 : Int) (m_4 m_5 : List Int) :
  fnRun Tryz.prog T_q1y cuts_q1y Tryz.f50 fuel [.agg [iv m, iv m_1, iv m_2, iv m_3, ri 3 m_4, ri 3 m_5]] [] K =
  e_q1y (gt_q1y_15 (runO Tryz.prog T_q1y cuts_q1y 0 (finish Tryz.prog Tryz.f50 0 K) fuel)) (gt_q1y_20 (runO Tryz.prog T_q1y cuts_q1y 0 (finish Tryz.prog Tryz.f50 0 K) fuel)) (k0_q1y K) m m_1 m_2 m_3 m_4 m_5 := by kernel_rfl

theorem runs_q1y {R : Type} (K : AV -> List O -> Option R) : ∀ fuel : Nat,
  (gt_q1y_15 (runO Tryz.prog T_q1y cuts_q1y 0 (finish Tryz.prog Tryz.f50 0 K) fuel)) = (run_q1y (k0_q1y K) fuel).1 ∧
  (gt_q1y_20 (runO Tryz.prog T_q1y cuts_q1y 0 (finish Tryz.prog Tryz.f50 0 K) fuel)) = (run_q1y (k0_q1y K) fuel).2
 |0 => ⟨rfl, rfl⟩
 |fuel + 1 => by
  have ih := runs_q1y K fuel
  refine ⟨?_, ?_⟩
  ·funext i o0 o0_1 o0_2 o0_3 o0_4 o0_5
   refine (gstep_q1y_15 _ K i o0 o0_1 o0_2 o0_3 o0_4 o0_5).trans ?_
   rw [ih.1, ih.2]
   rfl
  ·funext i o0 o0_1 o0_2 o0_3 o0_4 o0_5
   refine (gstep_q1y_20 _ K i o0 o0_1 o0_2 o0_3 o0_4 o0_5).trans ?_
   rw [ih.1, ih.2]
   rfl

def S_q1y (l_q1y : LT_q1y) : Sum := ⟨[], fun {R} args ob K => match args, ob with
 |[.agg [.v (.int .i64 m), .v (.int .i64 m_1), .v (.int .i64 m_2), .v (.int .i64 m_3), .rd ⟨false, 3, (.int .i64), m_4⟩, .rd ⟨false, 3, (.int .i64), m_5⟩]], [] => l_q1y m m_1 m_2 m_3 m_4 m_5 (k0_q1y K)
 |_, _ => none⟩

theorem sound_q1y : Sound Tryz.prog 50 (S_q1y @l_q1y) := by
 refine fn_sound (cuts := cuts_q1y) (fn := Tryz.f50) (Γ := T_q1y) wide right_T_q1y Tryz.func50 fun {R} K r args ob h => ?_
 unfold S_q1y at h
 dsimp only at h
 split at h
 ·obtain ⟨n, hn⟩ := ok_q1y _ _ _ _ _ _ _ h
  refine ⟨Nat.le_of_ble_eq_true (by kernel_rfl), n, (gentry_q1y n K _ _ _ _ _ _).trans ?_⟩
  rw [(runs_q1y K n).1, (runs_q1y K n).2]
  exact hn
 ·cases h

theorem call_q1y : Callable Tryz.prog 50 := ⟨_, Tryz.func50, by kernel_rfl, by kernel_rfl⟩

def T_q1z : FuncId -> Option Sum := G0

theorem right_T_q1z : Right Tryz.prog T_q1z := right_G0

abbrev cuts_q1z : Cuts := []

abbrev k0_q1z {R : Type} (K : AV -> List O -> Option R) : Int -> Option R := fun r0 => K (iv r0) []

theorem gentry_q1z {R : Type} (K : AV -> List O -> Option R) (l l_1 l_2 : Int) (l_3 : List Ent) (m m_1 m_2 m_3 : Int) (m_4 m_5 : List Int) :
  fnRun Tryz.prog T_q1z cuts_q1z Tryz.f55 0 [.agg [iv l, iv l_1, iv l_2, .rd ⟨false, 53, (.pr (.pr (.int .i64) (.pr (.sl 3 (.int .i64)) (.pr (.int .i64) (.pr (.int .i64) (.pr (.int .i64) (.pr (.int .i64) (.pr (.sl 3 (.int .i64)) (.sl 3 (.int .i64))))))))) (.pr (.int .i64) (.pr (.sl 3 (.int .i64)) (.sl 3 (.int .i64))))), l_3⟩], .agg [iv m, iv m_1, iv m_2, iv m_3, ri 3 m_4, ri 3 m_5]] [] K =
  l_q1z l l_1 l_2 l_3 m m_1 m_2 m_3 m_4 m_5 (k0_q1z K) := by kernel_rfl

def S_q1z (l_q1z : LT_q1z) : Sum := ⟨[], fun {R} args ob K => match args, ob with
 |[.agg [.v (.int .i64 l), .v (.int .i64 l_1), .v (.int .i64 l_2), .rd ⟨false, 53, (.pr (.pr (.int .i64) (.pr (.sl 3 (.int .i64)) (.pr (.int .i64) (.pr (.int .i64) (.pr (.int .i64) (.pr (.int .i64) (.pr (.sl 3 (.int .i64)) (.sl 3 (.int .i64))))))))) (.pr (.int .i64) (.pr (.sl 3 (.int .i64)) (.sl 3 (.int .i64))))), l_3⟩], .agg [.v (.int .i64 m), .v (.int .i64 m_1), .v (.int .i64 m_2), .v (.int .i64 m_3), .rd ⟨false, 3, (.int .i64), m_4⟩, .rd ⟨false, 3, (.int .i64), m_5⟩]], [] => l_q1z l l_1 l_2 l_3 m m_1 m_2 m_3 m_4 m_5 (k0_q1z K)
 |_, _ => none⟩

theorem sound_q1z : Sound Tryz.prog 55 (S_q1z @l_q1z) := by
 refine fn_sound (cuts := cuts_q1z) (fn := Tryz.f55) (Γ := T_q1z) wide right_T_q1z Tryz.func55 fun {R} K r args ob h => ?_
 unfold S_q1z at h
 dsimp only at h
 split at h
 ·exact ⟨Nat.le_of_ble_eq_true (by kernel_rfl), 0, (gentry_q1z K _ _ _ _ _ _ _ _ _ _).trans h⟩
 ·cases h

theorem call_q1z : Callable Tryz.prog 55 := ⟨_, Tryz.func55, by kernel_rfl, by kernel_rfl⟩

def T_q20 (a0 : LT_q1x) (a1 : LT_q1w) (a2 : LT_q1z) (a3 : LT_q1y) : FuncId -> Option Sum := (addS (addS (addS (addS G0 58 (S_q1x @a0)) 57 (S_q1w @a1)) 55 (S_q1z @a2)) 50 (S_q1y @a3))

abbrev C_q20 : FuncId -> Option Sum := T_q20 @l_q1x @l_q1w @l_q1z @l_q1y

theorem right_T_q20 : Right Tryz.prog C_q20 := (right_add (right_add (right_add (right_add right_G0 call_q1x sound_q1x) call_q1w sound_q1w) call_q1z sound_q1z) call_q1y sound_q1y)

abbrev cuts_q20 : Cuts := []

abbrev k0_q20 {R : Type} (K : AV -> List O -> Option R) : Int -> Option R := fun r0 => K (iv r0) []

theorem gentry_q20 {a0 : LT_q1x} {a1 : LT_q1w} {a2 : LT_q1z} {a3 : LT_q1y} {R : Type} (K : AV -> List O -> Option R) (l l_1 l_2 : Int) (l_3 : List Ent) (x : Int) (x_1 : List Int) (x_2 x_3 x_4 x_5 : Int) (x_6 x_7 : List Int) (x_8 : Int) (x_9 x_10 : List Int) :
  fnRun Tryz.prog (T_q20 @a0 @a1 @a2 @a3) cuts_q20 Tryz.f35 0 [.agg [iv l, iv l_1, iv l_2, .rd ⟨false, 53, (.pr (.pr (.int .i64) (.pr (.sl 3 (.int .i64)) (.pr (.int .i64) (.pr (.int .i64) (.pr (.int .i64) (.pr (.int .i64) (.pr (.sl 3 (.int .i64)) (.sl 3 (.int .i64))))))))) (.pr (.int .i64) (.pr (.sl 3 (.int .i64)) (.sl 3 (.int .i64))))), l_3⟩], .agg [iv x, ri 3 x_1, iv x_2, iv x_3, iv x_4, iv x_5, ri 3 x_6, ri 3 x_7, iv x_8, ri 3 x_9, ri 3 x_10]] [] K =
  gl_q20 @a0 @a1 @a2 @a3 l l_1 l_2 l_3 x x_1 x_2 x_3 x_4 x_5 x_6 x_7 x_8 x_9 x_10 (k0_q20 K) := by kernel_rfl

def S_q20 (l_q20 : LT_q20) : Sum := ⟨[], fun {R} args ob K => match args, ob with
 |[.agg [.v (.int .i64 l), .v (.int .i64 l_1), .v (.int .i64 l_2), .rd ⟨false, 53, (.pr (.pr (.int .i64) (.pr (.sl 3 (.int .i64)) (.pr (.int .i64) (.pr (.int .i64) (.pr (.int .i64) (.pr (.int .i64) (.pr (.sl 3 (.int .i64)) (.sl 3 (.int .i64))))))))) (.pr (.int .i64) (.pr (.sl 3 (.int .i64)) (.sl 3 (.int .i64))))), l_3⟩], .agg [.v (.int .i64 x), .rd ⟨false, 3, (.int .i64), x_1⟩, .v (.int .i64 x_2), .v (.int .i64 x_3), .v (.int .i64 x_4), .v (.int .i64 x_5), .rd ⟨false, 3, (.int .i64), x_6⟩, .rd ⟨false, 3, (.int .i64), x_7⟩, .v (.int .i64 x_8), .rd ⟨false, 3, (.int .i64), x_9⟩, .rd ⟨false, 3, (.int .i64), x_10⟩]], [] => l_q20 l l_1 l_2 l_3 x x_1 x_2 x_3 x_4 x_5 x_6 x_7 x_8 x_9 x_10 (k0_q20 K)
 |_, _ => none⟩

theorem sound_q20 : Sound Tryz.prog 35 (S_q20 @l_q20) := by
 refine fn_sound (cuts := cuts_q20) (fn := Tryz.f35) (Γ := C_q20) wide right_T_q20 Tryz.func35 fun {R} K r args ob h => ?_
 unfold S_q20 at h
 dsimp only at h
 split at h
 ·exact ⟨Nat.le_of_ble_eq_true (by kernel_rfl), 0, (gentry_q20 K _ _ _ _ _ _ _ _ _ _ _ _ _ _ _).trans h⟩
 ·cases h

theorem call_q20 : Callable Tryz.prog 35 := ⟨_, Tryz.func35, by kernel_rfl, by kernel_rfl⟩

def T_q21 (a0 : LT_q1q) (a1 : LT_q20) (a2 : LT_q1v) : FuncId -> Option Sum := (addS (addS (addS G0 46 (S_q1q @a0)) 35 (S_q20 @a1)) 47 (S_q1v @a2))

abbrev C_q21 : FuncId -> Option Sum := T_q21 @l_q1q @l_q20 @l_q1v

theorem right_T_q21 : Right Tryz.prog C_q21 := (right_add (right_add (right_add right_G0 call_q1q sound_q1q) call_q20 sound_q20) call_q1v sound_q1v)

abbrev cuts_q21 : Cuts := [(5, [0, 2, 5, 6]), (14, [0, 2, 7, 8])]

abbrev k0_q21 {R : Type} (K : AV -> List O -> Option R) : KT0_q21 R := fun r0 r1 r2 r3 r4 r5 => K (.tup [.agg [iv r0, iv r1, iv r2, .nst 0], iv r3, iv r4]) [.fst ⟨true, 53, (.pr (.pr (.int .i64) (.pr (.sl 3 (.int .i64)) (.pr (.int .i64) (.pr (.int .i64) (.pr (.int .i64) (.pr (.int .i64) (.pr (.sl 3 (.int .i64)) (.sl 3 (.int .i64))))))))) (.pr (.int .i64) (.pr (.sl 3 (.int .i64)) (.sl 3 (.int .i64))))), r5⟩ 0]

abbrev sta_q21_5 (b : List Int) (n i o0 o0_1 o0_2 : Int) (o1 : List Ent) : St := ⟨fr0 98 [(0, rb 5 b), (2, .ptr 0 0), (5, iv n), (6, iv i)], [.box 24 [iv o0, iv o0_1, iv o0_2, .nst 1], .fst ⟨true, 53, (.pr (.pr (.int .i64) (.pr (.sl 3 (.int .i64)) (.pr (.int .i64) (.pr (.int .i64) (.pr (.int .i64) (.pr (.int .i64) (.pr (.sl 3 (.int .i64)) (.sl 3 (.int .i64))))))))) (.pr (.int .i64) (.pr (.sl 3 (.int .i64)) (.sl 3 (.int .i64))))), o1⟩ 0]⟩

abbrev gt_q21_5 {R : Type} (g : List Item -> St -> Option R) : GT_q21_5 R := fun (b : List Int) (n i o0 o0_1 o0_2 : Int) (o1 : List Ent) => g (at' Tryz.f19 5) (sta_q21_5 b n i o0 o0_1 o0_2 o1)

abbrev sta_q21_14 (b : List Int) (vat o0 o0_1 o0_2 : Int) (o1 : List Ent) (o2 o2_1 o2_2 : Int) (o3 : List Ent) : St := ⟨fr0 98 [(0, rb 5 b), (2, .ptr 0 0), (7, .ptr 2 0), (8, iv vat)], [.box 24 [iv o0, iv o0_1, iv o0_2, .nst 1], .fst ⟨true, 53, (.pr (.pr (.int .i64) (.pr (.sl 3 (.int .i64)) (.pr (.int .i64) (.pr (.int .i64) (.pr (.int .i64) (.pr (.int .i64) (.pr (.sl 3 (.int .i64)) (.sl 3 (.int .i64))))))))) (.pr (.int .i64) (.pr (.sl 3 (.int .i64)) (.sl 3 (.int .i64))))), o1⟩ 0, .box 24 [iv o2, iv o2_1, iv o2_2, .nst 3], .fst ⟨true, 53, (.pr (.pr (.int .i64) (.pr (.sl 3 (.int .i64)) (.pr (.int .i64) (.pr (.int .i64) (.pr (.int .i64) (.pr (.int .i64) (.pr (.sl 3 (.int .i64)) (.sl 3 (.int .i64))))))))) (.pr (.int .i64) (.pr (.sl 3 (.int .i64)) (.sl 3 (.int .i64))))), o3⟩ 0]⟩

abbrev gt_q21_14 {R : Type} (g : List Item -> St -> Option R) : GT_q21_14 R := fun (b : List Int) (vat o0 o0_1 o0_2 : Int) (o1 : List Ent) (o2 o2_1 o2_2 : Int) (o3 : List Ent) => g (at' Tryz.f19 14) (sta_q21_14 b vat o0 o0_1 o0_2 o1 o2 o2_1 o2_2 o3)

theorem gstep_q21_5 {a0 : LT_q1q} {a1 : LT_q20} {a2 : LT_q1v} {R : Type} (g : List Item -> St -> Option R) (K : AV -> List O -> Option R) (b : List Int) (n i o0 o0_1 o0_2 : Int) (o1 : List Ent) :
  runSeg Tryz.prog (T_q21 @a0 @a1 @a2) cuts_q21 0 g (finish Tryz.prog Tryz.f19 0 K) (at' Tryz.f19 5) (sta_q21_5 b n i o0 o0_1 o0_2 o1) =
  gs_q21_5 @a0 @a1 @a2 (gt_q21_5 g) (gt_q21_14 g) (k0_q21 K) b n i o0 o0_1 o0_2 o1 := by kernel_rfl

theorem gstep_q21_14 {a0 : LT_q1q} {a1 : LT_q20} {a2 : LT_q1v} {R : Type} (g : List Item -> St -> Option R) (K : AV -> List O -> Option R) (b : List Int) (vat o0 o0_1 o0_2 : Int) (o1 : List Ent) (o2 o2_1 o2_2 : Int) (o3 : List Ent) :
  runSeg Tryz.prog (T_q21 @a0 @a1 @a2) cuts_q21 0 g (finish Tryz.prog Tryz.f19 0 K) (at' Tryz.f19 14) (sta_q21_14 b vat o0 o0_1 o0_2 o1 o2 o2_1 o2_2 o3) =
  gs_q21_14 @a0 @a1 @a2 (gt_q21_5 g) (gt_q21_14 g) (k0_q21 K) b vat o0 o0_1 o0_2 o1 o2 o2_1 o2_2 o3 := by kernel_rfl

theorem gentry_q21 {a0 : LT_q1q} {a1 : LT_q20} {a2 : LT_q1v} {R : Type} (fuel : Nat) (K : AV -> List O -> Option R) (b : List Int) :
  fnRun Tryz.prog (T_q21 @a0 @a1 @a2) cuts_q21 Tryz.f19 fuel [rb 5 b] [] K =
  ge_q21 @a0 @a1 @a2 (gt_q21_5 (runO Tryz.prog (T_q21 @a0 @a1 @a2) cuts_q21 0 (finish Tryz.prog Tryz.f19 0 K) fuel)) (gt_q21_14 (runO Tryz.prog (T_q21 @a0 @a1 @a2) cuts_q21 0 (finish Tryz.prog Tryz.f19 0 K) fuel)) (k0_q21 K) b := by kernel_rfl

theorem runs_q21 {R : Type} (K : AV -> List O -> Option R) : ∀ fuel : Nat,
  (gt_q21_5 (runO Tryz.prog C_q21 cuts_q21 0 (finish Tryz.prog Tryz.f19 0 K) fuel)) = (run_q21 (k0_q21 K) fuel).1 ∧
  (gt_q21_14 (runO Tryz.prog C_q21 cuts_q21 0 (finish Tryz.prog Tryz.f19 0 K) fuel)) = (run_q21 (k0_q21 K) fuel).2
 |0 => ⟨rfl, rfl⟩
 |fuel + 1 => by
  have ih := runs_q21 K fuel
  refine ⟨?_, ?_⟩
  ·funext b n i o0 o0_1 o0_2 o1
   refine (gstep_q21_5 _ K b n i o0 o0_1 o0_2 o1).trans ?_
   rw [ih.1, ih.2]
   rfl
  ·funext b vat o0 o0_1 o0_2 o1 o2 o2_1 o2_2 o3
   refine (gstep_q21_14 _ K b vat o0 o0_1 o0_2 o1 o2 o2_1 o2_2 o3).trans ?_
   rw [ih.1, ih.2]
   rfl

def S_q21 (l_q21 : LT_q21) : Sum := ⟨[], fun {R} args ob K => match args, ob with
 |[.rd ⟨false, 5, (.int .u8), b⟩], [] => l_q21 b (k0_q21 K)
 |_, _ => none⟩

theorem sound_q21 : Sound Tryz.prog 19 (S_q21 @l_q21) := by
 refine fn_sound (cuts := cuts_q21) (fn := Tryz.f19) (Γ := C_q21) wide right_T_q21 Tryz.func19 fun {R} K r args ob h => ?_
 unfold S_q21 at h
 dsimp only at h
 split at h
 ·obtain ⟨n, hn⟩ := evl_ok h
  refine ⟨Nat.le_of_ble_eq_true (by kernel_rfl), n, (gentry_q21 n K _).trans ?_⟩
  rw [(runs_q21 K n).1, (runs_q21 K n).2]
  exact hn
 ·cases h

theorem call_q21 : Callable Tryz.prog 19 := ⟨_, Tryz.func19, by kernel_rfl, by kernel_rfl⟩

def T_q22 : FuncId -> Option Sum := G0

theorem right_T_q22 : Right Tryz.prog T_q22 := right_G0

abbrev cuts_q22 : Cuts := [(4, [0, 1, 5])]

abbrev k0_q22 {R : Type} (K : AV -> List O -> Option R) : Bool -> Option R := fun r0 => K (.v (.bool r0)) []

abbrev sta_q22_4 (a b : List Int) (i : Int) : St := ⟨fr0 26 [(0, ri 3 a), (1, ri 3 b), (5, iv i)], []⟩

abbrev gt_q22_4 {R : Type} (g : List Item -> St -> Option R) : GT_q22_4 R := fun (a b : List Int) (i : Int) => g (at' Tryz.f48 4) (sta_q22_4 a b i)

theorem gstep_q22_4 {R : Type} (g : List Item -> St -> Option R) (K : AV -> List O -> Option R) (a b : List Int) (i : Int) :
  runSeg Tryz.prog T_q22 cuts_q22 0 g (finish Tryz.prog Tryz.f48 0 K) (at' Tryz.f48 4) (sta_q22_4 a b i) =
  s_q22_4 (gt_q22_4 g) (k0_q22 K) a b i := by kernel_rfl

theorem gentry_q22 {R : Type} (fuel : Nat) (K : AV -> List O -> Option R) (a b : List Int) :
  fnRun Tryz.prog T_q22 cuts_q22 Tryz.f48 fuel [ri 3 a, ri 3 b] [] K =
  e_q22 (gt_q22_4 (runO Tryz.prog T_q22 cuts_q22 0 (finish Tryz.prog Tryz.f48 0 K) fuel)) (k0_q22 K) a b := by kernel_rfl

theorem runs_q22 {R : Type} (K : AV -> List O -> Option R) : ∀ fuel : Nat,
  (gt_q22_4 (runO Tryz.prog T_q22 cuts_q22 0 (finish Tryz.prog Tryz.f48 0 K) fuel)) = (run_q22 (k0_q22 K) fuel)
 |0 => rfl
 |fuel + 1 => by
  have ih := runs_q22 K fuel
  funext a b i
  refine (gstep_q22_4 _ K a b i).trans ?_
  rw [ih]
  rfl

def S_q22 (l_q22 : LT_q22) : Sum := ⟨[], fun {R} args ob K => match args, ob with
 |[.rd ⟨false, 3, (.int .i64), a⟩, .rd ⟨false, 3, (.int .i64), b⟩], [] => l_q22 a b (k0_q22 K)
 |_, _ => none⟩

theorem sound_q22 : Sound Tryz.prog 48 (S_q22 @l_q22) := by
 refine fn_sound (cuts := cuts_q22) (fn := Tryz.f48) (Γ := T_q22) wide right_T_q22 Tryz.func48 fun {R} K r args ob h => ?_
 unfold S_q22 at h
 dsimp only at h
 split at h
 ·obtain ⟨n, hn⟩ := ok_q22 _ _ _ h
  refine ⟨Nat.le_of_ble_eq_true (by kernel_rfl), n, (gentry_q22 n K _ _).trans ?_⟩
  rw [(runs_q22 K n)]
  exact hn
 ·cases h

theorem call_q22 : Callable Tryz.prog 48 := ⟨_, Tryz.func48, by kernel_rfl, by kernel_rfl⟩

def T_q23 (a0 : LT_q22) : FuncId -> Option Sum := (addS G0 48 (S_q22 @a0))

abbrev C_q23 : FuncId -> Option Sum := T_q23 @l_q22

theorem right_T_q23 : Right Tryz.prog C_q23 := (right_add right_G0 call_q22 sound_q22)

abbrev cuts_q23 : Cuts := []

abbrev k0_q23 {R : Type} (K : AV -> List O -> Option R) : Bool -> Option R := fun r0 => K (.v (.bool r0)) []

theorem gentry_q23 {a0 : LT_q22} {R : Type} (K : AV -> List O -> Option R) (a a_1 a_2 a_3 : Int) (a_4 a_5 : List Int) (b b_1 b_2 b_3 : Int) (b_4 b_5 : List Int) :
  fnRun Tryz.prog (T_q23 @a0) cuts_q23 Tryz.f21 0 [.agg [iv a, iv a_1, iv a_2, iv a_3, ri 3 a_4, ri 3 a_5], .agg [iv b, iv b_1, iv b_2, iv b_3, ri 3 b_4, ri 3 b_5]] [] K =
  gl_q23 @a0 a a_1 a_2 a_3 a_4 a_5 b b_1 b_2 b_3 b_4 b_5 (k0_q23 K) := by kernel_rfl

def S_q23 (l_q23 : LT_q23) : Sum := ⟨[], fun {R} args ob K => match args, ob with
 |[.agg [.v (.int .i64 a), .v (.int .i64 a_1), .v (.int .i64 a_2), .v (.int .i64 a_3), .rd ⟨false, 3, (.int .i64), a_4⟩, .rd ⟨false, 3, (.int .i64), a_5⟩], .agg [.v (.int .i64 b), .v (.int .i64 b_1), .v (.int .i64 b_2), .v (.int .i64 b_3), .rd ⟨false, 3, (.int .i64), b_4⟩, .rd ⟨false, 3, (.int .i64), b_5⟩]], [] => l_q23 a a_1 a_2 a_3 a_4 a_5 b b_1 b_2 b_3 b_4 b_5 (k0_q23 K)
 |_, _ => none⟩

theorem sound_q23 : Sound Tryz.prog 21 (S_q23 @l_q23) := by
 refine fn_sound (cuts := cuts_q23) (fn := Tryz.f21) (Γ := C_q23) wide right_T_q23 Tryz.func21 fun {R} K r args ob h => ?_
 unfold S_q23 at h
 dsimp only at h
 split at h
 ·exact ⟨Nat.le_of_ble_eq_true (by kernel_rfl), 0, (gentry_q23 K _ _ _ _ _ _ _ _ _ _ _ _).trans h⟩
 ·cases h

theorem call_q23 : Callable Tryz.prog 21 := ⟨_, Tryz.func21, by kernel_rfl, by kernel_rfl⟩

def T_q24 (a0 : LT_q22) : FuncId -> Option Sum := (addS G0 48 (S_q22 @a0))

abbrev C_q24 : FuncId -> Option Sum := T_q24 @l_q22

theorem right_T_q24 : Right Tryz.prog C_q24 := (right_add right_G0 call_q22 sound_q22)

abbrev cuts_q24 : Cuts := [(4, [0, 1, 5])]

abbrev k0_q24 {R : Type} (K : AV -> List O -> Option R) : Bool -> Option R := fun r0 => K (.v (.bool r0)) []

abbrev sta_q24_4 (a b : List (Int × (List Int × List Int))) (i : Int) : St := ⟨fr0 56 [(0, .rd ⟨false, 51, (.pr (.int .i64) (.pr (.sl 3 (.int .i64)) (.sl 3 (.int .i64)))), a⟩), (1, .rd ⟨false, 51, (.pr (.int .i64) (.pr (.sl 3 (.int .i64)) (.sl 3 (.int .i64)))), b⟩), (5, iv i)], []⟩

abbrev gt_q24_4 {R : Type} (g : List Item -> St -> Option R) : GT_q24_4 R := fun (a b : List (Int × (List Int × List Int))) (i : Int) => g (at' Tryz.f31 4) (sta_q24_4 a b i)

theorem gstep_q24_4 {a0 : LT_q22} {R : Type} (g : List Item -> St -> Option R) (K : AV -> List O -> Option R) (a b : List (Int × (List Int × List Int))) (i : Int) :
  runSeg Tryz.prog (T_q24 @a0) cuts_q24 0 g (finish Tryz.prog Tryz.f31 0 K) (at' Tryz.f31 4) (sta_q24_4 a b i) =
  gs_q24_4 @a0 (gt_q24_4 g) (k0_q24 K) a b i := by kernel_rfl

theorem gentry_q24 {a0 : LT_q22} {R : Type} (fuel : Nat) (K : AV -> List O -> Option R) (a b : List (Int × (List Int × List Int))) :
  fnRun Tryz.prog (T_q24 @a0) cuts_q24 Tryz.f31 fuel [.rd ⟨false, 51, (.pr (.int .i64) (.pr (.sl 3 (.int .i64)) (.sl 3 (.int .i64)))), a⟩, .rd ⟨false, 51, (.pr (.int .i64) (.pr (.sl 3 (.int .i64)) (.sl 3 (.int .i64)))), b⟩] [] K =
  ge_q24 @a0 (gt_q24_4 (runO Tryz.prog (T_q24 @a0) cuts_q24 0 (finish Tryz.prog Tryz.f31 0 K) fuel)) (k0_q24 K) a b := by kernel_rfl

theorem runs_q24 {R : Type} (K : AV -> List O -> Option R) : ∀ fuel : Nat,
  (gt_q24_4 (runO Tryz.prog C_q24 cuts_q24 0 (finish Tryz.prog Tryz.f31 0 K) fuel)) = (run_q24 (k0_q24 K) fuel)
 |0 => rfl
 |fuel + 1 => by
  have ih := runs_q24 K fuel
  funext a b i
  refine (gstep_q24_4 _ K a b i).trans ?_
  rw [ih]
  rfl

def S_q24 (l_q24 : LT_q24) : Sum := ⟨[], fun {R} args ob K => match args, ob with
 |[.rd ⟨false, 51, (.pr (.int .i64) (.pr (.sl 3 (.int .i64)) (.sl 3 (.int .i64)))), a⟩, .rd ⟨false, 51, (.pr (.int .i64) (.pr (.sl 3 (.int .i64)) (.sl 3 (.int .i64)))), b⟩], [] => l_q24 a b (k0_q24 K)
 |_, _ => none⟩

theorem sound_q24 : Sound Tryz.prog 31 (S_q24 @l_q24) := by
 refine fn_sound (cuts := cuts_q24) (fn := Tryz.f31) (Γ := C_q24) wide right_T_q24 Tryz.func31 fun {R} K r args ob h => ?_
 unfold S_q24 at h
 dsimp only at h
 split at h
 ·obtain ⟨n, hn⟩ := ok_q24 _ _ _ h
  refine ⟨Nat.le_of_ble_eq_true (by kernel_rfl), n, (gentry_q24 n K _ _).trans ?_⟩
  rw [(runs_q24 K n)]
  exact hn
 ·cases h

theorem call_q24 : Callable Tryz.prog 31 := ⟨_, Tryz.func31, by kernel_rfl, by kernel_rfl⟩

def T_q25 (a0 : LT_q24) (a1 : LT_q23) (a2 : LT_q22) : FuncId -> Option Sum := (addS (addS (addS G0 31 (S_q24 @a0)) 21 (S_q23 @a1)) 48 (S_q22 @a2))

abbrev C_q25 : FuncId -> Option Sum := T_q25 @l_q24 @l_q23 @l_q22

theorem right_T_q25 : Right Tryz.prog C_q25 := (right_add (right_add (right_add right_G0 call_q24 sound_q24) call_q23 sound_q23) call_q22 sound_q22)

abbrev cuts_q25 : Cuts := [(4, [2, 3, 5]), (7, [2, 3, 5, 6, 7])]

abbrev k0_q25 {R : Type} (K : AV -> List O -> Option R) : Bool -> Option R := fun r0 => K (.v (.bool r0)) []

abbrev sta_q25_4 (i o0 o0_1 o0_2 : Int) (o0_3 : List Ent) (o1 o1_1 o1_2 : Int) (o1_3 : List Ent) : St := ⟨fr0 102 [(2, .ptr 0 0), (3, .ptr 1 0), (5, iv i)], [.box 24 [iv o0, iv o0_1, iv o0_2, .rd ⟨false, 53, (.pr (.pr (.int .i64) (.pr (.sl 3 (.int .i64)) (.pr (.int .i64) (.pr (.int .i64) (.pr (.int .i64) (.pr (.int .i64) (.pr (.sl 3 (.int .i64)) (.sl 3 (.int .i64))))))))) (.pr (.int .i64) (.pr (.sl 3 (.int .i64)) (.sl 3 (.int .i64))))), o0_3⟩], .box 24 [iv o1, iv o1_1, iv o1_2, .rd ⟨false, 53, (.pr (.pr (.int .i64) (.pr (.sl 3 (.int .i64)) (.pr (.int .i64) (.pr (.int .i64) (.pr (.int .i64) (.pr (.int .i64) (.pr (.sl 3 (.int .i64)) (.sl 3 (.int .i64))))))))) (.pr (.int .i64) (.pr (.sl 3 (.int .i64)) (.sl 3 (.int .i64))))), o1_3⟩]]⟩

abbrev gt_q25_4 {R : Type} (g : List Item -> St -> Option R) : GT_q25_4 R := fun (i o0 o0_1 o0_2 : Int) (o0_3 : List Ent) (o1 o1_1 o1_2 : Int) (o1_3 : List Ent) => g (at' Tryz.f20 4) (sta_q25_4 i o0 o0_1 o0_2 o0_3 o1 o1_1 o1_2 o1_3)

abbrev sta_q25_7 (i o0 o0_1 o0_2 : Int) (o0_3 : List Ent) (o1 o1_1 o1_2 : Int) (o1_3 : List Ent) (o2 : Int) (o2_1 : List Int) (o2_2 o2_3 o2_4 o2_5 : Int) (o2_6 o2_7 : List Int) (o2_8 : Int) (o2_9 o2_10 : List Int) (o3 : Int) (o3_1 : List Int) (o3_2 o3_3 o3_4 o3_5 : Int) (o3_6 o3_7 : List Int) (o3_8 : Int) (o3_9 o3_10 : List Int) : St := ⟨fr0 102 [(2, .ptr 0 0), (3, .ptr 1 0), (5, iv i), (6, .ptr 2 0), (7, .ptr 3 0)], [.box 24 [iv o0, iv o0_1, iv o0_2, .rd ⟨false, 53, (.pr (.pr (.int .i64) (.pr (.sl 3 (.int .i64)) (.pr (.int .i64) (.pr (.int .i64) (.pr (.int .i64) (.pr (.int .i64) (.pr (.sl 3 (.int .i64)) (.sl 3 (.int .i64))))))))) (.pr (.int .i64) (.pr (.sl 3 (.int .i64)) (.sl 3 (.int .i64))))), o0_3⟩], .box 24 [iv o1, iv o1_1, iv o1_2, .rd ⟨false, 53, (.pr (.pr (.int .i64) (.pr (.sl 3 (.int .i64)) (.pr (.int .i64) (.pr (.int .i64) (.pr (.int .i64) (.pr (.int .i64) (.pr (.sl 3 (.int .i64)) (.sl 3 (.int .i64))))))))) (.pr (.int .i64) (.pr (.sl 3 (.int .i64)) (.sl 3 (.int .i64))))), o1_3⟩], .box 53 [iv o2, ri 3 o2_1, iv o2_2, iv o2_3, iv o2_4, iv o2_5, ri 3 o2_6, ri 3 o2_7, iv o2_8, ri 3 o2_9, ri 3 o2_10], .box 53 [iv o3, ri 3 o3_1, iv o3_2, iv o3_3, iv o3_4, iv o3_5, ri 3 o3_6, ri 3 o3_7, iv o3_8, ri 3 o3_9, ri 3 o3_10]]⟩

abbrev gt_q25_7 {R : Type} (g : List Item -> St -> Option R) : GT_q25_7 R := fun (i o0 o0_1 o0_2 : Int) (o0_3 : List Ent) (o1 o1_1 o1_2 : Int) (o1_3 : List Ent) (o2 : Int) (o2_1 : List Int) (o2_2 o2_3 o2_4 o2_5 : Int) (o2_6 o2_7 : List Int) (o2_8 : Int) (o2_9 o2_10 : List Int) (o3 : Int) (o3_1 : List Int) (o3_2 o3_3 o3_4 o3_5 : Int) (o3_6 o3_7 : List Int) (o3_8 : Int) (o3_9 o3_10 : List Int) => g (at' Tryz.f20 7) (sta_q25_7 i o0 o0_1 o0_2 o0_3 o1 o1_1 o1_2 o1_3 o2 o2_1 o2_2 o2_3 o2_4 o2_5 o2_6 o2_7 o2_8 o2_9 o2_10 o3 o3_1 o3_2 o3_3 o3_4 o3_5 o3_6 o3_7 o3_8 o3_9 o3_10)

theorem gstep_q25_4 {a0 : LT_q24} {a1 : LT_q23} {a2 : LT_q22} {R : Type} (g : List Item -> St -> Option R) (K : AV -> List O -> Option R) (i o0 o0_1 o0_2 : Int) (o0_3 : List Ent) (o1 o1_1 o1_2 : Int) (o1_3 : List Ent) :
  runSeg Tryz.prog (T_q25 @a0 @a1 @a2) cuts_q25 0 g (finish Tryz.prog Tryz.f20 0 K) (at' Tryz.f20 4) (sta_q25_4 i o0 o0_1 o0_2 o0_3 o1 o1_1 o1_2 o1_3) =
  gs_q25_4 @a0 @a1 @a2 (gt_q25_4 g) (gt_q25_7 g) (k0_q25 K) i o0 o0_1 o0_2 o0_3 o1 o1_1 o1_2 o1_3 := by kernel_rfl

theorem gstep_q25_7 {a0 : LT_q24} {a1 : LT_q23} {a2 : LT_q22} {R : Type} (g : List Item -> St -> Option R) (K : AV -> List O -> Option R) (i o0 o0_1 o0_2 : Int) (o0_3 : List Ent) (o1 o1_1 o1_2 : Int) (o1_3 : List Ent) (o2 : Int) (o2_1 : List Int) (o2_2 o2_3 o2_4 o2_5 : Int) (o2_6 o2_7 : List Int) (o2_8 : Int) (o2_9 o2_10 : List Int) (o3 : Int) (o3_1 : List Int) (o3_2 o3_3 o3_4 o3_5 : Int) (o3_6 o3_7 : List Int) (o3_8 : Int) (o3_9 o3_10 : List Int) :
  runSeg Tryz.prog (T_q25 @a0 @a1 @a2) cuts_q25 0 g (finish Tryz.prog Tryz.f20 0 K) (at' Tryz.f20 7) (sta_q25_7 i o0 o0_1 o0_2 o0_3 o1 o1_1 o1_2 o1_3 o2 o2_1 o2_2 o2_3 o2_4 o2_5 o2_6 o2_7 o2_8 o2_9 o2_10 o3 o3_1 o3_2 o3_3 o3_4 o3_5 o3_6 o3_7 o3_8 o3_9 o3_10) =
  gs_q25_7 @a0 @a1 @a2 (gt_q25_4 g) (gt_q25_7 g) (k0_q25 K) i o0 o0_1 o0_2 o0_3 o1 o1_1 o1_2 o1_3 o2 o2_1 o2_2 o2_3 o2_4 o2_5 o2_6 o2_7 o2_8 o2_9 o2_10 o3 o3_1 o3_2 o3_3 o3_4 o3_5 o3_6 o3_7 o3_8 o3_9 o3_10 := by kernel_rfl

theorem gentry_q25 {a0 : LT_q24} {a1 : LT_q23} {a2 : LT_q22} {R : Type} (fuel : Nat) (K : AV -> List O -> Option R) (a a_1 a_2 : Int) (a_3 : List Ent) (b b_1 b_2 : Int) (b_3 : List Ent) :
  fnRun Tryz.prog (T_q25 @a0 @a1 @a2) cuts_q25 Tryz.f20 fuel [.agg [iv a, iv a_1, iv a_2, .rd ⟨false, 53, (.pr (.pr (.int .i64) (.pr (.sl 3 (.int .i64)) (.pr (.int .i64) (.pr (.int .i64) (.pr (.int .i64) (.pr (.int .i64) (.pr (.sl 3 (.int .i64)) (.sl 3 (.int .i64))))))))) (.pr (.int .i64) (.pr (.sl 3 (.int .i64)) (.sl 3 (.int .i64))))), a_3⟩], .agg [iv b, iv b_1, iv b_2, .rd ⟨false, 53, (.pr (.pr (.int .i64) (.pr (.sl 3 (.int .i64)) (.pr (.int .i64) (.pr (.int .i64) (.pr (.int .i64) (.pr (.int .i64) (.pr (.sl 3 (.int .i64)) (.sl 3 (.int .i64))))))))) (.pr (.int .i64) (.pr (.sl 3 (.int .i64)) (.sl 3 (.int .i64))))), b_3⟩]] [] K =
  ge_q25 @a0 @a1 @a2 (gt_q25_4 (runO Tryz.prog (T_q25 @a0 @a1 @a2) cuts_q25 0 (finish Tryz.prog Tryz.f20 0 K) fuel)) (gt_q25_7 (runO Tryz.prog (T_q25 @a0 @a1 @a2) cuts_q25 0 (finish Tryz.prog Tryz.f20 0 K) fuel)) (k0_q25 K) a a_1 a_2 a_3 b b_1 b_2 b_3 := by kernel_rfl

theorem runs_q25 {R : Type} (K : AV -> List O -> Option R) : ∀ fuel : Nat,
  (gt_q25_4 (runO Tryz.prog C_q25 cuts_q25 0 (finish Tryz.prog Tryz.f20 0 K) fuel)) = (run_q25 (k0_q25 K) fuel).1 ∧
  (gt_q25_7 (runO Tryz.prog C_q25 cuts_q25 0 (finish Tryz.prog Tryz.f20 0 K) fuel)) = (run_q25 (k0_q25 K) fuel).2
 |0 => ⟨rfl, rfl⟩
 |fuel + 1 => by
  have ih := runs_q25 K fuel
  refine ⟨?_, ?_⟩
  ·funext i o0 o0_1 o0_2 o0_3 o1 o1_1 o1_2 o1_3
   refine (gstep_q25_4 _ K i o0 o0_1 o0_2 o0_3 o1 o1_1 o1_2 o1_3).trans ?_
   rw [ih.1, ih.2]
   rfl
  ·funext i o0 o0_1 o0_2 o0_3 o1 o1_1 o1_2 o1_3 o2 o2_1 o2_2 o2_3 o2_4 o2_5 o2_6 o2_7 o2_8 o2_9 o2_10 o3 o3_1 o3_2 o3_3 o3_4 o3_5 o3_6 o3_7 o3_8 o3_9 o3_10
   refine (gstep_q25_7 _ K i o0 o0_1 o0_2 o0_3 o1 o1_1 o1_2 o1_3 o2 o2_1 o2_2 o2_3 o2_4 o2_5 o2_6 o2_7 o2_8 o2_9 o2_10 o3 o3_1 o3_2 o3_3 o3_4 o3_5 o3_6 o3_7 o3_8 o3_9 o3_10).trans ?_
   rw [ih.1, ih.2]
   rfl

def S_q25 (l_q25 : LT_q25) : Sum := ⟨[], fun {R} args ob K => match args, ob with
 |[.agg [.v (.int .i64 a), .v (.int .i64 a_1), .v (.int .i64 a_2), .rd ⟨false, 53, (.pr (.pr (.int .i64) (.pr (.sl 3 (.int .i64)) (.pr (.int .i64) (.pr (.int .i64) (.pr (.int .i64) (.pr (.int .i64) (.pr (.sl 3 (.int .i64)) (.sl 3 (.int .i64))))))))) (.pr (.int .i64) (.pr (.sl 3 (.int .i64)) (.sl 3 (.int .i64))))), a_3⟩], .agg [.v (.int .i64 b), .v (.int .i64 b_1), .v (.int .i64 b_2), .rd ⟨false, 53, (.pr (.pr (.int .i64) (.pr (.sl 3 (.int .i64)) (.pr (.int .i64) (.pr (.int .i64) (.pr (.int .i64) (.pr (.int .i64) (.pr (.sl 3 (.int .i64)) (.sl 3 (.int .i64))))))))) (.pr (.int .i64) (.pr (.sl 3 (.int .i64)) (.sl 3 (.int .i64))))), b_3⟩]], [] => l_q25 a a_1 a_2 a_3 b b_1 b_2 b_3 (k0_q25 K)
 |_, _ => none⟩

theorem sound_q25 : Sound Tryz.prog 20 (S_q25 @l_q25) := by
 refine fn_sound (cuts := cuts_q25) (fn := Tryz.f20) (Γ := C_q25) wide right_T_q25 Tryz.func20 fun {R} K r args ob h => ?_
 unfold S_q25 at h
 dsimp only at h
 split at h
 ·obtain ⟨n, hn⟩ := evl_ok h
  refine ⟨Nat.le_of_ble_eq_true (by kernel_rfl), n, (gentry_q25 n K _ _ _ _ _ _ _ _).trans ?_⟩
  rw [(runs_q25 K n).1, (runs_q25 K n).2]
  exact hn
 ·cases h

theorem call_q25 : Callable Tryz.prog 20 := ⟨_, Tryz.func20, by kernel_rfl, by kernel_rfl⟩

theorem nil_q26 {R : Type} (K : AV -> List O -> Option R) (c : Nat) :
  fnRun Tryz.prog G0 [] Tryz.f49 0 [.v (.slice none 0 c)] [] K = K (.own 0) [.row ⟨true, 3, (.int .i64), []⟩] := by kernel_rfl

theorem emp_q26 {R : Type} (K : AV -> List O -> Option R) (a : Addr) (c : Nat) :
  fnRun Tryz.prog G0 [] Tryz.f49 0 [.v (.slice (some a) 0 c)] [] K = K (.own 0) [.row ⟨true, 3, (.int .i64), [] ++ []⟩] := by kernel_rfl

theorem cons_q26 {R : Type} (K : AV -> List O -> Option R) (x : Int) (xs : List Int) :
  fnRun Tryz.prog G0 [] Tryz.f49 0 [.rd ⟨false, 3, (.int .i64), x :: xs⟩] [] K =
  bi (decide ((([] : List Int).length + (x :: xs).length) * 8 ≤ lim)) (K (.own 0) [.row ⟨true, 3, (.int .i64), [] ++ (x :: xs)⟩]) none := by kernel_rfl

def S_q26 (l_q26 : LT_q26) : Sum := ⟨[], fun {R} args ob K => match args, ob with
 |[.rd ⟨false, 3, (.int .i64), s⟩], [] => l_q26 s (fun r0 => K (.own 0) [.row ⟨true, 3, (.int .i64), r0⟩])
 |_, _ => none⟩

theorem sound_q26 : Sound Tryz.prog 49 (S_q26 @l_q26) := by
 refine fn_sound' (cuts := []) (fn := Tryz.f49) (Γ := G0) wide right_G0 Tryz.func49 fun {R} K r args ob h vals w ok β hr => ?_
 unfold S_q26 at h
 dsimp only at h
 split at h
 ·rename_i s
  obtain ⟨v, rfl, hv⟩ := hr.single
  rcases bi_some h with ⟨hl, h⟩ | ⟨_, h⟩
  ·cases hv with
   |rd _ A c hc hrow =>
    cases s with
    |nil => cases A with
     |none => exact ⟨[.v (.slice none 0 c)], RepL.consts _ _ _ [.slice none 0 c], Nat.le_of_ble_eq_true (by kernel_rfl), 0, (nil_q26 K c).trans h⟩
     |some a => exact ⟨[.v (.slice (some a) 0 c)], RepL.consts _ _ _ [.slice (some a) 0 c], Nat.le_of_ble_eq_true (by kernel_rfl), 0, (emp_q26 K a c).trans h⟩
    |cons x xs =>
     refine ⟨_, hr, Nat.le_of_ble_eq_true (by kernel_rfl), 0, (cons_q26 K x xs).trans ?_⟩
     rw [List.length_nil, Nat.zero_add, hl, br_tt]
     exact h
  ·cases h
 ·cases h

theorem call_q26 : Callable Tryz.prog 49 := ⟨_, Tryz.func49, by kernel_rfl, by kernel_rfl⟩

def T_q27 (a0 : LT_q26) : FuncId -> Option Sum := (addS G0 49 (S_q26 @a0))

abbrev C_q27 : FuncId -> Option Sum := T_q27 @l_q26

theorem right_T_q27 : Right Tryz.prog C_q27 := (right_add right_G0 call_q26 sound_q26)

abbrev cuts_q27 : Cuts := [(3, [3, 7, 8, 9])]

abbrev k0_q27 {R : Type} (K : AV -> List O -> Option R) : (List (Int × (List Int × List Int))) -> Option R := fun r0 => K (.nst 0) [.fst ⟨true, 51, (.pr (.int .i64) (.pr (.sl 3 (.int .i64)) (.sl 3 (.int .i64)))), r0⟩ 0]

abbrev sta_q27_3 (x7 : List Ent) (x8 x9 : Int) (o0 : List (Int × (List Int × List Int))) : St := ⟨fr0 30 [(3, .nst 0), (7, .rd ⟨false, 53, (.pr (.pr (.int .i64) (.pr (.sl 3 (.int .i64)) (.pr (.int .i64) (.pr (.int .i64) (.pr (.int .i64) (.pr (.int .i64) (.pr (.sl 3 (.int .i64)) (.sl 3 (.int .i64))))))))) (.pr (.int .i64) (.pr (.sl 3 (.int .i64)) (.sl 3 (.int .i64))))), x7⟩), (8, iv x8), (9, iv x9)], [.fst ⟨true, 51, (.pr (.int .i64) (.pr (.sl 3 (.int .i64)) (.sl 3 (.int .i64)))), o0⟩ 0]⟩

abbrev gt_q27_3 {R : Type} (g : List Item -> St -> Option R) : GT_q27_3 R := fun (x7 : List Ent) (x8 x9 : Int) (o0 : List (Int × (List Int × List Int))) => g (at' Tryz.f22 3) (sta_q27_3 x7 x8 x9 o0)

theorem gstep_q27_3 {a0 : LT_q26} {R : Type} (g : List Item -> St -> Option R) (K : AV -> List O -> Option R) (x7 : List Ent) (x8 x9 : Int) (o0 : List (Int × (List Int × List Int))) :
  runSeg Tryz.prog (T_q27 @a0) cuts_q27 0 g (finish Tryz.prog Tryz.f22 0 K) (at' Tryz.f22 3) (sta_q27_3 x7 x8 x9 o0) =
  gs_q27_3 @a0 (gt_q27_3 g) (k0_q27 K) x7 x8 x9 o0 := by kernel_rfl

theorem gentry_q27 {a0 : LT_q26} {R : Type} (fuel : Nat) (K : AV -> List O -> Option R) (l l_1 l_2 : Int) (l_3 : List Ent) :
  fnRun Tryz.prog (T_q27 @a0) cuts_q27 Tryz.f22 fuel [.agg [iv l, iv l_1, iv l_2, .rd ⟨false, 53, (.pr (.pr (.int .i64) (.pr (.sl 3 (.int .i64)) (.pr (.int .i64) (.pr (.int .i64) (.pr (.int .i64) (.pr (.int .i64) (.pr (.sl 3 (.int .i64)) (.sl 3 (.int .i64))))))))) (.pr (.int .i64) (.pr (.sl 3 (.int .i64)) (.sl 3 (.int .i64))))), l_3⟩]] [] K =
  ge_q27 @a0 (gt_q27_3 (runO Tryz.prog (T_q27 @a0) cuts_q27 0 (finish Tryz.prog Tryz.f22 0 K) fuel)) (k0_q27 K) l l_1 l_2 l_3 := by kernel_rfl

theorem runs_q27 {R : Type} (K : AV -> List O -> Option R) : ∀ fuel : Nat,
  (gt_q27_3 (runO Tryz.prog C_q27 cuts_q27 0 (finish Tryz.prog Tryz.f22 0 K) fuel)) = (run_q27 (k0_q27 K) fuel)
 |0 => rfl
 |fuel + 1 => by
  have ih := runs_q27 K fuel
  funext x7 x8 x9 o0
  refine (gstep_q27_3 _ K x7 x8 x9 o0).trans ?_
  rw [ih]
  rfl

def S_q27 (l_q27 : LT_q27) : Sum := ⟨[], fun {R} args ob K => match args, ob with
 |[.agg [.v (.int .i64 l), .v (.int .i64 l_1), .v (.int .i64 l_2), .rd ⟨false, 53, (.pr (.pr (.int .i64) (.pr (.sl 3 (.int .i64)) (.pr (.int .i64) (.pr (.int .i64) (.pr (.int .i64) (.pr (.int .i64) (.pr (.sl 3 (.int .i64)) (.sl 3 (.int .i64))))))))) (.pr (.int .i64) (.pr (.sl 3 (.int .i64)) (.sl 3 (.int .i64))))), l_3⟩]], [] => l_q27 l l_1 l_2 l_3 (k0_q27 K)
 |_, _ => none⟩

theorem sound_q27 : Sound Tryz.prog 22 (S_q27 @l_q27) := by
 refine fn_sound (cuts := cuts_q27) (fn := Tryz.f22) (Γ := C_q27) wide right_T_q27 Tryz.func22 fun {R} K r args ob h => ?_
 unfold S_q27 at h
 dsimp only at h
 split at h
 ·obtain ⟨n, hn⟩ := evl_ok h
  refine ⟨Nat.le_of_ble_eq_true (by kernel_rfl), n, (gentry_q27 n K _ _ _ _).trans ?_⟩
  rw [(runs_q27 K n)]
  exact hn
 ·cases h

theorem call_q27 : Callable Tryz.prog 22 := ⟨_, Tryz.func22, by kernel_rfl, by kernel_rfl⟩

def T_q28 : FuncId -> Option Sum := G0

theorem right_T_q28 : Right Tryz.prog T_q28 := right_G0

abbrev cuts_q28 : Cuts := [(2, [0, 3]), (5, [0, 3, 4]), (9, [0, 5]), (13, [0, 5, 6, 7]), (17, [0, 8]), (20, [0, 8, 9])]

abbrev k0_q28 {R : Type} (K : AV -> List O -> Option R) : Bool -> (List (List Int)) -> Option R := fun r0 r1 => K (.v (.bool r0)) [.nst ⟨false, 45, (.sl 3 (.int .i64)), r1⟩]

abbrev sta_q28_2 (i : Int) (o0 : List (List Int)) : St := ⟨fr0 77 [(0, .nst 0), (3, iv i)], [.nst ⟨false, 45, (.sl 3 (.int .i64)), o0⟩]⟩

abbrev gt_q28_2 {R : Type} (g : List Item -> St -> Option R) : GT_q28_2 R := fun (i : Int) (o0 : List (List Int)) => g (at' Tryz.f23 2) (sta_q28_2 i o0)

abbrev sta_q28_5 (i k : Int) (o0 : List (List Int)) : St := ⟨fr0 77 [(0, .nst 0), (3, iv i), (4, iv k)], [.nst ⟨false, 45, (.sl 3 (.int .i64)), o0⟩]⟩

abbrev gt_q28_5 {R : Type} (g : List Item -> St -> Option R) : GT_q28_5 R := fun (i k : Int) (o0 : List (List Int)) => g (at' Tryz.f23 5) (sta_q28_5 i k o0)

abbrev sta_q28_9 (i : Int) (o0 : List (List Int)) : St := ⟨fr0 77 [(0, .nst 0), (5, iv i)], [.nst ⟨false, 45, (.sl 3 (.int .i64)), o0⟩]⟩

abbrev gt_q28_9 {R : Type} (g : List Item -> St -> Option R) : GT_q28_9 R := fun (i : Int) (o0 : List (List Int)) => g (at' Tryz.f23 9) (sta_q28_9 i o0)

abbrev sta_q28_13a (i : Int) (x : Nat) (k : Int) (o0 : List (List Int)) : St := ⟨fr0 77 [(0, .nst 0), (5, iv i), (6, .inn 0 x), (7, iv k)], [.nst ⟨false, 45, (.sl 3 (.int .i64)), o0⟩]⟩

abbrev gt_q28_13a {R : Type} (g : List Item -> St -> Option R) : GT_q28_13a R := fun (i : Int) (x : Nat) (k : Int) (o0 : List (List Int)) => g (at' Tryz.f23 13) (sta_q28_13a i x k o0)

abbrev sta_q28_17 (i : Int) (o0 : List (List Int)) : St := ⟨fr0 77 [(0, .nst 0), (8, iv i)], [.nst ⟨false, 45, (.sl 3 (.int .i64)), o0⟩]⟩

abbrev gt_q28_17 {R : Type} (g : List Item -> St -> Option R) : GT_q28_17 R := fun (i : Int) (o0 : List (List Int)) => g (at' Tryz.f23 17) (sta_q28_17 i o0)

abbrev sta_q28_13b (i k : Int) (o0 : List (List Int)) (o1 o1_1 : Nat) : St := ⟨fr0 77 [(0, .nst 0), (5, iv i), (6, .grn 1), (7, iv k)], [.nst ⟨false, 45, (.sl 3 (.int .i64)), o0⟩, .grn 0 o1 3 1 o1_1]⟩

abbrev gt_q28_13b {R : Type} (g : List Item -> St -> Option R) : GT_q28_13b R := fun (i k : Int) (o0 : List (List Int)) (o1 o1_1 : Nat) => g (at' Tryz.f23 13) (sta_q28_13b i k o0 o1 o1_1)

abbrev sta_q28_20 (i k : Int) (o0 : List (List Int)) : St := ⟨fr0 77 [(0, .nst 0), (8, iv i), (9, iv k)], [.nst ⟨false, 45, (.sl 3 (.int .i64)), o0⟩]⟩

abbrev gt_q28_20 {R : Type} (g : List Item -> St -> Option R) : GT_q28_20 R := fun (i k : Int) (o0 : List (List Int)) => g (at' Tryz.f23 20) (sta_q28_20 i k o0)

abbrev gtt_q28 {R : Type} (g : List Item -> St -> Option R) : RT_q28 R := ((gt_q28_2 g), (gt_q28_5 g), (gt_q28_9 g), (gt_q28_13a g), (gt_q28_17 g), (gt_q28_13b g), (gt_q28_20 g))

theorem gstep_q28_2 {R : Type} (g : List Item -> St -> Option R) (K : AV -> List O -> Option R) (i : Int) (o0 : List (List Int)) :
  runSeg Tryz.prog T_q28 cuts_q28 1 g (finish Tryz.prog Tryz.f23 1 K) (at' Tryz.f23 2) (sta_q28_2 i o0) =
  s_q28_2 (gtt_q28 g) (k0_q28 K) i o0 := by kernel_rfl

theorem gstep_q28_5 {R : Type} (g : List Item -> St -> Option R) (K : AV -> List O -> Option R) (i k : Int) (o0 : List (List Int)) :
  runSeg Tryz.prog T_q28 cuts_q28 1 g (finish Tryz.prog Tryz.f23 1 K) (at' Tryz.f23 5) (sta_q28_5 i k o0) =
  s_q28_5 (gtt_q28 g) (k0_q28 K) i k o0 := by kernel_rfl

theorem gstep_q28_9 {R : Type} (g : List Item -> St -> Option R) (K : AV -> List O -> Option R) (i : Int) (o0 : List (List Int)) :
  runSeg Tryz.prog T_q28 cuts_q28 1 g (finish Tryz.prog Tryz.f23 1 K) (at' Tryz.f23 9) (sta_q28_9 i o0) =
  s_q28_9 (gtt_q28 g) (k0_q28 K) i o0 := by kernel_rfl

theorem gstep_q28_13a {R : Type} (g : List Item -> St -> Option R) (K : AV -> List O -> Option R) (i : Int) (x : Nat) (k : Int) (o0 : List (List Int)) :
  runSeg Tryz.prog T_q28 cuts_q28 1 g (finish Tryz.prog Tryz.f23 1 K) (at' Tryz.f23 13) (sta_q28_13a i x k o0) =
  s_q28_13a (gtt_q28 g) (k0_q28 K) i x k o0 := by kernel_rfl

theorem gstep_q28_17 {R : Type} (g : List Item -> St -> Option R) (K : AV -> List O -> Option R) (i : Int) (o0 : List (List Int)) :
  runSeg Tryz.prog T_q28 cuts_q28 1 g (finish Tryz.prog Tryz.f23 1 K) (at' Tryz.f23 17) (sta_q28_17 i o0) =
  s_q28_17 (gtt_q28 g) (k0_q28 K) i o0 := by kernel_rfl

theorem gstep_q28_13b {R : Type} (g : List Item -> St -> Option R) (K : AV -> List O -> Option R) (i k : Int) (o0 : List (List Int)) (o1 o1_1 : Nat) :
  runSeg Tryz.prog T_q28 cuts_q28 1 g (finish Tryz.prog Tryz.f23 1 K) (at' Tryz.f23 13) (sta_q28_13b i k o0 o1 o1_1) =
  s_q28_13b (gtt_q28 g) (k0_q28 K) i k o0 o1 o1_1 := by kernel_rfl

theorem gstep_q28_20 {R : Type} (g : List Item -> St -> Option R) (K : AV -> List O -> Option R) (i k : Int) (o0 : List (List Int)) :
  runSeg Tryz.prog T_q28 cuts_q28 1 g (finish Tryz.prog Tryz.f23 1 K) (at' Tryz.f23 20) (sta_q28_20 i k o0) =
  s_q28_20 (gtt_q28 g) (k0_q28 K) i k o0 := by kernel_rfl

theorem gentry_q28 {R : Type} (fuel : Nat) (K : AV -> List O -> Option R) (o0 : List (List Int)) :
  fnRun Tryz.prog T_q28 cuts_q28 Tryz.f23 fuel [.nst 0] [.nst ⟨false, 45, (.sl 3 (.int .i64)), o0⟩] K =
  e_q28 (gtt_q28 (runO Tryz.prog T_q28 cuts_q28 1 (finish Tryz.prog Tryz.f23 1 K) fuel)) (k0_q28 K) o0 := by kernel_rfl

theorem runs_q28 {R : Type} (K : AV -> List O -> Option R) : ∀ fuel : Nat, gtt_q28 (runO Tryz.prog T_q28 cuts_q28 1 (finish Tryz.prog Tryz.f23 1 K) fuel) = run_q28 (k0_q28 K) fuel
 |0 => rfl
 |fuel + 1 => by
  have ih := runs_q28 K fuel
  refine Prod.ext ?_ (Prod.ext ?_ (Prod.ext ?_ (Prod.ext ?_ (Prod.ext ?_ (Prod.ext ?_ ?_)))))
  ·funext i o0
   exact (gstep_q28_2 _ K i o0).trans (by rw [ih]; rfl)
  ·funext i k o0
   exact (gstep_q28_5 _ K i k o0).trans (by rw [ih]; rfl)
  ·funext i o0
   exact (gstep_q28_9 _ K i o0).trans (by rw [ih]; rfl)
  ·funext i x k o0
   exact (gstep_q28_13a _ K i x k o0).trans (by rw [ih]; rfl)
  ·funext i o0
   exact (gstep_q28_17 _ K i o0).trans (by rw [ih]; rfl)
  ·funext i k o0 o1 o1_1
   exact (gstep_q28_13b _ K i k o0 o1 o1_1).trans (by rw [ih]; rfl)
  ·funext i k o0
   exact (gstep_q28_20 _ K i k o0).trans (by rw [ih]; rfl)

def S_q28 (l_q28 : LT_q28) : Sum := ⟨[0], fun {R} args ob K => match args, ob with
 |[.nst 0], [.nst ⟨false, 45, (.sl 3 (.int .i64)), o0⟩] => l_q28 o0 (k0_q28 K)
 |_, _ => none⟩

theorem sound_q28 : Sound Tryz.prog 23 (S_q28 @l_q28) := by
 refine fn_sound (cuts := cuts_q28) (fn := Tryz.f23) (Γ := T_q28) wide right_T_q28 Tryz.func23 fun {R} K r args ob h => ?_
 unfold S_q28 at h
 dsimp only at h
 split at h
 ·obtain ⟨n, hn⟩ := ok_q28 _ _ h
  refine ⟨Nat.le_of_ble_eq_true (by kernel_rfl), n, (gentry_q28 n K _).trans ?_⟩
  rw [(runs_q28 K n)]
  exact hn
 ·cases h

theorem call_q28 : Callable Tryz.prog 23 := ⟨_, Tryz.func23, by kernel_rfl, by kernel_rfl⟩

def T_q29 (a0 : LT_q1m) (a1 : LT_q17) (a2 : LT_q27) (a3 : LT_q25) (a4 : LT_q1l) (a5 : LT_q21) (a6 : LT_q28) : FuncId -> Option Sum := (addS (addS (addS (addS (addS (addS (addS G0 11 (S_q1m @a0)) 18 (S_q17 @a1)) 22 (S_q27 @a2)) 20 (S_q25 @a3)) 14 (S_q1l @a4)) 19 (S_q21 @a5)) 23 (S_q28 @a6))

abbrev C_q29 : FuncId -> Option Sum := T_q29 @l_q1m @l_q17 @l_q27 @l_q25 @l_q1l @l_q21 @l_q28

theorem right_T_q29 : Right Tryz.prog C_q29 := (right_add (right_add (right_add (right_add (right_add (right_add (right_add right_G0 call_q1m sound_q1m) call_q17 sound_q17) call_q27 sound_q27) call_q25 sound_q25) call_q1l sound_q1l) call_q21 sound_q21) call_q28 sound_q28)

abbrev cuts_q29 : Cuts := [(6, [0, 3, 4, 5, 7]), (15, [4, 8, 11, 12, 13]), (22, [4, 12, 14])]

abbrev k0_q29 {R : Type} (K : AV -> List O -> Option R) : Bool -> Option R := fun r0 => K (.v (.bool r0)) []

abbrev sta_q29_6 (b : List Int) (e i : Int) (o0 : List Int) (o1 o1_1 o1_2 : Int) (o2 : List Ent) : St := ⟨fr0 121 [(0, rb 5 b), (3, .own 0), (4, .ptr 1 0), (5, iv e), (7, iv i)], [wb 5 o0, .box 24 [iv o1, iv o1_1, iv o1_2, .nst 2], .fst ⟨true, 53, (.pr (.pr (.int .i64) (.pr (.sl 3 (.int .i64)) (.pr (.int .i64) (.pr (.int .i64) (.pr (.int .i64) (.pr (.int .i64) (.pr (.sl 3 (.int .i64)) (.sl 3 (.int .i64))))))))) (.pr (.int .i64) (.pr (.sl 3 (.int .i64)) (.sl 3 (.int .i64))))), o2⟩ 0]⟩

abbrev gt_q29_6 {R : Type} (g : List Item -> St -> Option R) : GT_q29_6 R := fun (b : List Int) (e i : Int) (o0 : List Int) (o1 o1_1 o1_2 : Int) (o2 : List Ent) => g (at' Tryz.f7 6) (sta_q29_6 b e i o0 o1 o1_1 o1_2 o2)

abbrev sta_q29_15 (i o0 o0_1 o0_2 : Int) (o1 : List Ent) (o2 o2_1 o2_2 : Int) (o3 : List Ent) (o4 : List (Int × (List Int × List Int))) (o4_1 : Nat) (o5 : List (List Int)) : St := ⟨fr0 121 [(4, .ptr 0 0), (8, .ptr 2 0), (11, .nst 4), (12, .nst 5), (13, iv i)], [.box 24 [iv o0, iv o0_1, iv o0_2, .nst 1], .fst ⟨true, 53, (.pr (.pr (.int .i64) (.pr (.sl 3 (.int .i64)) (.pr (.int .i64) (.pr (.int .i64) (.pr (.int .i64) (.pr (.int .i64) (.pr (.sl 3 (.int .i64)) (.sl 3 (.int .i64))))))))) (.pr (.int .i64) (.pr (.sl 3 (.int .i64)) (.sl 3 (.int .i64))))), o1⟩ 0, .box 24 [iv o2, iv o2_1, iv o2_2, .nst 3], .fst ⟨true, 53, (.pr (.pr (.int .i64) (.pr (.sl 3 (.int .i64)) (.pr (.int .i64) (.pr (.int .i64) (.pr (.int .i64) (.pr (.int .i64) (.pr (.sl 3 (.int .i64)) (.sl 3 (.int .i64))))))))) (.pr (.int .i64) (.pr (.sl 3 (.int .i64)) (.sl 3 (.int .i64))))), o3⟩ 0, .fst ⟨true, 51, (.pr (.int .i64) (.pr (.sl 3 (.int .i64)) (.sl 3 (.int .i64)))), o4⟩ o4_1, .nst ⟨true, 45, (.sl 3 (.int .i64)), o5⟩]⟩

abbrev gt_q29_15 {R : Type} (g : List Item -> St -> Option R) : GT_q29_15 R := fun (i o0 o0_1 o0_2 : Int) (o1 : List Ent) (o2 o2_1 o2_2 : Int) (o3 : List Ent) (o4 : List (Int × (List Int × List Int))) (o4_1 : Nat) (o5 : List (List Int)) => g (at' Tryz.f7 15) (sta_q29_15 i o0 o0_1 o0_2 o1 o2 o2_1 o2_2 o3 o4 o4_1 o5)

abbrev sta_q29_22 (i o0 o0_1 o0_2 : Int) (o1 : List Ent) (o1_1 : Nat) (o2 : List (List Int)) : St := ⟨fr0 121 [(4, .ptr 0 0), (12, .nst 2), (14, iv i)], [.box 24 [iv o0, iv o0_1, iv o0_2, .nst 1], .fst ⟨true, 53, (.pr (.pr (.int .i64) (.pr (.sl 3 (.int .i64)) (.pr (.int .i64) (.pr (.int .i64) (.pr (.int .i64) (.pr (.int .i64) (.pr (.sl 3 (.int .i64)) (.sl 3 (.int .i64))))))))) (.pr (.int .i64) (.pr (.sl 3 (.int .i64)) (.sl 3 (.int .i64))))), o1⟩ o1_1, .nst ⟨true, 45, (.sl 3 (.int .i64)), o2⟩]⟩

abbrev gt_q29_22 {R : Type} (g : List Item -> St -> Option R) : GT_q29_22 R := fun (i o0 o0_1 o0_2 : Int) (o1 : List Ent) (o1_1 : Nat) (o2 : List (List Int)) => g (at' Tryz.f7 22) (sta_q29_22 i o0 o0_1 o0_2 o1 o1_1 o2)

theorem gstep_q29_6 {a0 : LT_q1m} {a1 : LT_q17} {a2 : LT_q27} {a3 : LT_q25} {a4 : LT_q1l} {a5 : LT_q21} {a6 : LT_q28} {R : Type} (g : List Item -> St -> Option R) (K : AV -> List O -> Option R) (b : List Int) (e i : Int) (o0 : List Int) (o1 o1_1 o1_2 : Int) (o2 : List Ent) :
  runSeg Tryz.prog (T_q29 @a0 @a1 @a2 @a3 @a4 @a5 @a6) cuts_q29 0 g (finish Tryz.prog Tryz.f7 0 K) (at' Tryz.f7 6) (sta_q29_6 b e i o0 o1 o1_1 o1_2 o2) =
  gs_q29_6 @a0 @a1 @a2 @a3 @a4 @a5 @a6 (gt_q29_6 g) (gt_q29_15 g) (gt_q29_22 g) (k0_q29 K) b e i o0 o1 o1_1 o1_2 o2 := by kernel_rfl

theorem gstep_q29_15 {a0 : LT_q1m} {a1 : LT_q17} {a2 : LT_q27} {a3 : LT_q25} {a4 : LT_q1l} {a5 : LT_q21} {a6 : LT_q28} {R : Type} (g : List Item -> St -> Option R) (K : AV -> List O -> Option R) (i o0 o0_1 o0_2 : Int) (o1 : List Ent) (o2 o2_1 o2_2 : Int) (o3 : List Ent) (o4 : List (Int × (List Int × List Int))) (o4_1 : Nat) (o5 : List (List Int)) :
  runSeg Tryz.prog (T_q29 @a0 @a1 @a2 @a3 @a4 @a5 @a6) cuts_q29 0 g (finish Tryz.prog Tryz.f7 0 K) (at' Tryz.f7 15) (sta_q29_15 i o0 o0_1 o0_2 o1 o2 o2_1 o2_2 o3 o4 o4_1 o5) =
  gs_q29_15 @a0 @a1 @a2 @a3 @a4 @a5 @a6 (gt_q29_6 g) (gt_q29_15 g) (gt_q29_22 g) (k0_q29 K) i o0 o0_1 o0_2 o1 o2 o2_1 o2_2 o3 o4 o4_1 o5 := by kernel_rfl

theorem gstep_q29_22 {a0 : LT_q1m} {a1 : LT_q17} {a2 : LT_q27} {a3 : LT_q25} {a4 : LT_q1l} {a5 : LT_q21} {a6 : LT_q28} {R : Type} (g : List Item -> St -> Option R) (K : AV -> List O -> Option R) (i o0 o0_1 o0_2 : Int) (o1 : List Ent) (o1_1 : Nat) (o2 : List (List Int)) :
  runSeg Tryz.prog (T_q29 @a0 @a1 @a2 @a3 @a4 @a5 @a6) cuts_q29 0 g (finish Tryz.prog Tryz.f7 0 K) (at' Tryz.f7 22) (sta_q29_22 i o0 o0_1 o0_2 o1 o1_1 o2) =
  gs_q29_22 @a0 @a1 @a2 @a3 @a4 @a5 @a6 (gt_q29_6 g) (gt_q29_15 g) (gt_q29_22 g) (k0_q29 K) i o0 o0_1 o0_2 o1 o1_1 o2 := by kernel_rfl

theorem gentry_q29 {a0 : LT_q1m} {a1 : LT_q17} {a2 : LT_q27} {a3 : LT_q25} {a4 : LT_q1l} {a5 : LT_q21} {a6 : LT_q28} {R : Type} (fuel : Nat) (K : AV -> List O -> Option R) (b : List Int) :
  fnRun Tryz.prog (T_q29 @a0 @a1 @a2 @a3 @a4 @a5 @a6) cuts_q29 Tryz.f7 fuel [rb 5 b] [] K =
  ge_q29 @a0 @a1 @a2 @a3 @a4 @a5 @a6 (gt_q29_6 (runO Tryz.prog (T_q29 @a0 @a1 @a2 @a3 @a4 @a5 @a6) cuts_q29 0 (finish Tryz.prog Tryz.f7 0 K) fuel)) (gt_q29_15 (runO Tryz.prog (T_q29 @a0 @a1 @a2 @a3 @a4 @a5 @a6) cuts_q29 0 (finish Tryz.prog Tryz.f7 0 K) fuel)) (gt_q29_22 (runO Tryz.prog (T_q29 @a0 @a1 @a2 @a3 @a4 @a5 @a6) cuts_q29 0 (finish Tryz.prog Tryz.f7 0 K) fuel)) (k0_q29 K) b := by kernel_rfl

theorem runs_q29 {R : Type} (K : AV -> List O -> Option R) : ∀ fuel : Nat,
  (gt_q29_6 (runO Tryz.prog C_q29 cuts_q29 0 (finish Tryz.prog Tryz.f7 0 K) fuel)) = (run_q29 (k0_q29 K) fuel).1 ∧
  (gt_q29_15 (runO Tryz.prog C_q29 cuts_q29 0 (finish Tryz.prog Tryz.f7 0 K) fuel)) = (run_q29 (k0_q29 K) fuel).2.1 ∧
  (gt_q29_22 (runO Tryz.prog C_q29 cuts_q29 0 (finish Tryz.prog Tryz.f7 0 K) fuel)) = (run_q29 (k0_q29 K) fuel).2.2
 |0 => ⟨rfl, rfl, rfl⟩
 |fuel + 1 => by
  have ih := runs_q29 K fuel
  refine ⟨?_, ?_, ?_⟩
  ·funext b e i o0 o1 o1_1 o1_2 o2
   refine (gstep_q29_6 _ K b e i o0 o1 o1_1 o1_2 o2).trans ?_
   rw [ih.1, ih.2.1, ih.2.2]
   rfl
  ·funext i o0 o0_1 o0_2 o1 o2 o2_1 o2_2 o3 o4 o4_1 o5
   refine (gstep_q29_15 _ K i o0 o0_1 o0_2 o1 o2 o2_1 o2_2 o3 o4 o4_1 o5).trans ?_
   rw [ih.1, ih.2.1, ih.2.2]
   rfl
  ·funext i o0 o0_1 o0_2 o1 o1_1 o2
   refine (gstep_q29_22 _ K i o0 o0_1 o0_2 o1 o1_1 o2).trans ?_
   rw [ih.1, ih.2.1, ih.2.2]
   rfl

def S_q29 (l_q29 : LT_q29) : Sum := ⟨[], fun {R} args ob K => match args, ob with
 |[.rd ⟨false, 5, (.int .u8), b⟩], [] => l_q29 b (k0_q29 K)
 |_, _ => none⟩

theorem sound_q29 : Sound Tryz.prog 7 (S_q29 @l_q29) := by
 refine fn_sound (cuts := cuts_q29) (fn := Tryz.f7) (Γ := C_q29) wide right_T_q29 Tryz.func7 fun {R} K r args ob h => ?_
 unfold S_q29 at h
 dsimp only at h
 split at h
 ·obtain ⟨n, hn⟩ := evl_ok h
  refine ⟨Nat.le_of_ble_eq_true (by kernel_rfl), n, (gentry_q29 n K _).trans ?_⟩
  rw [(runs_q29 K n).1, (runs_q29 K n).2.1, (runs_q29 K n).2.2]
  exact hn
 ·cases h

theorem call_q29 : Callable Tryz.prog 7 := ⟨_, Tryz.func7, by kernel_rfl, by kernel_rfl⟩

end
end Go.Ev
