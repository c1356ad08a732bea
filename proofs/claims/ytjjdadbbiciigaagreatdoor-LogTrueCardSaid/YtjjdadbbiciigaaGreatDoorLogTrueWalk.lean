/- Each function of the program is its tree. -/
import Derived.Test.YtjjdadbbiciigaaGreatDoorProg
import Derived.Test.YtjjdadbbiciigaaGreatDoorTrEvFn
import Derived.Test.YtjjdadbbiciigaaGreatDoorTrEvTabs
import Derived.Test.YtjjdadbbiciigaaGreatDoorTrEvSrch
import Derived.Test.YtjjdadbbiciigaaGreatDoorTrEvLay9
import Derived.Test.YtjjdadbbiciigaaGreatDoorTrEvExpA9
import Derived.Test.YtjjdadbbiciigaaGreatDoorTrEvExpB9
import Derived.Test.YtjjdadbbiciigaaGreatDoorTrEvExpC9
import Derived.Test.YtjjdadbbiciigaaGreatDoorTrEvExpD9
import Derived.Test.YtjjdadbbiciigaaGreatDoorTrEvExpE9
import Derived.Test.YtjjdadbbiciigaaGreatDoorTrEvAs9
import Derived.Test.YtjjdadbbiciigaaGreatDoorTrEvAsE9
import Derived.Test.YtjjdadbbiciigaaGreatDoorLogTruePure
namespace Go.Ev
open Go.Proofs
noncomputable section
set_option linter.unusedVariables false
set_option linter.unusedSimpArgs false
set_option maxRecDepth 100000
set_option maxHeartbeats 4000000

variable [TabG] [TabsHold Tryz.prog] [CellHold ⟨1, 0, none⟩ (.iface 194 (.agg #[.pointer (some ⟨6, 143, none⟩)]))] [IntHold ⟨0, 0, none⟩]
set_option linter.unusedSectionVars false

instance : LoopG := ⟨fun k => rfOf Tryz.prog k⟩

theorem wide : Tables.follows Tryz.prog.toTables .mixedOrders = true := by kernel_rfl

def G0 : FuncId -> Option Sum := fun _ => none
theorem right_G0 : Right Tryz.prog G0 := fun f S h => by cases h

def T_q0 : FuncId -> Option Sum := G0

theorem right_T_q0 : Right Tryz.prog T_q0 := right_G0

abbrev cuts_q0 : Cuts := []

abbrev k0_q0 {R : Type} (K : AV -> List O -> Option R) : Bool -> Option R := fun r0 => K (.v (.bool r0)) []

theorem gentry_q0 {R : Type} (K : AV -> List O -> Option R) (m m_1 m_2 m_3 : Int) (m_4 m_5 : List Int) (states : Int) :
  fnRun Tryz.prog T_q0 cuts_q0 Tryz.f24 0 [.agg [iv m, iv m_1, iv m_2, iv m_3, ri 3 m_4, ri 3 m_5], iv states] [] K =
  l_q0 m m_1 m_2 m_3 m_4 m_5 states (k0_q0 K) := by kernel_rfl

def S_q0 (l_q0 : LT_q0) : Sum := ⟨[], fun {R} args ob K => match args, ob with
 |[.agg [.v (.int .i64 m), .v (.int .i64 m_1), .v (.int .i64 m_2), .v (.int .i64 m_3), .rd ⟨false, 3, (.int .i64), m_4⟩, .rd ⟨false, 3, (.int .i64), m_5⟩], .v (.int .i64 states)], [] => l_q0 m m_1 m_2 m_3 m_4 m_5 states (k0_q0 K)
 |_, _ => none⟩

theorem sound_q0 : Sound Tryz.prog 24 (S_q0 @l_q0) := by
 refine fn_sound (cuts := cuts_q0) (fn := Tryz.f24) (Γ := T_q0) wide right_T_q0 Tryz.func24 fun {R} K r args ob h => ?_
 unfold S_q0 at h
 dsimp only at h
 split at h
 ·exact ⟨Nat.le_of_ble_eq_true (by kernel_rfl), 0, (gentry_q0 K _ _ _ _ _ _ _).trans h⟩
 ·cases h

theorem call_q0 : Callable Tryz.prog 24 := ⟨_, Tryz.func24, by kernel_rfl, by kernel_rfl⟩


def S_q1 (l_q1 : LT_q1) : Sum := ⟨[], fun {R} args ob K => match args, ob with
 |[.rd ⟨false, _, .int .u8, xs⟩, .rd ⟨false, _, .int .u8, ys⟩], [] => l_q1 xs ys (fun r0 => K (.v (.int .i64 r0)) [])
 |_, _ => none⟩

theorem nilI_q1 {R : Type} (K : AV -> List O -> Option R) (y0 y1 : Int) (e1 e : TypeId) :
  fnRun Tryz.prog G0 [] Tryz.f63 0 [.rd ⟨false, e1, .int .u8, []⟩, .rd ⟨false, e, .int .u8, [y0, y1]⟩] [] K = K (.v (.int .i64 (-1))) [] := by kernel_rfl

theorem nilC_q1 {R : Type} (K : AV -> List O -> Option R) (y0 y1 : Int) (e1 e : TypeId) :
  fnRun Tryz.prog (addS G0 63 S_nilIndex) [] Tryz.f39 0 [.rd ⟨false, e1, .int .u8, []⟩, .rd ⟨false, e, .int .u8, [y0, y1]⟩] [] K = K (.v (.int .i64 0)) [] := by kernel_rfl

theorem sound_nil_bytes_Count : Sound Tryz.prog 39 S_nilCount := by
 have hI : Sound Tryz.prog 63 S_nilIndex := by
  refine fn_sound (cuts := []) (fn := Tryz.f63) (Γ := G0) wide right_G0 Tryz.func63 fun {R} K r args ob h => ?_
  unfold S_nilIndex at h
  dsimp only at h
  split at h
  ·exact ⟨Nat.le_of_ble_eq_true (by kernel_rfl), 0, (nilI_q1 K _ _ _ _).trans h⟩
  ·cases h
 have hc : Callable Tryz.prog 63 := ⟨_, Tryz.func63, by kernel_rfl, by kernel_rfl⟩
 have hΓ : Right Tryz.prog (addS G0 63 S_nilIndex) := right_add right_G0 hc hI
 have hF : ∀ {R : Type} (K : AV -> List O -> Option R) (r : R) (args : List AV) (ob : List O), S_nilCount.run args ob K = some r -> args.length ≤ Tryz.f39.ntmps ∧ ∃ n, fnRun Tryz.prog (addS G0 63 S_nilIndex) [] Tryz.f39 n args ob K = some r := by
  intro R K r args ob h
  unfold S_nilCount at h
  dsimp only at h
  split at h
  ·exact ⟨Nat.le_of_ble_eq_true (by kernel_rfl), 0, (nilC_q1 K _ _ _ _).trans h⟩
  ·cases h
 intro R K r args ob h vals w β rho pb disj hW hr
 exact fn_sound (S := S_nilCount) (cuts := []) (fn := Tryz.f39) (Γ := addS G0 63 S_nilIndex) wide hΓ Tryz.func39 (fun {R} => hF) (key_none (by decide)) K r args ob h vals w β rho pb disj hW hr

theorem sound_q1 : Sound Tryz.prog 39 (S_q1 @l_q1) := sound_Count (g := 0) Tryz.laysC13 rfl rfl inferInstance sound_nil_bytes_Count

theorem call_q1 : Callable Tryz.prog 39 := ⟨_, Tryz.func39, by kernel_rfl, by kernel_rfl⟩

def T_q2 : FuncId -> Option Sum := G0

theorem right_T_q2 : Right Tryz.prog T_q2 := right_G0

abbrev cuts_q2 : Cuts := [(1, [0, 1, 4])]

abbrev k0_q2 {R : Type} (K : AV -> List O -> Option R) : (List Int) -> Int -> Int -> Option R := fun r0 r1 r2 => K (.tup []) [.box 87 [rb 5 r0, iv r1, iv r2]]

abbrev sta_q2_1 (s : ByteArray) (i : Int) (o0 : List Int) (o0_1 o0_2 : Int) : St := ⟨fr0 54 [(0, .ptr 0 0), (1, .v (.string s)), (4, iv i)], [.box 87 [rb 5 o0, iv o0_1, iv o0_2]]⟩

abbrev gt_q2_1 {R : Type} (g : List Item -> St -> Option R) : GT_q2_1 R := fun (s : ByteArray) (i : Int) (o0 : List Int) (o0_1 o0_2 : Int) => g (at' Tryz.f64 1) (sta_q2_1 s i o0 o0_1 o0_2)

theorem gstep_q2_1 {R : Type} (g : List Item -> St -> Option R) (K : AV -> List O -> Option R) (s : ByteArray) (i : Int) (o0 : List Int) (o0_1 o0_2 : Int) :
  runSeg Tryz.prog T_q2 cuts_q2 1 g (finish Tryz.prog Tryz.f64 1 K) (at' Tryz.f64 1) (sta_q2_1 s i o0 o0_1 o0_2) =
  s_q2_1 (gt_q2_1 g) (k0_q2 K) s i o0 o0_1 o0_2 := by kernel_rfl

theorem gentry_q2 {R : Type} (fuel : Nat) (K : AV -> List O -> Option R) (s : ByteArray) (o0 : List Int) (o0_1 o0_2 : Int) :
  fnRun Tryz.prog T_q2 cuts_q2 Tryz.f64 fuel [.ptr 0 0, .v (.string s)] [.box 87 [rb 5 o0, iv o0_1, iv o0_2]] K =
  e_q2 (gt_q2_1 (runO Tryz.prog T_q2 cuts_q2 1 (finish Tryz.prog Tryz.f64 1 K) fuel)) (k0_q2 K) s o0 o0_1 o0_2 := by kernel_rfl

theorem runs_q2 {R : Type} (K : AV -> List O -> Option R) : ∀ fuel : Nat,
  (gt_q2_1 (runO Tryz.prog T_q2 cuts_q2 1 (finish Tryz.prog Tryz.f64 1 K) fuel)) = (run_q2 (k0_q2 K) fuel)
 |0 => rfl
 |fuel + 1 => by
  have ih := runs_q2 K fuel
  funext s i o0 o0_1 o0_2
  refine (gstep_q2_1 _ K s i o0 o0_1 o0_2).trans ?_
  rw [ih]
  rfl

def S_q2 (l_q2 : LT_q2) : Sum := ⟨[], fun {R} args ob K => match args, ob with
 |[.ptr 0 0, .v (.string s)], [.box 87 [.rd ⟨false, 5, (.int .u8), o0⟩, .v (.int .i64 o0_1), .v (.int .i64 o0_2)]] => l_q2 s o0 o0_1 o0_2 (k0_q2 K)
 |_, _ => none⟩

theorem sound_q2 : Sound Tryz.prog 64 (S_q2 @l_q2) := by
 refine fn_sound (cuts := cuts_q2) (fn := Tryz.f64) (Γ := T_q2) wide right_T_q2 Tryz.func64 fun {R} K r args ob h => ?_
 unfold S_q2 at h
 dsimp only at h
 split at h
 ·obtain ⟨n, hn⟩ := evl_ok h
  refine ⟨Nat.le_of_ble_eq_true (by kernel_rfl), n, (gentry_q2 n K _ _ _ _).trans ?_⟩
  rw [(runs_q2 K n)]
  exact hn
 ·cases h

theorem call_q2 : Callable Tryz.prog 64 := ⟨_, Tryz.func64, by kernel_rfl, by kernel_rfl⟩

def T_q3 : FuncId -> Option Sum := G0

theorem right_T_q3 : Right Tryz.prog T_q3 := right_G0

abbrev cuts_q3 : Cuts := []

abbrev k0_q3 {R : Type} (K : AV -> List O -> Option R) : Bool -> Option R := fun r0 => K (.v (.bool r0)) []

theorem gentry_q3 {R : Type} (K : AV -> List O -> Option R) (a b : List Int) :
  fnRun Tryz.prog T_q3 cuts_q3 Tryz.f83 0 [rb 5 a, rb 5 b] [] K =
  l_q3 a b (k0_q3 K) := by kernel_rfl

def S_q3 (l_q3 : LT_q3) : Sum := ⟨[], fun {R} args ob K => match args, ob with
 |[.rd ⟨false, 5, (.int .u8), a⟩, .rd ⟨false, 5, (.int .u8), b⟩], [] => l_q3 a b (k0_q3 K)
 |_, _ => none⟩

theorem sound_q3 : Sound Tryz.prog 83 (S_q3 @l_q3) := by
 refine fn_sound (cuts := cuts_q3) (fn := Tryz.f83) (Γ := T_q3) wide right_T_q3 Tryz.func83 fun {R} K r args ob h => ?_
 unfold S_q3 at h
 dsimp only at h
 split at h
 ·exact ⟨Nat.le_of_ble_eq_true (by kernel_rfl), 0, (gentry_q3 K _ _).trans h⟩
 ·cases h

theorem call_q3 : Callable Tryz.prog 83 := ⟨_, Tryz.func83, by kernel_rfl, by kernel_rfl⟩

def T_q4 (a0 : LT_q3) : FuncId -> Option Sum := (addS G0 83 (S_q3 @a0))

abbrev C_q4 : FuncId -> Option Sum := T_q4 @l_q3

theorem right_T_q4 : Right Tryz.prog C_q4 := (right_add right_G0 call_q3 sound_q3)

abbrev cuts_q4 : Cuts := []

abbrev k0_q4 {R : Type} (K : AV -> List O -> Option R) : Bool -> Option R := fun r0 => K (.v (.bool r0)) []

theorem gentry_q4 {a0 : LT_q3} {R : Type} (K : AV -> List O -> Option R) (s vprefix : List Int) :
  fnRun Tryz.prog (T_q4 @a0) cuts_q4 Tryz.f66 0 [rb 5 s, rb 5 vprefix] [] K =
  gl_q4 @a0 s vprefix (k0_q4 K) := by kernel_rfl

def S_q4 (l_q4 : LT_q4) : Sum := ⟨[], fun {R} args ob K => match args, ob with
 |[.rd ⟨false, 5, (.int .u8), s⟩, .rd ⟨false, 5, (.int .u8), vprefix⟩], [] => l_q4 s vprefix (k0_q4 K)
 |_, _ => none⟩

theorem sound_q4 : Sound Tryz.prog 66 (S_q4 @l_q4) := by
 refine fn_sound (cuts := cuts_q4) (fn := Tryz.f66) (Γ := C_q4) wide right_T_q4 Tryz.func66 fun {R} K r args ob h => ?_
 unfold S_q4 at h
 dsimp only at h
 split at h
 ·exact ⟨Nat.le_of_ble_eq_true (by kernel_rfl), 0, (gentry_q4 K _ _).trans h⟩
 ·cases h

theorem call_q4 : Callable Tryz.prog 66 := ⟨_, Tryz.func66, by kernel_rfl, by kernel_rfl⟩

def T_q5 (a0 : LT_q4) : FuncId -> Option Sum := (addS G0 66 (S_q4 @a0))

abbrev C_q5 : FuncId -> Option Sum := T_q5 @l_q4

theorem right_T_q5 : Right Tryz.prog C_q5 := (right_add right_G0 call_q4 sound_q4)

abbrev cuts_q5 : Cuts := []

abbrev k0_q5 {R : Type} (K : AV -> List O -> Option R) : Bool -> (List Int) -> Int -> Int -> Option R := fun r0 r1 r2 r3 => K (.v (.bool r0)) [.box 87 [rb 5 r1, iv r2, iv r3]]

theorem gentry_q5 {a0 : LT_q4} {R : Type} (K : AV -> List O -> Option R) (s : ByteArray) (o0 : List Int) (o0_1 o0_2 : Int) :
  fnRun Tryz.prog (T_q5 @a0) cuts_q5 Tryz.f41 0 [.ptr 0 0, .v (.string s)] [.box 87 [rb 5 o0, iv o0_1, iv o0_2]] K =
  gl_q5 @a0 s o0 o0_1 o0_2 (k0_q5 K) := by kernel_rfl

def S_q5 (l_q5 : LT_q5) : Sum := ⟨[], fun {R} args ob K => match args, ob with
 |[.ptr 0 0, .v (.string s)], [.box 87 [.rd ⟨false, 5, (.int .u8), o0⟩, .v (.int .i64 o0_1), .v (.int .i64 o0_2)]] => l_q5 s o0 o0_1 o0_2 (k0_q5 K)
 |_, _ => none⟩

theorem sound_q5 : Sound Tryz.prog 41 (S_q5 @l_q5) := by
 refine fn_sound (cuts := cuts_q5) (fn := Tryz.f41) (Γ := C_q5) wide right_T_q5 Tryz.func41 fun {R} K r args ob h => ?_
 unfold S_q5 at h
 dsimp only at h
 split at h
 ·exact ⟨Nat.le_of_ble_eq_true (by kernel_rfl), 0, (gentry_q5 K _ _ _ _).trans h⟩
 ·cases h

theorem call_q5 : Callable Tryz.prog 41 := ⟨_, Tryz.func41, by kernel_rfl, by kernel_rfl⟩

def T_q6 : FuncId -> Option Sum := G0

theorem right_T_q6 : Right Tryz.prog T_q6 := right_G0

abbrev cuts_q6 : Cuts := [(4, [0, 1, 4, 7])]

abbrev k0_q6 {R : Type} (K : AV -> List O -> Option R) : Int -> Int -> Int -> Option R := fun r0 r1 r2 => K (.tup [iv r0, iv r1, iv r2]) []

abbrev sta_q6_4 (b : List Int) (vat n i : Int) : St := ⟨fr0 70 [(0, rb 5 b), (1, iv vat), (4, iv n), (7, iv i)], []⟩

abbrev gt_q6_4 {R : Type} (g : List Item -> St -> Option R) : GT_q6_4 R := fun (b : List Int) (vat n i : Int) => g (at' Tryz.f87 4) (sta_q6_4 b vat n i)

theorem gstep_q6_4 {R : Type} (g : List Item -> St -> Option R) (K : AV -> List O -> Option R) (b : List Int) (vat n i : Int) :
  runSeg Tryz.prog T_q6 cuts_q6 0 g (finish Tryz.prog Tryz.f87 0 K) (at' Tryz.f87 4) (sta_q6_4 b vat n i) =
  s_q6_4 (gt_q6_4 g) (k0_q6 K) b vat n i := by kernel_rfl

theorem gentry_q6 {R : Type} (fuel : Nat) (K : AV -> List O -> Option R) (b : List Int) (vat : Int) :
  fnRun Tryz.prog T_q6 cuts_q6 Tryz.f87 fuel [rb 5 b, iv vat] [] K =
  e_q6 (gt_q6_4 (runO Tryz.prog T_q6 cuts_q6 0 (finish Tryz.prog Tryz.f87 0 K) fuel)) (k0_q6 K) b vat := by kernel_rfl

theorem runs_q6 {R : Type} (K : AV -> List O -> Option R) : ∀ fuel : Nat,
  (gt_q6_4 (runO Tryz.prog T_q6 cuts_q6 0 (finish Tryz.prog Tryz.f87 0 K) fuel)) = (run_q6 (k0_q6 K) fuel)
 |0 => rfl
 |fuel + 1 => by
  have ih := runs_q6 K fuel
  funext b vat n i
  refine (gstep_q6_4 _ K b vat n i).trans ?_
  rw [ih]
  rfl

def S_q6 (l_q6 : LT_q6) : Sum := ⟨[], fun {R} args ob K => match args, ob with
 |[.rd ⟨false, 5, (.int .u8), b⟩, .v (.int .i64 vat)], [] => l_q6 b vat (k0_q6 K)
 |_, _ => none⟩

theorem sound_q6 : Sound Tryz.prog 87 (S_q6 @l_q6) := by
 refine fn_sound (cuts := cuts_q6) (fn := Tryz.f87) (Γ := T_q6) wide right_T_q6 Tryz.func87 fun {R} K r args ob h => ?_
 unfold S_q6 at h
 dsimp only at h
 split at h
 ·obtain ⟨n, hn⟩ := ok_q6 _ _ _ h
  refine ⟨Nat.le_of_ble_eq_true (by kernel_rfl), n, (gentry_q6 n K _ _).trans ?_⟩
  rw [(runs_q6 K n)]
  exact hn
 ·cases h

theorem call_q6 : Callable Tryz.prog 87 := ⟨_, Tryz.func87, by kernel_rfl, by kernel_rfl⟩

def T_q7 (a0 : LT_q6) : FuncId -> Option Sum := (addS G0 87 (S_q6 @a0))

abbrev C_q7 : FuncId -> Option Sum := T_q7 @l_q6

theorem right_T_q7 : Right Tryz.prog C_q7 := (right_add right_G0 call_q6 sound_q6)

abbrev cuts_q7 : Cuts := []

abbrev k0_q7 {R : Type} (K : AV -> List O -> Option R) : Int -> (List Int) -> Int -> Int -> Option R := fun r0 r1 r2 r3 => K (iv r0) [.box 87 [rb 5 r1, iv r2, iv r3]]

theorem gentry_q7 {a0 : LT_q6} {R : Type} (K : AV -> List O -> Option R) (most kind : Int) (o0 : List Int) (o0_1 o0_2 : Int) :
  fnRun Tryz.prog (T_q7 @a0) cuts_q7 Tryz.f65 0 [.ptr 0 0, iv most, iv kind] [.box 87 [rb 5 o0, iv o0_1, iv o0_2]] K =
  gl_q7 @a0 most kind o0 o0_1 o0_2 (k0_q7 K) := by kernel_rfl

def S_q7 (l_q7 : LT_q7) : Sum := ⟨[], fun {R} args ob K => match args, ob with
 |[.ptr 0 0, .v (.int .i64 most), .v (.int .i64 kind)], [.box 87 [.rd ⟨false, 5, (.int .u8), o0⟩, .v (.int .i64 o0_1), .v (.int .i64 o0_2)]] => l_q7 most kind o0 o0_1 o0_2 (k0_q7 K)
 |_, _ => none⟩

theorem sound_q7 : Sound Tryz.prog 65 (S_q7 @l_q7) := by
 refine fn_sound (cuts := cuts_q7) (fn := Tryz.f65) (Γ := C_q7) wide right_T_q7 Tryz.func65 fun {R} K r args ob h => ?_
 unfold S_q7 at h
 dsimp only at h
 split at h
 ·exact ⟨Nat.le_of_ble_eq_true (by kernel_rfl), 0, (gentry_q7 K _ _ _ _ _).trans h⟩
 ·cases h

theorem call_q7 : Callable Tryz.prog 65 := ⟨_, Tryz.func65, by kernel_rfl, by kernel_rfl⟩

def T_q8 (a0 : LT_q2) (a1 : LT_q7) (a2 : LT_q5) : FuncId -> Option Sum := (addS (addS (addS G0 64 (S_q2 @a0)) 65 (S_q7 @a1)) 41 (S_q5 @a2))

abbrev C_q8 : FuncId -> Option Sum := T_q8 @l_q2 @l_q7 @l_q5

theorem right_T_q8 : Right Tryz.prog C_q8 := (right_add (right_add (right_add right_G0 call_q2 sound_q2) call_q7 sound_q7) call_q5 sound_q5)

abbrev cuts_q8 : Cuts := []

abbrev k0_q8 {R : Type} (K : AV -> List O -> Option R) : KT0_q8 R := fun r0 r1 r2 r3 r4 r5 r6 => K (.agg [iv r0, iv r1, iv r2, .own 1]) [.box 87 [rb 5 r3, iv r4, iv r5], .row ⟨true, 53, (.pr (.pr (.int .i64) (.pr (.sl 3 (.int .i64)) (.pr (.int .i64) (.pr (.int .i64) (.pr (.int .i64) (.pr (.int .i64) (.pr (.sl 3 (.int .i64)) (.sl 3 (.int .i64))))))))) (.pr (.int .i64) (.pr (.sl 3 (.int .i64)) (.sl 3 (.int .i64))))), r6⟩]

theorem gentry_q8 {a0 : LT_q2} {a1 : LT_q7} {a2 : LT_q5} {R : Type} (K : AV -> List O -> Option R) (o0 : List Int) (o0_1 o0_2 : Int) :
  fnRun Tryz.prog (T_q8 @a0 @a1 @a2) cuts_q8 Tryz.f40 0 [.ptr 0 0] [.box 87 [rb 5 o0, iv o0_1, iv o0_2]] K =
  gl_q8 @a0 @a1 @a2 o0 o0_1 o0_2 (k0_q8 K) := by kernel_rfl

def S_q8 (l_q8 : LT_q8) : Sum := ⟨[], fun {R} args ob K => match args, ob with
 |[.ptr 0 0], [.box 87 [.rd ⟨false, 5, (.int .u8), o0⟩, .v (.int .i64 o0_1), .v (.int .i64 o0_2)]] => l_q8 o0 o0_1 o0_2 (k0_q8 K)
 |_, _ => none⟩

theorem sound_q8 : Sound Tryz.prog 40 (S_q8 @l_q8) := by
 refine fn_sound (cuts := cuts_q8) (fn := Tryz.f40) (Γ := C_q8) wide right_T_q8 Tryz.func40 fun {R} K r args ob h => ?_
 unfold S_q8 at h
 dsimp only at h
 split at h
 ·exact ⟨Nat.le_of_ble_eq_true (by kernel_rfl), 0, (gentry_q8 K _ _ _).trans h⟩
 ·cases h

theorem call_q8 : Callable Tryz.prog 40 := ⟨_, Tryz.func40, by kernel_rfl, by kernel_rfl⟩

def T_q9 : FuncId -> Option Sum := G0

theorem right_T_q9 : Right Tryz.prog T_q9 := right_G0

abbrev cuts_q9 : Cuts := []

abbrev k0_q9 {R : Type} (K : AV -> List O -> Option R) : KT0_q9 R := fun r0 r1 r2 r3 r4 r5 r6 r7 => K (.agg [iv r0, ri 3 r1, iv r2, iv r3, iv r4, iv r5, .own 0, .own 1]) [wi 3 r6, wi 3 r7]

theorem gentry_q9 {R : Type} (K : AV -> List O -> Option R) (l l_1 l_2 : Int) (w : List Int) :
  fnRun Tryz.prog T_q9 cuts_q9 Tryz.f67 0 [.agg [iv l, iv l_1, iv l_2, .cel], ri 3 w] [] K =
  l_q9 l l_1 l_2 w (k0_q9 K) := by kernel_rfl

def S_q9 (l_q9 : LT_q9) : Sum := ⟨[], fun {R} args ob K => match args, ob with
 |[.agg [.v (.int .i64 l), .v (.int .i64 l_1), .v (.int .i64 l_2), .cel], .rd ⟨false, 3, (.int .i64), w⟩], [] => l_q9 l l_1 l_2 w (k0_q9 K)
 |_, _ => none⟩

theorem sound_q9 : Sound Tryz.prog 67 (S_q9 @l_q9) := by
 refine fn_sound (cuts := cuts_q9) (fn := Tryz.f67) (Γ := T_q9) wide right_T_q9 Tryz.func67 fun {R} K r args ob h => ?_
 unfold S_q9 at h
 dsimp only at h
 split at h
 ·exact ⟨Nat.le_of_ble_eq_true (by kernel_rfl), 0, (gentry_q9 K _ _ _ _).trans h⟩
 ·cases h

theorem call_q9 : Callable Tryz.prog 67 := ⟨_, Tryz.func67, by kernel_rfl, by kernel_rfl⟩

def T_qa (a0 : LT_q6) : FuncId -> Option Sum := (addS G0 87 (S_q6 @a0))

abbrev C_qa : FuncId -> Option Sum := T_qa @l_q6

theorem right_T_qa : Right Tryz.prog C_qa := (right_add right_G0 call_q6 sound_q6)

abbrev cuts_qa : Cuts := [(2, [0, 1, 5])]

abbrev k0_qa {R : Type} (K : AV -> List O -> Option R) : (List Int) -> Int -> Int -> (List Int) -> Option R := fun r0 r1 r2 r3 => K (.own 1) [.box 87 [rb 5 r0, iv r1, iv r2], wi 3 r3]

abbrev sta_qa_2 (vall : Bool) (o0 : List Int) (o0_1 o0_2 : Int) (o1 : List Int) : St := ⟨fr0 97 [(0, .ptr 0 0), (1, .v (.bool vall)), (5, .own 1)], [.box 87 [rb 5 o0, iv o0_1, iv o0_2], wi 3 o1]⟩

abbrev gt_qa_2 {R : Type} (g : List Item -> St -> Option R) : GT_qa_2 R := fun (vall : Bool) (o0 : List Int) (o0_1 o0_2 : Int) (o1 : List Int) => g (at' Tryz.f68 2) (sta_qa_2 vall o0 o0_1 o0_2 o1)

theorem gstep_qa_2 {a0 : LT_q6} {R : Type} (g : List Item -> St -> Option R) (K : AV -> List O -> Option R) (vall : Bool) (o0 : List Int) (o0_1 o0_2 : Int) (o1 : List Int) :
  runSeg Tryz.prog (T_qa @a0) cuts_qa 1 g (finish Tryz.prog Tryz.f68 1 K) (at' Tryz.f68 2) (sta_qa_2 vall o0 o0_1 o0_2 o1) =
  gs_qa_2 @a0 (gt_qa_2 g) (k0_qa K) vall o0 o0_1 o0_2 o1 := by kernel_rfl

theorem gentry_qa {a0 : LT_q6} {R : Type} (fuel : Nat) (K : AV -> List O -> Option R) (vall : Bool) (o0 : List Int) (o0_1 o0_2 : Int) :
  fnRun Tryz.prog (T_qa @a0) cuts_qa Tryz.f68 fuel [.ptr 0 0, .v (.bool vall)] [.box 87 [rb 5 o0, iv o0_1, iv o0_2]] K =
  ge_qa @a0 (gt_qa_2 (runO Tryz.prog (T_qa @a0) cuts_qa 1 (finish Tryz.prog Tryz.f68 1 K) fuel)) (k0_qa K) vall o0 o0_1 o0_2 := by kernel_rfl

theorem runs_qa {R : Type} (K : AV -> List O -> Option R) : ∀ fuel : Nat,
  (gt_qa_2 (runO Tryz.prog C_qa cuts_qa 1 (finish Tryz.prog Tryz.f68 1 K) fuel)) = (run_qa (k0_qa K) fuel)
 |0 => rfl
 |fuel + 1 => by
  have ih := runs_qa K fuel
  funext vall o0 o0_1 o0_2 o1
  refine (gstep_qa_2 _ K vall o0 o0_1 o0_2 o1).trans ?_
  rw [ih]
  rfl

def S_qa (l_qa : LT_qa) : Sum := ⟨[], fun {R} args ob K => match args, ob with
 |[.ptr 0 0, .v (.bool vall)], [.box 87 [.rd ⟨false, 5, (.int .u8), o0⟩, .v (.int .i64 o0_1), .v (.int .i64 o0_2)]] => l_qa vall o0 o0_1 o0_2 (k0_qa K)
 |_, _ => none⟩

theorem sound_qa : Sound Tryz.prog 68 (S_qa @l_qa) := by
 refine fn_sound (cuts := cuts_qa) (fn := Tryz.f68) (Γ := C_qa) wide right_T_qa Tryz.func68 fun {R} K r args ob h => ?_
 unfold S_qa at h
 dsimp only at h
 split at h
 ·obtain ⟨n, hn⟩ := evl_ok h
  refine ⟨Nat.le_of_ble_eq_true (by kernel_rfl), n, (gentry_qa n K _ _ _ _).trans ?_⟩
  rw [(runs_qa K n)]
  exact hn
 ·cases h

theorem call_qa : Callable Tryz.prog 68 := ⟨_, Tryz.func68, by kernel_rfl, by kernel_rfl⟩

def T_qb (a0 : LT_q2) (a1 : LT_qa) (a2 : LT_q9) : FuncId -> Option Sum := (addS (addS (addS G0 64 (S_q2 @a0)) 68 (S_qa @a1)) 67 (S_q9 @a2))

abbrev C_qb : FuncId -> Option Sum := T_qb @l_q2 @l_qa @l_q9

theorem right_T_qb : Right Tryz.prog C_qb := (right_add (right_add (right_add right_G0 call_q2 sound_q2) call_qa sound_qa) call_q9 sound_q9)

abbrev cuts_qb : Cuts := []

abbrev k0_qb {R : Type} (K : AV -> List O -> Option R) : KT0_qb R := fun r0 r1 r2 r3 r4 r5 r6 r7 r8 r9 r10 r11 r12 r13 => K (.agg [iv r0, .own 1, iv r1, iv r2, iv r3, iv r4, .own 2, .own 3, iv r5, .own 4, .own 5]) [.box 87 [rb 5 r6, iv r7, iv r8], wi 3 r9, wi 3 r10, wi 3 r11, wi 3 r12, wi 3 r13]

theorem gentry_qb {a0 : LT_q2} {a1 : LT_qa} {a2 : LT_q9} {R : Type} (K : AV -> List O -> Option R) (l l_1 l_2 : Int) (o0 : List Int) (o0_1 o0_2 : Int) :
  fnRun Tryz.prog (T_qb @a0 @a1 @a2) cuts_qb Tryz.f42 0 [.ptr 0 0, .agg [iv l, iv l_1, iv l_2, .cel]] [.box 87 [rb 5 o0, iv o0_1, iv o0_2]] K =
  gl_qb @a0 @a1 @a2 l l_1 l_2 o0 o0_1 o0_2 (k0_qb K) := by kernel_rfl

def S_qb (l_qb : LT_qb) : Sum := ⟨[98], fun {R} args ob K => match args, ob with
 |[.ptr 0 0, .agg [.v (.int .i64 l), .v (.int .i64 l_1), .v (.int .i64 l_2), .cel]], [.box 87 [.rd ⟨false, 5, (.int .u8), o0⟩, .v (.int .i64 o0_1), .v (.int .i64 o0_2)]] => l_qb l l_1 l_2 o0 o0_1 o0_2 (k0_qb K)
 |_, _ => none⟩

theorem sound_qb : Sound Tryz.prog 42 (S_qb @l_qb) := by
 refine fn_sound (cuts := cuts_qb) (fn := Tryz.f42) (Γ := C_qb) wide right_T_qb Tryz.func42 fun {R} K r args ob h => ?_
 unfold S_qb at h
 dsimp only at h
 split at h
 ·exact ⟨Nat.le_of_ble_eq_true (by kernel_rfl), 0, (gentry_qb K _ _ _ _ _ _).trans h⟩
 ·cases h

theorem call_qb : Callable Tryz.prog 42 := ⟨_, Tryz.func42, by kernel_rfl, by kernel_rfl⟩

def T_qc : FuncId -> Option Sum := G0

theorem right_T_qc : Right Tryz.prog T_qc := right_G0

abbrev cuts_qc : Cuts := []

abbrev k0_qc {R : Type} (K : AV -> List O -> Option R) : KT0_qc R := fun r0 r1 r2 r3 r4 r5 r6 r7 r8 r9 r10 => K (.ifc 93 (.agg [iv r0, ri 3 r1, iv r2, iv r3, iv r4, iv r5, ri 3 r6, ri 3 r7, iv r8, ri 3 r9, ri 3 r10])) []

abbrev k1_qc {R : Type} (K : AV -> List O -> Option R) : KT1_qc R := fun r0 r1 r2 r3 r4 r5 r6 r7 r8 r9 r10 => K (.ifc 95 (.agg [iv r0, ri 3 r1, iv r2, iv r3, iv r4, iv r5, ri 3 r6, ri 3 r7, iv r8, ri 3 r9, ri 3 r10])) []

abbrev k2_qc {R : Type} (K : AV -> List O -> Option R) : Option R := K (.v (.nilIface)) []

theorem gentry_qc {R : Type} (K : AV -> List O -> Option R) (e : Int) (e_1 : List Int) (e_2 e_3 e_4 e_5 : Int) (e_6 e_7 : List Int) (e_8 : Int) (e_9 e_10 : List Int) :
  fnRun Tryz.prog T_qc cuts_qc Tryz.f34 0 [.agg [iv e, ri 3 e_1, iv e_2, iv e_3, iv e_4, iv e_5, ri 3 e_6, ri 3 e_7, iv e_8, ri 3 e_9, ri 3 e_10]] [] K =
  l_qc e e_1 e_2 e_3 e_4 e_5 e_6 e_7 e_8 e_9 e_10 (k0_qc K) (k1_qc K) (k2_qc K) := by kernel_rfl

def S_qc (l_qc : LT_qc) : Sum := ⟨[], fun {R} args ob K => match args, ob with
 |[.agg [.v (.int .i64 e), .rd ⟨false, 3, (.int .i64), e_1⟩, .v (.int .i64 e_2), .v (.int .i64 e_3), .v (.int .i64 e_4), .v (.int .i64 e_5), .rd ⟨false, 3, (.int .i64), e_6⟩, .rd ⟨false, 3, (.int .i64), e_7⟩, .v (.int .i64 e_8), .rd ⟨false, 3, (.int .i64), e_9⟩, .rd ⟨false, 3, (.int .i64), e_10⟩]], [] => l_qc e e_1 e_2 e_3 e_4 e_5 e_6 e_7 e_8 e_9 e_10 (k0_qc K) (k1_qc K) (k2_qc K)
 |_, _ => none⟩

theorem sound_qc : Sound Tryz.prog 34 (S_qc @l_qc) := by
 refine fn_sound (cuts := cuts_qc) (fn := Tryz.f34) (Γ := T_qc) wide right_T_qc Tryz.func34 fun {R} K r args ob h => ?_
 unfold S_qc at h
 dsimp only at h
 split at h
 ·exact ⟨Nat.le_of_ble_eq_true (by kernel_rfl), 0, (gentry_qc K _ _ _ _ _ _ _ _ _ _ _).trans h⟩
 ·cases h

theorem call_qc : Callable Tryz.prog 34 := ⟨_, Tryz.func34, by kernel_rfl, by kernel_rfl⟩

def T_qd : FuncId -> Option Sum := G0

theorem right_T_qd : Right Tryz.prog T_qd := right_G0

abbrev cuts_qd : Cuts := []

abbrev k0_qd {R : Type} (K : AV -> List O -> Option R) : Bool -> Option R := fun r0 => K (.v (.bool r0)) []

theorem gentry_qd {R : Type} (K : AV -> List O -> Option R) (k : Int) :
  fnRun Tryz.prog T_qd cuts_qd Tryz.f90 0 [iv k] [] K =
  l_qd k (k0_qd K) := by kernel_rfl

def S_qd (l_qd : LT_qd) : Sum := ⟨[], fun {R} args ob K => match args, ob with
 |[.v (.int .i64 k)], [] => l_qd k (k0_qd K)
 |_, _ => none⟩

theorem sound_qd : Sound Tryz.prog 90 (S_qd @l_qd) := by
 refine fn_sound (cuts := cuts_qd) (fn := Tryz.f90) (Γ := T_qd) wide right_T_qd Tryz.func90 fun {R} K r args ob h => ?_
 unfold S_qd at h
 dsimp only at h
 split at h
 ·exact ⟨Nat.le_of_ble_eq_true (by kernel_rfl), 0, (gentry_qd K _).trans h⟩
 ·cases h

theorem call_qd : Callable Tryz.prog 90 := ⟨_, Tryz.func90, by kernel_rfl, by kernel_rfl⟩

def T_qe (a0 : LT_qd) : FuncId -> Option Sum := (addS G0 90 (S_qd @a0))

abbrev C_qe : FuncId -> Option Sum := T_qe @l_qd

theorem right_T_qe : Right Tryz.prog C_qe := (right_add right_G0 call_qd sound_qd)

abbrev cuts_qe : Cuts := [(6, [0, 1, 16, 17])]

abbrev k0_qe {R : Type} (K : AV -> List O -> Option R) : Int -> Int -> Option R := fun r0 r1 => K (.tup [iv r0, iv r1]) []

abbrev sta_qe_6 (w : List Int) (k x16 x17 : Int) : St := ⟨fr0 35 [(0, ri 3 w), (1, iv k), (16, iv x16), (17, iv x17)], []⟩

abbrev gt_qe_6 {R : Type} (g : List Item -> St -> Option R) : GT_qe_6 R := fun (w : List Int) (k x16 x17 : Int) => g (at' Tryz.f70 6) (sta_qe_6 w k x16 x17)

theorem gstep_qe_6 {a0 : LT_qd} {R : Type} (g : List Item -> St -> Option R) (K : AV -> List O -> Option R) (w : List Int) (k x16 x17 : Int) :
  runSeg Tryz.prog (T_qe @a0) cuts_qe 0 g (finish Tryz.prog Tryz.f70 0 K) (at' Tryz.f70 6) (sta_qe_6 w k x16 x17) =
  gs_qe_6 @a0 (gt_qe_6 g) (k0_qe K) w k x16 x17 := by kernel_rfl

theorem gentry_qe {a0 : LT_qd} {R : Type} (fuel : Nat) (K : AV -> List O -> Option R) (w : List Int) (k : Int) :
  fnRun Tryz.prog (T_qe @a0) cuts_qe Tryz.f70 fuel [ri 3 w, iv k] [] K =
  ge_qe @a0 (gt_qe_6 (runO Tryz.prog (T_qe @a0) cuts_qe 0 (finish Tryz.prog Tryz.f70 0 K) fuel)) (k0_qe K) w k := by kernel_rfl

theorem runs_qe {R : Type} (K : AV -> List O -> Option R) : ∀ fuel : Nat,
  (gt_qe_6 (runO Tryz.prog C_qe cuts_qe 0 (finish Tryz.prog Tryz.f70 0 K) fuel)) = (run_qe (k0_qe K) fuel)
 |0 => rfl
 |fuel + 1 => by
  have ih := runs_qe K fuel
  funext w k x16 x17
  refine (gstep_qe_6 _ K w k x16 x17).trans ?_
  rw [ih]
  rfl

def S_qe (l_qe : LT_qe) : Sum := ⟨[], fun {R} args ob K => match args, ob with
 |[.rd ⟨false, 3, (.int .i64), w⟩, .v (.int .i64 k)], [] => l_qe w k (k0_qe K)
 |_, _ => none⟩

theorem sound_qe : Sound Tryz.prog 70 (S_qe @l_qe) := by
 refine fn_sound (cuts := cuts_qe) (fn := Tryz.f70) (Γ := C_qe) wide right_T_qe Tryz.func70 fun {R} K r args ob h => ?_
 unfold S_qe at h
 dsimp only at h
 split at h
 ·obtain ⟨n, hn⟩ := ok_qe _ _ _ h
  refine ⟨Nat.le_of_ble_eq_true (by kernel_rfl), n, (gentry_qe n K _ _).trans ?_⟩
  rw [(runs_qe K n)]
  exact hn
 ·cases h

theorem call_qe : Callable Tryz.prog 70 := ⟨_, Tryz.func70, by kernel_rfl, by kernel_rfl⟩

def T_qf : FuncId -> Option Sum := G0

theorem right_T_qf : Right Tryz.prog T_qf := right_G0

abbrev cuts_qf : Cuts := []

abbrev k0_qf {R : Type} (K : AV -> List O -> Option R) : (List Int) -> Option R := fun r0 => K (.ifc 157 (.agg [ri 3 r0])) []

abbrev k1_qf {R : Type} (K : AV -> List O -> Option R) : Option R := K (.ifc 160 (.agg [])) []

abbrev k2_qf {R : Type} (K : AV -> List O -> Option R) : (List Int) -> Option R := fun r0 => K (.ifc 162 (.agg [ri 3 r0])) []

abbrev k3_qf {R : Type} (K : AV -> List O -> Option R) : Option R := K (.v (.nilIface)) []

theorem gentry_qf {R : Type} (K : AV -> List O -> Option R) (a : Int) (a_1 a_2 : List Int) :
  fnRun Tryz.prog T_qf cuts_qf Tryz.f91 0 [.agg [iv a, ri 3 a_1, ri 3 a_2]] [] K =
  l_qf a a_1 a_2 (k0_qf K) (k1_qf K) (k2_qf K) (k3_qf K) := by kernel_rfl

def S_qf (l_qf : LT_qf) : Sum := ⟨[], fun {R} args ob K => match args, ob with
 |[.agg [.v (.int .i64 a), .rd ⟨false, 3, (.int .i64), a_1⟩, .rd ⟨false, 3, (.int .i64), a_2⟩]], [] => l_qf a a_1 a_2 (k0_qf K) (k1_qf K) (k2_qf K) (k3_qf K)
 |_, _ => none⟩

theorem sound_qf : Sound Tryz.prog 91 (S_qf @l_qf) := by
 refine fn_sound (cuts := cuts_qf) (fn := Tryz.f91) (Γ := T_qf) wide right_T_qf Tryz.func91 fun {R} K r args ob h => ?_
 unfold S_qf at h
 dsimp only at h
 split at h
 ·exact ⟨Nat.le_of_ble_eq_true (by kernel_rfl), 0, (gentry_qf K _ _ _).trans h⟩
 ·cases h

theorem call_qf : Callable Tryz.prog 91 := ⟨_, Tryz.func91, by kernel_rfl, by kernel_rfl⟩

def T_qg : FuncId -> Option Sum := G0

theorem right_T_qg : Right Tryz.prog T_qg := right_G0

abbrev cuts_qg : Cuts := []

abbrev k0_qg {R : Type} (K : AV -> List O -> Option R) : Bool -> Int -> Option R := fun r0 r1 => K (.v (.bool r0)) [.box 3 [iv r1]]

theorem gentry_qg {R : Type} (K : AV -> List O -> Option R) (o o0 : Int) :
  fnRun Tryz.prog T_qg cuts_qg Tryz.f109 0 [iv o, .ptr 0 0] [.box 3 [iv o0]] K =
  l_qg o o0 (k0_qg K) := by kernel_rfl

def S_qg (l_qg : LT_qg) : Sum := ⟨[], fun {R} args ob K => match args, ob with
 |[.v (.int .i64 o), .ptr 0 0], [.box 3 [.v (.int .i64 o0)]] => l_qg o o0 (k0_qg K)
 |_, _ => none⟩

theorem sound_qg : Sound Tryz.prog 109 (S_qg @l_qg) := by
 refine fn_sound (cuts := cuts_qg) (fn := Tryz.f109) (Γ := T_qg) wide right_T_qg Tryz.func109 fun {R} K r args ob h => ?_
 unfold S_qg at h
 dsimp only at h
 split at h
 ·exact ⟨Nat.le_of_ble_eq_true (by kernel_rfl), 0, (gentry_qg K _ _).trans h⟩
 ·cases h

theorem call_qg : Callable Tryz.prog 109 := ⟨_, Tryz.func109, by kernel_rfl, by kernel_rfl⟩

def T_qi (a0 : LT_qg) : FuncId -> Option Sum := (addS G0 109 (S_qg @a0))

abbrev C_qi : FuncId -> Option Sum := T_qi @l_qg

theorem right_T_qi : Right Tryz.prog C_qi := (right_add right_G0 call_qg sound_qg)

abbrev cuts_qh : Cuts := [(2, [0, 1, 7, 8])]

abbrev k0_qh {R : Type} (K : AV -> List O -> Option R) : Int -> Int -> Option R := fun r0 r1 => K (iv r0) [.box 3 [iv r1]]

abbrev sta_qh_2 (s : List Int) (x7 x8 o0 : Int) : St := ⟨fr0 19 [(0, ri 3 s), (1, .clo 109 [.ptr 0 0]), (7, iv x7), (8, iv x8)], [.box 3 [iv o0]]⟩

abbrev gt_qh_2 {R : Type} (g : List Item -> St -> Option R) : GT_qh_2 R := fun (s : List Int) (x7 x8 o0 : Int) => g (at' Tryz.f115 2) (sta_qh_2 s x7 x8 o0)

theorem gstep_qh_2 {a0 : LT_qg} {R : Type} (g : List Item -> St -> Option R) (K : AV -> List O -> Option R) (s : List Int) (x7 x8 o0 : Int) :
  runSeg Tryz.prog (T_qi @a0) cuts_qh 1 g (finish Tryz.prog Tryz.f115 1 K) (at' Tryz.f115 2) (sta_qh_2 s x7 x8 o0) =
  gs_qh_2 @a0 (gt_qh_2 g) (k0_qh K) s x7 x8 o0 := by kernel_rfl

theorem gentry_qh {a0 : LT_qg} {R : Type} (fuel : Nat) (K : AV -> List O -> Option R) (s : List Int) (o0 : Int) :
  fnRun Tryz.prog (T_qi @a0) cuts_qh Tryz.f115 fuel [ri 3 s, .clo 109 [.ptr 0 0]] [.box 3 [iv o0]] K =
  ge_qh @a0 (gt_qh_2 (runO Tryz.prog (T_qi @a0) cuts_qh 1 (finish Tryz.prog Tryz.f115 1 K) fuel)) (k0_qh K) s o0 := by kernel_rfl

theorem runs_qh {R : Type} (K : AV -> List O -> Option R) : ∀ fuel : Nat,
  (gt_qh_2 (runO Tryz.prog C_qi cuts_qh 1 (finish Tryz.prog Tryz.f115 1 K) fuel)) = (run_qh (k0_qh K) fuel)
 |0 => rfl
 |fuel + 1 => by
  have ih := runs_qh K fuel
  funext s x7 x8 o0
  refine (gstep_qh_2 _ K s x7 x8 o0).trans ?_
  rw [ih]
  rfl

def S_qi (l_qh : LT_qh) : Sum := ⟨[], fun {R} args ob K => match args, ob with
 |[.rd ⟨false, 3, (.int .i64), s⟩, .clo 109 [.ptr 0 0]], [.box 3 [.v (.int .i64 o0)]] => l_qh s o0 (k0_qh K)
 |_, _ => none⟩

theorem sound_qi : Sound Tryz.prog 115 (S_qi @l_qh) := by
 refine fn_sound (cuts := cuts_qh) (fn := Tryz.f115) (Γ := C_qi) wide right_T_qi Tryz.func115 fun {R} K r args ob h => ?_
 unfold S_qi at h
 dsimp only at h
 split at h
 ·obtain ⟨n, hn⟩ := ok_qh _ _ _ h
  refine ⟨Nat.le_of_ble_eq_true (by kernel_rfl), n, (gentry_qh n K _ _).trans ?_⟩
  rw [(runs_qh K n)]
  exact hn
 ·cases h

theorem call_qi : Callable Tryz.prog 115 := ⟨_, Tryz.func115, by kernel_rfl, by kernel_rfl⟩

def T_qk (a0 : LT_qh) : FuncId -> Option Sum := (addS G0 115 (S_qi @a0))

abbrev C_qk : FuncId -> Option Sum := T_qk @l_qh

theorem right_T_qk : Right Tryz.prog C_qk := (right_add right_G0 call_qi sound_qi)

abbrev cuts_qj : Cuts := []

abbrev k0_qj {R : Type} (K : AV -> List O -> Option R) : Bool -> Int -> Option R := fun r0 r1 => K (.v (.bool r0)) [.box 3 [iv r1]]

theorem gentry_qj {a0 : LT_qh} {R : Type} (K : AV -> List O -> Option R) (s : List Int) (o0 : Int) :
  fnRun Tryz.prog (T_qk @a0) cuts_qj Tryz.f108 0 [ri 3 s, .clo 109 [.ptr 0 0]] [.box 3 [iv o0]] K =
  gl_qj @a0 s o0 (k0_qj K) := by kernel_rfl

def S_qk (l_qj : LT_qj) : Sum := ⟨[], fun {R} args ob K => match args, ob with
 |[.rd ⟨false, 3, (.int .i64), s⟩, .clo 109 [.ptr 0 0]], [.box 3 [.v (.int .i64 o0)]] => l_qj s o0 (k0_qj K)
 |_, _ => none⟩

theorem sound_qk : Sound Tryz.prog 108 (S_qk @l_qj) := by
 refine fn_sound (cuts := cuts_qj) (fn := Tryz.f108) (Γ := C_qk) wide right_T_qk Tryz.func108 fun {R} K r args ob h => ?_
 unfold S_qk at h
 dsimp only at h
 split at h
 ·exact ⟨Nat.le_of_ble_eq_true (by kernel_rfl), 0, (gentry_qj K _ _).trans h⟩
 ·cases h

theorem call_qk : Callable Tryz.prog 108 := ⟨_, Tryz.func108, by kernel_rfl, by kernel_rfl⟩

def T_ql (a0 : LT_qj) : FuncId -> Option Sum := (addS G0 108 (S_qk @a0))

abbrev C_ql : FuncId -> Option Sum := T_ql @l_qj

theorem right_T_ql : Right Tryz.prog C_ql := (right_add right_G0 call_qk sound_qk)

abbrev cuts_ql : Cuts := []

abbrev k0_ql {R : Type} (K : AV -> List O -> Option R) : Bool -> Option R := fun r0 => K (.v (.bool r0)) []

theorem gentry_ql {a0 : LT_qj} {R : Type} (K : AV -> List O -> Option R) (q : Int) (q_1 : List Int) (q_2 q_3 q_4 q_5 : Int) (q_6 q_7 out : List Int) :
  fnRun Tryz.prog (T_ql @a0) cuts_ql Tryz.f92 0 [.agg [iv q, ri 3 q_1, iv q_2, iv q_3, iv q_4, iv q_5, ri 3 q_6, ri 3 q_7], ri 3 out] [] K =
  gl_ql @a0 q q_1 q_2 q_3 q_4 q_5 q_6 q_7 out (k0_ql K) := by kernel_rfl

def S_ql (l_ql : LT_ql) : Sum := ⟨[], fun {R} args ob K => match args, ob with
 |[.agg [.v (.int .i64 q), .rd ⟨false, 3, (.int .i64), q_1⟩, .v (.int .i64 q_2), .v (.int .i64 q_3), .v (.int .i64 q_4), .v (.int .i64 q_5), .rd ⟨false, 3, (.int .i64), q_6⟩, .rd ⟨false, 3, (.int .i64), q_7⟩], .rd ⟨false, 3, (.int .i64), out⟩], [] => l_ql q q_1 q_2 q_3 q_4 q_5 q_6 q_7 out (k0_ql K)
 |_, _ => none⟩

theorem sound_ql : Sound Tryz.prog 92 (S_ql @l_ql) := by
 refine fn_sound (cuts := cuts_ql) (fn := Tryz.f92) (Γ := C_ql) wide right_T_ql Tryz.func92 fun {R} K r args ob h => ?_
 unfold S_ql at h
 dsimp only at h
 split at h
 ·exact ⟨Nat.le_of_ble_eq_true (by kernel_rfl), 0, (gentry_ql K _ _ _ _ _ _ _ _ _).trans h⟩
 ·cases h

theorem call_ql : Callable Tryz.prog 92 := ⟨_, Tryz.func92, by kernel_rfl, by kernel_rfl⟩

def T_qm (a0 : LT_ql) (a1 : LT_qe) (a2 : LT_qf) : FuncId -> Option Sum := (addS (addS (addS G0 92 (S_ql @a0)) 70 (S_qe @a1)) 91 (S_qf @a2))

abbrev C_qm : FuncId -> Option Sum := T_qm @l_ql @l_qe @l_qf

theorem right_T_qm : Right Tryz.prog C_qm := (right_add (right_add (right_add right_G0 call_ql sound_ql) call_qe sound_qe) call_qf sound_qf)

abbrev cuts_qm : Cuts := []

abbrev k0_qm {R : Type} (K : AV -> List O -> Option R) : Int -> Option R := fun r0 => K (iv r0) []

theorem gentry_qm {a0 : LT_ql} {a1 : LT_qe} {a2 : LT_qf} {R : Type} (K : AV -> List O -> Option R) (q : Int) (q_1 : List Int) (q_2 q_3 q_4 q_5 : Int) (q_6 q_7 : List Int) (a : Int) (a_1 a_2 : List Int) :
  fnRun Tryz.prog (T_qm @a0 @a1 @a2) cuts_qm Tryz.f71 0 [.agg [iv q, ri 3 q_1, iv q_2, iv q_3, iv q_4, iv q_5, ri 3 q_6, ri 3 q_7], .agg [iv a, ri 3 a_1, ri 3 a_2]] [] K =
  gl_qm @a0 @a1 @a2 q q_1 q_2 q_3 q_4 q_5 q_6 q_7 a a_1 a_2 (k0_qm K) := by kernel_rfl

def S_qm (l_qm : LT_qm) : Sum := ⟨[], fun {R} args ob K => match args, ob with
 |[.agg [.v (.int .i64 q), .rd ⟨false, 3, (.int .i64), q_1⟩, .v (.int .i64 q_2), .v (.int .i64 q_3), .v (.int .i64 q_4), .v (.int .i64 q_5), .rd ⟨false, 3, (.int .i64), q_6⟩, .rd ⟨false, 3, (.int .i64), q_7⟩], .agg [.v (.int .i64 a), .rd ⟨false, 3, (.int .i64), a_1⟩, .rd ⟨false, 3, (.int .i64), a_2⟩]], [] => l_qm q q_1 q_2 q_3 q_4 q_5 q_6 q_7 a a_1 a_2 (k0_qm K)
 |_, _ => none⟩

theorem sound_qm : Sound Tryz.prog 71 (S_qm @l_qm) := by
 refine fn_sound (cuts := cuts_qm) (fn := Tryz.f71) (Γ := C_qm) wide right_T_qm Tryz.func71 fun {R} K r args ob h => ?_
 unfold S_qm at h
 dsimp only at h
 split at h
 ·exact ⟨Nat.le_of_ble_eq_true (by kernel_rfl), 0, (gentry_qm K _ _ _ _ _ _ _ _ _ _ _).trans h⟩
 ·cases h

theorem call_qm : Callable Tryz.prog 71 := ⟨_, Tryz.func71, by kernel_rfl, by kernel_rfl⟩

def T_qn (a0 : LT_qm) (a1 : LT_q9) (a2 : LT_qe) : FuncId -> Option Sum := (addS (addS (addS G0 71 (S_qm @a0)) 67 (S_q9 @a1)) 70 (S_qe @a2))

abbrev C_qn : FuncId -> Option Sum := T_qn @l_qm @l_q9 @l_qe

theorem right_T_qn : Right Tryz.prog C_qn := (right_add (right_add (right_add right_G0 call_qm sound_qm) call_q9 sound_q9) call_qe sound_qe)

abbrev cuts_qn : Cuts := []

abbrev k0_qn {R : Type} (K : AV -> List O -> Option R) : Int -> Option R := fun r0 => K (iv r0) []

theorem gentry_qn {a0 : LT_qm} {a1 : LT_q9} {a2 : LT_qe} {R : Type} (K : AV -> List O -> Option R) (r : Int) (r_1 : List Int) (r_2 r_3 r_4 r_5 : Int) (r_6 r_7 : List Int) (r_8 : Int) (r_9 r_10 : List Int) (l l_1 l_2 : Int) :
  fnRun Tryz.prog (T_qn @a0 @a1 @a2) cuts_qn Tryz.f44 0 [.agg [iv r, ri 3 r_1, iv r_2, iv r_3, iv r_4, iv r_5, ri 3 r_6, ri 3 r_7, iv r_8, ri 3 r_9, ri 3 r_10], .agg [iv l, iv l_1, iv l_2, .cel]] [] K =
  gl_qn @a0 @a1 @a2 r r_1 r_2 r_3 r_4 r_5 r_6 r_7 r_8 r_9 r_10 l l_1 l_2 (k0_qn K) := by kernel_rfl

def S_qn (l_qn : LT_qn) : Sum := ⟨[98], fun {R} args ob K => match args, ob with
 |[.agg [.v (.int .i64 r), .rd ⟨false, 3, (.int .i64), r_1⟩, .v (.int .i64 r_2), .v (.int .i64 r_3), .v (.int .i64 r_4), .v (.int .i64 r_5), .rd ⟨false, 3, (.int .i64), r_6⟩, .rd ⟨false, 3, (.int .i64), r_7⟩, .v (.int .i64 r_8), .rd ⟨false, 3, (.int .i64), r_9⟩, .rd ⟨false, 3, (.int .i64), r_10⟩], .agg [.v (.int .i64 l), .v (.int .i64 l_1), .v (.int .i64 l_2), .cel]], [] => l_qn r r_1 r_2 r_3 r_4 r_5 r_6 r_7 r_8 r_9 r_10 l l_1 l_2 (k0_qn K)
 |_, _ => none⟩

theorem sound_qn : Sound Tryz.prog 44 (S_qn @l_qn) := by
 refine fn_sound (cuts := cuts_qn) (fn := Tryz.f44) (Γ := C_qn) wide right_T_qn Tryz.func44 fun {R} K r args ob h => ?_
 unfold S_qn at h
 dsimp only at h
 split at h
 ·exact ⟨Nat.le_of_ble_eq_true (by kernel_rfl), 0, (gentry_qn K _ _ _ _ _ _ _ _ _ _ _ _ _ _).trans h⟩
 ·cases h

theorem call_qn : Callable Tryz.prog 44 := ⟨_, Tryz.func44, by kernel_rfl, by kernel_rfl⟩

def T_qo : FuncId -> Option Sum := G0

theorem right_T_qo : Right Tryz.prog T_qo := right_G0

abbrev cuts_qo : Cuts := []

abbrev k0_qo {R : Type} (K : AV -> List O -> Option R) : Int -> Option R := fun r0 => K (iv r0) []

theorem gentry_qo {R : Type} (K : AV -> List O -> Option R) (m m_1 m_2 m_3 : Int) (m_4 m_5 : List Int) :
  fnRun Tryz.prog T_qo cuts_qo Tryz.f98 0 [.agg [iv m, iv m_1, iv m_2, iv m_3, ri 3 m_4, ri 3 m_5]] [] K =
  l_qo m m_1 m_2 m_3 m_4 m_5 (k0_qo K) := by kernel_rfl

def S_qo (l_qo : LT_qo) : Sum := ⟨[], fun {R} args ob K => match args, ob with
 |[.agg [.v (.int .i64 m), .v (.int .i64 m_1), .v (.int .i64 m_2), .v (.int .i64 m_3), .rd ⟨false, 3, (.int .i64), m_4⟩, .rd ⟨false, 3, (.int .i64), m_5⟩]], [] => l_qo m m_1 m_2 m_3 m_4 m_5 (k0_qo K)
 |_, _ => none⟩

theorem sound_qo : Sound Tryz.prog 98 (S_qo @l_qo) := by
 refine fn_sound (cuts := cuts_qo) (fn := Tryz.f98) (Γ := T_qo) wide right_T_qo Tryz.func98 fun {R} K r args ob h => ?_
 unfold S_qo at h
 dsimp only at h
 split at h
 ·exact ⟨Nat.le_of_ble_eq_true (by kernel_rfl), 0, (gentry_qo K _ _ _ _ _ _).trans h⟩
 ·cases h

theorem call_qo : Callable Tryz.prog 98 := ⟨_, Tryz.func98, by kernel_rfl, by kernel_rfl⟩

def T_qp (a0 : LT_qo) : FuncId -> Option Sum := (addS G0 98 (S_qo @a0))

abbrev C_qp : FuncId -> Option Sum := T_qp @l_qo

theorem right_T_qp : Right Tryz.prog C_qp := (right_add right_G0 call_qo sound_qo)

abbrev cuts_qp : Cuts := []

abbrev k0_qp {R : Type} (K : AV -> List O -> Option R) : Int -> Option R := fun r0 => K (iv r0) []

theorem gentry_qp {a0 : LT_qo} {R : Type} (K : AV -> List O -> Option R) (m m_1 m_2 m_3 : Int) (m_4 m_5 : List Int) :
  fnRun Tryz.prog (T_qp @a0) cuts_qp Tryz.f78 0 [.agg [iv m, iv m_1, iv m_2, iv m_3, ri 3 m_4, ri 3 m_5]] [] K =
  gl_qp @a0 m m_1 m_2 m_3 m_4 m_5 (k0_qp K) := by kernel_rfl

def S_qp (l_qp : LT_qp) : Sum := ⟨[], fun {R} args ob K => match args, ob with
 |[.agg [.v (.int .i64 m), .v (.int .i64 m_1), .v (.int .i64 m_2), .v (.int .i64 m_3), .rd ⟨false, 3, (.int .i64), m_4⟩, .rd ⟨false, 3, (.int .i64), m_5⟩]], [] => l_qp m m_1 m_2 m_3 m_4 m_5 (k0_qp K)
 |_, _ => none⟩

theorem sound_qp : Sound Tryz.prog 78 (S_qp @l_qp) := by
 refine fn_sound (cuts := cuts_qp) (fn := Tryz.f78) (Γ := C_qp) wide right_T_qp Tryz.func78 fun {R} K r args ob h => ?_
 unfold S_qp at h
 dsimp only at h
 split at h
 ·exact ⟨Nat.le_of_ble_eq_true (by kernel_rfl), 0, (gentry_qp K _ _ _ _ _ _).trans h⟩
 ·cases h

theorem call_qp : Callable Tryz.prog 78 := ⟨_, Tryz.func78, by kernel_rfl, by kernel_rfl⟩

def T_qq : FuncId -> Option Sum := G0

theorem right_T_qq : Right Tryz.prog T_qq := right_G0

abbrev cuts_qq : Cuts := [(2, [0, 1, 7, 8])]

abbrev k0_qq {R : Type} (K : AV -> List O -> Option R) : Int -> Option R := fun r0 => K (iv r0) []

abbrev sta_qq_2 (l : List Int) (n x7 x8 : Int) : St := ⟨fr0 21 [(0, ri 3 l), (1, iv n), (7, iv x7), (8, iv x8)], []⟩

abbrev gt_qq_2 {R : Type} (g : List Item -> St -> Option R) : GT_qq_2 R := fun (l : List Int) (n x7 x8 : Int) => g (at' Tryz.f79 2) (sta_qq_2 l n x7 x8)

theorem gstep_qq_2 {R : Type} (g : List Item -> St -> Option R) (K : AV -> List O -> Option R) (l : List Int) (n x7 x8 : Int) :
  runSeg Tryz.prog T_qq cuts_qq 0 g (finish Tryz.prog Tryz.f79 0 K) (at' Tryz.f79 2) (sta_qq_2 l n x7 x8) =
  s_qq_2 (gt_qq_2 g) (k0_qq K) l n x7 x8 := by kernel_rfl

theorem gentry_qq {R : Type} (fuel : Nat) (K : AV -> List O -> Option R) (l : List Int) (n : Int) :
  fnRun Tryz.prog T_qq cuts_qq Tryz.f79 fuel [ri 3 l, iv n] [] K =
  e_qq (gt_qq_2 (runO Tryz.prog T_qq cuts_qq 0 (finish Tryz.prog Tryz.f79 0 K) fuel)) (k0_qq K) l n := by kernel_rfl

theorem runs_qq {R : Type} (K : AV -> List O -> Option R) : ∀ fuel : Nat,
  (gt_qq_2 (runO Tryz.prog T_qq cuts_qq 0 (finish Tryz.prog Tryz.f79 0 K) fuel)) = (run_qq (k0_qq K) fuel)
 |0 => rfl
 |fuel + 1 => by
  have ih := runs_qq K fuel
  funext l n x7 x8
  refine (gstep_qq_2 _ K l n x7 x8).trans ?_
  rw [ih]
  rfl

def S_qq (l_qq : LT_qq) : Sum := ⟨[], fun {R} args ob K => match args, ob with
 |[.rd ⟨false, 3, (.int .i64), l⟩, .v (.int .i64 n)], [] => l_qq l n (k0_qq K)
 |_, _ => none⟩

theorem sound_qq : Sound Tryz.prog 79 (S_qq @l_qq) := by
 refine fn_sound (cuts := cuts_qq) (fn := Tryz.f79) (Γ := T_qq) wide right_T_qq Tryz.func79 fun {R} K r args ob h => ?_
 unfold S_qq at h
 dsimp only at h
 split at h
 ·obtain ⟨n, hn⟩ := ok_qq _ _ _ h
  refine ⟨Nat.le_of_ble_eq_true (by kernel_rfl), n, (gentry_qq n K _ _).trans ?_⟩
  rw [(runs_qq K n)]
  exact hn
 ·cases h

theorem call_qq : Callable Tryz.prog 79 := ⟨_, Tryz.func79, by kernel_rfl, by kernel_rfl⟩

def T_qr (a0 : LT_qq) (a1 : LT_qp) : FuncId -> Option Sum := (addS (addS G0 79 (S_qq @a0)) 78 (S_qp @a1))

abbrev C_qr : FuncId -> Option Sum := T_qr @l_qq @l_qp

theorem right_T_qr : Right Tryz.prog C_qr := (right_add (right_add right_G0 call_qq sound_qq) call_qp sound_qp)

abbrev cuts_qr : Cuts := []

abbrev k0_qr {R : Type} (K : AV -> List O -> Option R) : Int -> Int -> Option R := fun r0 r1 => K (.tup [iv r0, iv r1]) []

theorem gentry_qr {a0 : LT_qq} {a1 : LT_qp} {R : Type} (K : AV -> List O -> Option R) (m m_1 m_2 m_3 : Int) (m_4 m_5 : List Int) :
  fnRun Tryz.prog (T_qr @a0 @a1) cuts_qr Tryz.f53 0 [.agg [iv m, iv m_1, iv m_2, iv m_3, ri 3 m_4, ri 3 m_5]] [] K =
  gl_qr @a0 @a1 m m_1 m_2 m_3 m_4 m_5 (k0_qr K) := by kernel_rfl

def S_qr (l_qr : LT_qr) : Sum := ⟨[], fun {R} args ob K => match args, ob with
 |[.agg [.v (.int .i64 m), .v (.int .i64 m_1), .v (.int .i64 m_2), .v (.int .i64 m_3), .rd ⟨false, 3, (.int .i64), m_4⟩, .rd ⟨false, 3, (.int .i64), m_5⟩]], [] => l_qr m m_1 m_2 m_3 m_4 m_5 (k0_qr K)
 |_, _ => none⟩

theorem sound_qr : Sound Tryz.prog 53 (S_qr @l_qr) := by
 refine fn_sound (cuts := cuts_qr) (fn := Tryz.f53) (Γ := C_qr) wide right_T_qr Tryz.func53 fun {R} K r args ob h => ?_
 unfold S_qr at h
 dsimp only at h
 split at h
 ·exact ⟨Nat.le_of_ble_eq_true (by kernel_rfl), 0, (gentry_qr K _ _ _ _ _ _).trans h⟩
 ·cases h

theorem call_qr : Callable Tryz.prog 53 := ⟨_, Tryz.func53, by kernel_rfl, by kernel_rfl⟩

def T_qs : FuncId -> Option Sum := G0

theorem right_T_qs : Right Tryz.prog T_qs := right_G0

abbrev cuts_qs : Cuts := []

abbrev k0_qs {R : Type} (K : AV -> List O -> Option R) : Int -> Option R := fun r0 => K (iv r0) []

theorem gentry_qs {R : Type} (K : AV -> List O -> Option R) (l l_1 l_2 m m_1 m_2 m_3 : Int) (m_4 m_5 : List Int) :
  fnRun Tryz.prog T_qs cuts_qs Tryz.f54 0 [.agg [iv l, iv l_1, iv l_2, .cel], .agg [iv m, iv m_1, iv m_2, iv m_3, ri 3 m_4, ri 3 m_5]] [] K =
  l_qs l l_1 l_2 m m_1 m_2 m_3 m_4 m_5 (k0_qs K) := by kernel_rfl

abbrev cuts_q1y : Cuts := []

abbrev k0_q1y {R : Type} (K : AV -> List O -> Option R) : Int -> Option R := fun r0 => K (iv r0) []

theorem gentry_q1y {R : Type} (K : AV -> List O -> Option R) (l l_1 l_2 : Int) (l_3 : List Ent) (m m_1 m_2 m_3 : Int) (m_4 m_5 : List Int) :
  fnRun Tryz.prog T_qs cuts_q1y Tryz.f54 0 [.agg [iv l, iv l_1, iv l_2, .rd ⟨false, 53, (.pr (.pr (.int .i64) (.pr (.sl 3 (.int .i64)) (.pr (.int .i64) (.pr (.int .i64) (.pr (.int .i64) (.pr (.int .i64) (.pr (.sl 3 (.int .i64)) (.sl 3 (.int .i64))))))))) (.pr (.int .i64) (.pr (.sl 3 (.int .i64)) (.sl 3 (.int .i64))))), l_3⟩], .agg [iv m, iv m_1, iv m_2, iv m_3, ri 3 m_4, ri 3 m_5]] [] K =
  l_q1y l l_1 l_2 l_3 m m_1 m_2 m_3 m_4 m_5 (k0_q1y K) := by kernel_rfl

def S_qs (l_qs : LT_qs) (l_q1y : LT_q1y) : Sum := ⟨[], fun {R} args ob K => match args, ob with
 |[.agg [.v (.int .i64 l), .v (.int .i64 l_1), .v (.int .i64 l_2), .cel], .agg [.v (.int .i64 m), .v (.int .i64 m_1), .v (.int .i64 m_2), .v (.int .i64 m_3), .rd ⟨false, 3, (.int .i64), m_4⟩, .rd ⟨false, 3, (.int .i64), m_5⟩]], [] => l_qs l l_1 l_2 m m_1 m_2 m_3 m_4 m_5 (k0_qs K)
 |[.agg [.v (.int .i64 l), .v (.int .i64 l_1), .v (.int .i64 l_2), .rd ⟨false, 53, (.pr (.pr (.int .i64) (.pr (.sl 3 (.int .i64)) (.pr (.int .i64) (.pr (.int .i64) (.pr (.int .i64) (.pr (.int .i64) (.pr (.sl 3 (.int .i64)) (.sl 3 (.int .i64))))))))) (.pr (.int .i64) (.pr (.sl 3 (.int .i64)) (.sl 3 (.int .i64))))), l_3⟩], .agg [.v (.int .i64 m), .v (.int .i64 m_1), .v (.int .i64 m_2), .v (.int .i64 m_3), .rd ⟨false, 3, (.int .i64), m_4⟩, .rd ⟨false, 3, (.int .i64), m_5⟩]], [] => l_q1y l l_1 l_2 l_3 m m_1 m_2 m_3 m_4 m_5 (k0_q1y K)
 |_, _ => none⟩

theorem sound_qs : Sound Tryz.prog 54 (S_qs @l_qs @l_q1y) := by
 refine fn_sound (cuts := cuts_qs) (fn := Tryz.f54) (Γ := T_qs) wide right_T_qs Tryz.func54 fun {R} K r args ob h => ?_
 unfold S_qs at h
 dsimp only at h
 split at h
 ·exact ⟨Nat.le_of_ble_eq_true (by kernel_rfl), 0, (gentry_qs K _ _ _ _ _ _ _ _ _).trans h⟩
 ·exact ⟨Nat.le_of_ble_eq_true (by kernel_rfl), 0, (gentry_q1y K _ _ _ _ _ _ _ _ _ _).trans h⟩
 ·cases h

theorem call_qs : Callable Tryz.prog 54 := ⟨_, Tryz.func54, by kernel_rfl, by kernel_rfl⟩

def T_qt (a0 : LT_qm) (a1 : LT_qs) (a2 : LT_q1y) (a3 : LT_qr) : FuncId -> Option Sum := (addS (addS (addS G0 71 (S_qm @a0)) 54 (S_qs @a1 @a2)) 53 (S_qr @a3))

abbrev C_qt : FuncId -> Option Sum := T_qt @l_qm @l_qs @l_q1y @l_qr

theorem right_T_qt : Right Tryz.prog C_qt := (right_add (right_add (right_add right_G0 call_qm sound_qm) call_qs sound_qs) call_qr sound_qr)

abbrev cuts_qt : Cuts := []

abbrev k0_qt {R : Type} (K : AV -> List O -> Option R) : Int -> Option R := fun r0 => K (iv r0) []

theorem gentry_qt {a0 : LT_qm} {a1 : LT_qs} {a2 : LT_q1y} {a3 : LT_qr} {R : Type} (K : AV -> List O -> Option R) (r : Int) (r_1 : List Int) (r_2 r_3 r_4 r_5 : Int) (r_6 r_7 : List Int) (r_8 : Int) (r_9 r_10 : List Int) (l l_1 l_2 : Int) :
  fnRun Tryz.prog (T_qt @a0 @a1 @a2 @a3) cuts_qt Tryz.f45 0 [.agg [iv r, ri 3 r_1, iv r_2, iv r_3, iv r_4, iv r_5, ri 3 r_6, ri 3 r_7, iv r_8, ri 3 r_9, ri 3 r_10], .agg [iv l, iv l_1, iv l_2, .cel]] [] K =
  gl_qt @a0 @a1 @a3 r r_1 r_2 r_3 r_4 r_5 r_6 r_7 r_8 r_9 r_10 l l_1 l_2 (k0_qt K) := by kernel_rfl

def S_qt (l_qt : LT_qt) : Sum := ⟨[98], fun {R} args ob K => match args, ob with
 |[.agg [.v (.int .i64 r), .rd ⟨false, 3, (.int .i64), r_1⟩, .v (.int .i64 r_2), .v (.int .i64 r_3), .v (.int .i64 r_4), .v (.int .i64 r_5), .rd ⟨false, 3, (.int .i64), r_6⟩, .rd ⟨false, 3, (.int .i64), r_7⟩, .v (.int .i64 r_8), .rd ⟨false, 3, (.int .i64), r_9⟩, .rd ⟨false, 3, (.int .i64), r_10⟩], .agg [.v (.int .i64 l), .v (.int .i64 l_1), .v (.int .i64 l_2), .cel]], [] => l_qt r r_1 r_2 r_3 r_4 r_5 r_6 r_7 r_8 r_9 r_10 l l_1 l_2 (k0_qt K)
 |_, _ => none⟩

theorem sound_qt : Sound Tryz.prog 45 (S_qt @l_qt) := by
 refine fn_sound (cuts := cuts_qt) (fn := Tryz.f45) (Γ := C_qt) wide right_T_qt Tryz.func45 fun {R} K r args ob h => ?_
 unfold S_qt at h
 dsimp only at h
 split at h
 ·exact ⟨Nat.le_of_ble_eq_true (by kernel_rfl), 0, (gentry_qt K _ _ _ _ _ _ _ _ _ _ _ _ _ _).trans h⟩
 ·cases h

theorem call_qt : Callable Tryz.prog 45 := ⟨_, Tryz.func45, by kernel_rfl, by kernel_rfl⟩


def S_qu (l_qu : LT_qu) : Sum := ⟨[], fun {R} args ob K => match args, ob with
 |[.rd ⟨false, _, .int .u8, xs⟩, .rd ⟨false, _, .int .u8, ys⟩], [] => l_qu xs ys (fun r0 => K (.v (.int .i64 r0)) [])
 |_, _ => none⟩

theorem sound_qu : Sound Tryz.prog 63 (S_qu @l_qu) := sound_Index (g := 0) Tryz.laysC13 rfl rfl inferInstance

theorem call_qu : Callable Tryz.prog 63 := ⟨_, Tryz.func63, by kernel_rfl, by kernel_rfl⟩

def T_qw : FuncId -> Option Sum := G0

theorem right_T_qw : Right Tryz.prog T_qw := right_G0

abbrev cuts_qv : Cuts := [(1, [0, 1, 4])]

abbrev k0_qv {R : Type} (K : AV -> List O -> Option R) : (List Int) -> Int -> Int -> Int -> Option R := fun r0 r1 r2 r3 => K (.tup []) [.box 145 [rb 5 r0, iv r1, .ifc 147 (.ptr 1 0)], .box 151 [iv r2, iv r3]]

abbrev k1_qv {R : Type} (K : AV -> List O -> Option R) : (List Int) -> Int -> Option R := fun r0 r1 => K (.tup []) [.box 145 [rb 5 r0, iv r1, .v (.nilIface)]]

abbrev sta_qv_1 (s : ByteArray) (i : Int) (o0 : List Int) (o0_1 : Int) : St := ⟨fr0 61 [(0, .ptr 0 0), (1, .v (.string s)), (4, iv i)], [.box 145 [rb 5 o0, iv o0_1, .v (.nilIface)]]⟩

abbrev gt_qv_1 {R : Type} (g : List Item -> St -> Option R) : GT_qv_1 R := fun (s : ByteArray) (i : Int) (o0 : List Int) (o0_1 : Int) => g (at' Tryz.f103 1) (sta_qv_1 s i o0 o0_1)

theorem gstep_qv_1 {R : Type} (g : List Item -> St -> Option R) (K : AV -> List O -> Option R) (s : ByteArray) (i : Int) (o0 : List Int) (o0_1 : Int) :
  runSeg Tryz.prog T_qw cuts_qv 1 g (finish Tryz.prog Tryz.f103 1 K) (at' Tryz.f103 1) (sta_qv_1 s i o0 o0_1) =
  s_qv_1 (gt_qv_1 g) (k0_qv K) (k1_qv K) s i o0 o0_1 := by kernel_rfl

theorem gentry_qv {R : Type} (fuel : Nat) (K : AV -> List O -> Option R) (s : ByteArray) (o0 : List Int) (o0_1 : Int) :
  fnRun Tryz.prog T_qw cuts_qv Tryz.f103 fuel [.ptr 0 0, .v (.string s)] [.box 145 [rb 5 o0, iv o0_1, .v (.nilIface)]] K =
  e_qv (gt_qv_1 (runO Tryz.prog T_qw cuts_qv 1 (finish Tryz.prog Tryz.f103 1 K) fuel)) (k0_qv K) (k1_qv K) s o0 o0_1 := by kernel_rfl

theorem runs_qv {R : Type} (K : AV -> List O -> Option R) : ∀ fuel : Nat,
  (gt_qv_1 (runO Tryz.prog T_qw cuts_qv 1 (finish Tryz.prog Tryz.f103 1 K) fuel)) = (run_qv (k0_qv K) (k1_qv K) fuel)
 |0 => rfl
 |fuel + 1 => by
  have ih := runs_qv K fuel
  funext s i o0 o0_1
  refine (gstep_qv_1 _ K s i o0 o0_1).trans ?_
  rw [ih]
  rfl

abbrev cuts_qz : Cuts := [(1, [0, 1, 4])]

abbrev k0_qz {R : Type} (K : AV -> List O -> Option R) : (List Int) -> Int -> Int -> Int -> Option R := fun r0 r1 r2 r3 => K (.tup []) [.box 145 [rb 5 r0, iv r1, .ifc 147 (.ptr 1 0)], .box 151 [iv r2, iv r3]]

abbrev sta_qz_1 (s : ByteArray) (i : Int) (o0 : List Int) (o0_1 o1 o1_1 : Int) : St := ⟨fr0 61 [(0, .ptr 0 0), (1, .v (.string s)), (4, iv i)], [.box 145 [rb 5 o0, iv o0_1, .ifc 147 (.ptr 1 0)], .box 151 [iv o1, iv o1_1]]⟩

abbrev gt_qz_1 {R : Type} (g : List Item -> St -> Option R) : GT_qz_1 R := fun (s : ByteArray) (i : Int) (o0 : List Int) (o0_1 o1 o1_1 : Int) => g (at' Tryz.f103 1) (sta_qz_1 s i o0 o0_1 o1 o1_1)

theorem gstep_qz_1 {R : Type} (g : List Item -> St -> Option R) (K : AV -> List O -> Option R) (s : ByteArray) (i : Int) (o0 : List Int) (o0_1 o1 o1_1 : Int) :
  runSeg Tryz.prog T_qw cuts_qz 2 g (finish Tryz.prog Tryz.f103 2 K) (at' Tryz.f103 1) (sta_qz_1 s i o0 o0_1 o1 o1_1) =
  s_qz_1 (gt_qz_1 g) (k0_qz K) s i o0 o0_1 o1 o1_1 := by kernel_rfl

theorem gentry_qz {R : Type} (fuel : Nat) (K : AV -> List O -> Option R) (s : ByteArray) (o0 : List Int) (o0_1 o1 o1_1 : Int) :
  fnRun Tryz.prog T_qw cuts_qz Tryz.f103 fuel [.ptr 0 0, .v (.string s)] [.box 145 [rb 5 o0, iv o0_1, .ifc 147 (.ptr 1 0)], .box 151 [iv o1, iv o1_1]] K =
  e_qz (gt_qz_1 (runO Tryz.prog T_qw cuts_qz 2 (finish Tryz.prog Tryz.f103 2 K) fuel)) (k0_qz K) s o0 o0_1 o1 o1_1 := by kernel_rfl

theorem runs_qz {R : Type} (K : AV -> List O -> Option R) : ∀ fuel : Nat,
  (gt_qz_1 (runO Tryz.prog T_qw cuts_qz 2 (finish Tryz.prog Tryz.f103 2 K) fuel)) = (run_qz (k0_qz K) fuel)
 |0 => rfl
 |fuel + 1 => by
  have ih := runs_qz K fuel
  funext s i o0 o0_1 o1 o1_1
  refine (gstep_qz_1 _ K s i o0 o0_1 o1 o1_1).trans ?_
  rw [ih]
  rfl

def S_qw (l_qv : LT_qv) (l_qz : LT_qz) : Sum := ⟨[], fun {R} args ob K => match args, ob with
 |[.ptr 0 0, .v (.string s)], [.box 145 [.rd ⟨false, 5, (.int .u8), o0⟩, .v (.int .i64 o0_1), .v (.nilIface)]] => l_qv s o0 o0_1 (k0_qv K) (k1_qv K)
 |[.ptr 0 0, .v (.string s)], [.box 145 [.rd ⟨false, 5, (.int .u8), o0⟩, .v (.int .i64 o0_1), .ifc 147 (.ptr 1 0)], .box 151 [.v (.int .i64 o1), .v (.int .i64 o1_1)]] => l_qz s o0 o0_1 o1 o1_1 (k0_qz K)
 |_, _ => none⟩

theorem sound_qw : Sound Tryz.prog 103 (S_qw @l_qv @l_qz) := by
 refine fn_sound (cuts := cuts_qv) (fn := Tryz.f103) (Γ := T_qw) wide right_T_qw Tryz.func103 fun {R} K r args ob h => ?_
 unfold S_qw at h
 dsimp only at h
 split at h
 ·obtain ⟨n, hn⟩ := evl_ok h
  refine ⟨Nat.le_of_ble_eq_true (by kernel_rfl), n, (gentry_qv n K _ _ _).trans ?_⟩
  rw [(runs_qv K n)]
  exact hn
 ·obtain ⟨n, hn⟩ := evl_ok h
  refine ⟨Nat.le_of_ble_eq_true (by kernel_rfl), n, (gentry_qz n K _ _ _ _ _).trans ?_⟩
  rw [(runs_qz K n)]
  exact hn
 ·cases h

theorem call_qw : Callable Tryz.prog 103 := ⟨_, Tryz.func103, by kernel_rfl, by kernel_rfl⟩

def T_qy (a0 : LT_q6) : FuncId -> Option Sum := (addS G0 87 (S_q6 @a0))

abbrev C_qy : FuncId -> Option Sum := T_qy @l_q6

theorem right_T_qy : Right Tryz.prog C_qy := (right_add right_G0 call_q6 sound_q6)

abbrev cuts_qx : Cuts := []

abbrev k0_qx {R : Type} (K : AV -> List O -> Option R) : Int -> (List Int) -> Int -> Int -> Int -> Option R := fun r0 r1 r2 r3 r4 => K (iv r0) [.box 145 [rb 5 r1, iv r2, .ifc 147 (.ptr 1 0)], .box 151 [iv r3, iv r4]]

theorem gentry_qx {a0 : LT_q6} {R : Type} (K : AV -> List O -> Option R) (low high kind : Int) (o0 : List Int) (o0_1 o1 o1_1 : Int) :
  fnRun Tryz.prog (T_qy @a0) cuts_qx Tryz.f102 0 [.ptr 0 0, iv low, iv high, iv kind] [.box 145 [rb 5 o0, iv o0_1, .ifc 147 (.ptr 1 0)], .box 151 [iv o1, iv o1_1]] K =
  l_qx low high kind o0 o0_1 o1 o1_1 (k0_qx K) := by kernel_rfl

abbrev cuts_q10 : Cuts := []

abbrev k0_q10 {R : Type} (K : AV -> List O -> Option R) : Int -> (List Int) -> Int -> Int -> Int -> Option R := fun r0 r1 r2 r3 r4 => K (iv r0) [.box 145 [rb 5 r1, iv r2, .ifc 147 (.ptr 1 0)], .box 151 [iv r3, iv r4]]

abbrev k1_q10 {R : Type} (K : AV -> List O -> Option R) : Int -> (List Int) -> Int -> Option R := fun r0 r1 r2 => K (iv r0) [.box 145 [rb 5 r1, iv r2, .v (.nilIface)]]

theorem gentry_q10 {a0 : LT_q6} {R : Type} (K : AV -> List O -> Option R) (low high kind : Int) (o0 : List Int) (o0_1 : Int) :
  fnRun Tryz.prog (T_qy @a0) cuts_q10 Tryz.f102 0 [.ptr 0 0, iv low, iv high, iv kind] [.box 145 [rb 5 o0, iv o0_1, .v (.nilIface)]] K =
  gl_q10 @a0 low high kind o0 o0_1 (k0_q10 K) (k1_q10 K) := by kernel_rfl

def S_qy (l_qx : LT_qx) (l_q10 : LT_q10) : Sum := ⟨[], fun {R} args ob K => match args, ob with
 |[.ptr 0 0, .v (.int .i64 low), .v (.int .i64 high), .v (.int .i64 kind)], [.box 145 [.rd ⟨false, 5, (.int .u8), o0⟩, .v (.int .i64 o0_1), .ifc 147 (.ptr 1 0)], .box 151 [.v (.int .i64 o1), .v (.int .i64 o1_1)]] => l_qx low high kind o0 o0_1 o1 o1_1 (k0_qx K)
 |[.ptr 0 0, .v (.int .i64 low), .v (.int .i64 high), .v (.int .i64 kind)], [.box 145 [.rd ⟨false, 5, (.int .u8), o0⟩, .v (.int .i64 o0_1), .v (.nilIface)]] => l_q10 low high kind o0 o0_1 (k0_q10 K) (k1_q10 K)
 |_, _ => none⟩

theorem sound_qy : Sound Tryz.prog 102 (S_qy @l_qx @l_q10) := by
 refine fn_sound (cuts := cuts_qx) (fn := Tryz.f102) (Γ := C_qy) wide right_T_qy Tryz.func102 fun {R} K r args ob h => ?_
 unfold S_qy at h
 dsimp only at h
 split at h
 ·exact ⟨Nat.le_of_ble_eq_true (by kernel_rfl), 0, (gentry_qx K _ _ _ _ _ _ _).trans h⟩
 ·exact ⟨Nat.le_of_ble_eq_true (by kernel_rfl), 0, (gentry_q10 K _ _ _ _ _).trans h⟩
 ·cases h

theorem call_qy : Callable Tryz.prog 102 := ⟨_, Tryz.func102, by kernel_rfl, by kernel_rfl⟩

def T_q12 (a0 : LT_qv) (a1 : LT_qz) (a2 : LT_qx) (a3 : LT_q10) : FuncId -> Option Sum := (addS (addS G0 103 (S_qw @a0 @a1)) 102 (S_qy @a2 @a3))

abbrev C_q12 : FuncId -> Option Sum := T_q12 @l_qv @l_qz @l_qx @l_q10

theorem right_T_q12 : Right Tryz.prog C_q12 := (right_add (right_add right_G0 call_qw sound_qw) call_qy sound_qy)

abbrev cuts_q11 : Cuts := [(15, [0, 2, 3, 4, 5, 6]), (19, [0, 2, 3, 4, 5, 6]), (20, [0, 2, 3, 4, 5, 6, 7]), (21, [0, 2, 3, 4, 5, 6, 7]), (25, [0, 2, 3, 4, 5, 6, 7])]

abbrev k0_q11 {R : Type} (K : AV -> List O -> Option R) : KT0_q11 R := fun r0 r1 r2 r3 r4 r5 r6 r7 r8 r9 => K (.agg [iv r0, iv r1, iv r2, iv r3, .own 2, .own 3]) [.box 145 [rb 5 r4, iv r5, .ifc 147 (.ptr 1 0)], .box 151 [iv r6, iv r7], wi 3 r8, wi 3 r9]

abbrev k1_q11 {R : Type} (K : AV -> List O -> Option R) : KT1_q11 R := fun r0 r1 r2 r3 r4 r5 r6 r7 => K (.agg [iv r0, iv r1, iv r2, iv r3, .own 1, .own 2]) [.box 145 [rb 5 r4, iv r5, .v (.nilIface)], wi 3 r6, wi 3 r7]

abbrev sta_q11_15a (s : Int) (o0 : List Int) (o0_1 o1 o1_1 o2 o2_1 o2_2 o2_3 : Int) (o3 o4 : List Int) (o5 o5_1 o5_2 o5_3 : Int) (o6 o7 : List Int) : St := ⟨fr0 151 [(0, .ptr 0 0), (2, .ptr 2 0), (3, .ptr 5 0), (4, .bnd 102 [.ptr 0 0]), (5, .bnd 103 [.ptr 0 0]), (6, iv s)], [.box 145 [rb 5 o0, iv o0_1, .ifc 147 (.ptr 1 0)], .box 151 [iv o1, iv o1_1], .box 47 [iv o2, iv o2_1, iv o2_2, iv o2_3, .own 3, .own 4], wi 3 o3, wi 3 o4, .box 47 [iv o5, iv o5_1, iv o5_2, iv o5_3, .own 6, .own 7], wi 3 o6, wi 3 o7]⟩

abbrev gt_q11_15a {R : Type} (g : List Item -> St -> Option R) : GT_q11_15a R := fun (s : Int) (o0 : List Int) (o0_1 o1 o1_1 o2 o2_1 o2_2 o2_3 : Int) (o3 o4 : List Int) (o5 o5_1 o5_2 o5_3 : Int) (o6 o7 : List Int) => g (at' Tryz.f88 15) (sta_q11_15a s o0 o0_1 o1 o1_1 o2 o2_1 o2_2 o2_3 o3 o4 o5 o5_1 o5_2 o5_3 o6 o7)

abbrev sta_q11_15b (s : Int) (o0 : List Int) (o0_1 o1 o1_1 o1_2 o1_3 : Int) (o2 o3 : List Int) (o4 o4_1 o4_2 o4_3 : Int) (o5 o6 : List Int) : St := ⟨fr0 151 [(0, .ptr 0 0), (2, .ptr 1 0), (3, .ptr 4 0), (4, .bnd 102 [.ptr 0 0]), (5, .bnd 103 [.ptr 0 0]), (6, iv s)], [.box 145 [rb 5 o0, iv o0_1, .v (.nilIface)], .box 47 [iv o1, iv o1_1, iv o1_2, iv o1_3, .own 2, .own 3], wi 3 o2, wi 3 o3, .box 47 [iv o4, iv o4_1, iv o4_2, iv o4_3, .own 5, .own 6], wi 3 o5, wi 3 o6]⟩

abbrev gt_q11_15b {R : Type} (g : List Item -> St -> Option R) : GT_q11_15b R := fun (s : Int) (o0 : List Int) (o0_1 o1 o1_1 o1_2 o1_3 : Int) (o2 o3 : List Int) (o4 o4_1 o4_2 o4_3 : Int) (o5 o6 : List Int) => g (at' Tryz.f88 15) (sta_q11_15b s o0 o0_1 o1 o1_1 o1_2 o1_3 o2 o3 o4 o4_1 o4_2 o4_3 o5 o6)

abbrev sta_q11_19a (s : Int) (o0 : List Int) (o0_1 o1 o1_1 o2 o2_1 o2_2 o2_3 : Int) (o3 o4 : List Int) (o5 o5_1 o5_2 o5_3 : Int) (o6 o7 : List Int) : St := ⟨fr0 151 [(0, .ptr 0 0), (2, .ptr 2 0), (3, .ptr 5 0), (4, .bnd 102 [.ptr 0 0]), (5, .bnd 103 [.ptr 0 0]), (6, iv s)], [.box 145 [rb 5 o0, iv o0_1, .ifc 147 (.ptr 1 0)], .box 151 [iv o1, iv o1_1], .box 47 [iv o2, iv o2_1, iv o2_2, iv o2_3, .own 3, .own 4], wi 3 o3, wi 3 o4, .box 47 [iv o5, iv o5_1, iv o5_2, iv o5_3, .own 6, .own 7], wi 3 o6, wi 3 o7]⟩

abbrev gt_q11_19a {R : Type} (g : List Item -> St -> Option R) : GT_q11_19a R := fun (s : Int) (o0 : List Int) (o0_1 o1 o1_1 o2 o2_1 o2_2 o2_3 : Int) (o3 o4 : List Int) (o5 o5_1 o5_2 o5_3 : Int) (o6 o7 : List Int) => g (at' Tryz.f88 19) (sta_q11_19a s o0 o0_1 o1 o1_1 o2 o2_1 o2_2 o2_3 o3 o4 o5 o5_1 o5_2 o5_3 o6 o7)

abbrev sta_q11_19b (s : Int) (o0 : List Int) (o0_1 o1 o1_1 o1_2 o1_3 : Int) (o2 o3 : List Int) (o4 o4_1 o4_2 o4_3 : Int) (o5 o6 : List Int) : St := ⟨fr0 151 [(0, .ptr 0 0), (2, .ptr 1 0), (3, .ptr 4 0), (4, .bnd 102 [.ptr 0 0]), (5, .bnd 103 [.ptr 0 0]), (6, iv s)], [.box 145 [rb 5 o0, iv o0_1, .v (.nilIface)], .box 47 [iv o1, iv o1_1, iv o1_2, iv o1_3, .own 2, .own 3], wi 3 o2, wi 3 o3, .box 47 [iv o4, iv o4_1, iv o4_2, iv o4_3, .own 5, .own 6], wi 3 o5, wi 3 o6]⟩

abbrev gt_q11_19b {R : Type} (g : List Item -> St -> Option R) : GT_q11_19b R := fun (s : Int) (o0 : List Int) (o0_1 o1 o1_1 o1_2 o1_3 : Int) (o2 o3 : List Int) (o4 o4_1 o4_2 o4_3 : Int) (o5 o6 : List Int) => g (at' Tryz.f88 19) (sta_q11_19b s o0 o0_1 o1 o1_1 o1_2 o1_3 o2 o3 o4 o4_1 o4_2 o4_3 o5 o6)

abbrev sta_q11_20a (s x : Int) (o0 : List Int) (o0_1 o1 o1_1 o2 o2_1 o2_2 o2_3 : Int) (o3 o4 : List Int) (o5 o5_1 o5_2 o5_3 : Int) (o6 o7 : List Int) : St := ⟨fr0 151 [(0, .ptr 0 0), (2, .ptr 2 0), (3, .ptr 5 0), (4, .bnd 102 [.ptr 0 0]), (5, .bnd 103 [.ptr 0 0]), (6, iv s), (7, iv x)], [.box 145 [rb 5 o0, iv o0_1, .ifc 147 (.ptr 1 0)], .box 151 [iv o1, iv o1_1], .box 47 [iv o2, iv o2_1, iv o2_2, iv o2_3, .own 3, .own 4], wi 3 o3, wi 3 o4, .box 47 [iv o5, iv o5_1, iv o5_2, iv o5_3, .own 6, .own 7], wi 3 o6, wi 3 o7]⟩

abbrev gt_q11_20a {R : Type} (g : List Item -> St -> Option R) : GT_q11_20a R := fun (s x : Int) (o0 : List Int) (o0_1 o1 o1_1 o2 o2_1 o2_2 o2_3 : Int) (o3 o4 : List Int) (o5 o5_1 o5_2 o5_3 : Int) (o6 o7 : List Int) => g (at' Tryz.f88 20) (sta_q11_20a s x o0 o0_1 o1 o1_1 o2 o2_1 o2_2 o2_3 o3 o4 o5 o5_1 o5_2 o5_3 o6 o7)

abbrev sta_q11_20b (s x : Int) (o0 : List Int) (o0_1 o1 o1_1 o1_2 o1_3 : Int) (o2 o3 : List Int) (o4 o4_1 o4_2 o4_3 : Int) (o5 o6 : List Int) : St := ⟨fr0 151 [(0, .ptr 0 0), (2, .ptr 1 0), (3, .ptr 4 0), (4, .bnd 102 [.ptr 0 0]), (5, .bnd 103 [.ptr 0 0]), (6, iv s), (7, iv x)], [.box 145 [rb 5 o0, iv o0_1, .v (.nilIface)], .box 47 [iv o1, iv o1_1, iv o1_2, iv o1_3, .own 2, .own 3], wi 3 o2, wi 3 o3, .box 47 [iv o4, iv o4_1, iv o4_2, iv o4_3, .own 5, .own 6], wi 3 o5, wi 3 o6]⟩

abbrev gt_q11_20b {R : Type} (g : List Item -> St -> Option R) : GT_q11_20b R := fun (s x : Int) (o0 : List Int) (o0_1 o1 o1_1 o1_2 o1_3 : Int) (o2 o3 : List Int) (o4 o4_1 o4_2 o4_3 : Int) (o5 o6 : List Int) => g (at' Tryz.f88 20) (sta_q11_20b s x o0 o0_1 o1 o1_1 o1_2 o1_3 o2 o3 o4 o4_1 o4_2 o4_3 o5 o6)

abbrev sta_q11_25a (s x : Int) (o0 : List Int) (o0_1 o1 o1_1 o2 o2_1 o2_2 o2_3 : Int) (o3 o4 : List Int) (o5 o5_1 o5_2 o5_3 : Int) (o6 o7 : List Int) : St := ⟨fr0 151 [(0, .ptr 0 0), (2, .ptr 2 0), (3, .ptr 5 0), (4, .bnd 102 [.ptr 0 0]), (5, .bnd 103 [.ptr 0 0]), (6, iv s), (7, iv x)], [.box 145 [rb 5 o0, iv o0_1, .ifc 147 (.ptr 1 0)], .box 151 [iv o1, iv o1_1], .box 47 [iv o2, iv o2_1, iv o2_2, iv o2_3, .own 3, .own 4], wi 3 o3, wi 3 o4, .box 47 [iv o5, iv o5_1, iv o5_2, iv o5_3, .own 6, .own 7], wi 3 o6, wi 3 o7]⟩

abbrev gt_q11_25a {R : Type} (g : List Item -> St -> Option R) : GT_q11_25a R := fun (s x : Int) (o0 : List Int) (o0_1 o1 o1_1 o2 o2_1 o2_2 o2_3 : Int) (o3 o4 : List Int) (o5 o5_1 o5_2 o5_3 : Int) (o6 o7 : List Int) => g (at' Tryz.f88 25) (sta_q11_25a s x o0 o0_1 o1 o1_1 o2 o2_1 o2_2 o2_3 o3 o4 o5 o5_1 o5_2 o5_3 o6 o7)

abbrev sta_q11_25b (s x : Int) (o0 : List Int) (o0_1 o1 o1_1 o1_2 o1_3 : Int) (o2 o3 : List Int) (o4 o4_1 o4_2 o4_3 : Int) (o5 o6 : List Int) : St := ⟨fr0 151 [(0, .ptr 0 0), (2, .ptr 1 0), (3, .ptr 4 0), (4, .bnd 102 [.ptr 0 0]), (5, .bnd 103 [.ptr 0 0]), (6, iv s), (7, iv x)], [.box 145 [rb 5 o0, iv o0_1, .v (.nilIface)], .box 47 [iv o1, iv o1_1, iv o1_2, iv o1_3, .own 2, .own 3], wi 3 o2, wi 3 o3, .box 47 [iv o4, iv o4_1, iv o4_2, iv o4_3, .own 5, .own 6], wi 3 o5, wi 3 o6]⟩

abbrev gt_q11_25b {R : Type} (g : List Item -> St -> Option R) : GT_q11_25b R := fun (s x : Int) (o0 : List Int) (o0_1 o1 o1_1 o1_2 o1_3 : Int) (o2 o3 : List Int) (o4 o4_1 o4_2 o4_3 : Int) (o5 o6 : List Int) => g (at' Tryz.f88 25) (sta_q11_25b s x o0 o0_1 o1 o1_1 o1_2 o1_3 o2 o3 o4 o4_1 o4_2 o4_3 o5 o6)

abbrev sta_q11_21a (s x : Int) (o0 : List Int) (o0_1 o1 o1_1 o2 o2_1 o2_2 o2_3 : Int) (o3 o4 : List Int) (o5 o5_1 o5_2 o5_3 : Int) (o6 o7 : List Int) : St := ⟨fr0 151 [(0, .ptr 0 0), (2, .ptr 2 0), (3, .ptr 5 0), (4, .bnd 102 [.ptr 0 0]), (5, .bnd 103 [.ptr 0 0]), (6, iv s), (7, iv x)], [.box 145 [rb 5 o0, iv o0_1, .ifc 147 (.ptr 1 0)], .box 151 [iv o1, iv o1_1], .box 47 [iv o2, iv o2_1, iv o2_2, iv o2_3, .own 3, .own 4], wi 3 o3, wi 3 o4, .box 47 [iv o5, iv o5_1, iv o5_2, iv o5_3, .own 6, .own 7], wi 3 o6, wi 3 o7]⟩

abbrev gt_q11_21a {R : Type} (g : List Item -> St -> Option R) : GT_q11_21a R := fun (s x : Int) (o0 : List Int) (o0_1 o1 o1_1 o2 o2_1 o2_2 o2_3 : Int) (o3 o4 : List Int) (o5 o5_1 o5_2 o5_3 : Int) (o6 o7 : List Int) => g (at' Tryz.f88 21) (sta_q11_21a s x o0 o0_1 o1 o1_1 o2 o2_1 o2_2 o2_3 o3 o4 o5 o5_1 o5_2 o5_3 o6 o7)

abbrev sta_q11_21b (s x : Int) (o0 : List Int) (o0_1 o1 o1_1 o1_2 o1_3 : Int) (o2 o3 : List Int) (o4 o4_1 o4_2 o4_3 : Int) (o5 o6 : List Int) : St := ⟨fr0 151 [(0, .ptr 0 0), (2, .ptr 1 0), (3, .ptr 4 0), (4, .bnd 102 [.ptr 0 0]), (5, .bnd 103 [.ptr 0 0]), (6, iv s), (7, iv x)], [.box 145 [rb 5 o0, iv o0_1, .v (.nilIface)], .box 47 [iv o1, iv o1_1, iv o1_2, iv o1_3, .own 2, .own 3], wi 3 o2, wi 3 o3, .box 47 [iv o4, iv o4_1, iv o4_2, iv o4_3, .own 5, .own 6], wi 3 o5, wi 3 o6]⟩

abbrev gt_q11_21b {R : Type} (g : List Item -> St -> Option R) : GT_q11_21b R := fun (s x : Int) (o0 : List Int) (o0_1 o1 o1_1 o1_2 o1_3 : Int) (o2 o3 : List Int) (o4 o4_1 o4_2 o4_3 : Int) (o5 o6 : List Int) => g (at' Tryz.f88 21) (sta_q11_21b s x o0 o0_1 o1 o1_1 o1_2 o1_3 o2 o3 o4 o4_1 o4_2 o4_3 o5 o6)

abbrev gtt_q11 {R : Type} (g : List Item -> St -> Option R) : RT_q11 R := ((gt_q11_15a g), (gt_q11_15b g), (gt_q11_19a g), (gt_q11_19b g), (gt_q11_20a g), (gt_q11_20b g), (gt_q11_25a g), (gt_q11_25b g), (gt_q11_21a g), (gt_q11_21b g))

theorem gstep_q11_15a {a0 : LT_qv} {a1 : LT_qz} {a2 : LT_qx} {a3 : LT_q10} {R : Type} (g : List Item -> St -> Option R) (K : AV -> List O -> Option R) (s : Int) (o0 : List Int) (o0_1 o1 o1_1 o2 o2_1 o2_2 o2_3 : Int) (o3 o4 : List Int) (o5 o5_1 o5_2 o5_3 : Int) (o6 o7 : List Int) :
  runSeg Tryz.prog (T_q12 @a0 @a1 @a2 @a3) cuts_q11 1 g (finish Tryz.prog Tryz.f88 1 K) (at' Tryz.f88 15) (sta_q11_15a s o0 o0_1 o1 o1_1 o2 o2_1 o2_2 o2_3 o3 o4 o5 o5_1 o5_2 o5_3 o6 o7) =
  gs_q11_15a @a1 @a2 @a0 @a3 (gtt_q11 g) (k0_q11 K) (k1_q11 K) s o0 o0_1 o1 o1_1 o2 o2_1 o2_2 o2_3 o3 o4 o5 o5_1 o5_2 o5_3 o6 o7 := by kernel_rfl

theorem gstep_q11_15b {a0 : LT_qv} {a1 : LT_qz} {a2 : LT_qx} {a3 : LT_q10} {R : Type} (g : List Item -> St -> Option R) (K : AV -> List O -> Option R) (s : Int) (o0 : List Int) (o0_1 o1 o1_1 o1_2 o1_3 : Int) (o2 o3 : List Int) (o4 o4_1 o4_2 o4_3 : Int) (o5 o6 : List Int) :
  runSeg Tryz.prog (T_q12 @a0 @a1 @a2 @a3) cuts_q11 1 g (finish Tryz.prog Tryz.f88 1 K) (at' Tryz.f88 15) (sta_q11_15b s o0 o0_1 o1 o1_1 o1_2 o1_3 o2 o3 o4 o4_1 o4_2 o4_3 o5 o6) =
  gs_q11_15b @a1 @a2 @a0 @a3 (gtt_q11 g) (k0_q11 K) (k1_q11 K) s o0 o0_1 o1 o1_1 o1_2 o1_3 o2 o3 o4 o4_1 o4_2 o4_3 o5 o6 := by kernel_rfl

theorem gstep_q11_19a {a0 : LT_qv} {a1 : LT_qz} {a2 : LT_qx} {a3 : LT_q10} {R : Type} (g : List Item -> St -> Option R) (K : AV -> List O -> Option R) (s : Int) (o0 : List Int) (o0_1 o1 o1_1 o2 o2_1 o2_2 o2_3 : Int) (o3 o4 : List Int) (o5 o5_1 o5_2 o5_3 : Int) (o6 o7 : List Int) :
  runSeg Tryz.prog (T_q12 @a0 @a1 @a2 @a3) cuts_q11 1 g (finish Tryz.prog Tryz.f88 1 K) (at' Tryz.f88 19) (sta_q11_19a s o0 o0_1 o1 o1_1 o2 o2_1 o2_2 o2_3 o3 o4 o5 o5_1 o5_2 o5_3 o6 o7) =
  gs_q11_19a @a1 @a2 @a0 @a3 (gtt_q11 g) (k0_q11 K) (k1_q11 K) s o0 o0_1 o1 o1_1 o2 o2_1 o2_2 o2_3 o3 o4 o5 o5_1 o5_2 o5_3 o6 o7 := by kernel_rfl

theorem gstep_q11_19b {a0 : LT_qv} {a1 : LT_qz} {a2 : LT_qx} {a3 : LT_q10} {R : Type} (g : List Item -> St -> Option R) (K : AV -> List O -> Option R) (s : Int) (o0 : List Int) (o0_1 o1 o1_1 o1_2 o1_3 : Int) (o2 o3 : List Int) (o4 o4_1 o4_2 o4_3 : Int) (o5 o6 : List Int) :
  runSeg Tryz.prog (T_q12 @a0 @a1 @a2 @a3) cuts_q11 1 g (finish Tryz.prog Tryz.f88 1 K) (at' Tryz.f88 19) (sta_q11_19b s o0 o0_1 o1 o1_1 o1_2 o1_3 o2 o3 o4 o4_1 o4_2 o4_3 o5 o6) =
  gs_q11_19b @a1 @a2 @a0 @a3 (gtt_q11 g) (k0_q11 K) (k1_q11 K) s o0 o0_1 o1 o1_1 o1_2 o1_3 o2 o3 o4 o4_1 o4_2 o4_3 o5 o6 := by kernel_rfl

theorem gstep_q11_20a {a0 : LT_qv} {a1 : LT_qz} {a2 : LT_qx} {a3 : LT_q10} {R : Type} (g : List Item -> St -> Option R) (K : AV -> List O -> Option R) (s x : Int) (o0 : List Int) (o0_1 o1 o1_1 o2 o2_1 o2_2 o2_3 : Int) (o3 o4 : List Int) (o5 o5_1 o5_2 o5_3 : Int) (o6 o7 : List Int) :
  runSeg Tryz.prog (T_q12 @a0 @a1 @a2 @a3) cuts_q11 1 g (finish Tryz.prog Tryz.f88 1 K) (at' Tryz.f88 20) (sta_q11_20a s x o0 o0_1 o1 o1_1 o2 o2_1 o2_2 o2_3 o3 o4 o5 o5_1 o5_2 o5_3 o6 o7) =
  gs_q11_20a @a1 @a2 @a0 @a3 (gtt_q11 g) (k0_q11 K) (k1_q11 K) s x o0 o0_1 o1 o1_1 o2 o2_1 o2_2 o2_3 o3 o4 o5 o5_1 o5_2 o5_3 o6 o7 := by kernel_rfl

theorem gstep_q11_20b {a0 : LT_qv} {a1 : LT_qz} {a2 : LT_qx} {a3 : LT_q10} {R : Type} (g : List Item -> St -> Option R) (K : AV -> List O -> Option R) (s x : Int) (o0 : List Int) (o0_1 o1 o1_1 o1_2 o1_3 : Int) (o2 o3 : List Int) (o4 o4_1 o4_2 o4_3 : Int) (o5 o6 : List Int) :
  runSeg Tryz.prog (T_q12 @a0 @a1 @a2 @a3) cuts_q11 1 g (finish Tryz.prog Tryz.f88 1 K) (at' Tryz.f88 20) (sta_q11_20b s x o0 o0_1 o1 o1_1 o1_2 o1_3 o2 o3 o4 o4_1 o4_2 o4_3 o5 o6) =
  gs_q11_20b @a1 @a2 @a0 @a3 (gtt_q11 g) (k0_q11 K) (k1_q11 K) s x o0 o0_1 o1 o1_1 o1_2 o1_3 o2 o3 o4 o4_1 o4_2 o4_3 o5 o6 := by kernel_rfl

theorem gstep_q11_25a {a0 : LT_qv} {a1 : LT_qz} {a2 : LT_qx} {a3 : LT_q10} {R : Type} (g : List Item -> St -> Option R) (K : AV -> List O -> Option R) (s x : Int) (o0 : List Int) (o0_1 o1 o1_1 o2 o2_1 o2_2 o2_3 : Int) (o3 o4 : List Int) (o5 o5_1 o5_2 o5_3 : Int) (o6 o7 : List Int) :
  runSeg Tryz.prog (T_q12 @a0 @a1 @a2 @a3) cuts_q11 1 g (finish Tryz.prog Tryz.f88 1 K) (at' Tryz.f88 25) (sta_q11_25a s x o0 o0_1 o1 o1_1 o2 o2_1 o2_2 o2_3 o3 o4 o5 o5_1 o5_2 o5_3 o6 o7) =
  gs_q11_25a @a1 @a2 @a0 @a3 (gtt_q11 g) (k0_q11 K) (k1_q11 K) s x o0 o0_1 o1 o1_1 o2 o2_1 o2_2 o2_3 o3 o4 o5 o5_1 o5_2 o5_3 o6 o7 := by kernel_rfl

theorem gstep_q11_25b {a0 : LT_qv} {a1 : LT_qz} {a2 : LT_qx} {a3 : LT_q10} {R : Type} (g : List Item -> St -> Option R) (K : AV -> List O -> Option R) (s x : Int) (o0 : List Int) (o0_1 o1 o1_1 o1_2 o1_3 : Int) (o2 o3 : List Int) (o4 o4_1 o4_2 o4_3 : Int) (o5 o6 : List Int) :
  runSeg Tryz.prog (T_q12 @a0 @a1 @a2 @a3) cuts_q11 1 g (finish Tryz.prog Tryz.f88 1 K) (at' Tryz.f88 25) (sta_q11_25b s x o0 o0_1 o1 o1_1 o1_2 o1_3 o2 o3 o4 o4_1 o4_2 o4_3 o5 o6) =
  gs_q11_25b @a1 @a2 @a0 @a3 (gtt_q11 g) (k0_q11 K) (k1_q11 K) s x o0 o0_1 o1 o1_1 o1_2 o1_3 o2 o3 o4 o4_1 o4_2 o4_3 o5 o6 := by kernel_rfl

theorem gstep_q11_21a {a0 : LT_qv} {a1 : LT_qz} {a2 : LT_qx} {a3 : LT_q10} {R : Type} (g : List Item -> St -> Option R) (K : AV -> List O -> Option R) (s x : Int) (o0 : List Int) (o0_1 o1 o1_1 o2 o2_1 o2_2 o2_3 : Int) (o3 o4 : List Int) (o5 o5_1 o5_2 o5_3 : Int) (o6 o7 : List Int) :
  runSeg Tryz.prog (T_q12 @a0 @a1 @a2 @a3) cuts_q11 1 g (finish Tryz.prog Tryz.f88 1 K) (at' Tryz.f88 21) (sta_q11_21a s x o0 o0_1 o1 o1_1 o2 o2_1 o2_2 o2_3 o3 o4 o5 o5_1 o5_2 o5_3 o6 o7) =
  gs_q11_21a @a1 @a2 @a0 @a3 (gtt_q11 g) (k0_q11 K) (k1_q11 K) s x o0 o0_1 o1 o1_1 o2 o2_1 o2_2 o2_3 o3 o4 o5 o5_1 o5_2 o5_3 o6 o7 := by kernel_rfl

theorem gstep_q11_21b {a0 : LT_qv} {a1 : LT_qz} {a2 : LT_qx} {a3 : LT_q10} {R : Type} (g : List Item -> St -> Option R) (K : AV -> List O -> Option R) (s x : Int) (o0 : List Int) (o0_1 o1 o1_1 o1_2 o1_3 : Int) (o2 o3 : List Int) (o4 o4_1 o4_2 o4_3 : Int) (o5 o6 : List Int) :
  runSeg Tryz.prog (T_q12 @a0 @a1 @a2 @a3) cuts_q11 1 g (finish Tryz.prog Tryz.f88 1 K) (at' Tryz.f88 21) (sta_q11_21b s x o0 o0_1 o1 o1_1 o1_2 o1_3 o2 o3 o4 o4_1 o4_2 o4_3 o5 o6) =
  gs_q11_21b @a1 @a2 @a0 @a3 (gtt_q11 g) (k0_q11 K) (k1_q11 K) s x o0 o0_1 o1 o1_1 o1_2 o1_3 o2 o3 o4 o4_1 o4_2 o4_3 o5 o6 := by kernel_rfl

theorem gentry_q11 {a0 : LT_qv} {a1 : LT_qz} {a2 : LT_qx} {a3 : LT_q10} {R : Type} (fuel : Nat) (K : AV -> List O -> Option R) (o0 : List Int) (o0_1 : Int) :
  fnRun Tryz.prog (T_q12 @a0 @a1 @a2 @a3) cuts_q11 Tryz.f88 fuel [.ptr 0 0] [.box 145 [rb 5 o0, iv o0_1, .v (.nilIface)]] K =
  ge_q11 @a1 @a2 @a0 @a3 (gtt_q11 (runO Tryz.prog (T_q12 @a0 @a1 @a2 @a3) cuts_q11 1 (finish Tryz.prog Tryz.f88 1 K) fuel)) (k0_q11 K) (k1_q11 K) o0 o0_1 := by kernel_rfl

theorem runs_q11 {R : Type} (K : AV -> List O -> Option R) : ∀ fuel : Nat, gtt_q11 (runO Tryz.prog C_q12 cuts_q11 1 (finish Tryz.prog Tryz.f88 1 K) fuel) = run_q11 (k0_q11 K) (k1_q11 K) fuel
 |0 => rfl
 |fuel + 1 => by
  have ih := runs_q11 K fuel
  refine Prod.ext ?_ (Prod.ext ?_ (Prod.ext ?_ (Prod.ext ?_ (Prod.ext ?_ (Prod.ext ?_ (Prod.ext ?_ (Prod.ext ?_ (Prod.ext ?_ ?_))))))))
  ·funext s o0 o0_1 o1 o1_1 o2 o2_1 o2_2 o2_3 o3 o4 o5 o5_1 o5_2 o5_3 o6 o7
   exact (gstep_q11_15a (a0 := @l_qv) (a1 := @l_qz) (a2 := @l_qx) (a3 := @l_q10) _ K s o0 o0_1 o1 o1_1 o2 o2_1 o2_2 o2_3 o3 o4 o5 o5_1 o5_2 o5_3 o6 o7).trans (by rw [ih]; rfl)
  ·funext s o0 o0_1 o1 o1_1 o1_2 o1_3 o2 o3 o4 o4_1 o4_2 o4_3 o5 o6
   exact (gstep_q11_15b (a0 := @l_qv) (a1 := @l_qz) (a2 := @l_qx) (a3 := @l_q10) _ K s o0 o0_1 o1 o1_1 o1_2 o1_3 o2 o3 o4 o4_1 o4_2 o4_3 o5 o6).trans (by rw [ih]; rfl)
  ·funext s o0 o0_1 o1 o1_1 o2 o2_1 o2_2 o2_3 o3 o4 o5 o5_1 o5_2 o5_3 o6 o7
   exact (gstep_q11_19a (a0 := @l_qv) (a1 := @l_qz) (a2 := @l_qx) (a3 := @l_q10) _ K s o0 o0_1 o1 o1_1 o2 o2_1 o2_2 o2_3 o3 o4 o5 o5_1 o5_2 o5_3 o6 o7).trans (by rw [ih]; rfl)
  ·funext s o0 o0_1 o1 o1_1 o1_2 o1_3 o2 o3 o4 o4_1 o4_2 o4_3 o5 o6
   exact (gstep_q11_19b (a0 := @l_qv) (a1 := @l_qz) (a2 := @l_qx) (a3 := @l_q10) _ K s o0 o0_1 o1 o1_1 o1_2 o1_3 o2 o3 o4 o4_1 o4_2 o4_3 o5 o6).trans (by rw [ih]; rfl)
  ·funext s x o0 o0_1 o1 o1_1 o2 o2_1 o2_2 o2_3 o3 o4 o5 o5_1 o5_2 o5_3 o6 o7
   exact (gstep_q11_20a (a0 := @l_qv) (a1 := @l_qz) (a2 := @l_qx) (a3 := @l_q10) _ K s x o0 o0_1 o1 o1_1 o2 o2_1 o2_2 o2_3 o3 o4 o5 o5_1 o5_2 o5_3 o6 o7).trans (by rw [ih]; rfl)
  ·funext s x o0 o0_1 o1 o1_1 o1_2 o1_3 o2 o3 o4 o4_1 o4_2 o4_3 o5 o6
   exact (gstep_q11_20b (a0 := @l_qv) (a1 := @l_qz) (a2 := @l_qx) (a3 := @l_q10) _ K s x o0 o0_1 o1 o1_1 o1_2 o1_3 o2 o3 o4 o4_1 o4_2 o4_3 o5 o6).trans (by rw [ih]; rfl)
  ·funext s x o0 o0_1 o1 o1_1 o2 o2_1 o2_2 o2_3 o3 o4 o5 o5_1 o5_2 o5_3 o6 o7
   exact (gstep_q11_25a (a0 := @l_qv) (a1 := @l_qz) (a2 := @l_qx) (a3 := @l_q10) _ K s x o0 o0_1 o1 o1_1 o2 o2_1 o2_2 o2_3 o3 o4 o5 o5_1 o5_2 o5_3 o6 o7).trans (by rw [ih]; rfl)
  ·funext s x o0 o0_1 o1 o1_1 o1_2 o1_3 o2 o3 o4 o4_1 o4_2 o4_3 o5 o6
   exact (gstep_q11_25b (a0 := @l_qv) (a1 := @l_qz) (a2 := @l_qx) (a3 := @l_q10) _ K s x o0 o0_1 o1 o1_1 o1_2 o1_3 o2 o3 o4 o4_1 o4_2 o4_3 o5 o6).trans (by rw [ih]; rfl)
  ·funext s x o0 o0_1 o1 o1_1 o2 o2_1 o2_2 o2_3 o3 o4 o5 o5_1 o5_2 o5_3 o6 o7
   exact (gstep_q11_21a (a0 := @l_qv) (a1 := @l_qz) (a2 := @l_qx) (a3 := @l_q10) _ K s x o0 o0_1 o1 o1_1 o2 o2_1 o2_2 o2_3 o3 o4 o5 o5_1 o5_2 o5_3 o6 o7).trans (by rw [ih]; rfl)
  ·funext s x o0 o0_1 o1 o1_1 o1_2 o1_3 o2 o3 o4 o4_1 o4_2 o4_3 o5 o6
   exact (gstep_q11_21b (a0 := @l_qv) (a1 := @l_qz) (a2 := @l_qx) (a3 := @l_q10) _ K s x o0 o0_1 o1 o1_1 o1_2 o1_3 o2 o3 o4 o4_1 o4_2 o4_3 o5 o6).trans (by rw [ih]; rfl)

def S_q12 (l_q11 : LT_q11) : Sum := ⟨[], fun {R} args ob K => match args, ob with
 |[.ptr 0 0], [.box 145 [.rd ⟨false, 5, (.int .u8), o0⟩, .v (.int .i64 o0_1), .v (.nilIface)]] => l_q11 o0 o0_1 (k0_q11 K) (k1_q11 K)
 |_, _ => none⟩

theorem sound_q12 : Sound Tryz.prog 88 (S_q12 @l_q11) := by
 refine fn_sound (cuts := cuts_q11) (fn := Tryz.f88) (Γ := C_q12) wide right_T_q12 Tryz.func88 fun {R} K r args ob h => ?_
 unfold S_q12 at h
 dsimp only at h
 split at h
 ·obtain ⟨n, hn⟩ := evl_ok h
  refine ⟨Nat.le_of_ble_eq_true (by kernel_rfl), n, (gentry_q11 n K _ _).trans ?_⟩
  rw [(runs_q11 K n)]
  exact hn
 ·cases h

theorem call_q12 : Callable Tryz.prog 88 := ⟨_, Tryz.func88, by kernel_rfl, by kernel_rfl⟩



def S_q14 (l_q13 : LT_q13) (l_q15 : LT_q15) : Sum := ⟨[], fun {R} args ob K => match args, ob with
 |[.ifc 147 (.ptr 0 0), .ifc 149 (.ptr 1 0)], [.box 151 [.v (.int .i64 o0), .v (.int .i64 o0_1)], .box 147 [.v (.pointer none)]] => l_q13 o0 o0_1 (fun r0 r1 => K (.v (.bool true)) [.box 151 [.v (.int .i64 r0), .v (.int .i64 r1)], .box 147 [.ptr 0 0]])
 |[.v (.nilIface), .ifc 149 (.ptr 0 0)], [.box 147 [.v (.pointer none)]] => l_q15  (K (.v (.bool false)) [.box 147 [.v (.pointer none)]])
 |_, _ => none⟩

theorem sound_q14 : Sound Tryz.prog 89 (S_q14 @l_q13 @l_q15) := sound_errorsAs

theorem call_q14 : Callable Tryz.prog 89 := ⟨_, Tryz.func89, by kernel_rfl, by kernel_rfl⟩

def T_q16 (a0 : LT_q13) (a1 : LT_q15) (a2 : LT_q11) : FuncId -> Option Sum := (addS (addS G0 89 (S_q14 @a0 @a1)) 88 (S_q12 @a2))

abbrev C_q16 : FuncId -> Option Sum := T_q16 @l_q13 @l_q15 @l_q11

theorem right_T_q16 : Right Tryz.prog C_q16 := (right_add (right_add right_G0 call_q14 sound_q14) call_q12 sound_q12)

abbrev cuts_q16 : Cuts := []

abbrev k0_q16 {R : Type} (K : AV -> List O -> Option R) : KT0_q16 R := fun r0 r1 r2 r3 r4 r5 r6 r7 => K (.tup [.agg [iv r0, iv r1, iv r2, iv r3, .own 0, .own 1], iv r4, iv r5]) [wi 3 r6, wi 3 r7]

theorem gentry_q16 {a0 : LT_q13} {a1 : LT_q15} {a2 : LT_q11} {R : Type} (K : AV -> List O -> Option R) (b : List Int) :
  fnRun Tryz.prog (T_q16 @a0 @a1 @a2) cuts_q16 Tryz.f69 0 [rb 5 b] [] K =
  gl_q16 @a0 @a1 @a2 b (k0_q16 K) := by kernel_rfl

def S_q16 (l_q16 : LT_q16) : Sum := ⟨[], fun {R} args ob K => match args, ob with
 |[.rd ⟨false, 5, (.int .u8), b⟩], [] => l_q16 b (k0_q16 K)
 |_, _ => none⟩

theorem sound_q16 : Sound Tryz.prog 69 (S_q16 @l_q16) := by
 refine fn_sound (cuts := cuts_q16) (fn := Tryz.f69) (Γ := C_q16) wide right_T_q16 Tryz.func69 fun {R} K r args ob h => ?_
 unfold S_q16 at h
 dsimp only at h
 split at h
 ·exact ⟨Nat.le_of_ble_eq_true (by kernel_rfl), 0, (gentry_q16 K _).trans h⟩
 ·cases h

theorem call_q16 : Callable Tryz.prog 69 := ⟨_, Tryz.func69, by kernel_rfl, by kernel_rfl⟩

def T_q17 (a0 : LT_q2) (a1 : LT_qa) (a2 : LT_q5) (a3 : LT_q16) (a4 : LT_qu) : FuncId -> Option Sum := (addS (addS (addS (addS (addS G0 64 (S_q2 @a0)) 68 (S_qa @a1)) 41 (S_q5 @a2)) 69 (S_q16 @a3)) 63 (S_qu @a4))

abbrev C_q17 : FuncId -> Option Sum := T_q17 @l_q2 @l_qa @l_q5 @l_q16 @l_qu

theorem right_T_q17 : Right Tryz.prog C_q17 := (right_add (right_add (right_add (right_add (right_add right_G0 call_q2 sound_q2) call_qa sound_qa) call_q5 sound_q5) call_q16 sound_q16) call_qu sound_qu)

abbrev cuts_q17 : Cuts := []

abbrev k0_q17 {R : Type} (K : AV -> List O -> Option R) : KT0_q17 R := fun r0 r1 r2 r3 r4 r5 r6 r7 r8 r9 r10 r11 r12 r13 => K (.agg [iv r0, .own 1, iv r1, iv r2, iv r3, iv r4, .own 2, .own 3, iv r5, .own 4, .own 5]) [.box 87 [rb 5 r6, iv r7, iv r8], wi 3 r9, wi 3 r10, wi 3 r11, wi 3 r12, wi 3 r13]

theorem gentry_q17 {a0 : LT_q2} {a1 : LT_qa} {a2 : LT_q5} {a3 : LT_q16} {a4 : LT_qu} {R : Type} (K : AV -> List O -> Option R) (o0 : List Int) (o0_1 o0_2 : Int) :
  fnRun Tryz.prog (T_q17 @a0 @a1 @a2 @a3 @a4) cuts_q17 Tryz.f43 0 [.ptr 0 0] [.box 87 [rb 5 o0, iv o0_1, iv o0_2]] K =
  gl_q17 @a0 @a1 @a2 @a3 @a4 o0 o0_1 o0_2 (k0_q17 K) := by kernel_rfl

def S_q17 (l_q17 : LT_q17) : Sum := ⟨[], fun {R} args ob K => match args, ob with
 |[.ptr 0 0], [.box 87 [.rd ⟨false, 5, (.int .u8), o0⟩, .v (.int .i64 o0_1), .v (.int .i64 o0_2)]] => l_q17 o0 o0_1 o0_2 (k0_q17 K)
 |_, _ => none⟩

theorem sound_q17 : Sound Tryz.prog 43 (S_q17 @l_q17) := by
 refine fn_sound (cuts := cuts_q17) (fn := Tryz.f43) (Γ := C_q17) wide right_T_q17 Tryz.func43 fun {R} K r args ob h => ?_
 unfold S_q17 at h
 dsimp only at h
 split at h
 ·exact ⟨Nat.le_of_ble_eq_true (by kernel_rfl), 0, (gentry_q17 K _ _ _).trans h⟩
 ·cases h

theorem call_q17 : Callable Tryz.prog 43 := ⟨_, Tryz.func43, by kernel_rfl, by kernel_rfl⟩

def T_q18 (a0 : LT_q8) (a1 : LT_q1) (a2 : LT_qn) (a3 : LT_qt) (a4 : LT_qc) (a5 : LT_qb) (a6 : LT_q17) (a7 : LT_q5) : FuncId -> Option Sum := (addS (addS (addS (addS (addS (addS (addS (addS G0 40 (S_q8 @a0)) 39 (S_q1 @a1)) 44 (S_qn @a2)) 45 (S_qt @a3)) 34 (S_qc @a4)) 42 (S_qb @a5)) 43 (S_q17 @a6)) 41 (S_q5 @a7))

abbrev C_q18 : FuncId -> Option Sum := T_q18 @l_q8 @l_q1 @l_qn @l_qt @l_qc @l_qb @l_q17 @l_q5

theorem right_T_q18 : Right Tryz.prog C_q18 := (right_add (right_add (right_add (right_add (right_add (right_add (right_add (right_add right_G0 call_q8 sound_q8) call_q1 sound_q1) call_qn sound_qn) call_qt sound_qt) call_qc sound_qc) call_qb sound_qb) call_q17 sound_q17) call_q5 sound_q5)

abbrev cuts_q18 : Cuts := [(10, [0, 2, 6])]

abbrev k0_q18 {R : Type} (K : AV -> List O -> Option R) : KT0_q18 R := fun r0 r1 r2 r3 r4 r5 => K (.tup [.agg [iv r0, iv r1, iv r2, .own 0], iv r3, iv r4]) [.row ⟨true, 53, (.pr (.pr (.int .i64) (.pr (.sl 3 (.int .i64)) (.pr (.int .i64) (.pr (.int .i64) (.pr (.int .i64) (.pr (.int .i64) (.pr (.sl 3 (.int .i64)) (.sl 3 (.int .i64))))))))) (.pr (.int .i64) (.pr (.sl 3 (.int .i64)) (.sl 3 (.int .i64))))), r5⟩]

abbrev sta_q18_10 (b : List Int) (o0 o0_1 o0_2 : Int) (o1 : List Ent) (o2 : List Int) (o2_1 o2_2 : Int) : St := ⟨fr0 139 [(0, rb 5 b), (2, .ptr 0 0), (6, .ptr 2 0)], [.box 24 [iv o0, iv o0_1, iv o0_2, .own 1], .row ⟨true, 53, (.pr (.pr (.int .i64) (.pr (.sl 3 (.int .i64)) (.pr (.int .i64) (.pr (.int .i64) (.pr (.int .i64) (.pr (.int .i64) (.pr (.sl 3 (.int .i64)) (.sl 3 (.int .i64))))))))) (.pr (.int .i64) (.pr (.sl 3 (.int .i64)) (.sl 3 (.int .i64))))), o1⟩, .box 87 [rb 5 o2, iv o2_1, iv o2_2]]⟩

abbrev gt_q18_10 {R : Type} (g : List Item -> St -> Option R) : GT_q18_10 R := fun (b : List Int) (o0 o0_1 o0_2 : Int) (o1 : List Ent) (o2 : List Int) (o2_1 o2_2 : Int) => g (at' Tryz.f18 10) (sta_q18_10 b o0 o0_1 o0_2 o1 o2 o2_1 o2_2)

theorem gstep_q18_10 {a0 : LT_q8} {a1 : LT_q1} {a2 : LT_qn} {a3 : LT_qt} {a4 : LT_qc} {a5 : LT_qb} {a6 : LT_q17} {a7 : LT_q5} {R : Type} (g : List Item -> St -> Option R) (K : AV -> List O -> Option R) (b : List Int) (o0 o0_1 o0_2 : Int) (o1 : List Ent) (o2 : List Int) (o2_1 o2_2 : Int) :
  runSeg Tryz.prog (T_q18 @a0 @a1 @a2 @a3 @a4 @a5 @a6 @a7) cuts_q18 0 g (finish Tryz.prog Tryz.f18 0 K) (at' Tryz.f18 10) (sta_q18_10 b o0 o0_1 o0_2 o1 o2 o2_1 o2_2) =
  gs_q18_10 @a0 @a1 @a2 @a3 @a4 @a5 @a6 @a7 (gt_q18_10 g) (k0_q18 K) b o0 o0_1 o0_2 o1 o2 o2_1 o2_2 := by kernel_rfl

theorem gentry_q18 {a0 : LT_q8} {a1 : LT_q1} {a2 : LT_qn} {a3 : LT_qt} {a4 : LT_qc} {a5 : LT_qb} {a6 : LT_q17} {a7 : LT_q5} {R : Type} (fuel : Nat) (K : AV -> List O -> Option R) (b : List Int) :
  fnRun Tryz.prog (T_q18 @a0 @a1 @a2 @a3 @a4 @a5 @a6 @a7) cuts_q18 Tryz.f18 fuel [rb 5 b] [] K =
  ge_q18 @a0 @a1 @a2 @a3 @a4 @a5 @a6 @a7 (gt_q18_10 (runO Tryz.prog (T_q18 @a0 @a1 @a2 @a3 @a4 @a5 @a6 @a7) cuts_q18 0 (finish Tryz.prog Tryz.f18 0 K) fuel)) (k0_q18 K) b := by kernel_rfl

theorem runs_q18 {R : Type} (K : AV -> List O -> Option R) : ∀ fuel : Nat,
  (gt_q18_10 (runO Tryz.prog C_q18 cuts_q18 0 (finish Tryz.prog Tryz.f18 0 K) fuel)) = (run_q18 (k0_q18 K) fuel)
 |0 => rfl
 |fuel + 1 => by
  have ih := runs_q18 K fuel
  funext b o0 o0_1 o0_2 o1 o2 o2_1 o2_2
  refine (gstep_q18_10 _ K b o0 o0_1 o0_2 o1 o2 o2_1 o2_2).trans ?_
  rw [ih]
  rfl

def S_q18 (l_q18 : LT_q18) : Sum := ⟨[], fun {R} args ob K => match args, ob with
 |[.rd ⟨false, 5, (.int .u8), b⟩], [] => l_q18 b (k0_q18 K)
 |_, _ => none⟩

theorem sound_q18 : Sound Tryz.prog 18 (S_q18 @l_q18) := by
 refine fn_sound (cuts := cuts_q18) (fn := Tryz.f18) (Γ := C_q18) wide right_T_q18 Tryz.func18 fun {R} K r args ob h => ?_
 unfold S_q18 at h
 dsimp only at h
 split at h
 ·obtain ⟨n, hn⟩ := evl_ok h
  refine ⟨Nat.le_of_ble_eq_true (by kernel_rfl), n, (gentry_q18 n K _).trans ?_⟩
  rw [(runs_q18 K n)]
  exact hn
 ·cases h

theorem call_q18 : Callable Tryz.prog 18 := ⟨_, Tryz.func18, by kernel_rfl, by kernel_rfl⟩

def T_q19 : FuncId -> Option Sum := G0

theorem right_T_q19 : Right Tryz.prog T_q19 := right_G0

abbrev cuts_q19 : Cuts := []

abbrev k0_q19 {R : Type} (K : AV -> List O -> Option R) : Int -> Option R := fun r0 => K (iv r0) []

theorem gentry_q19 {R : Type} (K : AV -> List O -> Option R) (l l_1 l_2 : Int) (l_3 : List Ent) :
  fnRun Tryz.prog T_q19 cuts_q19 Tryz.f33 0 [.agg [iv l, iv l_1, iv l_2, .rd ⟨false, 53, (.pr (.pr (.int .i64) (.pr (.sl 3 (.int .i64)) (.pr (.int .i64) (.pr (.int .i64) (.pr (.int .i64) (.pr (.int .i64) (.pr (.sl 3 (.int .i64)) (.sl 3 (.int .i64))))))))) (.pr (.int .i64) (.pr (.sl 3 (.int .i64)) (.sl 3 (.int .i64))))), l_3⟩]] [] K =
  l_q19 l l_1 l_2 l_3 (k0_q19 K) := by kernel_rfl

def S_q19 (l_q19 : LT_q19) : Sum := ⟨[], fun {R} args ob K => match args, ob with
 |[.agg [.v (.int .i64 l), .v (.int .i64 l_1), .v (.int .i64 l_2), .rd ⟨false, 53, (.pr (.pr (.int .i64) (.pr (.sl 3 (.int .i64)) (.pr (.int .i64) (.pr (.int .i64) (.pr (.int .i64) (.pr (.int .i64) (.pr (.sl 3 (.int .i64)) (.sl 3 (.int .i64))))))))) (.pr (.int .i64) (.pr (.sl 3 (.int .i64)) (.sl 3 (.int .i64))))), l_3⟩]], [] => l_q19 l l_1 l_2 l_3 (k0_q19 K)
 |_, _ => none⟩

theorem sound_q19 : Sound Tryz.prog 33 (S_q19 @l_q19) := by
 refine fn_sound (cuts := cuts_q19) (fn := Tryz.f33) (Γ := T_q19) wide right_T_q19 Tryz.func33 fun {R} K r args ob h => ?_
 unfold S_q19 at h
 dsimp only at h
 split at h
 ·exact ⟨Nat.le_of_ble_eq_true (by kernel_rfl), 0, (gentry_q19 K _ _ _ _).trans h⟩
 ·cases h

theorem call_q19 : Callable Tryz.prog 33 := ⟨_, Tryz.func33, by kernel_rfl, by kernel_rfl⟩

def T_q1a (a0 : LT_q19) (a1 : LT_qn) (a2 : LT_qt) (a3 : LT_qc) : FuncId -> Option Sum := (addS (addS (addS (addS G0 33 (S_q19 @a0)) 44 (S_qn @a1)) 45 (S_qt @a2)) 34 (S_qc @a3))

abbrev C_q1a : FuncId -> Option Sum := T_q1a @l_q19 @l_qn @l_qt @l_qc

theorem right_T_q1a : Right Tryz.prog C_q1a := (right_add (right_add (right_add (right_add right_G0 call_q19 sound_q19) call_qn sound_qn) call_qt sound_qt) call_qc sound_qc)

abbrev cuts_q1a : Cuts := [(5, [1, 15, 16, 17])]

abbrev k0_q1a {R : Type} (K : AV -> List O -> Option R) : Int -> Int -> Option R := fun r0 r1 => K (.tup [iv r0, iv r1]) []

abbrev sta_q1a_5 (x15 : List Ent) (x16 x17 o0 o0_1 o0_2 : Int) (o0_3 : List Ent) : St := ⟨fr0 38 [(1, .ptr 0 0), (15, .rd ⟨false, 53, (.pr (.pr (.int .i64) (.pr (.sl 3 (.int .i64)) (.pr (.int .i64) (.pr (.int .i64) (.pr (.int .i64) (.pr (.int .i64) (.pr (.sl 3 (.int .i64)) (.sl 3 (.int .i64))))))))) (.pr (.int .i64) (.pr (.sl 3 (.int .i64)) (.sl 3 (.int .i64))))), x15⟩), (16, iv x16), (17, iv x17)], [.box 24 [iv o0, iv o0_1, iv o0_2, .rd ⟨false, 53, (.pr (.pr (.int .i64) (.pr (.sl 3 (.int .i64)) (.pr (.int .i64) (.pr (.int .i64) (.pr (.int .i64) (.pr (.int .i64) (.pr (.sl 3 (.int .i64)) (.sl 3 (.int .i64))))))))) (.pr (.int .i64) (.pr (.sl 3 (.int .i64)) (.sl 3 (.int .i64))))), o0_3⟩]]⟩

abbrev gt_q1a_5 {R : Type} (g : List Item -> St -> Option R) : GT_q1a_5 R := fun (x15 : List Ent) (x16 x17 o0 o0_1 o0_2 : Int) (o0_3 : List Ent) => g (at' Tryz.f12 5) (sta_q1a_5 x15 x16 x17 o0 o0_1 o0_2 o0_3)

theorem gstep_q1a_5 {a0 : LT_q19} {a1 : LT_qn} {a2 : LT_qt} {a3 : LT_qc} {R : Type} (g : List Item -> St -> Option R) (K : AV -> List O -> Option R) (x15 : List Ent) (x16 x17 o0 o0_1 o0_2 : Int) (o0_3 : List Ent) :
  runSeg Tryz.prog (T_q1a @a0 @a1 @a2 @a3) cuts_q1a 0 g (finish Tryz.prog Tryz.f12 0 K) (at' Tryz.f12 5) (sta_q1a_5 x15 x16 x17 o0 o0_1 o0_2 o0_3) =
  gs_q1a_5 @a0 @a1 @a2 @a3 (gt_q1a_5 g) (k0_q1a K) x15 x16 x17 o0 o0_1 o0_2 o0_3 := by kernel_rfl

theorem gentry_q1a {a0 : LT_q19} {a1 : LT_qn} {a2 : LT_qt} {a3 : LT_qc} {R : Type} (fuel : Nat) (K : AV -> List O -> Option R) (l l_1 l_2 : Int) (l_3 : List Ent) :
  fnRun Tryz.prog (T_q1a @a0 @a1 @a2 @a3) cuts_q1a Tryz.f12 fuel [.agg [iv l, iv l_1, iv l_2, .rd ⟨false, 53, (.pr (.pr (.int .i64) (.pr (.sl 3 (.int .i64)) (.pr (.int .i64) (.pr (.int .i64) (.pr (.int .i64) (.pr (.int .i64) (.pr (.sl 3 (.int .i64)) (.sl 3 (.int .i64))))))))) (.pr (.int .i64) (.pr (.sl 3 (.int .i64)) (.sl 3 (.int .i64))))), l_3⟩]] [] K =
  ge_q1a @a0 @a1 @a2 @a3 (gt_q1a_5 (runO Tryz.prog (T_q1a @a0 @a1 @a2 @a3) cuts_q1a 0 (finish Tryz.prog Tryz.f12 0 K) fuel)) (k0_q1a K) l l_1 l_2 l_3 := by kernel_rfl

theorem runs_q1a {R : Type} (K : AV -> List O -> Option R) : ∀ fuel : Nat,
  (gt_q1a_5 (runO Tryz.prog C_q1a cuts_q1a 0 (finish Tryz.prog Tryz.f12 0 K) fuel)) = (run_q1a (k0_q1a K) fuel)
 |0 => rfl
 |fuel + 1 => by
  have ih := runs_q1a K fuel
  funext x15 x16 x17 o0 o0_1 o0_2 o0_3
  refine (gstep_q1a_5 _ K x15 x16 x17 o0 o0_1 o0_2 o0_3).trans ?_
  rw [ih]
  rfl

def S_q1a (l_q1a : LT_q1a) : Sum := ⟨[], fun {R} args ob K => match args, ob with
 |[.agg [.v (.int .i64 l), .v (.int .i64 l_1), .v (.int .i64 l_2), .rd ⟨false, 53, (.pr (.pr (.int .i64) (.pr (.sl 3 (.int .i64)) (.pr (.int .i64) (.pr (.int .i64) (.pr (.int .i64) (.pr (.int .i64) (.pr (.sl 3 (.int .i64)) (.sl 3 (.int .i64))))))))) (.pr (.int .i64) (.pr (.sl 3 (.int .i64)) (.sl 3 (.int .i64))))), l_3⟩]], [] => l_q1a l l_1 l_2 l_3 (k0_q1a K)
 |_, _ => none⟩

theorem sound_q1a : Sound Tryz.prog 12 (S_q1a @l_q1a) := by
 refine fn_sound (cuts := cuts_q1a) (fn := Tryz.f12) (Γ := C_q1a) wide right_T_q1a Tryz.func12 fun {R} K r args ob h => ?_
 unfold S_q1a at h
 dsimp only at h
 split at h
 ·obtain ⟨n, hn⟩ := evl_ok h
  refine ⟨Nat.le_of_ble_eq_true (by kernel_rfl), n, (gentry_q1a n K _ _ _ _).trans ?_⟩
  rw [(runs_q1a K n)]
  exact hn
 ·cases h

theorem call_q1a : Callable Tryz.prog 12 := ⟨_, Tryz.func12, by kernel_rfl, by kernel_rfl⟩


def S_q1b (l_q1b : LT_q1b) : Sum := ⟨[0], fun {R} args ob K => match args, ob with
 |[.v (.slice none 0 0), .v (.int .i64 n), .v (.int .i64 b)], [] => l_q1b n b (fun r0 => K (.own 0) [.row ⟨true, 5, (.int .u8), r0⟩])
 |_, _ => none⟩

theorem sound_q1b : Sound Tryz.prog 80 (S_q1b @l_q1b) := sound_AppendInt Tryz.lays176 TabsHold.pow10

theorem call_q1b : Callable Tryz.prog 80 := ⟨_, Tryz.func80, by kernel_rfl, by kernel_rfl⟩

def T_q1c (a0 : LT_q1b) : FuncId -> Option Sum := (addS G0 80 (S_q1b @a0))

abbrev C_q1c : FuncId -> Option Sum := T_q1c @l_q1b

theorem right_T_q1c : Right Tryz.prog C_q1c := (right_add right_G0 call_q1b sound_q1b)

abbrev cuts_q1c : Cuts := []

abbrev k0_q1c {R : Type} (K : AV -> List O -> Option R) : (List Int) -> Option R := fun r0 => K (.own 0) [wb 5 r0]

theorem gentry_q1c {a0 : LT_q1b} {R : Type} (K : AV -> List O -> Option R) (n : Int) :
  fnRun Tryz.prog (T_q1c @a0) cuts_q1c Tryz.f59 0 [iv n] [] K =
  gl_q1c @a0 n (k0_q1c K) := by kernel_rfl

def S_q1c (l_q1c : LT_q1c) : Sum := ⟨[], fun {R} args ob K => match args, ob with
 |[.v (.int .i64 n)], [] => l_q1c n (k0_q1c K)
 |_, _ => none⟩

theorem sound_q1c : Sound Tryz.prog 59 (S_q1c @l_q1c) := by
 refine fn_sound (cuts := cuts_q1c) (fn := Tryz.f59) (Γ := C_q1c) wide right_T_q1c Tryz.func59 fun {R} K r args ob h => ?_
 unfold S_q1c at h
 dsimp only at h
 split at h
 ·exact ⟨Nat.le_of_ble_eq_true (by kernel_rfl), 0, (gentry_q1c K _).trans h⟩
 ·cases h

theorem call_q1c : Callable Tryz.prog 59 := ⟨_, Tryz.func59, by kernel_rfl, by kernel_rfl⟩

def T_q1d (a0 : LT_q1c) : FuncId -> Option Sum := (addS G0 59 (S_q1c @a0))

abbrev C_q1d : FuncId -> Option Sum := T_q1d @l_q1c

theorem right_T_q1d : Right Tryz.prog C_q1d := (right_add right_G0 call_q1c sound_q1c)

abbrev cuts_q1d : Cuts := [(2, [0, 7, 8, 9])]

abbrev k0_q1d {R : Type} (K : AV -> List O -> Option R) : (List Int) -> Option R := fun r0 => K (.own 0) [.row ⟨false, 5, (.int .u8), r0⟩]

abbrev k1_q1d {R : Type} (K : AV -> List O -> Option R) : (List Int) -> Option R := fun r0 => K (.own 1) [.gone, .row ⟨false, 5, (.int .u8), r0⟩]

abbrev sta_q1d_2a (x7 : List Int) (x8 x9 : Int) (o0 : List Int) : St := ⟨fr0 21 [(0, .own 0), (7, ri 3 x7), (8, iv x8), (9, iv x9)], [.row ⟨false, 5, (.int .u8), o0⟩]⟩

abbrev gt_q1d_2a {R : Type} (g : List Item -> St -> Option R) : GT_q1d_2a R := fun (x7 : List Int) (x8 x9 : Int) (o0 : List Int) => g (at' Tryz.f36 2) (sta_q1d_2a x7 x8 x9 o0)

abbrev sta_q1d_2b (x7 : List Int) (x8 x9 : Int) (o1 : List Int) : St := ⟨fr0 21 [(0, .own 1), (7, ri 3 x7), (8, iv x8), (9, iv x9)], [.gone, .row ⟨false, 5, (.int .u8), o1⟩]⟩

abbrev gt_q1d_2b {R : Type} (g : List Item -> St -> Option R) : GT_q1d_2b R := fun (x7 : List Int) (x8 x9 : Int) (o1 : List Int) => g (at' Tryz.f36 2) (sta_q1d_2b x7 x8 x9 o1)

theorem gstep_q1d_2a {a0 : LT_q1c} {R : Type} (g : List Item -> St -> Option R) (K : AV -> List O -> Option R) (x7 : List Int) (x8 x9 : Int) (o0 : List Int) :
  runSeg Tryz.prog (T_q1d @a0) cuts_q1d 1 g (finish Tryz.prog Tryz.f36 1 K) (at' Tryz.f36 2) (sta_q1d_2a x7 x8 x9 o0) =
  gs_q1d_2a @a0 (gt_q1d_2a g) (gt_q1d_2b g) (k0_q1d K) (k1_q1d K) x7 x8 x9 o0 := by kernel_rfl

theorem gstep_q1d_2b {a0 : LT_q1c} {R : Type} (g : List Item -> St -> Option R) (K : AV -> List O -> Option R) (x7 : List Int) (x8 x9 : Int) (o1 : List Int) :
  runSeg Tryz.prog (T_q1d @a0) cuts_q1d 1 g (finish Tryz.prog Tryz.f36 1 K) (at' Tryz.f36 2) (sta_q1d_2b x7 x8 x9 o1) =
  gs_q1d_2b @a0 (gt_q1d_2a g) (gt_q1d_2b g) (k0_q1d K) (k1_q1d K) x7 x8 x9 o1 := by kernel_rfl

theorem gentry_q1d {a0 : LT_q1c} {R : Type} (fuel : Nat) (K : AV -> List O -> Option R) (l o0 : List Int) :
  fnRun Tryz.prog (T_q1d @a0) cuts_q1d Tryz.f36 fuel [.own 0, ri 3 l] [.row ⟨false, 5, (.int .u8), o0⟩] K =
  ge_q1d @a0 (gt_q1d_2a (runO Tryz.prog (T_q1d @a0) cuts_q1d 1 (finish Tryz.prog Tryz.f36 1 K) fuel)) (gt_q1d_2b (runO Tryz.prog (T_q1d @a0) cuts_q1d 1 (finish Tryz.prog Tryz.f36 1 K) fuel)) (k0_q1d K) (k1_q1d K) l o0 := by kernel_rfl

theorem runs_q1d {R : Type} (K : AV -> List O -> Option R) : ∀ fuel : Nat,
  (gt_q1d_2a (runO Tryz.prog C_q1d cuts_q1d 1 (finish Tryz.prog Tryz.f36 1 K) fuel)) = (run_q1d (k0_q1d K) (k1_q1d K) fuel).1 ∧
  (gt_q1d_2b (runO Tryz.prog C_q1d cuts_q1d 1 (finish Tryz.prog Tryz.f36 1 K) fuel)) = (run_q1d (k0_q1d K) (k1_q1d K) fuel).2
 |0 => ⟨rfl, rfl⟩
 |fuel + 1 => by
  have ih := runs_q1d K fuel
  refine ⟨?_, ?_⟩
  ·funext x7 x8 x9 o0
   refine (gstep_q1d_2a _ K x7 x8 x9 o0).trans ?_
   rw [ih.1, ih.2]
   rfl
  ·funext x7 x8 x9 o1
   refine (gstep_q1d_2b _ K x7 x8 x9 o1).trans ?_
   rw [ih.1, ih.2]
   rfl

def S_q1d (l_q1d : LT_q1d) : Sum := ⟨[0], fun {R} args ob K => match args, ob with
 |[.own 0, .rd ⟨false, 3, (.int .i64), l⟩], [.row ⟨false, 5, (.int .u8), o0⟩] => l_q1d l o0 (k0_q1d K) (k1_q1d K)
 |_, _ => none⟩

theorem sound_q1d : Sound Tryz.prog 36 (S_q1d @l_q1d) := by
 refine fn_sound (cuts := cuts_q1d) (fn := Tryz.f36) (Γ := C_q1d) wide right_T_q1d Tryz.func36 fun {R} K r args ob h => ?_
 unfold S_q1d at h
 dsimp only at h
 split at h
 ·obtain ⟨n, hn⟩ := evl_ok h
  refine ⟨Nat.le_of_ble_eq_true (by kernel_rfl), n, (gentry_q1d n K _ _).trans ?_⟩
  rw [(runs_q1d K n).1, (runs_q1d K n).2]
  exact hn
 ·cases h

theorem call_q1d : Callable Tryz.prog 36 := ⟨_, Tryz.func36, by kernel_rfl, by kernel_rfl⟩

def T_q1e (a0 : LT_q1d) : FuncId -> Option Sum := (addS G0 36 (S_q1d @a0))

abbrev C_q1e : FuncId -> Option Sum := T_q1e @l_q1d

theorem right_T_q1e : Right Tryz.prog C_q1e := (right_add right_G0 call_q1d sound_q1d)

abbrev cuts_q1e : Cuts := []

abbrev k0_q1e {R : Type} (K : AV -> List O -> Option R) : (List Int) -> Option R := fun r0 => K (.own 0) [wb 5 r0]

abbrev k1_q1e {R : Type} (K : AV -> List O -> Option R) : (List Int) -> Option R := fun r0 => K (.own 0) [.row ⟨false, 5, (.int .u8), r0⟩]

theorem gentry_q1e {a0 : LT_q1d} {R : Type} (K : AV -> List O -> Option R) (r : Int) (r_1 : List Int) (r_2 r_3 r_4 r_5 : Int) (r_6 r_7 : List Int) (r_8 : Int) (r_9 r_10 : List Int) :
  fnRun Tryz.prog (T_q1e @a0) cuts_q1e Tryz.f144 0 [.agg [iv r, ri 3 r_1, iv r_2, iv r_3, iv r_4, iv r_5, ri 3 r_6, ri 3 r_7, iv r_8, ri 3 r_9, ri 3 r_10]] [] K =
  gl_q1e @a0 r r_1 r_2 r_3 r_4 r_5 r_6 r_7 r_8 r_9 r_10 (k0_q1e K) (k1_q1e K) := by kernel_rfl

def S_q1e (l_q1e : LT_q1e) : Sum := ⟨[], fun {R} args ob K => match args, ob with
 |[.agg [.v (.int .i64 r), .rd ⟨false, 3, (.int .i64), r_1⟩, .v (.int .i64 r_2), .v (.int .i64 r_3), .v (.int .i64 r_4), .v (.int .i64 r_5), .rd ⟨false, 3, (.int .i64), r_6⟩, .rd ⟨false, 3, (.int .i64), r_7⟩, .v (.int .i64 r_8), .rd ⟨false, 3, (.int .i64), r_9⟩, .rd ⟨false, 3, (.int .i64), r_10⟩]], [] => l_q1e r r_1 r_2 r_3 r_4 r_5 r_6 r_7 r_8 r_9 r_10 (k0_q1e K) (k1_q1e K)
 |_, _ => none⟩

theorem sound_q1e : Sound Tryz.prog 144 (S_q1e @l_q1e) := by
 refine fn_sound (cuts := cuts_q1e) (fn := Tryz.f144) (Γ := C_q1e) wide right_T_q1e Tryz.func144 fun {R} K r args ob h => ?_
 unfold S_q1e at h
 dsimp only at h
 split at h
 ·exact ⟨Nat.le_of_ble_eq_true (by kernel_rfl), 0, (gentry_q1e K _ _ _ _ _ _ _ _ _ _ _).trans h⟩
 ·cases h

theorem call_q1e : Callable Tryz.prog 144 := ⟨_, Tryz.func144, by kernel_rfl, by kernel_rfl⟩


def S_q1f (l_q1f : LT_q1f) : Sum := ⟨[], fun {R} args ob K => match args, ob with
 |[.agg [.v (.int .i64 m), .v (.int .i64 m_1), .v (.int .i64 m_2), .v (.int .i64 m_3), .rd ⟨false, 3, (.int .i64), m_4⟩, .rd ⟨false, 3, (.int .i64), m_5⟩]], [] => l_q1f m m_1 m_2 m_3 m_4 m_5 (fun r0 r1 => K (.tup [.own 0, .v (.int .i64 r0)]) [.row ⟨true, 5, (.int .u8), r1⟩])
 |_, _ => none⟩

theorem sound_q1f : Sound Tryz.prog 151 (S_q1f @l_q1f) := sound_export sound_qr (fun k K O N nx ou h1 h2 KK => check_eq k K O N nx ou h1 h2 (fun r0 r1 => KK (.tup [.v (.int .i64 r0), .v (.int .i64 r1)]) []))

theorem call_q1f : Callable Tryz.prog 151 := ⟨_, Tryz.func151, by kernel_rfl, by kernel_rfl⟩

def T_q1g : FuncId -> Option Sum := G0

theorem right_T_q1g : Right Tryz.prog T_q1g := right_G0

abbrev cuts_q1g : Cuts := []

abbrev k0_q1g {R : Type} (K : AV -> List O -> Option R) : Nat -> (List Int) -> Option R := fun r0 r1 => K (.view 0 1 0 r0) [wb 5 r1]

abbrev k1_q1g {R : Type} (K : AV -> List O -> Option R) : (List Int) -> Option R := fun r0 => K (.own 0) [wb 5 r0]

theorem gentry_q1g {R : Type} (K : AV -> List O -> Option R) (n : Int) :
  fnRun Tryz.prog T_q1g cuts_q1g Tryz.f160 0 [.v (.slice none 0 0), iv n] [] K =
  l_q1g n (k0_q1g K) (k1_q1g K) := by kernel_rfl

def S_q1g (l_q1g : LT_q1g) : Sum := ⟨[0], fun {R} args ob K => match args, ob with
 |[.v (.slice none 0 0), .v (.int .i64 n)], [] => l_q1g n (k0_q1g K) (k1_q1g K)
 |_, _ => none⟩

theorem sound_q1g : Sound Tryz.prog 160 (S_q1g @l_q1g) := by
 refine fn_sound (cuts := cuts_q1g) (fn := Tryz.f160) (Γ := T_q1g) wide right_T_q1g Tryz.func160 fun {R} K r args ob h => ?_
 unfold S_q1g at h
 dsimp only at h
 split at h
 ·exact ⟨Nat.le_of_ble_eq_true (by kernel_rfl), 0, (gentry_q1g K _).trans h⟩
 ·cases h

theorem call_q1g : Callable Tryz.prog 160 := ⟨_, Tryz.func160, by kernel_rfl, by kernel_rfl⟩

def T_q1h (a0 : LT_q1g) : FuncId -> Option Sum := (addS G0 160 (S_q1g @a0))

abbrev C_q1h : FuncId -> Option Sum := T_q1h @l_q1g

theorem right_T_q1h : Right Tryz.prog C_q1h := (right_add right_G0 call_q1g sound_q1g)

abbrev cuts_q1h : Cuts := [(3, [0, 3, 9, 10, 11]), (11, [6, 25, 26, 27])]

abbrev k0_q1h {R : Type} (K : AV -> List O -> Option R) : Nat -> (List Int) -> Option R := fun r0 r1 => K (.view 0 1 0 r0) [wb 5 r1]

abbrev k1_q1h {R : Type} (K : AV -> List O -> Option R) : (List Int) -> Option R := fun r0 => K (.own 0) [wb 5 r0]

abbrev sta_q1h_3 (slices : List (List Int)) (size : Int) (x9 : List (List Int)) (x10 x11 : Int) : St := ⟨fr0 36 [(0, .rd ⟨false, 34, (.sl 5 (.int .u8)), slices⟩), (3, iv size), (9, .rd ⟨false, 34, (.sl 5 (.int .u8)), x9⟩), (10, iv x10), (11, iv x11)], []⟩

abbrev gt_q1h_3 {R : Type} (g : List Item -> St -> Option R) : GT_q1h_3 R := fun (slices : List (List Int)) (size : Int) (x9 : List (List Int)) (x10 x11 : Int) => g (at' Tryz.f152 3) (sta_q1h_3 slices size x9 x10 x11)

abbrev sta_q1h_11a (newslice : Nat) (x25 : List (List Int)) (x26 x27 : Int) (o0 : List Int) : St := ⟨fr0 36 [(6, .view 0 1 0 newslice), (25, .rd ⟨false, 34, (.sl 5 (.int .u8)), x25⟩), (26, iv x26), (27, iv x27)], [wb 5 o0]⟩

abbrev gt_q1h_11a {R : Type} (g : List Item -> St -> Option R) : GT_q1h_11a R := fun (newslice : Nat) (x25 : List (List Int)) (x26 x27 : Int) (o0 : List Int) => g (at' Tryz.f152 11) (sta_q1h_11a newslice x25 x26 x27 o0)

abbrev sta_q1h_11b (x25 : List (List Int)) (x26 x27 : Int) (o0 : List Int) : St := ⟨fr0 36 [(6, .own 0), (25, .rd ⟨false, 34, (.sl 5 (.int .u8)), x25⟩), (26, iv x26), (27, iv x27)], [wb 5 o0]⟩

abbrev gt_q1h_11b {R : Type} (g : List Item -> St -> Option R) : GT_q1h_11b R := fun (x25 : List (List Int)) (x26 x27 : Int) (o0 : List Int) => g (at' Tryz.f152 11) (sta_q1h_11b x25 x26 x27 o0)

theorem gstep_q1h_3 {a0 : LT_q1g} {R : Type} (g : List Item -> St -> Option R) (K : AV -> List O -> Option R) (slices : List (List Int)) (size : Int) (x9 : List (List Int)) (x10 x11 : Int) :
  runSeg Tryz.prog (T_q1h @a0) cuts_q1h 0 g (finish Tryz.prog Tryz.f152 0 K) (at' Tryz.f152 3) (sta_q1h_3 slices size x9 x10 x11) =
  gs_q1h_3 @a0 (gt_q1h_3 g) (gt_q1h_11a g) (gt_q1h_11b g) (k0_q1h K) (k1_q1h K) slices size x9 x10 x11 := by kernel_rfl

theorem gstep_q1h_11a {a0 : LT_q1g} {R : Type} (g : List Item -> St -> Option R) (K : AV -> List O -> Option R) (newslice : Nat) (x25 : List (List Int)) (x26 x27 : Int) (o0 : List Int) :
  runSeg Tryz.prog (T_q1h @a0) cuts_q1h 0 g (finish Tryz.prog Tryz.f152 0 K) (at' Tryz.f152 11) (sta_q1h_11a newslice x25 x26 x27 o0) =
  gs_q1h_11a @a0 (gt_q1h_3 g) (gt_q1h_11a g) (gt_q1h_11b g) (k0_q1h K) (k1_q1h K) newslice x25 x26 x27 o0 := by kernel_rfl

theorem gstep_q1h_11b {a0 : LT_q1g} {R : Type} (g : List Item -> St -> Option R) (K : AV -> List O -> Option R) (x25 : List (List Int)) (x26 x27 : Int) (o0 : List Int) :
  runSeg Tryz.prog (T_q1h @a0) cuts_q1h 0 g (finish Tryz.prog Tryz.f152 0 K) (at' Tryz.f152 11) (sta_q1h_11b x25 x26 x27 o0) =
  gs_q1h_11b @a0 (gt_q1h_3 g) (gt_q1h_11a g) (gt_q1h_11b g) (k0_q1h K) (k1_q1h K) x25 x26 x27 o0 := by kernel_rfl

theorem gentry_q1h {a0 : LT_q1g} {R : Type} (fuel : Nat) (K : AV -> List O -> Option R) (slices : List (List Int)) :
  fnRun Tryz.prog (T_q1h @a0) cuts_q1h Tryz.f152 fuel [.rd ⟨false, 34, (.sl 5 (.int .u8)), slices⟩] [] K =
  ge_q1h @a0 (gt_q1h_3 (runO Tryz.prog (T_q1h @a0) cuts_q1h 0 (finish Tryz.prog Tryz.f152 0 K) fuel)) (gt_q1h_11a (runO Tryz.prog (T_q1h @a0) cuts_q1h 0 (finish Tryz.prog Tryz.f152 0 K) fuel)) (gt_q1h_11b (runO Tryz.prog (T_q1h @a0) cuts_q1h 0 (finish Tryz.prog Tryz.f152 0 K) fuel)) (k0_q1h K) (k1_q1h K) slices := by kernel_rfl

theorem runs_q1h {R : Type} (K : AV -> List O -> Option R) : ∀ fuel : Nat,
  (gt_q1h_3 (runO Tryz.prog C_q1h cuts_q1h 0 (finish Tryz.prog Tryz.f152 0 K) fuel)) = (run_q1h (k0_q1h K) (k1_q1h K) fuel).1 ∧
  (gt_q1h_11a (runO Tryz.prog C_q1h cuts_q1h 0 (finish Tryz.prog Tryz.f152 0 K) fuel)) = (run_q1h (k0_q1h K) (k1_q1h K) fuel).2.1 ∧
  (gt_q1h_11b (runO Tryz.prog C_q1h cuts_q1h 0 (finish Tryz.prog Tryz.f152 0 K) fuel)) = (run_q1h (k0_q1h K) (k1_q1h K) fuel).2.2
 |0 => ⟨rfl, rfl, rfl⟩
 |fuel + 1 => by
  have ih := runs_q1h K fuel
  refine ⟨?_, ?_, ?_⟩
  ·funext slices size x9 x10 x11
   refine (gstep_q1h_3 _ K slices size x9 x10 x11).trans ?_
   rw [ih.1, ih.2.1, ih.2.2]
   rfl
  ·funext newslice x25 x26 x27 o0
   refine (gstep_q1h_11a _ K newslice x25 x26 x27 o0).trans ?_
   rw [ih.1, ih.2.1, ih.2.2]
   rfl
  ·funext x25 x26 x27 o0
   refine (gstep_q1h_11b _ K x25 x26 x27 o0).trans ?_
   rw [ih.1, ih.2.1, ih.2.2]
   rfl

def S_q1h (l_q1h : LT_q1h) : Sum := ⟨[], fun {R} args ob K => match args, ob with
 |[.rd ⟨false, 34, (.sl 5 (.int .u8)), slices⟩], [] => l_q1h slices (k0_q1h K) (k1_q1h K)
 |_, _ => none⟩

theorem sound_q1h : Sound Tryz.prog 152 (S_q1h @l_q1h) := by
 refine fn_sound (cuts := cuts_q1h) (fn := Tryz.f152) (Γ := C_q1h) wide right_T_q1h Tryz.func152 fun {R} K r args ob h => ?_
 unfold S_q1h at h
 dsimp only at h
 split at h
 ·obtain ⟨n, hn⟩ := evl_ok h
  refine ⟨Nat.le_of_ble_eq_true (by kernel_rfl), n, (gentry_q1h n K _).trans ?_⟩
  rw [(runs_q1h K n).1, (runs_q1h K n).2.1, (runs_q1h K n).2.2]
  exact hn
 ·cases h

theorem call_q1h : Callable Tryz.prog 152 := ⟨_, Tryz.func152, by kernel_rfl, by kernel_rfl⟩

def T_q1i (a0 : LT_q1d) (a1 : LT_q1h) (a2 : LT_q1f) : FuncId -> Option Sum := (addS (addS (addS G0 36 (S_q1d @a0)) 152 (S_q1h @a1)) 151 (S_q1f @a2))

abbrev C_q1i : FuncId -> Option Sum := T_q1i @l_q1d @l_q1h @l_q1f

theorem right_T_q1i : Right Tryz.prog C_q1i := (right_add (right_add (right_add right_G0 call_q1d sound_q1d) call_q1h sound_q1h) call_q1f sound_q1f)

abbrev cuts_q1i : Cuts := []

abbrev k0_q1i {R : Type} (K : AV -> List O -> Option R) : (List Int) -> Option R := fun r0 => K (.own 0) [wb 5 r0]

abbrev k1_q1i {R : Type} (K : AV -> List O -> Option R) : (List Int) -> Option R := fun r0 => K (.own 0) [.row ⟨false, 5, (.int .u8), r0⟩]

theorem gentry_q1i {a0 : LT_q1d} {a1 : LT_q1h} {a2 : LT_q1f} {R : Type} (K : AV -> List O -> Option R) (r : Int) (r_1 : List Int) (r_2 r_3 r_4 r_5 : Int) (r_6 r_7 : List Int) (r_8 : Int) (r_9 r_10 : List Int) :
  fnRun Tryz.prog (T_q1i @a0 @a1 @a2) cuts_q1i Tryz.f149 0 [.agg [iv r, ri 3 r_1, iv r_2, iv r_3, iv r_4, iv r_5, ri 3 r_6, ri 3 r_7, iv r_8, ri 3 r_9, ri 3 r_10]] [] K =
  gl_q1i @a0 @a1 @a2 r r_1 r_2 r_3 r_4 r_5 r_6 r_7 r_8 r_9 r_10 (k0_q1i K) (k1_q1i K) := by kernel_rfl

def S_q1i (l_q1i : LT_q1i) : Sum := ⟨[], fun {R} args ob K => match args, ob with
 |[.agg [.v (.int .i64 r), .rd ⟨false, 3, (.int .i64), r_1⟩, .v (.int .i64 r_2), .v (.int .i64 r_3), .v (.int .i64 r_4), .v (.int .i64 r_5), .rd ⟨false, 3, (.int .i64), r_6⟩, .rd ⟨false, 3, (.int .i64), r_7⟩, .v (.int .i64 r_8), .rd ⟨false, 3, (.int .i64), r_9⟩, .rd ⟨false, 3, (.int .i64), r_10⟩]], [] => l_q1i r r_1 r_2 r_3 r_4 r_5 r_6 r_7 r_8 r_9 r_10 (k0_q1i K) (k1_q1i K)
 |_, _ => none⟩

theorem sound_q1i : Sound Tryz.prog 149 (S_q1i @l_q1i) := by
 refine fn_sound (cuts := cuts_q1i) (fn := Tryz.f149) (Γ := C_q1i) wide right_T_q1i Tryz.func149 fun {R} K r args ob h => ?_
 unfold S_q1i at h
 dsimp only at h
 split at h
 ·exact ⟨Nat.le_of_ble_eq_true (by kernel_rfl), 0, (gentry_q1i K _ _ _ _ _ _ _ _ _ _ _).trans h⟩
 ·cases h

theorem call_q1i : Callable Tryz.prog 149 := ⟨_, Tryz.func149, by kernel_rfl, by kernel_rfl⟩

def T_q1j (a0 : LT_q1d) (a1 : LT_q1a) (a2 : LT_q1e) (a3 : LT_q1i) (a4 : LT_qc) : FuncId -> Option Sum := (addS (addS (addS (addS (addS G0 36 (S_q1d @a0)) 12 (S_q1a @a1)) 144 (S_q1e @a2)) 149 (S_q1i @a3)) 34 (S_qc @a4))

abbrev C_q1j : FuncId -> Option Sum := T_q1j @l_q1d @l_q1a @l_q1e @l_q1i @l_qc

theorem right_T_q1j : Right Tryz.prog C_q1j := (right_add (right_add (right_add (right_add (right_add right_G0 call_q1d sound_q1d) call_q1a sound_q1a) call_q1e sound_q1e) call_q1i sound_q1i) call_qc sound_qc)

abbrev cuts_q1j : Cuts := [(9, [6, 38, 39, 40])]

abbrev k0_q1j {R : Type} (K : AV -> List O -> Option R) : Int -> (List Int) -> Option R := fun r0 r1 => K (.tup [.own 0, iv r0]) [wb 5 r1]

abbrev k1_q1j {R : Type} (K : AV -> List O -> Option R) : Int -> (List Int) -> Option R := fun r0 r1 => K (.tup [.own 0, iv r0]) [.row ⟨false, 5, (.int .u8), r1⟩]

abbrev sta_q1j_9a (x38 : List Ent) (x39 x40 : Int) (o0 : List Int) : St := ⟨fr0 51 [(6, .own 0), (38, .rd ⟨false, 53, (.pr (.pr (.int .i64) (.pr (.sl 3 (.int .i64)) (.pr (.int .i64) (.pr (.int .i64) (.pr (.int .i64) (.pr (.int .i64) (.pr (.sl 3 (.int .i64)) (.sl 3 (.int .i64))))))))) (.pr (.int .i64) (.pr (.sl 3 (.int .i64)) (.sl 3 (.int .i64))))), x38⟩), (39, iv x39), (40, iv x40)], [wb 5 o0]⟩

abbrev gt_q1j_9a {R : Type} (g : List Item -> St -> Option R) : GT_q1j_9a R := fun (x38 : List Ent) (x39 x40 : Int) (o0 : List Int) => g (at' Tryz.f15 9) (sta_q1j_9a x38 x39 x40 o0)

abbrev sta_q1j_9b (x38 : List Ent) (x39 x40 : Int) (o0 : List Int) : St := ⟨fr0 51 [(6, .own 0), (38, .rd ⟨false, 53, (.pr (.pr (.int .i64) (.pr (.sl 3 (.int .i64)) (.pr (.int .i64) (.pr (.int .i64) (.pr (.int .i64) (.pr (.int .i64) (.pr (.sl 3 (.int .i64)) (.sl 3 (.int .i64))))))))) (.pr (.int .i64) (.pr (.sl 3 (.int .i64)) (.sl 3 (.int .i64))))), x38⟩), (39, iv x39), (40, iv x40)], [.row ⟨false, 5, (.int .u8), o0⟩]⟩

abbrev gt_q1j_9b {R : Type} (g : List Item -> St -> Option R) : GT_q1j_9b R := fun (x38 : List Ent) (x39 x40 : Int) (o0 : List Int) => g (at' Tryz.f15 9) (sta_q1j_9b x38 x39 x40 o0)

theorem gstep_q1j_9a {a0 : LT_q1d} {a1 : LT_q1a} {a2 : LT_q1e} {a3 : LT_q1i} {a4 : LT_qc} {R : Type} (g : List Item -> St -> Option R) (K : AV -> List O -> Option R) (x38 : List Ent) (x39 x40 : Int) (o0 : List Int) :
  runSeg Tryz.prog (T_q1j @a0 @a1 @a2 @a3 @a4) cuts_q1j 0 g (finish Tryz.prog Tryz.f15 0 K) (at' Tryz.f15 9) (sta_q1j_9a x38 x39 x40 o0) =
  gs_q1j_9a @a0 @a1 @a2 @a3 @a4 (gt_q1j_9a g) (gt_q1j_9b g) (k0_q1j K) (k1_q1j K) x38 x39 x40 o0 := by kernel_rfl

theorem gstep_q1j_9b {a0 : LT_q1d} {a1 : LT_q1a} {a2 : LT_q1e} {a3 : LT_q1i} {a4 : LT_qc} {R : Type} (g : List Item -> St -> Option R) (K : AV -> List O -> Option R) (x38 : List Ent) (x39 x40 : Int) (o0 : List Int) :
  runSeg Tryz.prog (T_q1j @a0 @a1 @a2 @a3 @a4) cuts_q1j 0 g (finish Tryz.prog Tryz.f15 0 K) (at' Tryz.f15 9) (sta_q1j_9b x38 x39 x40 o0) =
  gs_q1j_9b @a0 @a1 @a2 @a3 @a4 (gt_q1j_9a g) (gt_q1j_9b g) (k0_q1j K) (k1_q1j K) x38 x39 x40 o0 := by kernel_rfl

theorem gentry_q1j {a0 : LT_q1d} {a1 : LT_q1a} {a2 : LT_q1e} {a3 : LT_q1i} {a4 : LT_qc} {R : Type} (fuel : Nat) (K : AV -> List O -> Option R) (l l_1 l_2 : Int) (l_3 : List Ent) :
  fnRun Tryz.prog (T_q1j @a0 @a1 @a2 @a3 @a4) cuts_q1j Tryz.f15 fuel [.agg [iv l, iv l_1, iv l_2, .rd ⟨false, 53, (.pr (.pr (.int .i64) (.pr (.sl 3 (.int .i64)) (.pr (.int .i64) (.pr (.int .i64) (.pr (.int .i64) (.pr (.int .i64) (.pr (.sl 3 (.int .i64)) (.sl 3 (.int .i64))))))))) (.pr (.int .i64) (.pr (.sl 3 (.int .i64)) (.sl 3 (.int .i64))))), l_3⟩]] [] K =
  ge_q1j @a0 @a1 @a2 @a3 @a4 (gt_q1j_9a (runO Tryz.prog (T_q1j @a0 @a1 @a2 @a3 @a4) cuts_q1j 0 (finish Tryz.prog Tryz.f15 0 K) fuel)) (gt_q1j_9b (runO Tryz.prog (T_q1j @a0 @a1 @a2 @a3 @a4) cuts_q1j 0 (finish Tryz.prog Tryz.f15 0 K) fuel)) (k0_q1j K) (k1_q1j K) l l_1 l_2 l_3 := by kernel_rfl

theorem runs_q1j {R : Type} (K : AV -> List O -> Option R) : ∀ fuel : Nat,
  (gt_q1j_9a (runO Tryz.prog C_q1j cuts_q1j 0 (finish Tryz.prog Tryz.f15 0 K) fuel)) = (run_q1j (k0_q1j K) (k1_q1j K) fuel).1 ∧
  (gt_q1j_9b (runO Tryz.prog C_q1j cuts_q1j 0 (finish Tryz.prog Tryz.f15 0 K) fuel)) = (run_q1j (k0_q1j K) (k1_q1j K) fuel).2
 |0 => ⟨rfl, rfl⟩
 |fuel + 1 => by
  have ih := runs_q1j K fuel
  refine ⟨?_, ?_⟩
  ·funext x38 x39 x40 o0
   refine (gstep_q1j_9a _ K x38 x39 x40 o0).trans ?_
   rw [ih.1, ih.2]
   rfl
  ·funext x38 x39 x40 o0
   refine (gstep_q1j_9b _ K x38 x39 x40 o0).trans ?_
   rw [ih.1, ih.2]
   rfl

def S_q1j (l_q1j : LT_q1j) : Sum := ⟨[], fun {R} args ob K => match args, ob with
 |[.agg [.v (.int .i64 l), .v (.int .i64 l_1), .v (.int .i64 l_2), .rd ⟨false, 53, (.pr (.pr (.int .i64) (.pr (.sl 3 (.int .i64)) (.pr (.int .i64) (.pr (.int .i64) (.pr (.int .i64) (.pr (.int .i64) (.pr (.sl 3 (.int .i64)) (.sl 3 (.int .i64))))))))) (.pr (.int .i64) (.pr (.sl 3 (.int .i64)) (.sl 3 (.int .i64))))), l_3⟩]], [] => l_q1j l l_1 l_2 l_3 (k0_q1j K) (k1_q1j K)
 |_, _ => none⟩

theorem sound_q1j : Sound Tryz.prog 15 (S_q1j @l_q1j) := by
 refine fn_sound (cuts := cuts_q1j) (fn := Tryz.f15) (Γ := C_q1j) wide right_T_q1j Tryz.func15 fun {R} K r args ob h => ?_
 unfold S_q1j at h
 dsimp only at h
 split at h
 ·obtain ⟨n, hn⟩ := evl_ok h
  refine ⟨Nat.le_of_ble_eq_true (by kernel_rfl), n, (gentry_q1j n K _ _ _ _).trans ?_⟩
  rw [(runs_q1j K n).1, (runs_q1j K n).2]
  exact hn
 ·cases h

theorem call_q1j : Callable Tryz.prog 15 := ⟨_, Tryz.func15, by kernel_rfl, by kernel_rfl⟩

def T_q1k : FuncId -> Option Sum := G0

theorem right_T_q1k : Right Tryz.prog T_q1k := right_G0

abbrev cuts_q1k : Cuts := [(2, [2, 3, 4, 8, 9, 10])]

abbrev k0_q1k {R : Type} (K : AV -> List O -> Option R) : Int -> Int -> Int -> Option R := fun r0 r1 r2 => K (.tup [iv r0, iv r1, iv r2]) []

abbrev sta_q1k_2 (members hypos symbols : Int) (x8 : List Ent) (x9 x10 : Int) : St := ⟨fr0 36 [(2, iv members), (3, iv hypos), (4, iv symbols), (8, .rd ⟨false, 53, (.pr (.pr (.int .i64) (.pr (.sl 3 (.int .i64)) (.pr (.int .i64) (.pr (.int .i64) (.pr (.int .i64) (.pr (.int .i64) (.pr (.sl 3 (.int .i64)) (.sl 3 (.int .i64))))))))) (.pr (.int .i64) (.pr (.sl 3 (.int .i64)) (.sl 3 (.int .i64))))), x8⟩), (9, iv x9), (10, iv x10)], []⟩

abbrev gt_q1k_2 {R : Type} (g : List Item -> St -> Option R) : GT_q1k_2 R := fun (members hypos symbols : Int) (x8 : List Ent) (x9 x10 : Int) => g (at' Tryz.f28 2) (sta_q1k_2 members hypos symbols x8 x9 x10)

theorem gstep_q1k_2 {R : Type} (g : List Item -> St -> Option R) (K : AV -> List O -> Option R) (members hypos symbols : Int) (x8 : List Ent) (x9 x10 : Int) :
  runSeg Tryz.prog T_q1k cuts_q1k 0 g (finish Tryz.prog Tryz.f28 0 K) (at' Tryz.f28 2) (sta_q1k_2 members hypos symbols x8 x9 x10) =
  s_q1k_2 (gt_q1k_2 g) (k0_q1k K) members hypos symbols x8 x9 x10 := by kernel_rfl

theorem gentry_q1k {R : Type} (fuel : Nat) (K : AV -> List O -> Option R) (l l_1 l_2 : Int) (l_3 : List Ent) :
  fnRun Tryz.prog T_q1k cuts_q1k Tryz.f28 fuel [.agg [iv l, iv l_1, iv l_2, .rd ⟨false, 53, (.pr (.pr (.int .i64) (.pr (.sl 3 (.int .i64)) (.pr (.int .i64) (.pr (.int .i64) (.pr (.int .i64) (.pr (.int .i64) (.pr (.sl 3 (.int .i64)) (.sl 3 (.int .i64))))))))) (.pr (.int .i64) (.pr (.sl 3 (.int .i64)) (.sl 3 (.int .i64))))), l_3⟩]] [] K =
  e_q1k (gt_q1k_2 (runO Tryz.prog T_q1k cuts_q1k 0 (finish Tryz.prog Tryz.f28 0 K) fuel)) (k0_q1k K) l l_1 l_2 l_3 := by kernel_rfl

theorem runs_q1k {R : Type} (K : AV -> List O -> Option R) : ∀ fuel : Nat,
  (gt_q1k_2 (runO Tryz.prog T_q1k cuts_q1k 0 (finish Tryz.prog Tryz.f28 0 K) fuel)) = (run_q1k (k0_q1k K) fuel)
 |0 => rfl
 |fuel + 1 => by
  have ih := runs_q1k K fuel
  funext members hypos symbols x8 x9 x10
  refine (gstep_q1k_2 _ K members hypos symbols x8 x9 x10).trans ?_
  rw [ih]
  rfl

def S_q1k (l_q1k : LT_q1k) : Sum := ⟨[], fun {R} args ob K => match args, ob with
 |[.agg [.v (.int .i64 l), .v (.int .i64 l_1), .v (.int .i64 l_2), .rd ⟨false, 53, (.pr (.pr (.int .i64) (.pr (.sl 3 (.int .i64)) (.pr (.int .i64) (.pr (.int .i64) (.pr (.int .i64) (.pr (.int .i64) (.pr (.sl 3 (.int .i64)) (.sl 3 (.int .i64))))))))) (.pr (.int .i64) (.pr (.sl 3 (.int .i64)) (.sl 3 (.int .i64))))), l_3⟩]], [] => l_q1k l l_1 l_2 l_3 (k0_q1k K)
 |_, _ => none⟩

theorem sound_q1k : Sound Tryz.prog 28 (S_q1k @l_q1k) := by
 refine fn_sound (cuts := cuts_q1k) (fn := Tryz.f28) (Γ := T_q1k) wide right_T_q1k Tryz.func28 fun {R} K r args ob h => ?_
 unfold S_q1k at h
 dsimp only at h
 split at h
 ·obtain ⟨n, hn⟩ := evl_ok h
  refine ⟨Nat.le_of_ble_eq_true (by kernel_rfl), n, (gentry_q1k n K _ _ _ _).trans ?_⟩
  rw [(runs_q1k K n)]
  exact hn
 ·cases h

theorem call_q1k : Callable Tryz.prog 28 := ⟨_, Tryz.func28, by kernel_rfl, by kernel_rfl⟩

def T_q1l : FuncId -> Option Sum := G0

theorem right_T_q1l : Right Tryz.prog T_q1l := right_G0

abbrev cuts_q1l : Cuts := []

abbrev k0_q1l {R : Type} (K : AV -> List O -> Option R) : Int -> Option R := fun r0 => K (iv r0) []

theorem gentry_q1l {R : Type} (K : AV -> List O -> Option R) (e : Int) :
  fnRun Tryz.prog T_q1l cuts_q1l Tryz.f14 0 [iv e] [] K =
  l_q1l e (k0_q1l K) := by kernel_rfl

def S_q1l (l_q1l : LT_q1l) : Sum := ⟨[], fun {R} args ob K => match args, ob with
 |[.v (.int .i64 e)], [] => l_q1l e (k0_q1l K)
 |_, _ => none⟩

theorem sound_q1l : Sound Tryz.prog 14 (S_q1l @l_q1l) := by
 refine fn_sound (cuts := cuts_q1l) (fn := Tryz.f14) (Γ := T_q1l) wide right_T_q1l Tryz.func14 fun {R} K r args ob h => ?_
 unfold S_q1l at h
 dsimp only at h
 split at h
 ·exact ⟨Nat.le_of_ble_eq_true (by kernel_rfl), 0, (gentry_q1l K _).trans h⟩
 ·cases h

theorem call_q1l : Callable Tryz.prog 14 := ⟨_, Tryz.func14, by kernel_rfl, by kernel_rfl⟩

def T_q1m (a0 : LT_q1l) (a1 : LT_q18) (a2 : LT_q1k) (a3 : LT_q1j) : FuncId -> Option Sum := (addS (addS (addS (addS G0 14 (S_q1l @a0)) 18 (S_q18 @a1)) 28 (S_q1k @a2)) 15 (S_q1j @a3))

abbrev C_q1m : FuncId -> Option Sum := T_q1m @l_q1l @l_q18 @l_q1k @l_q1j

theorem right_T_q1m : Right Tryz.prog C_q1m := (right_add (right_add (right_add (right_add right_G0 call_q1l sound_q1l) call_q18 sound_q18) call_q1k sound_q1k) call_q1j sound_q1j)

abbrev cuts_q1m : Cuts := []

abbrev k0_q1m {R : Type} (K : AV -> List O -> Option R) : Bool -> Option R := fun r0 => K (.v (.bool r0)) []

theorem gentry_q1m {a0 : LT_q1l} {a1 : LT_q18} {a2 : LT_q1k} {a3 : LT_q1j} {R : Type} (K : AV -> List O -> Option R)  :
  fnRun Tryz.prog (T_q1m @a0 @a1 @a2 @a3) cuts_q1m Tryz.f11 0 [] [] K =
  gl_q1m @a0 @a1 @a2 @a3  (k0_q1m K) := by kernel_rfl

def S_q1m (l_q1m : LT_q1m) : Sum := ⟨[], fun {R} args ob K => match args, ob with
 |[], [] => l_q1m  (k0_q1m K)
 |_, _ => none⟩

theorem sound_q1m : Sound Tryz.prog 11 (S_q1m @l_q1m) := by
 refine fn_sound (cuts := cuts_q1m) (fn := Tryz.f11) (Γ := C_q1m) wide right_T_q1m Tryz.func11 fun {R} K r args ob h => ?_
 unfold S_q1m at h
 dsimp only at h
 split at h
 ·exact ⟨Nat.le_of_ble_eq_true (by kernel_rfl), 0, (gentry_q1m K).trans h⟩
 ·cases h

theorem call_q1m : Callable Tryz.prog 11 := ⟨_, Tryz.func11, by kernel_rfl, by kernel_rfl⟩

def T_q1n : FuncId -> Option Sum := G0

theorem right_T_q1n : Right Tryz.prog T_q1n := right_G0

abbrev cuts_q1n : Cuts := [(15, [1, 5]), (20, [1, 6])]

abbrev k0_q1n {R : Type} (K : AV -> List O -> Option R) : Int -> Int -> Option R := fun r0 r1 => K (.tup [iv r0, iv r1]) []

abbrev sta_q1n_15 (i o0 o0_1 o0_2 o0_3 : Int) (o0_4 o0_5 : List Int) : St := ⟨fr0 123 [(1, .ptr 0 0), (5, iv i)], [.box 47 [iv o0, iv o0_1, iv o0_2, iv o0_3, ri 3 o0_4, ri 3 o0_5]]⟩

abbrev gt_q1n_15 {R : Type} (g : List Item -> St -> Option R) : GT_q1n_15 R := fun (i o0 o0_1 o0_2 o0_3 : Int) (o0_4 o0_5 : List Int) => g (at' Tryz.f50 15) (sta_q1n_15 i o0 o0_1 o0_2 o0_3 o0_4 o0_5)

abbrev sta_q1n_20 (i o0 o0_1 o0_2 o0_3 : Int) (o0_4 o0_5 : List Int) : St := ⟨fr0 123 [(1, .ptr 0 0), (6, iv i)], [.box 47 [iv o0, iv o0_1, iv o0_2, iv o0_3, ri 3 o0_4, ri 3 o0_5]]⟩

abbrev gt_q1n_20 {R : Type} (g : List Item -> St -> Option R) : GT_q1n_20 R := fun (i o0 o0_1 o0_2 o0_3 : Int) (o0_4 o0_5 : List Int) => g (at' Tryz.f50 20) (sta_q1n_20 i o0 o0_1 o0_2 o0_3 o0_4 o0_5)

theorem gstep_q1n_15 {R : Type} (g : List Item -> St -> Option R) (K : AV -> List O -> Option R) (i o0 o0_1 o0_2 o0_3 : Int) (o0_4 o0_5 : List Int) :
  runSeg Tryz.prog T_q1n cuts_q1n 0 g (finish Tryz.prog Tryz.f50 0 K) (at' Tryz.f50 15) (sta_q1n_15 i o0 o0_1 o0_2 o0_3 o0_4 o0_5) =
  s_q1n_15 (gt_q1n_15 g) (gt_q1n_20 g) (k0_q1n K) i o0 o0_1 o0_2 o0_3 o0_4 o0_5 := by kernel_rfl

theorem gstep_q1n_20 {R : Type} (g : List Item -> St -> Option R) (K : AV -> List O -> Option R) (i o0 o0_1 o0_2 o0_3 : Int) (o0_4 o0_5 : List Int) :
  runSeg Tryz.prog T_q1n cuts_q1n 0 g (finish Tryz.prog Tryz.f50 0 K) (at' Tryz.f50 20) (sta_q1n_20 i o0 o0_1 o0_2 o0_3 o0_4 o0_5) =
  s_q1n_20 (gt_q1n_15 g) (gt_q1n_20 g) (k0_q1n K) i o0 o0_1 o0_2 o0_3 o0_4 o0_5 := by kernel_rfl

theorem gentry_q1n {R : Type} (fuel : Nat) (K : AV -> List O -> Option R) (m m_1 m_2 m_3 : Int) (m_4 m_5 : List Int) :
  fnRun Tryz.prog T_q1n cuts_q1n Tryz.f50 fuel [.agg [iv m, iv m_1, iv m_2, iv m_3, ri 3 m_4, ri 3 m_5]] [] K =
  e_q1n (gt_q1n_15 (runO Tryz.prog T_q1n cuts_q1n 0 (finish Tryz.prog Tryz.f50 0 K) fuel)) (gt_q1n_20 (runO Tryz.prog T_q1n cuts_q1n 0 (finish Tryz.prog Tryz.f50 0 K) fuel)) (k0_q1n K) m m_1 m_2 m_3 m_4 m_5 := by kernel_rfl

theorem runs_q1n {R : Type} (K : AV -> List O -> Option R) : ∀ fuel : Nat,
  (gt_q1n_15 (runO Tryz.prog T_q1n cuts_q1n 0 (finish Tryz.prog Tryz.f50 0 K) fuel)) = (run_q1n (k0_q1n K) fuel).1 ∧
  (gt_q1n_20 (runO Tryz.prog T_q1n cuts_q1n 0 (finish Tryz.prog Tryz.f50 0 K) fuel)) = (run_q1n (k0_q1n K) fuel).2
 |0 => ⟨rfl, rfl⟩
 |fuel + 1 => by
  have ih := runs_q1n K fuel
  refine ⟨?_, ?_⟩
  ·funext i o0 o0_1 o0_2 o0_3 o0_4 o0_5
   refine (gstep_q1n_15 _ K i o0 o0_1 o0_2 o0_3 o0_4 o0_5).trans ?_
   rw [ih.1, ih.2]
   rfl
  ·funext i o0 o0_1 o0_2 o0_3 o0_4 o0_5
   refine (gstep_q1n_20 _ K i o0 o0_1 o0_2 o0_3 o0_4 o0_5).trans ?_
   rw [ih.1, ih.2]
   rfl

def S_q1n (l_q1n : LT_q1n) : Sum := ⟨[], fun {R} args ob K => match args, ob with
 |[.agg [.v (.int .i64 m), .v (.int .i64 m_1), .v (.int .i64 m_2), .v (.int .i64 m_3), .rd ⟨false, 3, (.int .i64), m_4⟩, .rd ⟨false, 3, (.int .i64), m_5⟩]], [] => l_q1n m m_1 m_2 m_3 m_4 m_5 (k0_q1n K)
 |_, _ => none⟩

theorem sound_q1n : Sound Tryz.prog 50 (S_q1n @l_q1n) := by
 refine fn_sound (cuts := cuts_q1n) (fn := Tryz.f50) (Γ := T_q1n) wide right_T_q1n Tryz.func50 fun {R} K r args ob h => ?_
 unfold S_q1n at h
 dsimp only at h
 split at h
 ·obtain ⟨n, hn⟩ := ok_q1n _ _ _ _ _ _ _ h
  refine ⟨Nat.le_of_ble_eq_true (by kernel_rfl), n, (gentry_q1n n K _ _ _ _ _ _).trans ?_⟩
  rw [(runs_q1n K n).1, (runs_q1n K n).2]
  exact hn
 ·cases h

theorem call_q1n : Callable Tryz.prog 50 := ⟨_, Tryz.func50, by kernel_rfl, by kernel_rfl⟩

def T_q1o (a0 : LT_q1n) : FuncId -> Option Sum := (addS G0 50 (S_q1n @a0))

abbrev C_q1o : FuncId -> Option Sum := T_q1o @l_q1n

theorem right_T_q1o : Right Tryz.prog C_q1o := (right_add right_G0 call_q1n sound_q1n)

abbrev cuts_q1o : Cuts := []

abbrev k0_q1o {R : Type} (K : AV -> List O -> Option R) : Bool -> Option R := fun r0 => K (.v (.bool r0)) []

theorem gentry_q1o {a0 : LT_q1n} {R : Type} (K : AV -> List O -> Option R) (m m_1 m_2 m_3 : Int) (m_4 m_5 : List Int) :
  fnRun Tryz.prog (T_q1o @a0) cuts_q1o Tryz.f25 0 [.agg [iv m, iv m_1, iv m_2, iv m_3, ri 3 m_4, ri 3 m_5]] [] K =
  gl_q1o @a0 m m_1 m_2 m_3 m_4 m_5 (k0_q1o K) := by kernel_rfl

def S_q1o (l_q1o : LT_q1o) : Sum := ⟨[], fun {R} args ob K => match args, ob with
 |[.agg [.v (.int .i64 m), .v (.int .i64 m_1), .v (.int .i64 m_2), .v (.int .i64 m_3), .rd ⟨false, 3, (.int .i64), m_4⟩, .rd ⟨false, 3, (.int .i64), m_5⟩]], [] => l_q1o m m_1 m_2 m_3 m_4 m_5 (k0_q1o K)
 |_, _ => none⟩

theorem sound_q1o : Sound Tryz.prog 25 (S_q1o @l_q1o) := by
 refine fn_sound (cuts := cuts_q1o) (fn := Tryz.f25) (Γ := C_q1o) wide right_T_q1o Tryz.func25 fun {R} K r args ob h => ?_
 unfold S_q1o at h
 dsimp only at h
 split at h
 ·exact ⟨Nat.le_of_ble_eq_true (by kernel_rfl), 0, (gentry_q1o K _ _ _ _ _ _).trans h⟩
 ·cases h

theorem call_q1o : Callable Tryz.prog 25 := ⟨_, Tryz.func25, by kernel_rfl, by kernel_rfl⟩

def T_q1p : FuncId -> Option Sum := G0

theorem right_T_q1p : Right Tryz.prog T_q1p := right_G0

abbrev cuts_q1p : Cuts := [(6, [0, 1, 6])]

abbrev k0_q1p {R : Type} (K : AV -> List O -> Option R) : Int -> Int -> Option R := fun r0 r1 => K (.tup [iv r0, iv r1]) []

abbrev sta_q1p_6 (w : List Int) (k i : Int) : St := ⟨fr0 36 [(0, ri 3 w), (1, iv k), (6, iv i)], []⟩

abbrev gt_q1p_6 {R : Type} (g : List Item -> St -> Option R) : GT_q1p_6 R := fun (w : List Int) (k i : Int) => g (at' Tryz.f57 6) (sta_q1p_6 w k i)

theorem gstep_q1p_6 {R : Type} (g : List Item -> St -> Option R) (K : AV -> List O -> Option R) (w : List Int) (k i : Int) :
  runSeg Tryz.prog T_q1p cuts_q1p 0 g (finish Tryz.prog Tryz.f57 0 K) (at' Tryz.f57 6) (sta_q1p_6 w k i) =
  s_q1p_6 (gt_q1p_6 g) (k0_q1p K) w k i := by kernel_rfl

theorem gentry_q1p {R : Type} (fuel : Nat) (K : AV -> List O -> Option R) (w : List Int) (k : Int) :
  fnRun Tryz.prog T_q1p cuts_q1p Tryz.f57 fuel [ri 3 w, iv k] [] K =
  e_q1p (gt_q1p_6 (runO Tryz.prog T_q1p cuts_q1p 0 (finish Tryz.prog Tryz.f57 0 K) fuel)) (k0_q1p K) w k := by kernel_rfl

theorem runs_q1p {R : Type} (K : AV -> List O -> Option R) : ∀ fuel : Nat,
  (gt_q1p_6 (runO Tryz.prog T_q1p cuts_q1p 0 (finish Tryz.prog Tryz.f57 0 K) fuel)) = (run_q1p (k0_q1p K) fuel)
 |0 => rfl
 |fuel + 1 => by
  have ih := runs_q1p K fuel
  funext w k i
  refine (gstep_q1p_6 _ K w k i).trans ?_
  rw [ih]
  rfl

def S_q1p (l_q1p : LT_q1p) : Sum := ⟨[], fun {R} args ob K => match args, ob with
 |[.rd ⟨false, 3, (.int .i64), w⟩, .v (.int .i64 k)], [] => l_q1p w k (k0_q1p K)
 |_, _ => none⟩

theorem sound_q1p : Sound Tryz.prog 57 (S_q1p @l_q1p) := by
 refine fn_sound (cuts := cuts_q1p) (fn := Tryz.f57) (Γ := T_q1p) wide right_T_q1p Tryz.func57 fun {R} K r args ob h => ?_
 unfold S_q1p at h
 dsimp only at h
 split at h
 ·obtain ⟨n, hn⟩ := ok_q1p _ _ _ h
  refine ⟨Nat.le_of_ble_eq_true (by kernel_rfl), n, (gentry_q1p n K _ _).trans ?_⟩
  rw [(runs_q1p K n)]
  exact hn
 ·cases h

theorem call_q1p : Callable Tryz.prog 57 := ⟨_, Tryz.func57, by kernel_rfl, by kernel_rfl⟩

def T_q1q : FuncId -> Option Sum := G0

theorem right_T_q1q : Right Tryz.prog T_q1q := right_G0

abbrev cuts_q1q : Cuts := [(3, [1, 2, 3, 8, 9])]

abbrev k0_q1q {R : Type} (K : AV -> List O -> Option R) : Int -> (List Int) -> Option R := fun r0 r1 => K (.tup [iv r0, .own 0]) [wi 3 r1]

abbrev sta_q1q_3 (s : Int) (w : List Int) (i o0 o0_1 o0_2 o0_3 : Int) (o0_4 o0_5 o1 : List Int) : St := ⟨fr0 59 [(1, iv s), (2, ri 3 w), (3, .ptr 0 0), (8, .own 1), (9, iv i)], [.box 47 [iv o0, iv o0_1, iv o0_2, iv o0_3, ri 3 o0_4, ri 3 o0_5], wi 3 o1]⟩

abbrev gt_q1q_3 {R : Type} (g : List Item -> St -> Option R) : GT_q1q_3 R := fun (s : Int) (w : List Int) (i o0 o0_1 o0_2 o0_3 : Int) (o0_4 o0_5 o1 : List Int) => g (at' Tryz.f95 3) (sta_q1q_3 s w i o0 o0_1 o0_2 o0_3 o0_4 o0_5 o1)

theorem gstep_q1q_3 {R : Type} (g : List Item -> St -> Option R) (K : AV -> List O -> Option R) (s : Int) (w : List Int) (i o0 o0_1 o0_2 o0_3 : Int) (o0_4 o0_5 o1 : List Int) :
  runSeg Tryz.prog T_q1q cuts_q1q 0 g (finish Tryz.prog Tryz.f95 0 K) (at' Tryz.f95 3) (sta_q1q_3 s w i o0 o0_1 o0_2 o0_3 o0_4 o0_5 o1) =
  s_q1q_3 (gt_q1q_3 g) (k0_q1q K) s w i o0 o0_1 o0_2 o0_3 o0_4 o0_5 o1 := by kernel_rfl

theorem gentry_q1q {R : Type} (fuel : Nat) (K : AV -> List O -> Option R) (m m_1 m_2 m_3 : Int) (m_4 m_5 : List Int) (s : Int) (w : List Int) :
  fnRun Tryz.prog T_q1q cuts_q1q Tryz.f95 fuel [.agg [iv m, iv m_1, iv m_2, iv m_3, ri 3 m_4, ri 3 m_5], iv s, ri 3 w] [] K =
  e_q1q (gt_q1q_3 (runO Tryz.prog T_q1q cuts_q1q 0 (finish Tryz.prog Tryz.f95 0 K) fuel)) (k0_q1q K) m m_1 m_2 m_3 m_4 m_5 s w := by kernel_rfl

theorem runs_q1q {R : Type} (K : AV -> List O -> Option R) : ∀ fuel : Nat,
  (gt_q1q_3 (runO Tryz.prog T_q1q cuts_q1q 0 (finish Tryz.prog Tryz.f95 0 K) fuel)) = (run_q1q (k0_q1q K) fuel)
 |0 => rfl
 |fuel + 1 => by
  have ih := runs_q1q K fuel
  funext s w i o0 o0_1 o0_2 o0_3 o0_4 o0_5 o1
  refine (gstep_q1q_3 _ K s w i o0 o0_1 o0_2 o0_3 o0_4 o0_5 o1).trans ?_
  rw [ih]
  rfl

def S_q1q (l_q1q : LT_q1q) : Sum := ⟨[], fun {R} args ob K => match args, ob with
 |[.agg [.v (.int .i64 m), .v (.int .i64 m_1), .v (.int .i64 m_2), .v (.int .i64 m_3), .rd ⟨false, 3, (.int .i64), m_4⟩, .rd ⟨false, 3, (.int .i64), m_5⟩], .v (.int .i64 s), .rd ⟨false, 3, (.int .i64), w⟩], [] => l_q1q m m_1 m_2 m_3 m_4 m_5 s w (k0_q1q K)
 |_, _ => none⟩

theorem sound_q1q : Sound Tryz.prog 95 (S_q1q @l_q1q) := by
 refine fn_sound (cuts := cuts_q1q) (fn := Tryz.f95) (Γ := T_q1q) wide right_T_q1q Tryz.func95 fun {R} K r args ob h => ?_
 unfold S_q1q at h
 dsimp only at h
 split at h
 ·obtain ⟨n, hn⟩ := ok_q1q _ _ _ _ _ _ _ _ _ h
  refine ⟨Nat.le_of_ble_eq_true (by kernel_rfl), n, (gentry_q1q n K _ _ _ _ _ _ _ _).trans ?_⟩
  rw [(runs_q1q K n)]
  exact hn
 ·cases h

theorem call_q1q : Callable Tryz.prog 95 := ⟨_, Tryz.func95, by kernel_rfl, by kernel_rfl⟩

def T_q1r (a0 : LT_q1q) (a1 : LT_q1p) (a2 : LT_q1n) : FuncId -> Option Sum := (addS (addS (addS G0 95 (S_q1q @a0)) 57 (S_q1p @a1)) 50 (S_q1n @a2))

abbrev C_q1r : FuncId -> Option Sum := T_q1r @l_q1q @l_q1p @l_q1n

theorem right_T_q1r : Right Tryz.prog C_q1r := (right_add (right_add (right_add right_G0 call_q1q sound_q1q) call_q1p sound_q1p) call_q1n sound_q1n)

abbrev cuts_q1r : Cuts := []

abbrev k0_q1r {R : Type} (K : AV -> List O -> Option R) : Int -> Int -> (List Int) -> Option R := fun r0 r1 r2 => K (.tup [iv r0, .own 0, iv r1]) [wi 3 r2]

theorem gentry_q1r {a0 : LT_q1q} {a1 : LT_q1p} {a2 : LT_q1n} {R : Type} (K : AV -> List O -> Option R) (m m_1 m_2 m_3 : Int) (m_4 m_5 : List Int) (s : Int) (w : List Int) :
  fnRun Tryz.prog (T_q1r @a0 @a1 @a2) cuts_q1r Tryz.f76 0 [.agg [iv m, iv m_1, iv m_2, iv m_3, ri 3 m_4, ri 3 m_5], iv s, ri 3 w] [] K =
  gl_q1r @a0 @a1 @a2 m m_1 m_2 m_3 m_4 m_5 s w (k0_q1r K) := by kernel_rfl

def S_q1r (l_q1r : LT_q1r) : Sum := ⟨[], fun {R} args ob K => match args, ob with
 |[.agg [.v (.int .i64 m), .v (.int .i64 m_1), .v (.int .i64 m_2), .v (.int .i64 m_3), .rd ⟨false, 3, (.int .i64), m_4⟩, .rd ⟨false, 3, (.int .i64), m_5⟩], .v (.int .i64 s), .rd ⟨false, 3, (.int .i64), w⟩], [] => l_q1r m m_1 m_2 m_3 m_4 m_5 s w (k0_q1r K)
 |_, _ => none⟩

theorem sound_q1r : Sound Tryz.prog 76 (S_q1r @l_q1r) := by
 refine fn_sound (cuts := cuts_q1r) (fn := Tryz.f76) (Γ := C_q1r) wide right_T_q1r Tryz.func76 fun {R} K r args ob h => ?_
 unfold S_q1r at h
 dsimp only at h
 split at h
 ·exact ⟨Nat.le_of_ble_eq_true (by kernel_rfl), 0, (gentry_q1r K _ _ _ _ _ _ _ _).trans h⟩
 ·cases h

theorem call_q1r : Callable Tryz.prog 76 := ⟨_, Tryz.func76, by kernel_rfl, by kernel_rfl⟩

def T_q1s (a0 : LT_q1r) : FuncId -> Option Sum := (addS G0 76 (S_q1r @a0))

abbrev C_q1s : FuncId -> Option Sum := T_q1s @l_q1r

theorem right_T_q1s : Right Tryz.prog C_q1s := (right_add right_G0 call_q1r sound_q1r)

abbrev cuts_q1s : Cuts := []

abbrev k0_q1s {R : Type} (K : AV -> List O -> Option R) : Int -> (List Int) -> Option R := fun r0 r1 => K (.tup [.own 0, iv r0]) [wi 3 r1]

theorem gentry_q1s {a0 : LT_q1r} {R : Type} (K : AV -> List O -> Option R) (m m_1 m_2 m_3 : Int) (m_4 m_5 w : List Int) :
  fnRun Tryz.prog (T_q1s @a0) cuts_q1s Tryz.f51 0 [.agg [iv m, iv m_1, iv m_2, iv m_3, ri 3 m_4, ri 3 m_5], ri 3 w] [] K =
  gl_q1s @a0 m m_1 m_2 m_3 m_4 m_5 w (k0_q1s K) := by kernel_rfl

def S_q1s (l_q1s : LT_q1s) : Sum := ⟨[], fun {R} args ob K => match args, ob with
 |[.agg [.v (.int .i64 m), .v (.int .i64 m_1), .v (.int .i64 m_2), .v (.int .i64 m_3), .rd ⟨false, 3, (.int .i64), m_4⟩, .rd ⟨false, 3, (.int .i64), m_5⟩], .rd ⟨false, 3, (.int .i64), w⟩], [] => l_q1s m m_1 m_2 m_3 m_4 m_5 w (k0_q1s K)
 |_, _ => none⟩

theorem sound_q1s : Sound Tryz.prog 51 (S_q1s @l_q1s) := by
 refine fn_sound (cuts := cuts_q1s) (fn := Tryz.f51) (Γ := C_q1s) wide right_T_q1s Tryz.func51 fun {R} K r args ob h => ?_
 unfold S_q1s at h
 dsimp only at h
 split at h
 ·exact ⟨Nat.le_of_ble_eq_true (by kernel_rfl), 0, (gentry_q1s K _ _ _ _ _ _ _).trans h⟩
 ·cases h

theorem call_q1s : Callable Tryz.prog 51 := ⟨_, Tryz.func51, by kernel_rfl, by kernel_rfl⟩

def T_q1t : FuncId -> Option Sum := G0

theorem right_T_q1t : Right Tryz.prog T_q1t := right_G0

abbrev cuts_q1t : Cuts := []

abbrev k0_q1t {R : Type} (K : AV -> List O -> Option R) : Bool -> Option R := fun r0 => K (.v (.bool r0)) []

theorem gentry_q1t {R : Type} (K : AV -> List O -> Option R) (a a_1 a_2 a_3 : Int) (a_4 a_5 : List Int) (b b_1 b_2 b_3 : Int) (b_4 b_5 : List Int) (s t x : Int) :
  fnRun Tryz.prog T_q1t cuts_q1t Tryz.f96 0 [.agg [iv a, iv a_1, iv a_2, iv a_3, ri 3 a_4, ri 3 a_5], .agg [iv b, iv b_1, iv b_2, iv b_3, ri 3 b_4, ri 3 b_5], iv s, iv t, iv x] [] K =
  l_q1t a a_1 a_2 a_3 a_4 a_5 b b_1 b_2 b_3 b_4 b_5 s t x (k0_q1t K) := by kernel_rfl

def S_q1t (l_q1t : LT_q1t) : Sum := ⟨[], fun {R} args ob K => match args, ob with
 |[.agg [.v (.int .i64 a), .v (.int .i64 a_1), .v (.int .i64 a_2), .v (.int .i64 a_3), .rd ⟨false, 3, (.int .i64), a_4⟩, .rd ⟨false, 3, (.int .i64), a_5⟩], .agg [.v (.int .i64 b), .v (.int .i64 b_1), .v (.int .i64 b_2), .v (.int .i64 b_3), .rd ⟨false, 3, (.int .i64), b_4⟩, .rd ⟨false, 3, (.int .i64), b_5⟩], .v (.int .i64 s), .v (.int .i64 t), .v (.int .i64 x)], [] => l_q1t a a_1 a_2 a_3 a_4 a_5 b b_1 b_2 b_3 b_4 b_5 s t x (k0_q1t K)
 |_, _ => none⟩

theorem sound_q1t : Sound Tryz.prog 96 (S_q1t @l_q1t) := by
 refine fn_sound (cuts := cuts_q1t) (fn := Tryz.f96) (Γ := T_q1t) wide right_T_q1t Tryz.func96 fun {R} K r args ob h => ?_
 unfold S_q1t at h
 dsimp only at h
 split at h
 ·exact ⟨Nat.le_of_ble_eq_true (by kernel_rfl), 0, (gentry_q1t K _ _ _ _ _ _ _ _ _ _ _ _ _ _ _).trans h⟩
 ·cases h

theorem call_q1t : Callable Tryz.prog 96 := ⟨_, Tryz.func96, by kernel_rfl, by kernel_rfl⟩

def T_q1u : FuncId -> Option Sum := G0

theorem right_T_q1u : Right Tryz.prog T_q1u := right_G0

abbrev cuts_q1u : Cuts := []

abbrev k0_q1u {R : Type} (K : AV -> List O -> Option R) : (List Int) -> Option R := fun r0 => K (.own 0) [wi 3 r0]

theorem gentry_q1u {R : Type} (K : AV -> List O -> Option R) (a b : List Int) :
  fnRun Tryz.prog T_q1u cuts_q1u Tryz.f97 0 [ri 3 a, ri 3 b] [] K =
  l_q1u a b (k0_q1u K) := by kernel_rfl

def S_q1u (l_q1u : LT_q1u) : Sum := ⟨[], fun {R} args ob K => match args, ob with
 |[.rd ⟨false, 3, (.int .i64), a⟩, .rd ⟨false, 3, (.int .i64), b⟩], [] => l_q1u a b (k0_q1u K)
 |_, _ => none⟩

theorem sound_q1u : Sound Tryz.prog 97 (S_q1u @l_q1u) := by
 refine fn_sound (cuts := cuts_q1u) (fn := Tryz.f97) (Γ := T_q1u) wide right_T_q1u Tryz.func97 fun {R} K r args ob h => ?_
 unfold S_q1u at h
 dsimp only at h
 split at h
 ·exact ⟨Nat.le_of_ble_eq_true (by kernel_rfl), 0, (gentry_q1u K _ _).trans h⟩
 ·cases h

theorem call_q1u : Callable Tryz.prog 97 := ⟨_, Tryz.func97, by kernel_rfl, by kernel_rfl⟩

def T_q1v (a0 : LT_q1t) (a1 : LT_q1u) : FuncId -> Option Sum := (addS (addS G0 96 (S_q1t @a0)) 97 (S_q1u @a1))

abbrev C_q1v : FuncId -> Option Sum := T_q1v @l_q1t @l_q1u

theorem right_T_q1v : Right Tryz.prog C_q1v := (right_add (right_add right_G0 call_q1t sound_q1t) call_q1u sound_q1u)

abbrev cuts_q1v : Cuts := [(8, [4, 5, 10, 11, 12, 13]), (12, [4, 5, 10, 11, 12, 13, 14, 15, 16])]

abbrev k0_q1v {R : Type} (K : AV -> List O -> Option R) : Bool -> (List Int) -> Option R := fun r0 r1 => K (.tup [.own 0, .v (.bool r0)]) [wi 3 r1]

abbrev sta_q1v_8 (i o0 o0_1 o0_2 o0_3 : Int) (o0_4 o0_5 : List Int) (o1 o1_1 o1_2 o1_3 : Int) (o1_4 o1_5 : List Int) (o2 : List Bool) (o3 : List (List Int)) (o4 : List Int) : St := ⟨fr0 146 [(4, .ptr 0 0), (5, .ptr 1 0), (10, .own 2), (11, .nst 3), (12, .own 4), (13, iv i)], [.box 47 [iv o0, iv o0_1, iv o0_2, iv o0_3, ri 3 o0_4, ri 3 o0_5], .box 47 [iv o1, iv o1_1, iv o1_2, iv o1_3, ri 3 o1_4, ri 3 o1_5], .row ⟨true, 4, .bool, o2⟩, .nst ⟨true, 45, (.sl 3 (.int .i64)), o3⟩, wi 3 o4]⟩

abbrev gt_q1v_8 {R : Type} (g : List Item -> St -> Option R) : GT_q1v_8 R := fun (i o0 o0_1 o0_2 o0_3 : Int) (o0_4 o0_5 : List Int) (o1 o1_1 o1_2 o1_3 : Int) (o1_4 o1_5 : List Int) (o2 : List Bool) (o3 : List (List Int)) (o4 : List Int) => g (at' Tryz.f77 8) (sta_q1v_8 i o0 o0_1 o0_2 o0_3 o0_4 o0_5 o1 o1_1 o1_2 o1_3 o1_4 o1_5 o2 o3 o4)

abbrev sta_q1v_12 (i s t x o0 o0_1 o0_2 o0_3 : Int) (o0_4 o0_5 : List Int) (o1 o1_1 o1_2 o1_3 : Int) (o1_4 o1_5 : List Int) (o2 : List Bool) (o3 : List (List Int)) (o4 : List Int) : St := ⟨fr0 146 [(4, .ptr 0 0), (5, .ptr 1 0), (10, .own 2), (11, .nst 3), (12, .own 4), (13, iv i), (14, iv s), (15, iv t), (16, iv x)], [.box 47 [iv o0, iv o0_1, iv o0_2, iv o0_3, ri 3 o0_4, ri 3 o0_5], .box 47 [iv o1, iv o1_1, iv o1_2, iv o1_3, ri 3 o1_4, ri 3 o1_5], .row ⟨true, 4, .bool, o2⟩, .nst ⟨true, 45, (.sl 3 (.int .i64)), o3⟩, wi 3 o4]⟩

abbrev gt_q1v_12 {R : Type} (g : List Item -> St -> Option R) : GT_q1v_12 R := fun (i s t x o0 o0_1 o0_2 o0_3 : Int) (o0_4 o0_5 : List Int) (o1 o1_1 o1_2 o1_3 : Int) (o1_4 o1_5 : List Int) (o2 : List Bool) (o3 : List (List Int)) (o4 : List Int) => g (at' Tryz.f77 12) (sta_q1v_12 i s t x o0 o0_1 o0_2 o0_3 o0_4 o0_5 o1 o1_1 o1_2 o1_3 o1_4 o1_5 o2 o3 o4)

theorem gstep_q1v_8 {a0 : LT_q1t} {a1 : LT_q1u} {R : Type} (g : List Item -> St -> Option R) (K : AV -> List O -> Option R) (i o0 o0_1 o0_2 o0_3 : Int) (o0_4 o0_5 : List Int) (o1 o1_1 o1_2 o1_3 : Int) (o1_4 o1_5 : List Int) (o2 : List Bool) (o3 : List (List Int)) (o4 : List Int) :
  runSeg Tryz.prog (T_q1v @a0 @a1) cuts_q1v 0 g (finish Tryz.prog Tryz.f77 0 K) (at' Tryz.f77 8) (sta_q1v_8 i o0 o0_1 o0_2 o0_3 o0_4 o0_5 o1 o1_1 o1_2 o1_3 o1_4 o1_5 o2 o3 o4) =
  gs_q1v_8 @a0 @a1 (gt_q1v_8 g) (gt_q1v_12 g) (k0_q1v K) i o0 o0_1 o0_2 o0_3 o0_4 o0_5 o1 o1_1 o1_2 o1_3 o1_4 o1_5 o2 o3 o4 := by kernel_rfl

theorem gstep_q1v_12 {a0 : LT_q1t} {a1 : LT_q1u} {R : Type} (g : List Item -> St -> Option R) (K : AV -> List O -> Option R) (i s t x o0 o0_1 o0_2 o0_3 : Int) (o0_4 o0_5 : List Int) (o1 o1_1 o1_2 o1_3 : Int) (o1_4 o1_5 : List Int) (o2 : List Bool) (o3 : List (List Int)) (o4 : List Int) :
  runSeg Tryz.prog (T_q1v @a0 @a1) cuts_q1v 0 g (finish Tryz.prog Tryz.f77 0 K) (at' Tryz.f77 12) (sta_q1v_12 i s t x o0 o0_1 o0_2 o0_3 o0_4 o0_5 o1 o1_1 o1_2 o1_3 o1_4 o1_5 o2 o3 o4) =
  gs_q1v_12 @a0 @a1 (gt_q1v_8 g) (gt_q1v_12 g) (k0_q1v K) i s t x o0 o0_1 o0_2 o0_3 o0_4 o0_5 o1 o1_1 o1_2 o1_3 o1_4 o1_5 o2 o3 o4 := by kernel_rfl

theorem gentry_q1v {a0 : LT_q1t} {a1 : LT_q1u} {R : Type} (fuel : Nat) (K : AV -> List O -> Option R) (a a_1 a_2 a_3 : Int) (a_4 a_5 : List Int) (b b_1 b_2 b_3 : Int) (b_4 b_5 : List Int) (s t : Int) :
  fnRun Tryz.prog (T_q1v @a0 @a1) cuts_q1v Tryz.f77 fuel [.agg [iv a, iv a_1, iv a_2, iv a_3, ri 3 a_4, ri 3 a_5], .agg [iv b, iv b_1, iv b_2, iv b_3, ri 3 b_4, ri 3 b_5], iv s, iv t] [] K =
  ge_q1v @a0 @a1 (gt_q1v_8 (runO Tryz.prog (T_q1v @a0 @a1) cuts_q1v 0 (finish Tryz.prog Tryz.f77 0 K) fuel)) (gt_q1v_12 (runO Tryz.prog (T_q1v @a0 @a1) cuts_q1v 0 (finish Tryz.prog Tryz.f77 0 K) fuel)) (k0_q1v K) a a_1 a_2 a_3 a_4 a_5 b b_1 b_2 b_3 b_4 b_5 s t := by kernel_rfl

theorem runs_q1v {R : Type} (K : AV -> List O -> Option R) : ∀ fuel : Nat,
  (gt_q1v_8 (runO Tryz.prog C_q1v cuts_q1v 0 (finish Tryz.prog Tryz.f77 0 K) fuel)) = (run_q1v (k0_q1v K) fuel).1 ∧
  (gt_q1v_12 (runO Tryz.prog C_q1v cuts_q1v 0 (finish Tryz.prog Tryz.f77 0 K) fuel)) = (run_q1v (k0_q1v K) fuel).2
 |0 => ⟨rfl, rfl⟩
 |fuel + 1 => by
  have ih := runs_q1v K fuel
  refine ⟨?_, ?_⟩
  ·funext i o0 o0_1 o0_2 o0_3 o0_4 o0_5 o1 o1_1 o1_2 o1_3 o1_4 o1_5 o2 o3 o4
   refine (gstep_q1v_8 _ K i o0 o0_1 o0_2 o0_3 o0_4 o0_5 o1 o1_1 o1_2 o1_3 o1_4 o1_5 o2 o3 o4).trans ?_
   rw [ih.1, ih.2]
   rfl
  ·funext i s t x o0 o0_1 o0_2 o0_3 o0_4 o0_5 o1 o1_1 o1_2 o1_3 o1_4 o1_5 o2 o3 o4
   refine (gstep_q1v_12 _ K i s t x o0 o0_1 o0_2 o0_3 o0_4 o0_5 o1 o1_1 o1_2 o1_3 o1_4 o1_5 o2 o3 o4).trans ?_
   rw [ih.1, ih.2]
   rfl

def S_q1v (l_q1v : LT_q1v) : Sum := ⟨[], fun {R} args ob K => match args, ob with
 |[.agg [.v (.int .i64 a), .v (.int .i64 a_1), .v (.int .i64 a_2), .v (.int .i64 a_3), .rd ⟨false, 3, (.int .i64), a_4⟩, .rd ⟨false, 3, (.int .i64), a_5⟩], .agg [.v (.int .i64 b), .v (.int .i64 b_1), .v (.int .i64 b_2), .v (.int .i64 b_3), .rd ⟨false, 3, (.int .i64), b_4⟩, .rd ⟨false, 3, (.int .i64), b_5⟩], .v (.int .i64 s), .v (.int .i64 t)], [] => l_q1v a a_1 a_2 a_3 a_4 a_5 b b_1 b_2 b_3 b_4 b_5 s t (k0_q1v K)
 |_, _ => none⟩

theorem sound_q1v : Sound Tryz.prog 77 (S_q1v @l_q1v) := by
 refine fn_sound (cuts := cuts_q1v) (fn := Tryz.f77) (Γ := C_q1v) wide right_T_q1v Tryz.func77 fun {R} K r args ob h => ?_
 unfold S_q1v at h
 dsimp only at h
 split at h
 ·obtain ⟨n, hn⟩ := ok_q1v _ _ _ _ _ _ _ _ _ _ _ _ _ _ _ h
  refine ⟨Nat.le_of_ble_eq_true (by kernel_rfl), n, (gentry_q1v n K _ _ _ _ _ _ _ _ _ _ _ _ _ _).trans ?_⟩
  rw [(runs_q1v K n).1, (runs_q1v K n).2]
  exact hn
 ·cases h

theorem call_q1v : Callable Tryz.prog 77 := ⟨_, Tryz.func77, by kernel_rfl, by kernel_rfl⟩

def T_q1w (a0 : LT_q1v) (a1 : LT_q1n) : FuncId -> Option Sum := (addS (addS G0 77 (S_q1v @a0)) 50 (S_q1n @a1))

abbrev C_q1w : FuncId -> Option Sum := T_q1w @l_q1v @l_q1n

theorem right_T_q1w : Right Tryz.prog C_q1w := (right_add (right_add right_G0 call_q1v sound_q1v) call_q1n sound_q1n)

abbrev cuts_q1w : Cuts := []

abbrev k0_q1w {R : Type} (K : AV -> List O -> Option R) : Bool -> Int -> (List Int) -> Option R := fun r0 r1 r2 => K (.tup [.own 0, .v (.bool r0), iv r1]) [wi 3 r2]

theorem gentry_q1w {a0 : LT_q1v} {a1 : LT_q1n} {R : Type} (K : AV -> List O -> Option R) (a a_1 a_2 a_3 : Int) (a_4 a_5 : List Int) (b b_1 b_2 b_3 : Int) (b_4 b_5 : List Int) :
  fnRun Tryz.prog (T_q1w @a0 @a1) cuts_q1w Tryz.f52 0 [.agg [iv a, iv a_1, iv a_2, iv a_3, ri 3 a_4, ri 3 a_5], .agg [iv b, iv b_1, iv b_2, iv b_3, ri 3 b_4, ri 3 b_5]] [] K =
  gl_q1w @a0 @a1 a a_1 a_2 a_3 a_4 a_5 b b_1 b_2 b_3 b_4 b_5 (k0_q1w K) := by kernel_rfl

def S_q1w (l_q1w : LT_q1w) : Sum := ⟨[], fun {R} args ob K => match args, ob with
 |[.agg [.v (.int .i64 a), .v (.int .i64 a_1), .v (.int .i64 a_2), .v (.int .i64 a_3), .rd ⟨false, 3, (.int .i64), a_4⟩, .rd ⟨false, 3, (.int .i64), a_5⟩], .agg [.v (.int .i64 b), .v (.int .i64 b_1), .v (.int .i64 b_2), .v (.int .i64 b_3), .rd ⟨false, 3, (.int .i64), b_4⟩, .rd ⟨false, 3, (.int .i64), b_5⟩]], [] => l_q1w a a_1 a_2 a_3 a_4 a_5 b b_1 b_2 b_3 b_4 b_5 (k0_q1w K)
 |_, _ => none⟩

theorem sound_q1w : Sound Tryz.prog 52 (S_q1w @l_q1w) := by
 refine fn_sound (cuts := cuts_q1w) (fn := Tryz.f52) (Γ := C_q1w) wide right_T_q1w Tryz.func52 fun {R} K r args ob h => ?_
 unfold S_q1w at h
 dsimp only at h
 split at h
 ·exact ⟨Nat.le_of_ble_eq_true (by kernel_rfl), 0, (gentry_q1w K _ _ _ _ _ _ _ _ _ _ _ _).trans h⟩
 ·cases h

theorem call_q1w : Callable Tryz.prog 52 := ⟨_, Tryz.func52, by kernel_rfl, by kernel_rfl⟩

def T_q1x (a0 : LT_q1s) (a1 : LT_q1w) (a2 : LT_q1n) : FuncId -> Option Sum := (addS (addS (addS G0 51 (S_q1s @a0)) 52 (S_q1w @a1)) 50 (S_q1n @a2))

abbrev C_q1x : FuncId -> Option Sum := T_q1x @l_q1s @l_q1w @l_q1n

theorem right_T_q1x : Right Tryz.prog C_q1x := (right_add (right_add (right_add right_G0 call_q1s sound_q1s) call_q1w sound_q1w) call_q1n sound_q1n)

abbrev cuts_q1x : Cuts := []

abbrev k0_q1x {R : Type} (K : AV -> List O -> Option R) : Int -> Int -> (List Int) -> (List Int) -> Option R := fun r0 r1 r2 r3 => K (.tup [.agg [iv r0, .own 0, .own 1], iv r1]) [wi 3 r2, wi 3 r3]

theorem gentry_q1x {a0 : LT_q1s} {a1 : LT_q1w} {a2 : LT_q1n} {R : Type} (K : AV -> List O -> Option R) (m m_1 m_2 m_3 : Int) (m_4 m_5 : List Int) (q : Int) (q_1 : List Int) (q_2 q_3 q_4 q_5 : Int) (q_6 q_7 : List Int) :
  fnRun Tryz.prog (T_q1x @a0 @a1 @a2) cuts_q1x Tryz.f26 0 [.agg [iv m, iv m_1, iv m_2, iv m_3, ri 3 m_4, ri 3 m_5], .agg [iv q, ri 3 q_1, iv q_2, iv q_3, iv q_4, iv q_5, ri 3 q_6, ri 3 q_7]] [] K =
  gl_q1x @a0 @a1 @a2 m m_1 m_2 m_3 m_4 m_5 q q_1 q_2 q_3 q_4 q_5 q_6 q_7 (k0_q1x K) := by kernel_rfl

def S_q1x (l_q1x : LT_q1x) : Sum := ⟨[], fun {R} args ob K => match args, ob with
 |[.agg [.v (.int .i64 m), .v (.int .i64 m_1), .v (.int .i64 m_2), .v (.int .i64 m_3), .rd ⟨false, 3, (.int .i64), m_4⟩, .rd ⟨false, 3, (.int .i64), m_5⟩], .agg [.v (.int .i64 q), .rd ⟨false, 3, (.int .i64), q_1⟩, .v (.int .i64 q_2), .v (.int .i64 q_3), .v (.int .i64 q_4), .v (.int .i64 q_5), .rd ⟨false, 3, (.int .i64), q_6⟩, .rd ⟨false, 3, (.int .i64), q_7⟩]], [] => l_q1x m m_1 m_2 m_3 m_4 m_5 q q_1 q_2 q_3 q_4 q_5 q_6 q_7 (k0_q1x K)
 |_, _ => none⟩

theorem sound_q1x : Sound Tryz.prog 26 (S_q1x @l_q1x) := by
 refine fn_sound (cuts := cuts_q1x) (fn := Tryz.f26) (Γ := C_q1x) wide right_T_q1x Tryz.func26 fun {R} K r args ob h => ?_
 unfold S_q1x at h
 dsimp only at h
 split at h
 ·exact ⟨Nat.le_of_ble_eq_true (by kernel_rfl), 0, (gentry_q1x K _ _ _ _ _ _ _ _ _ _ _ _ _ _).trans h⟩
 ·cases h

theorem call_q1x : Callable Tryz.prog 26 := ⟨_, Tryz.func26, by kernel_rfl, by kernel_rfl⟩

def T_q1z (a0 : LT_qe) (a1 : LT_qr) : FuncId -> Option Sum := (addS (addS G0 70 (S_qe @a0)) 53 (S_qr @a1))

abbrev C_q1z : FuncId -> Option Sum := T_q1z @l_qe @l_qr

theorem right_T_q1z : Right Tryz.prog C_q1z := (right_add (right_add right_G0 call_qe sound_qe) call_qr sound_qr)

abbrev cuts_q1z : Cuts := [(10, [1, 3, 7, 42, 43, 44])]

abbrev k0_q1z {R : Type} (K : AV -> List O -> Option R) : Int -> Int -> (List Int) -> Option R := fun r0 r1 r2 => K (.tup [iv r0, .own 0, iv r1]) [wi 3 r2]

abbrev sta_q1z_10 (s : Int) (x42 : List Int) (x43 x44 o0 o0_1 o0_2 o0_3 : Int) (o0_4 o0_5 o1 : List Int) : St := ⟨fr0 82 [(1, iv s), (3, .ptr 0 0), (7, .own 1), (42, ri 3 x42), (43, iv x43), (44, iv x44)], [.box 47 [iv o0, iv o0_1, iv o0_2, iv o0_3, ri 3 o0_4, ri 3 o0_5], wi 3 o1]⟩

abbrev gt_q1z_10 {R : Type} (g : List Item -> St -> Option R) : GT_q1z_10 R := fun (s : Int) (x42 : List Int) (x43 x44 o0 o0_1 o0_2 o0_3 : Int) (o0_4 o0_5 o1 : List Int) => g (at' Tryz.f148 10) (sta_q1z_10 s x42 x43 x44 o0 o0_1 o0_2 o0_3 o0_4 o0_5 o1)

theorem gstep_q1z_10 {a0 : LT_qe} {a1 : LT_qr} {R : Type} (g : List Item -> St -> Option R) (K : AV -> List O -> Option R) (s : Int) (x42 : List Int) (x43 x44 o0 o0_1 o0_2 o0_3 : Int) (o0_4 o0_5 o1 : List Int) :
  runSeg Tryz.prog (T_q1z @a0 @a1) cuts_q1z 0 g (finish Tryz.prog Tryz.f148 0 K) (at' Tryz.f148 10) (sta_q1z_10 s x42 x43 x44 o0 o0_1 o0_2 o0_3 o0_4 o0_5 o1) =
  gs_q1z_10 @a0 @a1 (gt_q1z_10 g) (k0_q1z K) s x42 x43 x44 o0 o0_1 o0_2 o0_3 o0_4 o0_5 o1 := by kernel_rfl

theorem gentry_q1z {a0 : LT_qe} {a1 : LT_qr} {R : Type} (fuel : Nat) (K : AV -> List O -> Option R) (m m_1 m_2 m_3 : Int) (m_4 m_5 : List Int) (s : Int) (w : List Int) :
  fnRun Tryz.prog (T_q1z @a0 @a1) cuts_q1z Tryz.f148 fuel [.agg [iv m, iv m_1, iv m_2, iv m_3, ri 3 m_4, ri 3 m_5], iv s, ri 3 w] [] K =
  ge_q1z @a0 @a1 (gt_q1z_10 (runO Tryz.prog (T_q1z @a0 @a1) cuts_q1z 0 (finish Tryz.prog Tryz.f148 0 K) fuel)) (k0_q1z K) m m_1 m_2 m_3 m_4 m_5 s w := by kernel_rfl

theorem runs_q1z {R : Type} (K : AV -> List O -> Option R) : ∀ fuel : Nat,
  (gt_q1z_10 (runO Tryz.prog C_q1z cuts_q1z 0 (finish Tryz.prog Tryz.f148 0 K) fuel)) = (run_q1z (k0_q1z K) fuel)
 |0 => rfl
 |fuel + 1 => by
  have ih := runs_q1z K fuel
  funext s x42 x43 x44 o0 o0_1 o0_2 o0_3 o0_4 o0_5 o1
  refine (gstep_q1z_10 _ K s x42 x43 x44 o0 o0_1 o0_2 o0_3 o0_4 o0_5 o1).trans ?_
  rw [ih]
  rfl

def S_q1z (l_q1z : LT_q1z) : Sum := ⟨[], fun {R} args ob K => match args, ob with
 |[.agg [.v (.int .i64 m), .v (.int .i64 m_1), .v (.int .i64 m_2), .v (.int .i64 m_3), .rd ⟨false, 3, (.int .i64), m_4⟩, .rd ⟨false, 3, (.int .i64), m_5⟩], .v (.int .i64 s), .rd ⟨false, 3, (.int .i64), w⟩], [] => l_q1z m m_1 m_2 m_3 m_4 m_5 s w (k0_q1z K)
 |_, _ => none⟩

theorem sound_q1z : Sound Tryz.prog 148 (S_q1z @l_q1z) := by
 refine fn_sound (cuts := cuts_q1z) (fn := Tryz.f148) (Γ := C_q1z) wide right_T_q1z Tryz.func148 fun {R} K r args ob h => ?_
 unfold S_q1z at h
 dsimp only at h
 split at h
 ·obtain ⟨n, hn⟩ := ok_q1z _ _ _ _ _ _ _ _ _ h
  refine ⟨Nat.le_of_ble_eq_true (by kernel_rfl), n, (gentry_q1z n K _ _ _ _ _ _ _ _).trans ?_⟩
  rw [(runs_q1z K n)]
  exact hn
 ·cases h

theorem call_q1z : Callable Tryz.prog 148 := ⟨_, Tryz.func148, by kernel_rfl, by kernel_rfl⟩

def T_q20 (a0 : LT_q1z) : FuncId -> Option Sum := (addS G0 148 (S_q1z @a0))

abbrev C_q20 : FuncId -> Option Sum := T_q20 @l_q1z

theorem right_T_q20 : Right Tryz.prog C_q20 := (right_add right_G0 call_q1z sound_q1z)

abbrev cuts_q20 : Cuts := []

abbrev k0_q20 {R : Type} (K : AV -> List O -> Option R) : Int -> (List Int) -> Option R := fun r0 r1 => K (.tup [.own 0, iv r0]) [wi 3 r1]

theorem gentry_q20 {a0 : LT_q1z} {R : Type} (K : AV -> List O -> Option R) (m m_1 m_2 m_3 : Int) (m_4 m_5 w : List Int) :
  fnRun Tryz.prog (T_q20 @a0) cuts_q20 Tryz.f146 0 [.agg [iv m, iv m_1, iv m_2, iv m_3, ri 3 m_4, ri 3 m_5], ri 3 w] [] K =
  gl_q20 @a0 m m_1 m_2 m_3 m_4 m_5 w (k0_q20 K) := by kernel_rfl

def S_q20 (l_q20 : LT_q20) : Sum := ⟨[], fun {R} args ob K => match args, ob with
 |[.agg [.v (.int .i64 m), .v (.int .i64 m_1), .v (.int .i64 m_2), .v (.int .i64 m_3), .rd ⟨false, 3, (.int .i64), m_4⟩, .rd ⟨false, 3, (.int .i64), m_5⟩], .rd ⟨false, 3, (.int .i64), w⟩], [] => l_q20 m m_1 m_2 m_3 m_4 m_5 w (k0_q20 K)
 |_, _ => none⟩

theorem sound_q20 : Sound Tryz.prog 146 (S_q20 @l_q20) := by
 refine fn_sound (cuts := cuts_q20) (fn := Tryz.f146) (Γ := C_q20) wide right_T_q20 Tryz.func146 fun {R} K r args ob h => ?_
 unfold S_q20 at h
 dsimp only at h
 split at h
 ·exact ⟨Nat.le_of_ble_eq_true (by kernel_rfl), 0, (gentry_q20 K _ _ _ _ _ _ _).trans h⟩
 ·cases h

theorem call_q20 : Callable Tryz.prog 146 := ⟨_, Tryz.func146, by kernel_rfl, by kernel_rfl⟩

def T_q21 : FuncId -> Option Sum := G0

theorem right_T_q21 : Right Tryz.prog T_q21 := right_G0

abbrev cuts_q21 : Cuts := [(4, [0, 1, 12, 13])]

abbrev k0_q21 {R : Type} (K : AV -> List O -> Option R) : Bool -> Option R := fun r0 => K (.v (.bool r0)) []

abbrev sta_q21_4 (s1 s2 : List Int) (x12 x13 : Int) : St := ⟨fr0 26 [(0, ri 3 s1), (1, ri 3 s2), (12, iv x12), (13, iv x13)], []⟩

abbrev gt_q21_4 {R : Type} (g : List Item -> St -> Option R) : GT_q21_4 R := fun (s1 s2 : List Int) (x12 x13 : Int) => g (at' Tryz.f147 4) (sta_q21_4 s1 s2 x12 x13)

theorem gstep_q21_4 {R : Type} (g : List Item -> St -> Option R) (K : AV -> List O -> Option R) (s1 s2 : List Int) (x12 x13 : Int) :
  runSeg Tryz.prog T_q21 cuts_q21 0 g (finish Tryz.prog Tryz.f147 0 K) (at' Tryz.f147 4) (sta_q21_4 s1 s2 x12 x13) =
  s_q21_4 (gt_q21_4 g) (k0_q21 K) s1 s2 x12 x13 := by kernel_rfl

theorem gentry_q21 {R : Type} (fuel : Nat) (K : AV -> List O -> Option R) (s1 s2 : List Int) :
  fnRun Tryz.prog T_q21 cuts_q21 Tryz.f147 fuel [ri 3 s1, ri 3 s2] [] K =
  e_q21 (gt_q21_4 (runO Tryz.prog T_q21 cuts_q21 0 (finish Tryz.prog Tryz.f147 0 K) fuel)) (k0_q21 K) s1 s2 := by kernel_rfl

theorem runs_q21 {R : Type} (K : AV -> List O -> Option R) : ∀ fuel : Nat,
  (gt_q21_4 (runO Tryz.prog T_q21 cuts_q21 0 (finish Tryz.prog Tryz.f147 0 K) fuel)) = (run_q21 (k0_q21 K) fuel)
 |0 => rfl
 |fuel + 1 => by
  have ih := runs_q21 K fuel
  funext s1 s2 x12 x13
  refine (gstep_q21_4 _ K s1 s2 x12 x13).trans ?_
  rw [ih]
  rfl

def S_q21 (l_q21 : LT_q21) : Sum := ⟨[], fun {R} args ob K => match args, ob with
 |[.rd ⟨false, 3, (.int .i64), s1⟩, .rd ⟨false, 3, (.int .i64), s2⟩], [] => l_q21 s1 s2 (k0_q21 K)
 |_, _ => none⟩

theorem sound_q21 : Sound Tryz.prog 147 (S_q21 @l_q21) := by
 refine fn_sound (cuts := cuts_q21) (fn := Tryz.f147) (Γ := T_q21) wide right_T_q21 Tryz.func147 fun {R} K r args ob h => ?_
 unfold S_q21 at h
 dsimp only at h
 split at h
 ·obtain ⟨n, hn⟩ := evl_ok h
  refine ⟨Nat.le_of_ble_eq_true (by kernel_rfl), n, (gentry_q21 n K _ _).trans ?_⟩
  rw [(runs_q21 K n)]
  exact hn
 ·cases h

theorem call_q21 : Callable Tryz.prog 147 := ⟨_, Tryz.func147, by kernel_rfl, by kernel_rfl⟩

def T_q22 (a0 : LT_q21) (a1 : LT_q20) : FuncId -> Option Sum := (addS (addS G0 147 (S_q21 @a0)) 146 (S_q20 @a1))

abbrev C_q22 : FuncId -> Option Sum := T_q22 @l_q21 @l_q20

theorem right_T_q22 : Right Tryz.prog C_q22 := (right_add (right_add right_G0 call_q21 sound_q21) call_q20 sound_q20)

abbrev cuts_q22 : Cuts := []

abbrev k0_q22 {R : Type} (K : AV -> List O -> Option R) : Bool -> Option R := fun r0 => K (.v (.bool r0)) []

theorem gentry_q22 {a0 : LT_q21} {a1 : LT_q20} {R : Type} (K : AV -> List O -> Option R) (r : Int) (r_1 : List Int) (r_2 r_3 r_4 r_5 : Int) (r_6 r_7 : List Int) (r_8 : Int) (r_9 r_10 : List Int) (m m_1 m_2 m_3 : Int) (m_4 m_5 : List Int) :
  fnRun Tryz.prog (T_q22 @a0 @a1) cuts_q22 Tryz.f145 0 [.agg [iv r, ri 3 r_1, iv r_2, iv r_3, iv r_4, iv r_5, ri 3 r_6, ri 3 r_7, iv r_8, ri 3 r_9, ri 3 r_10], .agg [iv m, iv m_1, iv m_2, iv m_3, ri 3 m_4, ri 3 m_5]] [] K =
  gl_q22 @a0 @a1 r r_1 r_2 r_3 r_4 r_5 r_6 r_7 r_8 r_9 r_10 m m_1 m_2 m_3 m_4 m_5 (k0_q22 K) := by kernel_rfl

def S_q22 (l_q22 : LT_q22) : Sum := ⟨[], fun {R} args ob K => match args, ob with
 |[.agg [.v (.int .i64 r), .rd ⟨false, 3, (.int .i64), r_1⟩, .v (.int .i64 r_2), .v (.int .i64 r_3), .v (.int .i64 r_4), .v (.int .i64 r_5), .rd ⟨false, 3, (.int .i64), r_6⟩, .rd ⟨false, 3, (.int .i64), r_7⟩, .v (.int .i64 r_8), .rd ⟨false, 3, (.int .i64), r_9⟩, .rd ⟨false, 3, (.int .i64), r_10⟩], .agg [.v (.int .i64 m), .v (.int .i64 m_1), .v (.int .i64 m_2), .v (.int .i64 m_3), .rd ⟨false, 3, (.int .i64), m_4⟩, .rd ⟨false, 3, (.int .i64), m_5⟩]], [] => l_q22 r r_1 r_2 r_3 r_4 r_5 r_6 r_7 r_8 r_9 r_10 m m_1 m_2 m_3 m_4 m_5 (k0_q22 K)
 |_, _ => none⟩

theorem sound_q22 : Sound Tryz.prog 145 (S_q22 @l_q22) := by
 refine fn_sound (cuts := cuts_q22) (fn := Tryz.f145) (Γ := C_q22) wide right_T_q22 Tryz.func145 fun {R} K r args ob h => ?_
 unfold S_q22 at h
 dsimp only at h
 split at h
 ·exact ⟨Nat.le_of_ble_eq_true (by kernel_rfl), 0, (gentry_q22 K _ _ _ _ _ _ _ _ _ _ _ _ _ _ _ _ _).trans h⟩
 ·cases h

theorem call_q22 : Callable Tryz.prog 145 := ⟨_, Tryz.func145, by kernel_rfl, by kernel_rfl⟩

def T_q23 (a0 : LT_qr) : FuncId -> Option Sum := (addS G0 53 (S_qr @a0))

abbrev C_q23 : FuncId -> Option Sum := T_q23 @l_qr

theorem right_T_q23 : Right Tryz.prog C_q23 := (right_add right_G0 call_qr sound_qr)

abbrev cuts_q23 : Cuts := [(2, [2, 3, 11, 12, 13])]

abbrev k0_q23 {R : Type} (K : AV -> List O -> Option R) : Int -> Option R := fun r0 => K (iv r0) []

abbrev sta_q23_2 (x12 x13 o0 o0_1 o0_2 o0_3 : Int) (o0_4 o0_5 : List Int) (o1 o1_1 o1_2 o1_3 : Int) (o1_4 o1_5 : List Int) (o2 : List (Int × (Int × (Int × (Int × (List Int × List Int)))))) : St := ⟨fr0 44 [(2, .ptr 0 0), (3, .ptr 1 0), (11, .own 2), (12, iv x12), (13, iv x13)], [.box 47 [iv o0, iv o0_1, iv o0_2, iv o0_3, ri 3 o0_4, ri 3 o0_5], .box 47 [iv o1, iv o1_1, iv o1_2, iv o1_3, ri 3 o1_4, ri 3 o1_5], .row ⟨false, 47, (.pr (.int .i64) (.pr (.int .i64) (.pr (.int .i64) (.pr (.int .i64) (.pr (.sl 3 (.int .i64)) (.sl 3 (.int .i64))))))), o2⟩]⟩

abbrev gt_q23_2 {R : Type} (g : List Item -> St -> Option R) : GT_q23_2 R := fun (x12 x13 o0 o0_1 o0_2 o0_3 : Int) (o0_4 o0_5 : List Int) (o1 o1_1 o1_2 o1_3 : Int) (o1_4 o1_5 : List Int) (o2 : List (Int × (Int × (Int × (Int × (List Int × List Int)))))) => g (at' Tryz.f164 2) (sta_q23_2 x12 x13 o0 o0_1 o0_2 o0_3 o0_4 o0_5 o1 o1_1 o1_2 o1_3 o1_4 o1_5 o2)

theorem gstep_q23_2 {a0 : LT_qr} {R : Type} (g : List Item -> St -> Option R) (K : AV -> List O -> Option R) (x12 x13 o0 o0_1 o0_2 o0_3 : Int) (o0_4 o0_5 : List Int) (o1 o1_1 o1_2 o1_3 : Int) (o1_4 o1_5 : List Int) (o2 : List (Int × (Int × (Int × (Int × (List Int × List Int)))))) :
  runSeg Tryz.prog (T_q23 @a0) cuts_q23 0 g (finish Tryz.prog Tryz.f164 0 K) (at' Tryz.f164 2) (sta_q23_2 x12 x13 o0 o0_1 o0_2 o0_3 o0_4 o0_5 o1 o1_1 o1_2 o1_3 o1_4 o1_5 o2) =
  gs_q23_2 @a0 (gt_q23_2 g) (k0_q23 K) x12 x13 o0 o0_1 o0_2 o0_3 o0_4 o0_5 o1 o1_1 o1_2 o1_3 o1_4 o1_5 o2 := by kernel_rfl

theorem gentry_q23 {a0 : LT_qr} {R : Type} (fuel : Nat) (K : AV -> List O -> Option R) (a a_1 a_2 a_3 : Int) (a_4 a_5 : List Int) (b b_1 b_2 b_3 : Int) (b_4 b_5 : List Int) :
  fnRun Tryz.prog (T_q23 @a0) cuts_q23 Tryz.f164 fuel [.agg [iv a, iv a_1, iv a_2, iv a_3, ri 3 a_4, ri 3 a_5], .agg [iv b, iv b_1, iv b_2, iv b_3, ri 3 b_4, ri 3 b_5]] [] K =
  ge_q23 @a0 (gt_q23_2 (runO Tryz.prog (T_q23 @a0) cuts_q23 0 (finish Tryz.prog Tryz.f164 0 K) fuel)) (k0_q23 K) a a_1 a_2 a_3 a_4 a_5 b b_1 b_2 b_3 b_4 b_5 := by kernel_rfl

theorem runs_q23 {R : Type} (K : AV -> List O -> Option R) : ∀ fuel : Nat,
  (gt_q23_2 (runO Tryz.prog C_q23 cuts_q23 0 (finish Tryz.prog Tryz.f164 0 K) fuel)) = (run_q23 (k0_q23 K) fuel)
 |0 => rfl
 |fuel + 1 => by
  have ih := runs_q23 K fuel
  funext x12 x13 o0 o0_1 o0_2 o0_3 o0_4 o0_5 o1 o1_1 o1_2 o1_3 o1_4 o1_5 o2
  refine (gstep_q23_2 _ K x12 x13 o0 o0_1 o0_2 o0_3 o0_4 o0_5 o1 o1_1 o1_2 o1_3 o1_4 o1_5 o2).trans ?_
  rw [ih]
  rfl

def S_q23 (l_q23 : LT_q23) : Sum := ⟨[], fun {R} args ob K => match args, ob with
 |[.agg [.v (.int .i64 a), .v (.int .i64 a_1), .v (.int .i64 a_2), .v (.int .i64 a_3), .rd ⟨false, 3, (.int .i64), a_4⟩, .rd ⟨false, 3, (.int .i64), a_5⟩], .agg [.v (.int .i64 b), .v (.int .i64 b_1), .v (.int .i64 b_2), .v (.int .i64 b_3), .rd ⟨false, 3, (.int .i64), b_4⟩, .rd ⟨false, 3, (.int .i64), b_5⟩]], [] => l_q23 a a_1 a_2 a_3 a_4 a_5 b b_1 b_2 b_3 b_4 b_5 (k0_q23 K)
 |_, _ => none⟩

theorem sound_q23 : Sound Tryz.prog 164 (S_q23 @l_q23) := by
 refine fn_sound (cuts := cuts_q23) (fn := Tryz.f164) (Γ := C_q23) wide right_T_q23 Tryz.func164 fun {R} K r args ob h => ?_
 unfold S_q23 at h
 dsimp only at h
 split at h
 ·obtain ⟨n, hn⟩ := ok_q23 _ _ _ _ _ _ _ _ _ _ _ _ _ h
  refine ⟨Nat.le_of_ble_eq_true (by kernel_rfl), n, (gentry_q23 n K _ _ _ _ _ _ _ _ _ _ _ _).trans ?_⟩
  rw [(runs_q23 K n)]
  exact hn
 ·cases h

theorem call_q23 : Callable Tryz.prog 164 := ⟨_, Tryz.func164, by kernel_rfl, by kernel_rfl⟩

def T_q24 : FuncId -> Option Sum := G0

theorem right_T_q24 : Right Tryz.prog T_q24 := right_G0

abbrev cuts_q24 : Cuts := [(1, [0, 2, 3])]

abbrev k0_q24 {R : Type} (K : AV -> List O -> Option R) : (List Int) -> Option R := fun r0 => K (.tup []) [.row ⟨false, 3, (.int .i64), r0⟩]

abbrev sta_q24_1 (i j : Int) (o0 : List Int) : St := ⟨fr0 28 [(0, .own 0), (2, iv i), (3, iv j)], [.row ⟨false, 3, (.int .i64), o0⟩]⟩

abbrev gt_q24_1 {R : Type} (g : List Item -> St -> Option R) : GT_q24_1 R := fun (i j : Int) (o0 : List Int) => g (at' Tryz.f171 1) (sta_q24_1 i j o0)

theorem gstep_q24_1 {R : Type} (g : List Item -> St -> Option R) (K : AV -> List O -> Option R) (i j : Int) (o0 : List Int) :
  runSeg Tryz.prog T_q24 cuts_q24 1 g (finish Tryz.prog Tryz.f171 1 K) (at' Tryz.f171 1) (sta_q24_1 i j o0) =
  s_q24_1 (gt_q24_1 g) (k0_q24 K) i j o0 := by kernel_rfl

theorem gentry_q24 {R : Type} (fuel : Nat) (K : AV -> List O -> Option R) (o0 : List Int) :
  fnRun Tryz.prog T_q24 cuts_q24 Tryz.f171 fuel [.own 0] [.row ⟨false, 3, (.int .i64), o0⟩] K =
  e_q24 (gt_q24_1 (runO Tryz.prog T_q24 cuts_q24 1 (finish Tryz.prog Tryz.f171 1 K) fuel)) (k0_q24 K) o0 := by kernel_rfl

theorem runs_q24 {R : Type} (K : AV -> List O -> Option R) : ∀ fuel : Nat,
  (gt_q24_1 (runO Tryz.prog T_q24 cuts_q24 1 (finish Tryz.prog Tryz.f171 1 K) fuel)) = (run_q24 (k0_q24 K) fuel)
 |0 => rfl
 |fuel + 1 => by
  have ih := runs_q24 K fuel
  funext i j o0
  refine (gstep_q24_1 _ K i j o0).trans ?_
  rw [ih]
  rfl

def S_q24 (l_q24 : LT_q24) : Sum := ⟨[0], fun {R} args ob K => match args, ob with
 |[.own 0], [.row ⟨false, 3, (.int .i64), o0⟩] => l_q24 o0 (k0_q24 K)
 |_, _ => none⟩

theorem sound_q24 : Sound Tryz.prog 171 (S_q24 @l_q24) := by
 refine fn_sound (cuts := cuts_q24) (fn := Tryz.f171) (Γ := T_q24) wide right_T_q24 Tryz.func171 fun {R} K r args ob h => ?_
 unfold S_q24 at h
 dsimp only at h
 split at h
 ·obtain ⟨n, hn⟩ := ok_q24 _ _ h
  refine ⟨Nat.le_of_ble_eq_true (by kernel_rfl), n, (gentry_q24 n K _).trans ?_⟩
  rw [(runs_q24 K n)]
  exact hn
 ·cases h

theorem call_q24 : Callable Tryz.prog 171 := ⟨_, Tryz.func171, by kernel_rfl, by kernel_rfl⟩

def T_q25 (a0 : LT_q24) : FuncId -> Option Sum := (addS G0 171 (S_q24 @a0))

abbrev C_q25 : FuncId -> Option Sum := T_q25 @l_q24

theorem right_T_q25 : Right Tryz.prog C_q25 := (right_add right_G0 call_q24 sound_q24)

abbrev cuts_q25 : Cuts := [(2, [0, 4, 5, 7])]

abbrev k0_q25 {R : Type} (K : AV -> List O -> Option R) : KT0_q25 R := fun r0 r1 => K (.own 1) [.map (.pr (.int .i64) (.int .i64)) (.pr (.pr (.int .i64) (.int .i64)) (.int .i64)) r0, wi 3 r1]

abbrev sta_q25_2 (o0 : List ((Int × Int) × ((Int × Int) × Int))) (o1 o1_1 o2 o2_1 : Int) (o3 : List Int) : St := ⟨fr0 25 [(0, .mp 0), (4, .ptr 1 0), (5, .ptr 2 0), (7, .own 3)], [.map (.pr (.int .i64) (.int .i64)) (.pr (.pr (.int .i64) (.int .i64)) (.int .i64)) o0, .box 264 [iv o1, iv o1_1], .box 264 [iv o2, iv o2_1], wi 3 o3]⟩

abbrev gt_q25_2 {R : Type} (g : List Item -> St -> Option R) : GT_q25_2 R := fun (o0 : List ((Int × Int) × ((Int × Int) × Int))) (o1 o1_1 o2 o2_1 : Int) (o3 : List Int) => g (at' Tryz.f169 2) (sta_q25_2 o0 o1 o1_1 o2 o2_1 o3)

theorem gstep_q25_2 {a0 : LT_q24} {R : Type} (g : List Item -> St -> Option R) (K : AV -> List O -> Option R) (o0 : List ((Int × Int) × ((Int × Int) × Int))) (o1 o1_1 o2 o2_1 : Int) (o3 : List Int) :
  runSeg Tryz.prog (T_q25 @a0) cuts_q25 1 g (finish Tryz.prog Tryz.f169 1 K) (at' Tryz.f169 2) (sta_q25_2 o0 o1 o1_1 o2 o2_1 o3) =
  gs_q25_2 @a0 (gt_q25_2 g) (k0_q25 K) o0 o1 o1_1 o2 o2_1 o3 := by kernel_rfl

theorem gentry_q25 {a0 : LT_q24} {R : Type} (fuel : Nat) (K : AV -> List O -> Option R) (start start_1 p p_1 : Int) (o0 : List ((Int × Int) × ((Int × Int) × Int))) :
  fnRun Tryz.prog (T_q25 @a0) cuts_q25 Tryz.f169 fuel [.mp 0, .agg [iv start, iv start_1], .agg [iv p, iv p_1]] [.map (.pr (.int .i64) (.int .i64)) (.pr (.pr (.int .i64) (.int .i64)) (.int .i64)) o0] K =
  ge_q25 @a0 (gt_q25_2 (runO Tryz.prog (T_q25 @a0) cuts_q25 1 (finish Tryz.prog Tryz.f169 1 K) fuel)) (k0_q25 K) start start_1 p p_1 o0 := by kernel_rfl

theorem runs_q25 {R : Type} (K : AV -> List O -> Option R) : ∀ fuel : Nat,
  (gt_q25_2 (runO Tryz.prog C_q25 cuts_q25 1 (finish Tryz.prog Tryz.f169 1 K) fuel)) = (run_q25 (k0_q25 K) fuel)
 |0 => rfl
 |fuel + 1 => by
  have ih := runs_q25 K fuel
  funext o0 o1 o1_1 o2 o2_1 o3
  refine (gstep_q25_2 _ K o0 o1 o1_1 o2 o2_1 o3).trans ?_
  rw [ih]
  rfl

def S_q25 (l_q25 : LT_q25) : Sum := ⟨[], fun {R} args ob K => match args, ob with
 |[.mp 0, .agg [.v (.int .i64 start), .v (.int .i64 start_1)], .agg [.v (.int .i64 p), .v (.int .i64 p_1)]], [.map (.pr (.int .i64) (.int .i64)) (.pr (.pr (.int .i64) (.int .i64)) (.int .i64)) o0] => l_q25 start start_1 p p_1 o0 (k0_q25 K)
 |_, _ => none⟩

theorem sound_q25 : Sound Tryz.prog 169 (S_q25 @l_q25) := by
 refine fn_sound (cuts := cuts_q25) (fn := Tryz.f169) (Γ := C_q25) wide right_T_q25 Tryz.func169 fun {R} K r args ob h => ?_
 unfold S_q25 at h
 dsimp only at h
 split at h
 ·obtain ⟨n, hn⟩ := ok_q25 _ _ _ _ _ _ h
  refine ⟨Nat.le_of_ble_eq_true (by kernel_rfl), n, (gentry_q25 n K _ _ _ _ _).trans ?_⟩
  rw [(runs_q25 K n)]
  exact hn
 ·cases h

theorem call_q25 : Callable Tryz.prog 169 := ⟨_, Tryz.func169, by kernel_rfl, by kernel_rfl⟩

def T_q26 (a0 : LT_q25) : FuncId -> Option Sum := (addS G0 169 (S_q25 @a0))

abbrev C_q26 : FuncId -> Option Sum := T_q26 @l_q25

theorem right_T_q26 : Right Tryz.prog C_q26 := (right_add right_G0 call_q25 sound_q25)

abbrev cuts_q26 : Cuts := [(9, [3, 4, 5, 8, 9, 10, 11, 12]), (13, [3, 4, 5, 8, 9, 10, 11, 12, 13, 55, 56])]

abbrev k0_q26 {R : Type} (K : AV -> List O -> Option R) : Bool -> (List Int) -> Option R := fun r0 r1 => K (.tup [.own 0, .v (.bool r0)]) [wi 3 r1]

abbrev sta_q26_9 (i o0 o0_1 o0_2 o0_3 : Int) (o0_4 o0_5 : List Int) (o1 o1_1 o1_2 o1_3 : Int) (o1_4 o1_5 : List Int) (o2 o2_1 : Int) (o3 : List ((Int × Int) × ((Int × Int) × Int))) (o4 : List (Int × Int)) (o5 o5_1 : Int) (o6 : List Int) : St := ⟨fr0 145 [(3, .ptr 0 0), (4, .ptr 1 0), (5, .ptr 2 0), (8, .mp 3), (9, .own 4), (10, .ptr 5 0), (11, .own 6), (12, iv i)], [.box 47 [iv o0, iv o0_1, iv o0_2, iv o0_3, ri 3 o0_4, ri 3 o0_5], .box 47 [iv o1, iv o1_1, iv o1_2, iv o1_3, ri 3 o1_4, ri 3 o1_5], .box 264 [iv o2, iv o2_1], .map (.pr (.int .i64) (.int .i64)) (.pr (.pr (.int .i64) (.int .i64)) (.int .i64)) o3, .row ⟨true, 264, (.pr (.int .i64) (.int .i64)), o4⟩, .box 264 [iv o5, iv o5_1], wi 3 o6]⟩

abbrev gt_q26_9 {R : Type} (g : List Item -> St -> Option R) : GT_q26_9 R := fun (i o0 o0_1 o0_2 o0_3 : Int) (o0_4 o0_5 : List Int) (o1 o1_1 o1_2 o1_3 : Int) (o1_4 o1_5 : List Int) (o2 o2_1 : Int) (o3 : List ((Int × Int) × ((Int × Int) × Int))) (o4 : List (Int × Int)) (o5 o5_1 : Int) (o6 : List Int) => g (at' Tryz.f165 9) (sta_q26_9 i o0 o0_1 o0_2 o0_3 o0_4 o0_5 o1 o1_1 o1_2 o1_3 o1_4 o1_5 o2 o2_1 o3 o4 o5 o5_1 o6)

abbrev sta_q26_13 (i x55 x56 o0 o0_1 o0_2 o0_3 : Int) (o0_4 o0_5 : List Int) (o1 o1_1 o1_2 o1_3 : Int) (o1_4 o1_5 : List Int) (o2 o2_1 : Int) (o3 : List ((Int × Int) × ((Int × Int) × Int))) (o4 : List (Int × Int)) (o5 o5_1 : Int) (o6 : List Int) (o7 o7_1 : Int) : St := ⟨fr0 145 [(3, .ptr 0 0), (4, .ptr 1 0), (5, .ptr 2 0), (8, .mp 3), (9, .own 4), (10, .ptr 5 0), (11, .own 6), (12, iv i), (13, .ptr 7 0), (55, iv x55), (56, iv x56)], [.box 47 [iv o0, iv o0_1, iv o0_2, iv o0_3, ri 3 o0_4, ri 3 o0_5], .box 47 [iv o1, iv o1_1, iv o1_2, iv o1_3, ri 3 o1_4, ri 3 o1_5], .box 264 [iv o2, iv o2_1], .map (.pr (.int .i64) (.int .i64)) (.pr (.pr (.int .i64) (.int .i64)) (.int .i64)) o3, .row ⟨true, 264, (.pr (.int .i64) (.int .i64)), o4⟩, .box 264 [iv o5, iv o5_1], wi 3 o6, .box 264 [iv o7, iv o7_1]]⟩

abbrev gt_q26_13 {R : Type} (g : List Item -> St -> Option R) : GT_q26_13 R := fun (i x55 x56 o0 o0_1 o0_2 o0_3 : Int) (o0_4 o0_5 : List Int) (o1 o1_1 o1_2 o1_3 : Int) (o1_4 o1_5 : List Int) (o2 o2_1 : Int) (o3 : List ((Int × Int) × ((Int × Int) × Int))) (o4 : List (Int × Int)) (o5 o5_1 : Int) (o6 : List Int) (o7 o7_1 : Int) => g (at' Tryz.f165 13) (sta_q26_13 i x55 x56 o0 o0_1 o0_2 o0_3 o0_4 o0_5 o1 o1_1 o1_2 o1_3 o1_4 o1_5 o2 o2_1 o3 o4 o5 o5_1 o6 o7 o7_1)

theorem gstep_q26_9 {a0 : LT_q25} {R : Type} (g : List Item -> St -> Option R) (K : AV -> List O -> Option R) (i o0 o0_1 o0_2 o0_3 : Int) (o0_4 o0_5 : List Int) (o1 o1_1 o1_2 o1_3 : Int) (o1_4 o1_5 : List Int) (o2 o2_1 : Int) (o3 : List ((Int × Int) × ((Int × Int) × Int))) (o4 : List (Int × Int)) (o5 o5_1 : Int) (o6 : List Int) :
  runSeg Tryz.prog (T_q26 @a0) cuts_q26 0 g (finish Tryz.prog Tryz.f165 0 K) (at' Tryz.f165 9) (sta_q26_9 i o0 o0_1 o0_2 o0_3 o0_4 o0_5 o1 o1_1 o1_2 o1_3 o1_4 o1_5 o2 o2_1 o3 o4 o5 o5_1 o6) =
  gs_q26_9 @a0 (gt_q26_9 g) (gt_q26_13 g) (k0_q26 K) i o0 o0_1 o0_2 o0_3 o0_4 o0_5 o1 o1_1 o1_2 o1_3 o1_4 o1_5 o2 o2_1 o3 o4 o5 o5_1 o6 := by kernel_rfl

theorem gstep_q26_13 {a0 : LT_q25} {R : Type} (g : List Item -> St -> Option R) (K : AV -> List O -> Option R) (i x55 x56 o0 o0_1 o0_2 o0_3 : Int) (o0_4 o0_5 : List Int) (o1 o1_1 o1_2 o1_3 : Int) (o1_4 o1_5 : List Int) (o2 o2_1 : Int) (o3 : List ((Int × Int) × ((Int × Int) × Int))) (o4 : List (Int × Int)) (o5 o5_1 : Int) (o6 : List Int) (o7 o7_1 : Int) :
  runSeg Tryz.prog (T_q26 @a0) cuts_q26 0 g (finish Tryz.prog Tryz.f165 0 K) (at' Tryz.f165 13) (sta_q26_13 i x55 x56 o0 o0_1 o0_2 o0_3 o0_4 o0_5 o1 o1_1 o1_2 o1_3 o1_4 o1_5 o2 o2_1 o3 o4 o5 o5_1 o6 o7 o7_1) =
  gs_q26_13 @a0 (gt_q26_9 g) (gt_q26_13 g) (k0_q26 K) i x55 x56 o0 o0_1 o0_2 o0_3 o0_4 o0_5 o1 o1_1 o1_2 o1_3 o1_4 o1_5 o2 o2_1 o3 o4 o5 o5_1 o6 o7 o7_1 := by kernel_rfl

theorem gentry_q26 {a0 : LT_q25} {R : Type} (fuel : Nat) (K : AV -> List O -> Option R) (a a_1 a_2 a_3 : Int) (a_4 a_5 : List Int) (b b_1 b_2 b_3 : Int) (b_4 b_5 : List Int) (start start_1 : Int) :
  fnRun Tryz.prog (T_q26 @a0) cuts_q26 Tryz.f165 fuel [.agg [iv a, iv a_1, iv a_2, iv a_3, ri 3 a_4, ri 3 a_5], .agg [iv b, iv b_1, iv b_2, iv b_3, ri 3 b_4, ri 3 b_5], .agg [iv start, iv start_1]] [] K =
  ge_q26 @a0 (gt_q26_9 (runO Tryz.prog (T_q26 @a0) cuts_q26 0 (finish Tryz.prog Tryz.f165 0 K) fuel)) (gt_q26_13 (runO Tryz.prog (T_q26 @a0) cuts_q26 0 (finish Tryz.prog Tryz.f165 0 K) fuel)) (k0_q26 K) a a_1 a_2 a_3 a_4 a_5 b b_1 b_2 b_3 b_4 b_5 start start_1 := by kernel_rfl

theorem runs_q26 {R : Type} (K : AV -> List O -> Option R) : ∀ fuel : Nat,
  (gt_q26_9 (runO Tryz.prog C_q26 cuts_q26 0 (finish Tryz.prog Tryz.f165 0 K) fuel)) = (run_q26 (k0_q26 K) fuel).1 ∧
  (gt_q26_13 (runO Tryz.prog C_q26 cuts_q26 0 (finish Tryz.prog Tryz.f165 0 K) fuel)) = (run_q26 (k0_q26 K) fuel).2
 |0 => ⟨rfl, rfl⟩
 |fuel + 1 => by
  have ih := runs_q26 K fuel
  refine ⟨?_, ?_⟩
  ·funext i o0 o0_1 o0_2 o0_3 o0_4 o0_5 o1 o1_1 o1_2 o1_3 o1_4 o1_5 o2 o2_1 o3 o4 o5 o5_1 o6
   refine (gstep_q26_9 _ K i o0 o0_1 o0_2 o0_3 o0_4 o0_5 o1 o1_1 o1_2 o1_3 o1_4 o1_5 o2 o2_1 o3 o4 o5 o5_1 o6).trans ?_
   rw [ih.1, ih.2]
   rfl
  ·funext i x55 x56 o0 o0_1 o0_2 o0_3 o0_4 o0_5 o1 o1_1 o1_2 o1_3 o1_4 o1_5 o2 o2_1 o3 o4 o5 o5_1 o6 o7 o7_1
   refine (gstep_q26_13 _ K i x55 x56 o0 o0_1 o0_2 o0_3 o0_4 o0_5 o1 o1_1 o1_2 o1_3 o1_4 o1_5 o2 o2_1 o3 o4 o5 o5_1 o6 o7 o7_1).trans ?_
   rw [ih.1, ih.2]
   rfl

def S_q26 (l_q26 : LT_q26) : Sum := ⟨[], fun {R} args ob K => match args, ob with
 |[.agg [.v (.int .i64 a), .v (.int .i64 a_1), .v (.int .i64 a_2), .v (.int .i64 a_3), .rd ⟨false, 3, (.int .i64), a_4⟩, .rd ⟨false, 3, (.int .i64), a_5⟩], .agg [.v (.int .i64 b), .v (.int .i64 b_1), .v (.int .i64 b_2), .v (.int .i64 b_3), .rd ⟨false, 3, (.int .i64), b_4⟩, .rd ⟨false, 3, (.int .i64), b_5⟩], .agg [.v (.int .i64 start), .v (.int .i64 start_1)]], [] => l_q26 a a_1 a_2 a_3 a_4 a_5 b b_1 b_2 b_3 b_4 b_5 start start_1 (k0_q26 K)
 |_, _ => none⟩

theorem sound_q26 : Sound Tryz.prog 165 (S_q26 @l_q26) := by
 refine fn_sound (cuts := cuts_q26) (fn := Tryz.f165) (Γ := C_q26) wide right_T_q26 Tryz.func165 fun {R} K r args ob h => ?_
 unfold S_q26 at h
 dsimp only at h
 split at h
 ·obtain ⟨n, hn⟩ := ok_q26 _ _ _ _ _ _ _ _ _ _ _ _ _ _ _ h
  refine ⟨Nat.le_of_ble_eq_true (by kernel_rfl), n, (gentry_q26 n K _ _ _ _ _ _ _ _ _ _ _ _ _ _).trans ?_⟩
  rw [(runs_q26 K n).1, (runs_q26 K n).2]
  exact hn
 ·cases h

theorem call_q26 : Callable Tryz.prog 165 := ⟨_, Tryz.func165, by kernel_rfl, by kernel_rfl⟩

def T_q27 (a0 : LT_q26) (a1 : LT_q23) : FuncId -> Option Sum := (addS (addS G0 165 (S_q26 @a0)) 164 (S_q23 @a1))

abbrev C_q27 : FuncId -> Option Sum := T_q27 @l_q26 @l_q23

theorem right_T_q27 : Right Tryz.prog C_q27 := (right_add (right_add right_G0 call_q26 sound_q26) call_q23 sound_q23)

abbrev cuts_q27 : Cuts := []

abbrev k0_q27 {R : Type} (K : AV -> List O -> Option R) : Bool -> Int -> (List Int) -> Option R := fun r0 r1 r2 => K (.tup [.own 0, .v (.bool r0), iv r1]) [wi 3 r2]

theorem gentry_q27 {a0 : LT_q26} {a1 : LT_q23} {R : Type} (K : AV -> List O -> Option R) (a a_1 a_2 a_3 : Int) (a_4 a_5 : List Int) (b b_1 b_2 b_3 : Int) (b_4 b_5 : List Int) :
  fnRun Tryz.prog (T_q27 @a0 @a1) cuts_q27 Tryz.f161 0 [.agg [iv a, iv a_1, iv a_2, iv a_3, ri 3 a_4, ri 3 a_5], .agg [iv b, iv b_1, iv b_2, iv b_3, ri 3 b_4, ri 3 b_5]] [] K =
  gl_q27 @a0 @a1 a a_1 a_2 a_3 a_4 a_5 b b_1 b_2 b_3 b_4 b_5 (k0_q27 K) := by kernel_rfl

def S_q27 (l_q27 : LT_q27) : Sum := ⟨[], fun {R} args ob K => match args, ob with
 |[.agg [.v (.int .i64 a), .v (.int .i64 a_1), .v (.int .i64 a_2), .v (.int .i64 a_3), .rd ⟨false, 3, (.int .i64), a_4⟩, .rd ⟨false, 3, (.int .i64), a_5⟩], .agg [.v (.int .i64 b), .v (.int .i64 b_1), .v (.int .i64 b_2), .v (.int .i64 b_3), .rd ⟨false, 3, (.int .i64), b_4⟩, .rd ⟨false, 3, (.int .i64), b_5⟩]], [] => l_q27 a a_1 a_2 a_3 a_4 a_5 b b_1 b_2 b_3 b_4 b_5 (k0_q27 K)
 |_, _ => none⟩

theorem sound_q27 : Sound Tryz.prog 161 (S_q27 @l_q27) := by
 refine fn_sound (cuts := cuts_q27) (fn := Tryz.f161) (Γ := C_q27) wide right_T_q27 Tryz.func161 fun {R} K r args ob h => ?_
 unfold S_q27 at h
 dsimp only at h
 split at h
 ·exact ⟨Nat.le_of_ble_eq_true (by kernel_rfl), 0, (gentry_q27 K _ _ _ _ _ _ _ _ _ _ _ _).trans h⟩
 ·cases h

theorem call_q27 : Callable Tryz.prog 161 := ⟨_, Tryz.func161, by kernel_rfl, by kernel_rfl⟩

def T_q28 (a0 : LT_q27) : FuncId -> Option Sum := (addS G0 161 (S_q27 @a0))

abbrev C_q28 : FuncId -> Option Sum := T_q28 @l_q27

theorem right_T_q28 : Right Tryz.prog C_q28 := (right_add right_G0 call_q27 sound_q27)

abbrev cuts_q28 : Cuts := []

abbrev k0_q28 {R : Type} (K : AV -> List O -> Option R) : Bool -> Int -> Option R := fun r0 r1 => K (.tup [.v (.bool r0), iv r1]) []

theorem gentry_q28 {a0 : LT_q27} {R : Type} (K : AV -> List O -> Option R) (a a_1 a_2 a_3 : Int) (a_4 a_5 : List Int) (b b_1 b_2 b_3 : Int) (b_4 b_5 : List Int) :
  fnRun Tryz.prog (T_q28 @a0) cuts_q28 Tryz.f153 0 [.agg [iv a, iv a_1, iv a_2, iv a_3, ri 3 a_4, ri 3 a_5], .agg [iv b, iv b_1, iv b_2, iv b_3, ri 3 b_4, ri 3 b_5]] [] K =
  gl_q28 @a0 a a_1 a_2 a_3 a_4 a_5 b b_1 b_2 b_3 b_4 b_5 (k0_q28 K) := by kernel_rfl

def S_q28 (l_q28 : LT_q28) : Sum := ⟨[], fun {R} args ob K => match args, ob with
 |[.agg [.v (.int .i64 a), .v (.int .i64 a_1), .v (.int .i64 a_2), .v (.int .i64 a_3), .rd ⟨false, 3, (.int .i64), a_4⟩, .rd ⟨false, 3, (.int .i64), a_5⟩], .agg [.v (.int .i64 b), .v (.int .i64 b_1), .v (.int .i64 b_2), .v (.int .i64 b_3), .rd ⟨false, 3, (.int .i64), b_4⟩, .rd ⟨false, 3, (.int .i64), b_5⟩]], [] => l_q28 a a_1 a_2 a_3 a_4 a_5 b b_1 b_2 b_3 b_4 b_5 (k0_q28 K)
 |_, _ => none⟩

theorem sound_q28 : Sound Tryz.prog 153 (S_q28 @l_q28) := by
 refine fn_sound (cuts := cuts_q28) (fn := Tryz.f153) (Γ := C_q28) wide right_T_q28 Tryz.func153 fun {R} K r args ob h => ?_
 unfold S_q28 at h
 dsimp only at h
 split at h
 ·exact ⟨Nat.le_of_ble_eq_true (by kernel_rfl), 0, (gentry_q28 K _ _ _ _ _ _ _ _ _ _ _ _).trans h⟩
 ·cases h

theorem call_q28 : Callable Tryz.prog 153 := ⟨_, Tryz.func153, by kernel_rfl, by kernel_rfl⟩

def T_q29 (a0 : LT_q28) (a1 : LT_q21) (a2 : LT_q20) : FuncId -> Option Sum := (addS (addS (addS G0 153 (S_q28 @a0)) 147 (S_q21 @a1)) 146 (S_q20 @a2))

abbrev C_q29 : FuncId -> Option Sum := T_q29 @l_q28 @l_q21 @l_q20

theorem right_T_q29 : Right Tryz.prog C_q29 := (right_add (right_add (right_add right_G0 call_q28 sound_q28) call_q21 sound_q21) call_q20 sound_q20)

abbrev cuts_q29 : Cuts := []

abbrev k0_q29 {R : Type} (K : AV -> List O -> Option R) : Bool -> Option R := fun r0 => K (.v (.bool r0)) []

theorem gentry_q29 {a0 : LT_q28} {a1 : LT_q21} {a2 : LT_q20} {R : Type} (K : AV -> List O -> Option R) (r : Int) (r_1 : List Int) (r_2 r_3 r_4 r_5 : Int) (r_6 r_7 : List Int) (r_8 : Int) (r_9 r_10 : List Int) (m m_1 m_2 m_3 : Int) (m_4 m_5 : List Int) :
  fnRun Tryz.prog (T_q29 @a0 @a1 @a2) cuts_q29 Tryz.f150 0 [.agg [iv r, ri 3 r_1, iv r_2, iv r_3, iv r_4, iv r_5, ri 3 r_6, ri 3 r_7, iv r_8, ri 3 r_9, ri 3 r_10], .agg [iv m, iv m_1, iv m_2, iv m_3, ri 3 m_4, ri 3 m_5]] [] K =
  gl_q29 @a0 @a1 @a2 r r_1 r_2 r_3 r_4 r_5 r_6 r_7 r_8 r_9 r_10 m m_1 m_2 m_3 m_4 m_5 (k0_q29 K) := by kernel_rfl

def S_q29 (l_q29 : LT_q29) : Sum := ⟨[], fun {R} args ob K => match args, ob with
 |[.agg [.v (.int .i64 r), .rd ⟨false, 3, (.int .i64), r_1⟩, .v (.int .i64 r_2), .v (.int .i64 r_3), .v (.int .i64 r_4), .v (.int .i64 r_5), .rd ⟨false, 3, (.int .i64), r_6⟩, .rd ⟨false, 3, (.int .i64), r_7⟩, .v (.int .i64 r_8), .rd ⟨false, 3, (.int .i64), r_9⟩, .rd ⟨false, 3, (.int .i64), r_10⟩], .agg [.v (.int .i64 m), .v (.int .i64 m_1), .v (.int .i64 m_2), .v (.int .i64 m_3), .rd ⟨false, 3, (.int .i64), m_4⟩, .rd ⟨false, 3, (.int .i64), m_5⟩]], [] => l_q29 r r_1 r_2 r_3 r_4 r_5 r_6 r_7 r_8 r_9 r_10 m m_1 m_2 m_3 m_4 m_5 (k0_q29 K)
 |_, _ => none⟩

theorem sound_q29 : Sound Tryz.prog 150 (S_q29 @l_q29) := by
 refine fn_sound (cuts := cuts_q29) (fn := Tryz.f150) (Γ := C_q29) wide right_T_q29 Tryz.func150 fun {R} K r args ob h => ?_
 unfold S_q29 at h
 dsimp only at h
 split at h
 ·exact ⟨Nat.le_of_ble_eq_true (by kernel_rfl), 0, (gentry_q29 K _ _ _ _ _ _ _ _ _ _ _ _ _ _ _ _ _).trans h⟩
 ·cases h

theorem call_q29 : Callable Tryz.prog 150 := ⟨_, Tryz.func150, by kernel_rfl, by kernel_rfl⟩

def T_q2a (a0 : LT_qs) (a1 : LT_q1y) (a2 : LT_qr) (a3 : LT_q1a) (a4 : LT_q22) (a5 : LT_q29) (a6 : LT_qc) : FuncId -> Option Sum := (addS (addS (addS (addS (addS (addS G0 54 (S_qs @a0 @a1)) 53 (S_qr @a2)) 12 (S_q1a @a3)) 145 (S_q22 @a4)) 150 (S_q29 @a5)) 34 (S_qc @a6))

abbrev C_q2a : FuncId -> Option Sum := T_q2a @l_qs @l_q1y @l_qr @l_q1a @l_q22 @l_q29 @l_qc

theorem right_T_q2a : Right Tryz.prog C_q2a := (right_add (right_add (right_add (right_add (right_add (right_add right_G0 call_qs sound_qs) call_qr sound_qr) call_q1a sound_q1a) call_q22 sound_q22) call_q29 sound_q29) call_qc sound_qc)

abbrev cuts_q2a : Cuts := [(11, [2, 3, 38, 39, 40])]

abbrev k0_q2a {R : Type} (K : AV -> List O -> Option R) : Int -> Bool -> Int -> Option R := fun r0 r1 r2 => K (.tup [iv r0, .v (.bool r1), iv r2]) []

abbrev sta_q2a_11 (x38 : List Ent) (x39 x40 o0 o0_1 o0_2 : Int) (o0_3 : List Ent) (o1 o1_1 o1_2 o1_3 : Int) (o1_4 o1_5 : List Int) : St := ⟨fr0 55 [(2, .ptr 0 0), (3, .ptr 1 0), (38, .rd ⟨false, 53, (.pr (.pr (.int .i64) (.pr (.sl 3 (.int .i64)) (.pr (.int .i64) (.pr (.int .i64) (.pr (.int .i64) (.pr (.int .i64) (.pr (.sl 3 (.int .i64)) (.sl 3 (.int .i64))))))))) (.pr (.int .i64) (.pr (.sl 3 (.int .i64)) (.sl 3 (.int .i64))))), x38⟩), (39, iv x39), (40, iv x40)], [.box 24 [iv o0, iv o0_1, iv o0_2, .rd ⟨false, 53, (.pr (.pr (.int .i64) (.pr (.sl 3 (.int .i64)) (.pr (.int .i64) (.pr (.int .i64) (.pr (.int .i64) (.pr (.int .i64) (.pr (.sl 3 (.int .i64)) (.sl 3 (.int .i64))))))))) (.pr (.int .i64) (.pr (.sl 3 (.int .i64)) (.sl 3 (.int .i64))))), o0_3⟩], .box 47 [iv o1, iv o1_1, iv o1_2, iv o1_3, ri 3 o1_4, ri 3 o1_5]]⟩

abbrev gt_q2a_11 {R : Type} (g : List Item -> St -> Option R) : GT_q2a_11 R := fun (x38 : List Ent) (x39 x40 o0 o0_1 o0_2 : Int) (o0_3 : List Ent) (o1 o1_1 o1_2 o1_3 : Int) (o1_4 o1_5 : List Int) => g (at' Tryz.f27 11) (sta_q2a_11 x38 x39 x40 o0 o0_1 o0_2 o0_3 o1 o1_1 o1_2 o1_3 o1_4 o1_5)

theorem gstep_q2a_11 {a0 : LT_qs} {a1 : LT_q1y} {a2 : LT_qr} {a3 : LT_q1a} {a4 : LT_q22} {a5 : LT_q29} {a6 : LT_qc} {R : Type} (g : List Item -> St -> Option R) (K : AV -> List O -> Option R) (x38 : List Ent) (x39 x40 o0 o0_1 o0_2 : Int) (o0_3 : List Ent) (o1 o1_1 o1_2 o1_3 : Int) (o1_4 o1_5 : List Int) :
  runSeg Tryz.prog (T_q2a @a0 @a1 @a2 @a3 @a4 @a5 @a6) cuts_q2a 0 g (finish Tryz.prog Tryz.f27 0 K) (at' Tryz.f27 11) (sta_q2a_11 x38 x39 x40 o0 o0_1 o0_2 o0_3 o1 o1_1 o1_2 o1_3 o1_4 o1_5) =
  gs_q2a_11 @a1 @a2 @a3 @a4 @a5 @a6 (gt_q2a_11 g) (k0_q2a K) x38 x39 x40 o0 o0_1 o0_2 o0_3 o1 o1_1 o1_2 o1_3 o1_4 o1_5 := by kernel_rfl

theorem gentry_q2a {a0 : LT_qs} {a1 : LT_q1y} {a2 : LT_qr} {a3 : LT_q1a} {a4 : LT_q22} {a5 : LT_q29} {a6 : LT_qc} {R : Type} (fuel : Nat) (K : AV -> List O -> Option R) (l l_1 l_2 : Int) (l_3 : List Ent) (m m_1 m_2 m_3 : Int) (m_4 m_5 : List Int) :
  fnRun Tryz.prog (T_q2a @a0 @a1 @a2 @a3 @a4 @a5 @a6) cuts_q2a Tryz.f27 fuel [.agg [iv l, iv l_1, iv l_2, .rd ⟨false, 53, (.pr (.pr (.int .i64) (.pr (.sl 3 (.int .i64)) (.pr (.int .i64) (.pr (.int .i64) (.pr (.int .i64) (.pr (.int .i64) (.pr (.sl 3 (.int .i64)) (.sl 3 (.int .i64))))))))) (.pr (.int .i64) (.pr (.sl 3 (.int .i64)) (.sl 3 (.int .i64))))), l_3⟩], .agg [iv m, iv m_1, iv m_2, iv m_3, ri 3 m_4, ri 3 m_5]] [] K =
  ge_q2a @a1 @a2 @a3 @a4 @a5 @a6 (gt_q2a_11 (runO Tryz.prog (T_q2a @a0 @a1 @a2 @a3 @a4 @a5 @a6) cuts_q2a 0 (finish Tryz.prog Tryz.f27 0 K) fuel)) (k0_q2a K) l l_1 l_2 l_3 m m_1 m_2 m_3 m_4 m_5 := by kernel_rfl

theorem runs_q2a {R : Type} (K : AV -> List O -> Option R) : ∀ fuel : Nat,
  (gt_q2a_11 (runO Tryz.prog C_q2a cuts_q2a 0 (finish Tryz.prog Tryz.f27 0 K) fuel)) = (run_q2a (k0_q2a K) fuel)
 |0 => rfl
 |fuel + 1 => by
  have ih := runs_q2a K fuel
  funext x38 x39 x40 o0 o0_1 o0_2 o0_3 o1 o1_1 o1_2 o1_3 o1_4 o1_5
  refine (gstep_q2a_11 _ K x38 x39 x40 o0 o0_1 o0_2 o0_3 o1 o1_1 o1_2 o1_3 o1_4 o1_5).trans ?_
  rw [ih]
  rfl

def S_q2a (l_q2a : LT_q2a) : Sum := ⟨[], fun {R} args ob K => match args, ob with
 |[.agg [.v (.int .i64 l), .v (.int .i64 l_1), .v (.int .i64 l_2), .rd ⟨false, 53, (.pr (.pr (.int .i64) (.pr (.sl 3 (.int .i64)) (.pr (.int .i64) (.pr (.int .i64) (.pr (.int .i64) (.pr (.int .i64) (.pr (.sl 3 (.int .i64)) (.sl 3 (.int .i64))))))))) (.pr (.int .i64) (.pr (.sl 3 (.int .i64)) (.sl 3 (.int .i64))))), l_3⟩], .agg [.v (.int .i64 m), .v (.int .i64 m_1), .v (.int .i64 m_2), .v (.int .i64 m_3), .rd ⟨false, 3, (.int .i64), m_4⟩, .rd ⟨false, 3, (.int .i64), m_5⟩]], [] => l_q2a l l_1 l_2 l_3 m m_1 m_2 m_3 m_4 m_5 (k0_q2a K)
 |_, _ => none⟩

theorem sound_q2a : Sound Tryz.prog 27 (S_q2a @l_q2a) := by
 refine fn_sound (cuts := cuts_q2a) (fn := Tryz.f27) (Γ := C_q2a) wide right_T_q2a Tryz.func27 fun {R} K r args ob h => ?_
 unfold S_q2a at h
 dsimp only at h
 split at h
 ·obtain ⟨n, hn⟩ := evl_ok h
  refine ⟨Nat.le_of_ble_eq_true (by kernel_rfl), n, (gentry_q2a n K _ _ _ _ _ _ _ _ _ _).trans ?_⟩
  rw [(runs_q2a K n)]
  exact hn
 ·cases h

theorem call_q2a : Callable Tryz.prog 27 := ⟨_, Tryz.func27, by kernel_rfl, by kernel_rfl⟩

def T_q2b (a0 : LT_q1m) (a1 : LT_q1o) (a2 : LT_q0) (a3 : LT_q1x) (a4 : LT_q1l) (a5 : LT_q2a) : FuncId -> Option Sum := (addS (addS (addS (addS (addS (addS G0 11 (S_q1m @a0)) 25 (S_q1o @a1)) 24 (S_q0 @a2)) 26 (S_q1x @a3)) 14 (S_q1l @a4)) 27 (S_q2a @a5))

abbrev C_q2b : FuncId -> Option Sum := T_q2b @l_q1m @l_q1o @l_q0 @l_q1x @l_q1l @l_q2a

theorem right_T_q2b : Right Tryz.prog C_q2b := (right_add (right_add (right_add (right_add (right_add (right_add right_G0 call_q1m sound_q1m) call_q1o sound_q1o) call_q0 sound_q0) call_q1x sound_q1x) call_q1l sound_q1l) call_q2a sound_q2a)

abbrev cuts_q2b : Cuts := [(5, [1, 2, 3, 4, 9, 10]), (13, [2, 3, 4, 9, 13])]

abbrev k0_q2b {R : Type} (K : AV -> List O -> Option R) : Bool -> Option R := fun r0 => K (.v (.bool r0)) []

abbrev sta_q2b_5a (words : List (List Int)) (hyps : List (Int × (Int × (Int × (Int × (List Int × List Int)))))) (i k o0 o0_1 o0_2 o0_3 : Int) (o0_4 o0_5 : List Int) (o1 o1_1 o1_2 : Int) (o2 : List Ent) : St := ⟨fr0 215 [(1, .rd ⟨false, 45, (.sl 3 (.int .i64)), words⟩), (2, .rd ⟨false, 47, (.pr (.int .i64) (.pr (.int .i64) (.pr (.int .i64) (.pr (.int .i64) (.pr (.sl 3 (.int .i64)) (.sl 3 (.int .i64))))))), hyps⟩), (3, .v (.int .u8 i)), (4, .ptr 0 0), (9, .ptr 1 0), (10, iv k)], [.box 47 [iv o0, iv o0_1, iv o0_2, iv o0_3, ri 3 o0_4, ri 3 o0_5], .box 24 [iv o1, iv o1_1, iv o1_2, .own 2], .row ⟨true, 53, (.pr (.pr (.int .i64) (.pr (.sl 3 (.int .i64)) (.pr (.int .i64) (.pr (.int .i64) (.pr (.int .i64) (.pr (.int .i64) (.pr (.sl 3 (.int .i64)) (.sl 3 (.int .i64))))))))) (.pr (.int .i64) (.pr (.sl 3 (.int .i64)) (.sl 3 (.int .i64))))), o2⟩]⟩

abbrev gt_q2b_5a {R : Type} (g : List Item -> St -> Option R) : GT_q2b_5a R := fun (words : List (List Int)) (hyps : List (Int × (Int × (Int × (Int × (List Int × List Int)))))) (i k o0 o0_1 o0_2 o0_3 : Int) (o0_4 o0_5 : List Int) (o1 o1_1 o1_2 : Int) (o2 : List Ent) => g (at' Tryz.f8 5) (sta_q2b_5a words hyps i k o0 o0_1 o0_2 o0_3 o0_4 o0_5 o1 o1_1 o1_2 o2)

abbrev sta_q2b_5b (words : List (List Int)) (hyps : List (Int × (Int × (Int × (Int × (List Int × List Int)))))) (i k o0 o0_1 o0_2 o0_3 : Int) (o0_4 o0_5 : List Int) (o1 o1_1 o1_2 : Int) (o2 : List Ent) : St := ⟨fr0 215 [(1, .rd ⟨false, 45, (.sl 3 (.int .i64)), words⟩), (2, .rd ⟨false, 47, (.pr (.int .i64) (.pr (.int .i64) (.pr (.int .i64) (.pr (.int .i64) (.pr (.sl 3 (.int .i64)) (.sl 3 (.int .i64))))))), hyps⟩), (3, .v (.int .u8 i)), (4, .ptr 0 0), (9, .ptr 1 0), (10, iv k)], [.box 47 [iv o0, iv o0_1, iv o0_2, iv o0_3, ri 3 o0_4, ri 3 o0_5], .box 24 [iv o1, iv o1_1, iv o1_2, .own 2], .row ⟨false, 53, (.pr (.pr (.int .i64) (.pr (.sl 3 (.int .i64)) (.pr (.int .i64) (.pr (.int .i64) (.pr (.int .i64) (.pr (.int .i64) (.pr (.sl 3 (.int .i64)) (.sl 3 (.int .i64))))))))) (.pr (.int .i64) (.pr (.sl 3 (.int .i64)) (.sl 3 (.int .i64))))), o2⟩]⟩

abbrev gt_q2b_5b {R : Type} (g : List Item -> St -> Option R) : GT_q2b_5b R := fun (words : List (List Int)) (hyps : List (Int × (Int × (Int × (Int × (List Int × List Int)))))) (i k o0 o0_1 o0_2 o0_3 : Int) (o0_4 o0_5 : List Int) (o1 o1_1 o1_2 : Int) (o2 : List Ent) => g (at' Tryz.f8 5) (sta_q2b_5b words hyps i k o0 o0_1 o0_2 o0_3 o0_4 o0_5 o1 o1_1 o1_2 o2)

abbrev sta_q2b_13a (hyps : List (Int × (Int × (Int × (Int × (List Int × List Int)))))) (i k o0 o0_1 o0_2 o0_3 : Int) (o0_4 o0_5 : List Int) (o1 o1_1 o1_2 : Int) (o2 : List Ent) : St := ⟨fr0 215 [(2, .rd ⟨false, 47, (.pr (.int .i64) (.pr (.int .i64) (.pr (.int .i64) (.pr (.int .i64) (.pr (.sl 3 (.int .i64)) (.sl 3 (.int .i64))))))), hyps⟩), (3, .v (.int .u8 i)), (4, .ptr 0 0), (9, .ptr 1 0), (13, iv k)], [.box 47 [iv o0, iv o0_1, iv o0_2, iv o0_3, ri 3 o0_4, ri 3 o0_5], .box 24 [iv o1, iv o1_1, iv o1_2, .own 2], .row ⟨true, 53, (.pr (.pr (.int .i64) (.pr (.sl 3 (.int .i64)) (.pr (.int .i64) (.pr (.int .i64) (.pr (.int .i64) (.pr (.int .i64) (.pr (.sl 3 (.int .i64)) (.sl 3 (.int .i64))))))))) (.pr (.int .i64) (.pr (.sl 3 (.int .i64)) (.sl 3 (.int .i64))))), o2⟩]⟩

abbrev gt_q2b_13a {R : Type} (g : List Item -> St -> Option R) : GT_q2b_13a R := fun (hyps : List (Int × (Int × (Int × (Int × (List Int × List Int)))))) (i k o0 o0_1 o0_2 o0_3 : Int) (o0_4 o0_5 : List Int) (o1 o1_1 o1_2 : Int) (o2 : List Ent) => g (at' Tryz.f8 13) (sta_q2b_13a hyps i k o0 o0_1 o0_2 o0_3 o0_4 o0_5 o1 o1_1 o1_2 o2)

abbrev sta_q2b_13b (hyps : List (Int × (Int × (Int × (Int × (List Int × List Int)))))) (i k o0 o0_1 o0_2 o0_3 : Int) (o0_4 o0_5 : List Int) (o1 o1_1 o1_2 : Int) (o2 : List Ent) : St := ⟨fr0 215 [(2, .rd ⟨false, 47, (.pr (.int .i64) (.pr (.int .i64) (.pr (.int .i64) (.pr (.int .i64) (.pr (.sl 3 (.int .i64)) (.sl 3 (.int .i64))))))), hyps⟩), (3, .v (.int .u8 i)), (4, .ptr 0 0), (9, .ptr 1 0), (13, iv k)], [.box 47 [iv o0, iv o0_1, iv o0_2, iv o0_3, ri 3 o0_4, ri 3 o0_5], .box 24 [iv o1, iv o1_1, iv o1_2, .own 2], .row ⟨false, 53, (.pr (.pr (.int .i64) (.pr (.sl 3 (.int .i64)) (.pr (.int .i64) (.pr (.int .i64) (.pr (.int .i64) (.pr (.int .i64) (.pr (.sl 3 (.int .i64)) (.sl 3 (.int .i64))))))))) (.pr (.int .i64) (.pr (.sl 3 (.int .i64)) (.sl 3 (.int .i64))))), o2⟩]⟩

abbrev gt_q2b_13b {R : Type} (g : List Item -> St -> Option R) : GT_q2b_13b R := fun (hyps : List (Int × (Int × (Int × (Int × (List Int × List Int)))))) (i k o0 o0_1 o0_2 o0_3 : Int) (o0_4 o0_5 : List Int) (o1 o1_1 o1_2 : Int) (o2 : List Ent) => g (at' Tryz.f8 13) (sta_q2b_13b hyps i k o0 o0_1 o0_2 o0_3 o0_4 o0_5 o1 o1_1 o1_2 o2)

abbrev gtt_q2b {R : Type} (g : List Item -> St -> Option R) : RT_q2b R := ((gt_q2b_5a g), (gt_q2b_5b g), (gt_q2b_13a g), (gt_q2b_13b g))

theorem gstep_q2b_5a {a0 : LT_q1m} {a1 : LT_q1o} {a2 : LT_q0} {a3 : LT_q1x} {a4 : LT_q1l} {a5 : LT_q2a} {R : Type} (g : List Item -> St -> Option R) (K : AV -> List O -> Option R) (words : List (List Int)) (hyps : List (Int × (Int × (Int × (Int × (List Int × List Int)))))) (i k o0 o0_1 o0_2 o0_3 : Int) (o0_4 o0_5 : List Int) (o1 o1_1 o1_2 : Int) (o2 : List Ent) :
  runSeg Tryz.prog (T_q2b @a0 @a1 @a2 @a3 @a4 @a5) cuts_q2b 0 g (finish Tryz.prog Tryz.f8 0 K) (at' Tryz.f8 5) (sta_q2b_5a words hyps i k o0 o0_1 o0_2 o0_3 o0_4 o0_5 o1 o1_1 o1_2 o2) =
  gs_q2b_5a @a0 @a1 @a2 @a3 @a4 @a5 (gtt_q2b g) (k0_q2b K) words hyps i k o0 o0_1 o0_2 o0_3 o0_4 o0_5 o1 o1_1 o1_2 o2 := by kernel_rfl

theorem gstep_q2b_5b {a0 : LT_q1m} {a1 : LT_q1o} {a2 : LT_q0} {a3 : LT_q1x} {a4 : LT_q1l} {a5 : LT_q2a} {R : Type} (g : List Item -> St -> Option R) (K : AV -> List O -> Option R) (words : List (List Int)) (hyps : List (Int × (Int × (Int × (Int × (List Int × List Int)))))) (i k o0 o0_1 o0_2 o0_3 : Int) (o0_4 o0_5 : List Int) (o1 o1_1 o1_2 : Int) (o2 : List Ent) :
  runSeg Tryz.prog (T_q2b @a0 @a1 @a2 @a3 @a4 @a5) cuts_q2b 0 g (finish Tryz.prog Tryz.f8 0 K) (at' Tryz.f8 5) (sta_q2b_5b words hyps i k o0 o0_1 o0_2 o0_3 o0_4 o0_5 o1 o1_1 o1_2 o2) =
  gs_q2b_5b @a0 @a1 @a2 @a3 @a4 @a5 (gtt_q2b g) (k0_q2b K) words hyps i k o0 o0_1 o0_2 o0_3 o0_4 o0_5 o1 o1_1 o1_2 o2 := by kernel_rfl

theorem gstep_q2b_13a {a0 : LT_q1m} {a1 : LT_q1o} {a2 : LT_q0} {a3 : LT_q1x} {a4 : LT_q1l} {a5 : LT_q2a} {R : Type} (g : List Item -> St -> Option R) (K : AV -> List O -> Option R) (hyps : List (Int × (Int × (Int × (Int × (List Int × List Int)))))) (i k o0 o0_1 o0_2 o0_3 : Int) (o0_4 o0_5 : List Int) (o1 o1_1 o1_2 : Int) (o2 : List Ent) :
  runSeg Tryz.prog (T_q2b @a0 @a1 @a2 @a3 @a4 @a5) cuts_q2b 0 g (finish Tryz.prog Tryz.f8 0 K) (at' Tryz.f8 13) (sta_q2b_13a hyps i k o0 o0_1 o0_2 o0_3 o0_4 o0_5 o1 o1_1 o1_2 o2) =
  gs_q2b_13a @a0 @a1 @a2 @a3 @a4 @a5 (gtt_q2b g) (k0_q2b K) hyps i k o0 o0_1 o0_2 o0_3 o0_4 o0_5 o1 o1_1 o1_2 o2 := by kernel_rfl

theorem gstep_q2b_13b {a0 : LT_q1m} {a1 : LT_q1o} {a2 : LT_q0} {a3 : LT_q1x} {a4 : LT_q1l} {a5 : LT_q2a} {R : Type} (g : List Item -> St -> Option R) (K : AV -> List O -> Option R) (hyps : List (Int × (Int × (Int × (Int × (List Int × List Int)))))) (i k o0 o0_1 o0_2 o0_3 : Int) (o0_4 o0_5 : List Int) (o1 o1_1 o1_2 : Int) (o2 : List Ent) :
  runSeg Tryz.prog (T_q2b @a0 @a1 @a2 @a3 @a4 @a5) cuts_q2b 0 g (finish Tryz.prog Tryz.f8 0 K) (at' Tryz.f8 13) (sta_q2b_13b hyps i k o0 o0_1 o0_2 o0_3 o0_4 o0_5 o1 o1_1 o1_2 o2) =
  gs_q2b_13b @a0 @a1 @a2 @a3 @a4 @a5 (gtt_q2b g) (k0_q2b K) hyps i k o0 o0_1 o0_2 o0_3 o0_4 o0_5 o1 o1_1 o1_2 o2 := by kernel_rfl

theorem gentry_q2b {a0 : LT_q1m} {a1 : LT_q1o} {a2 : LT_q0} {a3 : LT_q1x} {a4 : LT_q1l} {a5 : LT_q2a} {R : Type} (fuel : Nat) (K : AV -> List O -> Option R) (m m_1 m_2 m_3 : Int) (m_4 m_5 : List Int) (words : List (List Int)) (hyps : List (Int × (Int × (Int × (Int × (List Int × List Int)))))) (i : Int) :
  fnRun Tryz.prog (T_q2b @a0 @a1 @a2 @a3 @a4 @a5) cuts_q2b Tryz.f8 fuel [.agg [iv m, iv m_1, iv m_2, iv m_3, ri 3 m_4, ri 3 m_5], .rd ⟨false, 45, (.sl 3 (.int .i64)), words⟩, .rd ⟨false, 47, (.pr (.int .i64) (.pr (.int .i64) (.pr (.int .i64) (.pr (.int .i64) (.pr (.sl 3 (.int .i64)) (.sl 3 (.int .i64))))))), hyps⟩, .v (.int .u8 i)] [] K =
  ge_q2b @a0 @a1 @a2 @a3 @a4 @a5 (gtt_q2b (runO Tryz.prog (T_q2b @a0 @a1 @a2 @a3 @a4 @a5) cuts_q2b 0 (finish Tryz.prog Tryz.f8 0 K) fuel)) (k0_q2b K) m m_1 m_2 m_3 m_4 m_5 words hyps i := by kernel_rfl

theorem runs_q2b {R : Type} (K : AV -> List O -> Option R) : ∀ fuel : Nat, gtt_q2b (runO Tryz.prog C_q2b cuts_q2b 0 (finish Tryz.prog Tryz.f8 0 K) fuel) = run_q2b (k0_q2b K) fuel
 |0 => rfl
 |fuel + 1 => by
  have ih := runs_q2b K fuel
  refine Prod.ext ?_ (Prod.ext ?_ (Prod.ext ?_ ?_))
  ·funext words hyps i k o0 o0_1 o0_2 o0_3 o0_4 o0_5 o1 o1_1 o1_2 o2
   exact (gstep_q2b_5a (a0 := @l_q1m) (a1 := @l_q1o) (a2 := @l_q0) (a3 := @l_q1x) (a4 := @l_q1l) (a5 := @l_q2a) _ K words hyps i k o0 o0_1 o0_2 o0_3 o0_4 o0_5 o1 o1_1 o1_2 o2).trans (by rw [ih]; rfl)
  ·funext words hyps i k o0 o0_1 o0_2 o0_3 o0_4 o0_5 o1 o1_1 o1_2 o2
   exact (gstep_q2b_5b (a0 := @l_q1m) (a1 := @l_q1o) (a2 := @l_q0) (a3 := @l_q1x) (a4 := @l_q1l) (a5 := @l_q2a) _ K words hyps i k o0 o0_1 o0_2 o0_3 o0_4 o0_5 o1 o1_1 o1_2 o2).trans (by rw [ih]; rfl)
  ·funext hyps i k o0 o0_1 o0_2 o0_3 o0_4 o0_5 o1 o1_1 o1_2 o2
   exact (gstep_q2b_13a (a0 := @l_q1m) (a1 := @l_q1o) (a2 := @l_q0) (a3 := @l_q1x) (a4 := @l_q1l) (a5 := @l_q2a) _ K hyps i k o0 o0_1 o0_2 o0_3 o0_4 o0_5 o1 o1_1 o1_2 o2).trans (by rw [ih]; rfl)
  ·funext hyps i k o0 o0_1 o0_2 o0_3 o0_4 o0_5 o1 o1_1 o1_2 o2
   exact (gstep_q2b_13b (a0 := @l_q1m) (a1 := @l_q1o) (a2 := @l_q0) (a3 := @l_q1x) (a4 := @l_q1l) (a5 := @l_q2a) _ K hyps i k o0 o0_1 o0_2 o0_3 o0_4 o0_5 o1 o1_1 o1_2 o2).trans (by rw [ih]; rfl)

def S_q2b (l_q2b : LT_q2b) : Sum := ⟨[], fun {R} args ob K => match args, ob with
 |[.agg [.v (.int .i64 m), .v (.int .i64 m_1), .v (.int .i64 m_2), .v (.int .i64 m_3), .rd ⟨false, 3, (.int .i64), m_4⟩, .rd ⟨false, 3, (.int .i64), m_5⟩], .rd ⟨false, 45, (.sl 3 (.int .i64)), words⟩, .rd ⟨false, 47, (.pr (.int .i64) (.pr (.int .i64) (.pr (.int .i64) (.pr (.int .i64) (.pr (.sl 3 (.int .i64)) (.sl 3 (.int .i64))))))), hyps⟩, .v (.int .u8 i)], [] => l_q2b m m_1 m_2 m_3 m_4 m_5 words hyps i (k0_q2b K)
 |_, _ => none⟩

theorem sound_q2b : Sound Tryz.prog 8 (S_q2b @l_q2b) := by
 refine fn_sound (cuts := cuts_q2b) (fn := Tryz.f8) (Γ := C_q2b) wide right_T_q2b Tryz.func8 fun {R} K r args ob h => ?_
 unfold S_q2b at h
 dsimp only at h
 split at h
 ·obtain ⟨n, hn⟩ := evl_ok h
  refine ⟨Nat.le_of_ble_eq_true (by kernel_rfl), n, (gentry_q2b n K _ _ _ _ _ _ _ _ _).trans ?_⟩
  rw [(runs_q2b K n)]
  exact hn
 ·cases h

theorem call_q2b : Callable Tryz.prog 8 := ⟨_, Tryz.func8, by kernel_rfl, by kernel_rfl⟩

end
end Go.Ev
