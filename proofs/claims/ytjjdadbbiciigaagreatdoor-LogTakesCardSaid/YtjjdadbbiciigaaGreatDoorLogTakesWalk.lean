/- Each function of the program is its tree. -/
import Derived.Test.YtjjdadbbiciigaaGreatDoorProg
import Derived.Test.YtjjdadbbiciigaaGreatDoorTkEvFn
import Derived.Test.YtjjdadbbiciigaaGreatDoorTkEvTabs
import Derived.Test.YtjjdadbbiciigaaGreatDoorTkEvSrch
import Derived.Test.YtjjdadbbiciigaaGreatDoorTkEvLay9
import Derived.Test.YtjjdadbbiciigaaGreatDoorTkEvExpA9
import Derived.Test.YtjjdadbbiciigaaGreatDoorTkEvExpB9
import Derived.Test.YtjjdadbbiciigaaGreatDoorTkEvExpC9
import Derived.Test.YtjjdadbbiciigaaGreatDoorTkEvExpD9
import Derived.Test.YtjjdadbbiciigaaGreatDoorTkEvExpE9
import Derived.Test.YtjjdadbbiciigaaGreatDoorTkEvAs9
import Derived.Test.YtjjdadbbiciigaaGreatDoorTkEvAsE9
import Derived.Test.YtjjdadbbiciigaaGreatDoorLogTakesPure
namespace Go.Ev
open Go.Proofs
noncomputable section
set_option linter.unusedVariables false
set_option linter.unusedSimpArgs false
set_option maxRecDepth 100000
set_option maxHeartbeats 4000000

variable [TabG] [TabsHold Tryz.prog] [CellHold ⟨1, 0, none⟩ (.iface 194 (.agg #[.pointer (some ⟨6, 143, none⟩)]))] [IntHold ⟨0, 0, none⟩]
set_option linter.unusedSectionVars false

instance : LoopG := ⟨fun k => rfOf Tryz.prog k⟩

theorem wide : Tables.follows Tryz.prog.toTables .mixedOrders = true := by kernel_rfl

def G0 : FuncId -> Option Sum := fun _ => none
theorem right_G0 : Right Tryz.prog G0 := fun f S h => by cases h

def T_q0 : FuncId -> Option Sum := G0

theorem right_T_q0 : Right Tryz.prog T_q0 := right_G0

abbrev cuts_q0 : Cuts := []

abbrev k0_q0 {R : Type} (K : AV -> List O -> Option R) : Bool -> Option R := fun r0 => K (.v (.bool r0)) []

theorem gentry_q0 {R : Type} (K : AV -> List O -> Option R) (m m_1 m_2 m_3 : Int) (m_4 m_5 : List Int) (states : Int) :
  fnRun Tryz.prog T_q0 cuts_q0 Tryz.f24 0 [.agg [iv m, iv m_1, iv m_2, iv m_3, ri 3 m_4, ri 3 m_5], iv states] [] K =
  l_q0 m m_1 m_2 m_3 m_4 m_5 states (k0_q0 K) := by kernel_rfl

def S_q0 (l_q0 : LT_q0) : Sum := ⟨[], fun {R} args ob K => match args, ob with
 |[.agg [.v (.int .i64 m), .v (.int .i64 m_1), .v (.int .i64 m_2), .v (.int .i64 m_3), .rd ⟨false, 3, (.int .i64), m_4⟩, .rd ⟨false, 3, (.int .i64), m_5⟩], .v (.int .i64 states)], [] => l_q0 m m_1 m_2 m_3 m_4 m_5 states (k0_q0 K)
 |_, _ => none⟩

theorem sound_q0 : Sound Tryz.prog 24 (S_q0 @l_q0) := by
 refine fn_sound (cuts := cuts_q0) (fn := Tryz.f24) (Γ := T_q0) wide right_T_q0 Tryz.func24 fun {R} K r args ob h => ?_
 unfold S_q0 at h
 dsimp only at h
 split at h
 ·exact ⟨Nat.le_of_ble_eq_true (by kernel_rfl), 0, (gentry_q0 K _ _ _ _ _ _ _).trans h⟩
 ·cases h

theorem call_q0 : Callable Tryz.prog 24 := ⟨_, Tryz.func24, by kernel_rfl, by kernel_rfl⟩

def T_q1 (a0 : LT_q0) : FuncId -> Option Sum := (addS G0 24 (S_q0 @a0))

abbrev C_q1 : FuncId -> Option Sum := T_q1 @l_q0

theorem right_T_q1 : Right Tryz.prog C_q1 := (right_add right_G0 call_q0 sound_q0)

abbrev cuts_q1 : Cuts := [(4, [1, 2, 5])]

abbrev k0_q1 {R : Type} (K : AV -> List O -> Option R) : Bool -> Option R := fun r0 => K (.v (.bool r0)) []

abbrev sta_q1_4 (most i o0 o0_1 o0_2 : Int) (o0_3 : List Ent) : St := ⟨fr0 51 [(1, iv most), (2, .ptr 0 0), (5, iv i)], [.box 24 [iv o0, iv o0_1, iv o0_2, .rd ⟨false, 53, (.pr (.pr (.int .i64) (.pr (.sl 3 (.int .i64)) (.pr (.int .i64) (.pr (.int .i64) (.pr (.int .i64) (.pr (.int .i64) (.pr (.sl 3 (.int .i64)) (.sl 3 (.int .i64))))))))) (.pr (.int .i64) (.pr (.sl 3 (.int .i64)) (.sl 3 (.int .i64))))), o0_3⟩]]⟩

abbrev gt_q1_4 {R : Type} (g : List Item -> St -> Option R) : GT_q1_4 R := fun (most i o0 o0_1 o0_2 : Int) (o0_3 : List Ent) => g (at' Tryz.f10 4) (sta_q1_4 most i o0 o0_1 o0_2 o0_3)

theorem gstep_q1_4 {a0 : LT_q0} {R : Type} (g : List Item -> St -> Option R) (K : AV -> List O -> Option R) (most i o0 o0_1 o0_2 : Int) (o0_3 : List Ent) :
  runSeg Tryz.prog (T_q1 @a0) cuts_q1 0 g (finish Tryz.prog Tryz.f10 0 K) (at' Tryz.f10 4) (sta_q1_4 most i o0 o0_1 o0_2 o0_3) =
  gs_q1_4 @a0 (gt_q1_4 g) (k0_q1 K) most i o0 o0_1 o0_2 o0_3 := by kernel_rfl

theorem gentry_q1 {a0 : LT_q0} {R : Type} (fuel : Nat) (K : AV -> List O -> Option R) (l l_1 l_2 : Int) (l_3 : List Ent) (most : Int) :
  fnRun Tryz.prog (T_q1 @a0) cuts_q1 Tryz.f10 fuel [.agg [iv l, iv l_1, iv l_2, .rd ⟨false, 53, (.pr (.pr (.int .i64) (.pr (.sl 3 (.int .i64)) (.pr (.int .i64) (.pr (.int .i64) (.pr (.int .i64) (.pr (.int .i64) (.pr (.sl 3 (.int .i64)) (.sl 3 (.int .i64))))))))) (.pr (.int .i64) (.pr (.sl 3 (.int .i64)) (.sl 3 (.int .i64))))), l_3⟩], iv most] [] K =
  ge_q1 @a0 (gt_q1_4 (runO Tryz.prog (T_q1 @a0) cuts_q1 0 (finish Tryz.prog Tryz.f10 0 K) fuel)) (k0_q1 K) l l_1 l_2 l_3 most := by kernel_rfl

theorem runs_q1 {R : Type} (K : AV -> List O -> Option R) : ∀ fuel : Nat,
  (gt_q1_4 (runO Tryz.prog C_q1 cuts_q1 0 (finish Tryz.prog Tryz.f10 0 K) fuel)) = (run_q1 (k0_q1 K) fuel)
 |0 => rfl
 |fuel + 1 => by
  have ih := runs_q1 K fuel
  funext most i o0 o0_1 o0_2 o0_3
  refine (gstep_q1_4 _ K most i o0 o0_1 o0_2 o0_3).trans ?_
  rw [ih]
  rfl

def S_q1 (l_q1 : LT_q1) : Sum := ⟨[], fun {R} args ob K => match args, ob with
 |[.agg [.v (.int .i64 l), .v (.int .i64 l_1), .v (.int .i64 l_2), .rd ⟨false, 53, (.pr (.pr (.int .i64) (.pr (.sl 3 (.int .i64)) (.pr (.int .i64) (.pr (.int .i64) (.pr (.int .i64) (.pr (.int .i64) (.pr (.sl 3 (.int .i64)) (.sl 3 (.int .i64))))))))) (.pr (.int .i64) (.pr (.sl 3 (.int .i64)) (.sl 3 (.int .i64))))), l_3⟩], .v (.int .i64 most)], [] => l_q1 l l_1 l_2 l_3 most (k0_q1 K)
 |_, _ => none⟩

theorem sound_q1 : Sound Tryz.prog 10 (S_q1 @l_q1) := by
 refine fn_sound (cuts := cuts_q1) (fn := Tryz.f10) (Γ := C_q1) wide right_T_q1 Tryz.func10 fun {R} K r args ob h => ?_
 unfold S_q1 at h
 dsimp only at h
 split at h
 ·obtain ⟨n, hn⟩ := evl_ok h
  refine ⟨Nat.le_of_ble_eq_true (by kernel_rfl), n, (gentry_q1 n K _ _ _ _ _).trans ?_⟩
  rw [(runs_q1 K n)]
  exact hn
 ·cases h

theorem call_q1 : Callable Tryz.prog 10 := ⟨_, Tryz.func10, by kernel_rfl, by kernel_rfl⟩


def S_q2 (l_q2 : LT_q2) : Sum := ⟨[], fun {R} args ob K => match args, ob with
 |[.rd ⟨false, _, .int .u8, xs⟩, .rd ⟨false, _, .int .u8, ys⟩], [] => l_q2 xs ys (fun r0 => K (.v (.int .i64 r0)) [])
 |_, _ => none⟩

theorem nilI_q2 {R : Type} (K : AV -> List O -> Option R) (y0 y1 : Int) (e1 e : TypeId) :
  fnRun Tryz.prog G0 [] Tryz.f63 0 [.rd ⟨false, e1, .int .u8, []⟩, .rd ⟨false, e, .int .u8, [y0, y1]⟩] [] K = K (.v (.int .i64 (-1))) [] := by kernel_rfl

theorem nilC_q2 {R : Type} (K : AV -> List O -> Option R) (y0 y1 : Int) (e1 e : TypeId) :
  fnRun Tryz.prog (addS G0 63 S_nilIndex) [] Tryz.f39 0 [.rd ⟨false, e1, .int .u8, []⟩, .rd ⟨false, e, .int .u8, [y0, y1]⟩] [] K = K (.v (.int .i64 0)) [] := by kernel_rfl

theorem sound_nil_bytes_Count : Sound Tryz.prog 39 S_nilCount := by
 have hI : Sound Tryz.prog 63 S_nilIndex := by
  refine fn_sound (cuts := []) (fn := Tryz.f63) (Γ := G0) wide right_G0 Tryz.func63 fun {R} K r args ob h => ?_
  unfold S_nilIndex at h
  dsimp only at h
  split at h
  ·exact ⟨Nat.le_of_ble_eq_true (by kernel_rfl), 0, (nilI_q2 K _ _ _ _).trans h⟩
  ·cases h
 have hc : Callable Tryz.prog 63 := ⟨_, Tryz.func63, by kernel_rfl, by kernel_rfl⟩
 have hΓ : Right Tryz.prog (addS G0 63 S_nilIndex) := right_add right_G0 hc hI
 have hF : ∀ {R : Type} (K : AV -> List O -> Option R) (r : R) (args : List AV) (ob : List O), S_nilCount.run args ob K = some r -> args.length ≤ Tryz.f39.ntmps ∧ ∃ n, fnRun Tryz.prog (addS G0 63 S_nilIndex) [] Tryz.f39 n args ob K = some r := by
  intro R K r args ob h
  unfold S_nilCount at h
  dsimp only at h
  split at h
  ·exact ⟨Nat.le_of_ble_eq_true (by kernel_rfl), 0, (nilC_q2 K _ _ _ _).trans h⟩
  ·cases h
 intro R K r args ob h vals w β rho pb disj hW hr
 exact fn_sound (S := S_nilCount) (cuts := []) (fn := Tryz.f39) (Γ := addS G0 63 S_nilIndex) wide hΓ Tryz.func39 (fun {R} => hF) (key_none (by decide)) K r args ob h vals w β rho pb disj hW hr

theorem sound_q2 : Sound Tryz.prog 39 (S_q2 @l_q2) := sound_Count (g := 0) Tryz.laysC13 rfl rfl inferInstance sound_nil_bytes_Count

theorem call_q2 : Callable Tryz.prog 39 := ⟨_, Tryz.func39, by kernel_rfl, by kernel_rfl⟩

def T_q3 : FuncId -> Option Sum := G0

theorem right_T_q3 : Right Tryz.prog T_q3 := right_G0

abbrev cuts_q3 : Cuts := [(1, [0, 1, 4])]

abbrev k0_q3 {R : Type} (K : AV -> List O -> Option R) : (List Int) -> Int -> Int -> Option R := fun r0 r1 r2 => K (.tup []) [.box 87 [rb 5 r0, iv r1, iv r2]]

abbrev sta_q3_1 (s : ByteArray) (i : Int) (o0 : List Int) (o0_1 o0_2 : Int) : St := ⟨fr0 54 [(0, .ptr 0 0), (1, .v (.string s)), (4, iv i)], [.box 87 [rb 5 o0, iv o0_1, iv o0_2]]⟩

abbrev gt_q3_1 {R : Type} (g : List Item -> St -> Option R) : GT_q3_1 R := fun (s : ByteArray) (i : Int) (o0 : List Int) (o0_1 o0_2 : Int) => g (at' Tryz.f64 1) (sta_q3_1 s i o0 o0_1 o0_2)

theorem gstep_q3_1 {R : Type} (g : List Item -> St -> Option R) (K : AV -> List O -> Option R) (s : ByteArray) (i : Int) (o0 : List Int) (o0_1 o0_2 : Int) :
  runSeg Tryz.prog T_q3 cuts_q3 1 g (finish Tryz.prog Tryz.f64 1 K) (at' Tryz.f64 1) (sta_q3_1 s i o0 o0_1 o0_2) =
  s_q3_1 (gt_q3_1 g) (k0_q3 K) s i o0 o0_1 o0_2 := by kernel_rfl

theorem gentry_q3 {R : Type} (fuel : Nat) (K : AV -> List O -> Option R) (s : ByteArray) (o0 : List Int) (o0_1 o0_2 : Int) :
  fnRun Tryz.prog T_q3 cuts_q3 Tryz.f64 fuel [.ptr 0 0, .v (.string s)] [.box 87 [rb 5 o0, iv o0_1, iv o0_2]] K =
  e_q3 (gt_q3_1 (runO Tryz.prog T_q3 cuts_q3 1 (finish Tryz.prog Tryz.f64 1 K) fuel)) (k0_q3 K) s o0 o0_1 o0_2 := by kernel_rfl

theorem runs_q3 {R : Type} (K : AV -> List O -> Option R) : ∀ fuel : Nat,
  (gt_q3_1 (runO Tryz.prog T_q3 cuts_q3 1 (finish Tryz.prog Tryz.f64 1 K) fuel)) = (run_q3 (k0_q3 K) fuel)
 |0 => rfl
 |fuel + 1 => by
  have ih := runs_q3 K fuel
  funext s i o0 o0_1 o0_2
  refine (gstep_q3_1 _ K s i o0 o0_1 o0_2).trans ?_
  rw [ih]
  rfl

def S_q3 (l_q3 : LT_q3) : Sum := ⟨[], fun {R} args ob K => match args, ob with
 |[.ptr 0 0, .v (.string s)], [.box 87 [.rd ⟨false, 5, (.int .u8), o0⟩, .v (.int .i64 o0_1), .v (.int .i64 o0_2)]] => l_q3 s o0 o0_1 o0_2 (k0_q3 K)
 |_, _ => none⟩

theorem sound_q3 : Sound Tryz.prog 64 (S_q3 @l_q3) := by
 refine fn_sound (cuts := cuts_q3) (fn := Tryz.f64) (Γ := T_q3) wide right_T_q3 Tryz.func64 fun {R} K r args ob h => ?_
 unfold S_q3 at h
 dsimp only at h
 split at h
 ·obtain ⟨n, hn⟩ := evl_ok h
  refine ⟨Nat.le_of_ble_eq_true (by kernel_rfl), n, (gentry_q3 n K _ _ _ _).trans ?_⟩
  rw [(runs_q3 K n)]
  exact hn
 ·cases h

theorem call_q3 : Callable Tryz.prog 64 := ⟨_, Tryz.func64, by kernel_rfl, by kernel_rfl⟩

def T_q4 : FuncId -> Option Sum := G0

theorem right_T_q4 : Right Tryz.prog T_q4 := right_G0

abbrev cuts_q4 : Cuts := []

abbrev k0_q4 {R : Type} (K : AV -> List O -> Option R) : Bool -> Option R := fun r0 => K (.v (.bool r0)) []

theorem gentry_q4 {R : Type} (K : AV -> List O -> Option R) (a b : List Int) :
  fnRun Tryz.prog T_q4 cuts_q4 Tryz.f83 0 [rb 5 a, rb 5 b] [] K =
  l_q4 a b (k0_q4 K) := by kernel_rfl

def S_q4 (l_q4 : LT_q4) : Sum := ⟨[], fun {R} args ob K => match args, ob with
 |[.rd ⟨false, 5, (.int .u8), a⟩, .rd ⟨false, 5, (.int .u8), b⟩], [] => l_q4 a b (k0_q4 K)
 |_, _ => none⟩

theorem sound_q4 : Sound Tryz.prog 83 (S_q4 @l_q4) := by
 refine fn_sound (cuts := cuts_q4) (fn := Tryz.f83) (Γ := T_q4) wide right_T_q4 Tryz.func83 fun {R} K r args ob h => ?_
 unfold S_q4 at h
 dsimp only at h
 split at h
 ·exact ⟨Nat.le_of_ble_eq_true (by kernel_rfl), 0, (gentry_q4 K _ _).trans h⟩
 ·cases h

theorem call_q4 : Callable Tryz.prog 83 := ⟨_, Tryz.func83, by kernel_rfl, by kernel_rfl⟩

def T_q5 (a0 : LT_q4) : FuncId -> Option Sum := (addS G0 83 (S_q4 @a0))

abbrev C_q5 : FuncId -> Option Sum := T_q5 @l_q4

theorem right_T_q5 : Right Tryz.prog C_q5 := (right_add right_G0 call_q4 sound_q4)

abbrev cuts_q5 : Cuts := []

abbrev k0_q5 {R : Type} (K : AV -> List O -> Option R) : Bool -> Option R := fun r0 => K (.v (.bool r0)) []

theorem gentry_q5 {a0 : LT_q4} {R : Type} (K : AV -> List O -> Option R) (s vprefix : List Int) :
  fnRun Tryz.prog (T_q5 @a0) cuts_q5 Tryz.f66 0 [rb 5 s, rb 5 vprefix] [] K =
  gl_q5 @a0 s vprefix (k0_q5 K) := by kernel_rfl

def S_q5 (l_q5 : LT_q5) : Sum := ⟨[], fun {R} args ob K => match args, ob with
 |[.rd ⟨false, 5, (.int .u8), s⟩, .rd ⟨false, 5, (.int .u8), vprefix⟩], [] => l_q5 s vprefix (k0_q5 K)
 |_, _ => none⟩

theorem sound_q5 : Sound Tryz.prog 66 (S_q5 @l_q5) := by
 refine fn_sound (cuts := cuts_q5) (fn := Tryz.f66) (Γ := C_q5) wide right_T_q5 Tryz.func66 fun {R} K r args ob h => ?_
 unfold S_q5 at h
 dsimp only at h
 split at h
 ·exact ⟨Nat.le_of_ble_eq_true (by kernel_rfl), 0, (gentry_q5 K _ _).trans h⟩
 ·cases h

theorem call_q5 : Callable Tryz.prog 66 := ⟨_, Tryz.func66, by kernel_rfl, by kernel_rfl⟩

def T_q6 (a0 : LT_q5) : FuncId -> Option Sum := (addS G0 66 (S_q5 @a0))

abbrev C_q6 : FuncId -> Option Sum := T_q6 @l_q5

theorem right_T_q6 : Right Tryz.prog C_q6 := (right_add right_G0 call_q5 sound_q5)

abbrev cuts_q6 : Cuts := []

abbrev k0_q6 {R : Type} (K : AV -> List O -> Option R) : Bool -> (List Int) -> Int -> Int -> Option R := fun r0 r1 r2 r3 => K (.v (.bool r0)) [.box 87 [rb 5 r1, iv r2, iv r3]]

theorem gentry_q6 {a0 : LT_q5} {R : Type} (K : AV -> List O -> Option R) (s : ByteArray) (o0 : List Int) (o0_1 o0_2 : Int) :
  fnRun Tryz.prog (T_q6 @a0) cuts_q6 Tryz.f41 0 [.ptr 0 0, .v (.string s)] [.box 87 [rb 5 o0, iv o0_1, iv o0_2]] K =
  gl_q6 @a0 s o0 o0_1 o0_2 (k0_q6 K) := by kernel_rfl

def S_q6 (l_q6 : LT_q6) : Sum := ⟨[], fun {R} args ob K => match args, ob with
 |[.ptr 0 0, .v (.string s)], [.box 87 [.rd ⟨false, 5, (.int .u8), o0⟩, .v (.int .i64 o0_1), .v (.int .i64 o0_2)]] => l_q6 s o0 o0_1 o0_2 (k0_q6 K)
 |_, _ => none⟩

theorem sound_q6 : Sound Tryz.prog 41 (S_q6 @l_q6) := by
 refine fn_sound (cuts := cuts_q6) (fn := Tryz.f41) (Γ := C_q6) wide right_T_q6 Tryz.func41 fun {R} K r args ob h => ?_
 unfold S_q6 at h
 dsimp only at h
 split at h
 ·exact ⟨Nat.le_of_ble_eq_true (by kernel_rfl), 0, (gentry_q6 K _ _ _ _).trans h⟩
 ·cases h

theorem call_q6 : Callable Tryz.prog 41 := ⟨_, Tryz.func41, by kernel_rfl, by kernel_rfl⟩

def T_q7 : FuncId -> Option Sum := G0

theorem right_T_q7 : Right Tryz.prog T_q7 := right_G0

abbrev cuts_q7 : Cuts := [(4, [0, 1, 4, 7])]

abbrev k0_q7 {R : Type} (K : AV -> List O -> Option R) : Int -> Int -> Int -> Option R := fun r0 r1 r2 => K (.tup [iv r0, iv r1, iv r2]) []

abbrev sta_q7_4 (b : List Int) (vat n i : Int) : St := ⟨fr0 70 [(0, rb 5 b), (1, iv vat), (4, iv n), (7, iv i)], []⟩

abbrev gt_q7_4 {R : Type} (g : List Item -> St -> Option R) : GT_q7_4 R := fun (b : List Int) (vat n i : Int) => g (at' Tryz.f87 4) (sta_q7_4 b vat n i)

theorem gstep_q7_4 {R : Type} (g : List Item -> St -> Option R) (K : AV -> List O -> Option R) (b : List Int) (vat n i : Int) :
  runSeg Tryz.prog T_q7 cuts_q7 0 g (finish Tryz.prog Tryz.f87 0 K) (at' Tryz.f87 4) (sta_q7_4 b vat n i) =
  s_q7_4 (gt_q7_4 g) (k0_q7 K) b vat n i := by kernel_rfl

theorem gentry_q7 {R : Type} (fuel : Nat) (K : AV -> List O -> Option R) (b : List Int) (vat : Int) :
  fnRun Tryz.prog T_q7 cuts_q7 Tryz.f87 fuel [rb 5 b, iv vat] [] K =
  e_q7 (gt_q7_4 (runO Tryz.prog T_q7 cuts_q7 0 (finish Tryz.prog Tryz.f87 0 K) fuel)) (k0_q7 K) b vat := by kernel_rfl

theorem runs_q7 {R : Type} (K : AV -> List O -> Option R) : ∀ fuel : Nat,
  (gt_q7_4 (runO Tryz.prog T_q7 cuts_q7 0 (finish Tryz.prog Tryz.f87 0 K) fuel)) = (run_q7 (k0_q7 K) fuel)
 |0 => rfl
 |fuel + 1 => by
  have ih := runs_q7 K fuel
  funext b vat n i
  refine (gstep_q7_4 _ K b vat n i).trans ?_
  rw [ih]
  rfl

def S_q7 (l_q7 : LT_q7) : Sum := ⟨[], fun {R} args ob K => match args, ob with
 |[.rd ⟨false, 5, (.int .u8), b⟩, .v (.int .i64 vat)], [] => l_q7 b vat (k0_q7 K)
 |_, _ => none⟩

theorem sound_q7 : Sound Tryz.prog 87 (S_q7 @l_q7) := by
 refine fn_sound (cuts := cuts_q7) (fn := Tryz.f87) (Γ := T_q7) wide right_T_q7 Tryz.func87 fun {R} K r args ob h => ?_
 unfold S_q7 at h
 dsimp only at h
 split at h
 ·obtain ⟨n, hn⟩ := ok_q7 _ _ _ h
  refine ⟨Nat.le_of_ble_eq_true (by kernel_rfl), n, (gentry_q7 n K _ _).trans ?_⟩
  rw [(runs_q7 K n)]
  exact hn
 ·cases h

theorem call_q7 : Callable Tryz.prog 87 := ⟨_, Tryz.func87, by kernel_rfl, by kernel_rfl⟩

def T_q8 (a0 : LT_q7) : FuncId -> Option Sum := (addS G0 87 (S_q7 @a0))

abbrev C_q8 : FuncId -> Option Sum := T_q8 @l_q7

theorem right_T_q8 : Right Tryz.prog C_q8 := (right_add right_G0 call_q7 sound_q7)

abbrev cuts_q8 : Cuts := []

abbrev k0_q8 {R : Type} (K : AV -> List O -> Option R) : Int -> (List Int) -> Int -> Int -> Option R := fun r0 r1 r2 r3 => K (iv r0) [.box 87 [rb 5 r1, iv r2, iv r3]]

theorem gentry_q8 {a0 : LT_q7} {R : Type} (K : AV -> List O -> Option R) (most kind : Int) (o0 : List Int) (o0_1 o0_2 : Int) :
  fnRun Tryz.prog (T_q8 @a0) cuts_q8 Tryz.f65 0 [.ptr 0 0, iv most, iv kind] [.box 87 [rb 5 o0, iv o0_1, iv o0_2]] K =
  gl_q8 @a0 most kind o0 o0_1 o0_2 (k0_q8 K) := by kernel_rfl

def S_q8 (l_q8 : LT_q8) : Sum := ⟨[], fun {R} args ob K => match args, ob with
 |[.ptr 0 0, .v (.int .i64 most), .v (.int .i64 kind)], [.box 87 [.rd ⟨false, 5, (.int .u8), o0⟩, .v (.int .i64 o0_1), .v (.int .i64 o0_2)]] => l_q8 most kind o0 o0_1 o0_2 (k0_q8 K)
 |_, _ => none⟩

theorem sound_q8 : Sound Tryz.prog 65 (S_q8 @l_q8) := by
 refine fn_sound (cuts := cuts_q8) (fn := Tryz.f65) (Γ := C_q8) wide right_T_q8 Tryz.func65 fun {R} K r args ob h => ?_
 unfold S_q8 at h
 dsimp only at h
 split at h
 ·exact ⟨Nat.le_of_ble_eq_true (by kernel_rfl), 0, (gentry_q8 K _ _ _ _ _).trans h⟩
 ·cases h

theorem call_q8 : Callable Tryz.prog 65 := ⟨_, Tryz.func65, by kernel_rfl, by kernel_rfl⟩

def T_q9 (a0 : LT_q3) (a1 : LT_q8) (a2 : LT_q6) : FuncId -> Option Sum := (addS (addS (addS G0 64 (S_q3 @a0)) 65 (S_q8 @a1)) 41 (S_q6 @a2))

abbrev C_q9 : FuncId -> Option Sum := T_q9 @l_q3 @l_q8 @l_q6

theorem right_T_q9 : Right Tryz.prog C_q9 := (right_add (right_add (right_add right_G0 call_q3 sound_q3) call_q8 sound_q8) call_q6 sound_q6)

abbrev cuts_q9 : Cuts := []

abbrev k0_q9 {R : Type} (K : AV -> List O -> Option R) : KT0_q9 R := fun r0 r1 r2 r3 r4 r5 r6 => K (.agg [iv r0, iv r1, iv r2, .own 1]) [.box 87 [rb 5 r3, iv r4, iv r5], .row ⟨true, 53, (.pr (.pr (.int .i64) (.pr (.sl 3 (.int .i64)) (.pr (.int .i64) (.pr (.int .i64) (.pr (.int .i64) (.pr (.int .i64) (.pr (.sl 3 (.int .i64)) (.sl 3 (.int .i64))))))))) (.pr (.int .i64) (.pr (.sl 3 (.int .i64)) (.sl 3 (.int .i64))))), r6⟩]

theorem gentry_q9 {a0 : LT_q3} {a1 : LT_q8} {a2 : LT_q6} {R : Type} (K : AV -> List O -> Option R) (o0 : List Int) (o0_1 o0_2 : Int) :
  fnRun Tryz.prog (T_q9 @a0 @a1 @a2) cuts_q9 Tryz.f40 0 [.ptr 0 0] [.box 87 [rb 5 o0, iv o0_1, iv o0_2]] K =
  gl_q9 @a0 @a1 @a2 o0 o0_1 o0_2 (k0_q9 K) := by kernel_rfl

def S_q9 (l_q9 : LT_q9) : Sum := ⟨[], fun {R} args ob K => match args, ob with
 |[.ptr 0 0], [.box 87 [.rd ⟨false, 5, (.int .u8), o0⟩, .v (.int .i64 o0_1), .v (.int .i64 o0_2)]] => l_q9 o0 o0_1 o0_2 (k0_q9 K)
 |_, _ => none⟩

theorem sound_q9 : Sound Tryz.prog 40 (S_q9 @l_q9) := by
 refine fn_sound (cuts := cuts_q9) (fn := Tryz.f40) (Γ := C_q9) wide right_T_q9 Tryz.func40 fun {R} K r args ob h => ?_
 unfold S_q9 at h
 dsimp only at h
 split at h
 ·exact ⟨Nat.le_of_ble_eq_true (by kernel_rfl), 0, (gentry_q9 K _ _ _).trans h⟩
 ·cases h

theorem call_q9 : Callable Tryz.prog 40 := ⟨_, Tryz.func40, by kernel_rfl, by kernel_rfl⟩

def T_qa : FuncId -> Option Sum := G0

theorem right_T_qa : Right Tryz.prog T_qa := right_G0

abbrev cuts_qa : Cuts := []

abbrev k0_qa {R : Type} (K : AV -> List O -> Option R) : KT0_qa R := fun r0 r1 r2 r3 r4 r5 r6 r7 => K (.agg [iv r0, ri 3 r1, iv r2, iv r3, iv r4, iv r5, .own 0, .own 1]) [wi 3 r6, wi 3 r7]

theorem gentry_qa {R : Type} (K : AV -> List O -> Option R) (l l_1 l_2 : Int) (w : List Int) :
  fnRun Tryz.prog T_qa cuts_qa Tryz.f67 0 [.agg [iv l, iv l_1, iv l_2, .cel], ri 3 w] [] K =
  l_qa l l_1 l_2 w (k0_qa K) := by kernel_rfl

def S_qa (l_qa : LT_qa) : Sum := ⟨[], fun {R} args ob K => match args, ob with
 |[.agg [.v (.int .i64 l), .v (.int .i64 l_1), .v (.int .i64 l_2), .cel], .rd ⟨false, 3, (.int .i64), w⟩], [] => l_qa l l_1 l_2 w (k0_qa K)
 |_, _ => none⟩

theorem sound_qa : Sound Tryz.prog 67 (S_qa @l_qa) := by
 refine fn_sound (cuts := cuts_qa) (fn := Tryz.f67) (Γ := T_qa) wide right_T_qa Tryz.func67 fun {R} K r args ob h => ?_
 unfold S_qa at h
 dsimp only at h
 split at h
 ·exact ⟨Nat.le_of_ble_eq_true (by kernel_rfl), 0, (gentry_qa K _ _ _ _).trans h⟩
 ·cases h

theorem call_qa : Callable Tryz.prog 67 := ⟨_, Tryz.func67, by kernel_rfl, by kernel_rfl⟩

def T_qb (a0 : LT_q7) : FuncId -> Option Sum := (addS G0 87 (S_q7 @a0))

abbrev C_qb : FuncId -> Option Sum := T_qb @l_q7

theorem right_T_qb : Right Tryz.prog C_qb := (right_add right_G0 call_q7 sound_q7)

abbrev cuts_qb : Cuts := [(2, [0, 1, 5])]

abbrev k0_qb {R : Type} (K : AV -> List O -> Option R) : (List Int) -> Int -> Int -> (List Int) -> Option R := fun r0 r1 r2 r3 => K (.own 1) [.box 87 [rb 5 r0, iv r1, iv r2], wi 3 r3]

abbrev sta_qb_2 (vall : Bool) (o0 : List Int) (o0_1 o0_2 : Int) (o1 : List Int) : St := ⟨fr0 97 [(0, .ptr 0 0), (1, .v (.bool vall)), (5, .own 1)], [.box 87 [rb 5 o0, iv o0_1, iv o0_2], wi 3 o1]⟩

abbrev gt_qb_2 {R : Type} (g : List Item -> St -> Option R) : GT_qb_2 R := fun (vall : Bool) (o0 : List Int) (o0_1 o0_2 : Int) (o1 : List Int) => g (at' Tryz.f68 2) (sta_qb_2 vall o0 o0_1 o0_2 o1)

theorem gstep_qb_2 {a0 : LT_q7} {R : Type} (g : List Item -> St -> Option R) (K : AV -> List O -> Option R) (vall : Bool) (o0 : List Int) (o0_1 o0_2 : Int) (o1 : List Int) :
  runSeg Tryz.prog (T_qb @a0) cuts_qb 1 g (finish Tryz.prog Tryz.f68 1 K) (at' Tryz.f68 2) (sta_qb_2 vall o0 o0_1 o0_2 o1) =
  gs_qb_2 @a0 (gt_qb_2 g) (k0_qb K) vall o0 o0_1 o0_2 o1 := by kernel_rfl

theorem gentry_qb {a0 : LT_q7} {R : Type} (fuel : Nat) (K : AV -> List O -> Option R) (vall : Bool) (o0 : List Int) (o0_1 o0_2 : Int) :
  fnRun Tryz.prog (T_qb @a0) cuts_qb Tryz.f68 fuel [.ptr 0 0, .v (.bool vall)] [.box 87 [rb 5 o0, iv o0_1, iv o0_2]] K =
  ge_qb @a0 (gt_qb_2 (runO Tryz.prog (T_qb @a0) cuts_qb 1 (finish Tryz.prog Tryz.f68 1 K) fuel)) (k0_qb K) vall o0 o0_1 o0_2 := by kernel_rfl

theorem runs_qb {R : Type} (K : AV -> List O -> Option R) : ∀ fuel : Nat,
  (gt_qb_2 (runO Tryz.prog C_qb cuts_qb 1 (finish Tryz.prog Tryz.f68 1 K) fuel)) = (run_qb (k0_qb K) fuel)
 |0 => rfl
 |fuel + 1 => by
  have ih := runs_qb K fuel
  funext vall o0 o0_1 o0_2 o1
  refine (gstep_qb_2 _ K vall o0 o0_1 o0_2 o1).trans ?_
  rw [ih]
  rfl

def S_qb (l_qb : LT_qb) : Sum := ⟨[], fun {R} args ob K => match args, ob with
 |[.ptr 0 0, .v (.bool vall)], [.box 87 [.rd ⟨false, 5, (.int .u8), o0⟩, .v (.int .i64 o0_1), .v (.int .i64 o0_2)]] => l_qb vall o0 o0_1 o0_2 (k0_qb K)
 |_, _ => none⟩

theorem sound_qb : Sound Tryz.prog 68 (S_qb @l_qb) := by
 refine fn_sound (cuts := cuts_qb) (fn := Tryz.f68) (Γ := C_qb) wide right_T_qb Tryz.func68 fun {R} K r args ob h => ?_
 unfold S_qb at h
 dsimp only at h
 split at h
 ·obtain ⟨n, hn⟩ := evl_ok h
  refine ⟨Nat.le_of_ble_eq_true (by kernel_rfl), n, (gentry_qb n K _ _ _ _).trans ?_⟩
  rw [(runs_qb K n)]
  exact hn
 ·cases h

theorem call_qb : Callable Tryz.prog 68 := ⟨_, Tryz.func68, by kernel_rfl, by kernel_rfl⟩

def T_qc (a0 : LT_q3) (a1 : LT_qb) (a2 : LT_qa) : FuncId -> Option Sum := (addS (addS (addS G0 64 (S_q3 @a0)) 68 (S_qb @a1)) 67 (S_qa @a2))

abbrev C_qc : FuncId -> Option Sum := T_qc @l_q3 @l_qb @l_qa

theorem right_T_qc : Right Tryz.prog C_qc := (right_add (right_add (right_add right_G0 call_q3 sound_q3) call_qb sound_qb) call_qa sound_qa)

abbrev cuts_qc : Cuts := []

abbrev k0_qc {R : Type} (K : AV -> List O -> Option R) : KT0_qc R := fun r0 r1 r2 r3 r4 r5 r6 r7 r8 r9 r10 r11 r12 r13 => K (.agg [iv r0, .own 1, iv r1, iv r2, iv r3, iv r4, .own 2, .own 3, iv r5, .own 4, .own 5]) [.box 87 [rb 5 r6, iv r7, iv r8], wi 3 r9, wi 3 r10, wi 3 r11, wi 3 r12, wi 3 r13]

theorem gentry_qc {a0 : LT_q3} {a1 : LT_qb} {a2 : LT_qa} {R : Type} (K : AV -> List O -> Option R) (l l_1 l_2 : Int) (o0 : List Int) (o0_1 o0_2 : Int) :
  fnRun Tryz.prog (T_qc @a0 @a1 @a2) cuts_qc Tryz.f42 0 [.ptr 0 0, .agg [iv l, iv l_1, iv l_2, .cel]] [.box 87 [rb 5 o0, iv o0_1, iv o0_2]] K =
  gl_qc @a0 @a1 @a2 l l_1 l_2 o0 o0_1 o0_2 (k0_qc K) := by kernel_rfl

def S_qc (l_qc : LT_qc) : Sum := ⟨[98], fun {R} args ob K => match args, ob with
 |[.ptr 0 0, .agg [.v (.int .i64 l), .v (.int .i64 l_1), .v (.int .i64 l_2), .cel]], [.box 87 [.rd ⟨false, 5, (.int .u8), o0⟩, .v (.int .i64 o0_1), .v (.int .i64 o0_2)]] => l_qc l l_1 l_2 o0 o0_1 o0_2 (k0_qc K)
 |_, _ => none⟩

theorem sound_qc : Sound Tryz.prog 42 (S_qc @l_qc) := by
 refine fn_sound (cuts := cuts_qc) (fn := Tryz.f42) (Γ := C_qc) wide right_T_qc Tryz.func42 fun {R} K r args ob h => ?_
 unfold S_qc at h
 dsimp only at h
 split at h
 ·exact ⟨Nat.le_of_ble_eq_true (by kernel_rfl), 0, (gentry_qc K _ _ _ _ _ _).trans h⟩
 ·cases h

theorem call_qc : Callable Tryz.prog 42 := ⟨_, Tryz.func42, by kernel_rfl, by kernel_rfl⟩

def T_qd : FuncId -> Option Sum := G0

theorem right_T_qd : Right Tryz.prog T_qd := right_G0

abbrev cuts_qd : Cuts := []

abbrev k0_qd {R : Type} (K : AV -> List O -> Option R) : KT0_qd R := fun r0 r1 r2 r3 r4 r5 r6 r7 r8 r9 r10 => K (.ifc 93 (.agg [iv r0, ri 3 r1, iv r2, iv r3, iv r4, iv r5, ri 3 r6, ri 3 r7, iv r8, ri 3 r9, ri 3 r10])) []

abbrev k1_qd {R : Type} (K : AV -> List O -> Option R) : KT1_qd R := fun r0 r1 r2 r3 r4 r5 r6 r7 r8 r9 r10 => K (.ifc 95 (.agg [iv r0, ri 3 r1, iv r2, iv r3, iv r4, iv r5, ri 3 r6, ri 3 r7, iv r8, ri 3 r9, ri 3 r10])) []

abbrev k2_qd {R : Type} (K : AV -> List O -> Option R) : Option R := K (.v (.nilIface)) []

theorem gentry_qd {R : Type} (K : AV -> List O -> Option R) (e : Int) (e_1 : List Int) (e_2 e_3 e_4 e_5 : Int) (e_6 e_7 : List Int) (e_8 : Int) (e_9 e_10 : List Int) :
  fnRun Tryz.prog T_qd cuts_qd Tryz.f34 0 [.agg [iv e, ri 3 e_1, iv e_2, iv e_3, iv e_4, iv e_5, ri 3 e_6, ri 3 e_7, iv e_8, ri 3 e_9, ri 3 e_10]] [] K =
  l_qd e e_1 e_2 e_3 e_4 e_5 e_6 e_7 e_8 e_9 e_10 (k0_qd K) (k1_qd K) (k2_qd K) := by kernel_rfl

def S_qd (l_qd : LT_qd) : Sum := ⟨[], fun {R} args ob K => match args, ob with
 |[.agg [.v (.int .i64 e), .rd ⟨false, 3, (.int .i64), e_1⟩, .v (.int .i64 e_2), .v (.int .i64 e_3), .v (.int .i64 e_4), .v (.int .i64 e_5), .rd ⟨false, 3, (.int .i64), e_6⟩, .rd ⟨false, 3, (.int .i64), e_7⟩, .v (.int .i64 e_8), .rd ⟨false, 3, (.int .i64), e_9⟩, .rd ⟨false, 3, (.int .i64), e_10⟩]], [] => l_qd e e_1 e_2 e_3 e_4 e_5 e_6 e_7 e_8 e_9 e_10 (k0_qd K) (k1_qd K) (k2_qd K)
 |_, _ => none⟩

theorem sound_qd : Sound Tryz.prog 34 (S_qd @l_qd) := by
 refine fn_sound (cuts := cuts_qd) (fn := Tryz.f34) (Γ := T_qd) wide right_T_qd Tryz.func34 fun {R} K r args ob h => ?_
 unfold S_qd at h
 dsimp only at h
 split at h
 ·exact ⟨Nat.le_of_ble_eq_true (by kernel_rfl), 0, (gentry_qd K _ _ _ _ _ _ _ _ _ _ _).trans h⟩
 ·cases h

theorem call_qd : Callable Tryz.prog 34 := ⟨_, Tryz.func34, by kernel_rfl, by kernel_rfl⟩

def T_qe : FuncId -> Option Sum := G0

theorem right_T_qe : Right Tryz.prog T_qe := right_G0

abbrev cuts_qe : Cuts := []

abbrev k0_qe {R : Type} (K : AV -> List O -> Option R) : Bool -> Option R := fun r0 => K (.v (.bool r0)) []

theorem gentry_qe {R : Type} (K : AV -> List O -> Option R) (k : Int) :
  fnRun Tryz.prog T_qe cuts_qe Tryz.f90 0 [iv k] [] K =
  l_qe k (k0_qe K) := by kernel_rfl

def S_qe (l_qe : LT_qe) : Sum := ⟨[], fun {R} args ob K => match args, ob with
 |[.v (.int .i64 k)], [] => l_qe k (k0_qe K)
 |_, _ => none⟩

theorem sound_qe : Sound Tryz.prog 90 (S_qe @l_qe) := by
 refine fn_sound (cuts := cuts_qe) (fn := Tryz.f90) (Γ := T_qe) wide right_T_qe Tryz.func90 fun {R} K r args ob h => ?_
 unfold S_qe at h
 dsimp only at h
 split at h
 ·exact ⟨Nat.le_of_ble_eq_true (by kernel_rfl), 0, (gentry_qe K _).trans h⟩
 ·cases h

theorem call_qe : Callable Tryz.prog 90 := ⟨_, Tryz.func90, by kernel_rfl, by kernel_rfl⟩

def T_qf (a0 : LT_qe) : FuncId -> Option Sum := (addS G0 90 (S_qe @a0))

abbrev C_qf : FuncId -> Option Sum := T_qf @l_qe

theorem right_T_qf : Right Tryz.prog C_qf := (right_add right_G0 call_qe sound_qe)

abbrev cuts_qf : Cuts := [(6, [0, 1, 16, 17])]

abbrev k0_qf {R : Type} (K : AV -> List O -> Option R) : Int -> Int -> Option R := fun r0 r1 => K (.tup [iv r0, iv r1]) []

abbrev sta_qf_6 (w : List Int) (k x16 x17 : Int) : St := ⟨fr0 35 [(0, ri 3 w), (1, iv k), (16, iv x16), (17, iv x17)], []⟩

abbrev gt_qf_6 {R : Type} (g : List Item -> St -> Option R) : GT_qf_6 R := fun (w : List Int) (k x16 x17 : Int) => g (at' Tryz.f70 6) (sta_qf_6 w k x16 x17)

theorem gstep_qf_6 {a0 : LT_qe} {R : Type} (g : List Item -> St -> Option R) (K : AV -> List O -> Option R) (w : List Int) (k x16 x17 : Int) :
  runSeg Tryz.prog (T_qf @a0) cuts_qf 0 g (finish Tryz.prog Tryz.f70 0 K) (at' Tryz.f70 6) (sta_qf_6 w k x16 x17) =
  gs_qf_6 @a0 (gt_qf_6 g) (k0_qf K) w k x16 x17 := by kernel_rfl

theorem gentry_qf {a0 : LT_qe} {R : Type} (fuel : Nat) (K : AV -> List O -> Option R) (w : List Int) (k : Int) :
  fnRun Tryz.prog (T_qf @a0) cuts_qf Tryz.f70 fuel [ri 3 w, iv k] [] K =
  ge_qf @a0 (gt_qf_6 (runO Tryz.prog (T_qf @a0) cuts_qf 0 (finish Tryz.prog Tryz.f70 0 K) fuel)) (k0_qf K) w k := by kernel_rfl

theorem runs_qf {R : Type} (K : AV -> List O -> Option R) : ∀ fuel : Nat,
  (gt_qf_6 (runO Tryz.prog C_qf cuts_qf 0 (finish Tryz.prog Tryz.f70 0 K) fuel)) = (run_qf (k0_qf K) fuel)
 |0 => rfl
 |fuel + 1 => by
  have ih := runs_qf K fuel
  funext w k x16 x17
  refine (gstep_qf_6 _ K w k x16 x17).trans ?_
  rw [ih]
  rfl

def S_qf (l_qf : LT_qf) : Sum := ⟨[], fun {R} args ob K => match args, ob with
 |[.rd ⟨false, 3, (.int .i64), w⟩, .v (.int .i64 k)], [] => l_qf w k (k0_qf K)
 |_, _ => none⟩

theorem sound_qf : Sound Tryz.prog 70 (S_qf @l_qf) := by
 refine fn_sound (cuts := cuts_qf) (fn := Tryz.f70) (Γ := C_qf) wide right_T_qf Tryz.func70 fun {R} K r args ob h => ?_
 unfold S_qf at h
 dsimp only at h
 split at h
 ·obtain ⟨n, hn⟩ := ok_qf _ _ _ h
  refine ⟨Nat.le_of_ble_eq_true (by kernel_rfl), n, (gentry_qf n K _ _).trans ?_⟩
  rw [(runs_qf K n)]
  exact hn
 ·cases h

theorem call_qf : Callable Tryz.prog 70 := ⟨_, Tryz.func70, by kernel_rfl, by kernel_rfl⟩

def T_qg : FuncId -> Option Sum := G0

theorem right_T_qg : Right Tryz.prog T_qg := right_G0

abbrev cuts_qg : Cuts := []

abbrev k0_qg {R : Type} (K : AV -> List O -> Option R) : (List Int) -> Option R := fun r0 => K (.ifc 157 (.agg [ri 3 r0])) []

abbrev k1_qg {R : Type} (K : AV -> List O -> Option R) : Option R := K (.ifc 160 (.agg [])) []

abbrev k2_qg {R : Type} (K : AV -> List O -> Option R) : (List Int) -> Option R := fun r0 => K (.ifc 162 (.agg [ri 3 r0])) []

abbrev k3_qg {R : Type} (K : AV -> List O -> Option R) : Option R := K (.v (.nilIface)) []

theorem gentry_qg {R : Type} (K : AV -> List O -> Option R) (a : Int) (a_1 a_2 : List Int) :
  fnRun Tryz.prog T_qg cuts_qg Tryz.f91 0 [.agg [iv a, ri 3 a_1, ri 3 a_2]] [] K =
  l_qg a a_1 a_2 (k0_qg K) (k1_qg K) (k2_qg K) (k3_qg K) := by kernel_rfl

def S_qg (l_qg : LT_qg) : Sum := ⟨[], fun {R} args ob K => match args, ob with
 |[.agg [.v (.int .i64 a), .rd ⟨false, 3, (.int .i64), a_1⟩, .rd ⟨false, 3, (.int .i64), a_2⟩]], [] => l_qg a a_1 a_2 (k0_qg K) (k1_qg K) (k2_qg K) (k3_qg K)
 |_, _ => none⟩

theorem sound_qg : Sound Tryz.prog 91 (S_qg @l_qg) := by
 refine fn_sound (cuts := cuts_qg) (fn := Tryz.f91) (Γ := T_qg) wide right_T_qg Tryz.func91 fun {R} K r args ob h => ?_
 unfold S_qg at h
 dsimp only at h
 split at h
 ·exact ⟨Nat.le_of_ble_eq_true (by kernel_rfl), 0, (gentry_qg K _ _ _).trans h⟩
 ·cases h

theorem call_qg : Callable Tryz.prog 91 := ⟨_, Tryz.func91, by kernel_rfl, by kernel_rfl⟩

def T_qh : FuncId -> Option Sum := G0

theorem right_T_qh : Right Tryz.prog T_qh := right_G0

abbrev cuts_qh : Cuts := []

abbrev k0_qh {R : Type} (K : AV -> List O -> Option R) : Bool -> Int -> Option R := fun r0 r1 => K (.v (.bool r0)) [.box 3 [iv r1]]

theorem gentry_qh {R : Type} (K : AV -> List O -> Option R) (o o0 : Int) :
  fnRun Tryz.prog T_qh cuts_qh Tryz.f109 0 [iv o, .ptr 0 0] [.box 3 [iv o0]] K =
  l_qh o o0 (k0_qh K) := by kernel_rfl

def S_qh (l_qh : LT_qh) : Sum := ⟨[], fun {R} args ob K => match args, ob with
 |[.v (.int .i64 o), .ptr 0 0], [.box 3 [.v (.int .i64 o0)]] => l_qh o o0 (k0_qh K)
 |_, _ => none⟩

theorem sound_qh : Sound Tryz.prog 109 (S_qh @l_qh) := by
 refine fn_sound (cuts := cuts_qh) (fn := Tryz.f109) (Γ := T_qh) wide right_T_qh Tryz.func109 fun {R} K r args ob h => ?_
 unfold S_qh at h
 dsimp only at h
 split at h
 ·exact ⟨Nat.le_of_ble_eq_true (by kernel_rfl), 0, (gentry_qh K _ _).trans h⟩
 ·cases h

theorem call_qh : Callable Tryz.prog 109 := ⟨_, Tryz.func109, by kernel_rfl, by kernel_rfl⟩

def T_qj (a0 : LT_qh) : FuncId -> Option Sum := (addS G0 109 (S_qh @a0))

abbrev C_qj : FuncId -> Option Sum := T_qj @l_qh

theorem right_T_qj : Right Tryz.prog C_qj := (right_add right_G0 call_qh sound_qh)

abbrev cuts_qi : Cuts := [(2, [0, 1, 7, 8])]

abbrev k0_qi {R : Type} (K : AV -> List O -> Option R) : Int -> Int -> Option R := fun r0 r1 => K (iv r0) [.box 3 [iv r1]]

abbrev sta_qi_2 (s : List Int) (x7 x8 o0 : Int) : St := ⟨fr0 19 [(0, ri 3 s), (1, .clo 109 [.ptr 0 0]), (7, iv x7), (8, iv x8)], [.box 3 [iv o0]]⟩

abbrev gt_qi_2 {R : Type} (g : List Item -> St -> Option R) : GT_qi_2 R := fun (s : List Int) (x7 x8 o0 : Int) => g (at' Tryz.f115 2) (sta_qi_2 s x7 x8 o0)

theorem gstep_qi_2 {a0 : LT_qh} {R : Type} (g : List Item -> St -> Option R) (K : AV -> List O -> Option R) (s : List Int) (x7 x8 o0 : Int) :
  runSeg Tryz.prog (T_qj @a0) cuts_qi 1 g (finish Tryz.prog Tryz.f115 1 K) (at' Tryz.f115 2) (sta_qi_2 s x7 x8 o0) =
  gs_qi_2 @a0 (gt_qi_2 g) (k0_qi K) s x7 x8 o0 := by kernel_rfl

theorem gentry_qi {a0 : LT_qh} {R : Type} (fuel : Nat) (K : AV -> List O -> Option R) (s : List Int) (o0 : Int) :
  fnRun Tryz.prog (T_qj @a0) cuts_qi Tryz.f115 fuel [ri 3 s, .clo 109 [.ptr 0 0]] [.box 3 [iv o0]] K =
  ge_qi @a0 (gt_qi_2 (runO Tryz.prog (T_qj @a0) cuts_qi 1 (finish Tryz.prog Tryz.f115 1 K) fuel)) (k0_qi K) s o0 := by kernel_rfl

theorem runs_qi {R : Type} (K : AV -> List O -> Option R) : ∀ fuel : Nat,
  (gt_qi_2 (runO Tryz.prog C_qj cuts_qi 1 (finish Tryz.prog Tryz.f115 1 K) fuel)) = (run_qi (k0_qi K) fuel)
 |0 => rfl
 |fuel + 1 => by
  have ih := runs_qi K fuel
  funext s x7 x8 o0
  refine (gstep_qi_2 _ K s x7 x8 o0).trans ?_
  rw [ih]
  rfl

def S_qj (l_qi : LT_qi) : Sum := ⟨[], fun {R} args ob K => match args, ob with
 |[.rd ⟨false, 3, (.int .i64), s⟩, .clo 109 [.ptr 0 0]], [.box 3 [.v (.int .i64 o0)]] => l_qi s o0 (k0_qi K)
 |_, _ => none⟩

theorem sound_qj : Sound Tryz.prog 115 (S_qj @l_qi) := by
 refine fn_sound (cuts := cuts_qi) (fn := Tryz.f115) (Γ := C_qj) wide right_T_qj Tryz.func115 fun {R} K r args ob h => ?_
 unfold S_qj at h
 dsimp only at h
 split at h
 ·obtain ⟨n, hn⟩ := ok_qi _ _ _ h
  refine ⟨Nat.le_of_ble_eq_true (by kernel_rfl), n, (gentry_qi n K _ _).trans ?_⟩
  rw [(runs_qi K n)]
  exact hn
 ·cases h

theorem call_qj : Callable Tryz.prog 115 := ⟨_, Tryz.func115, by kernel_rfl, by kernel_rfl⟩

def T_ql (a0 : LT_qi) : FuncId -> Option Sum := (addS G0 115 (S_qj @a0))

abbrev C_ql : FuncId -> Option Sum := T_ql @l_qi

theorem right_T_ql : Right Tryz.prog C_ql := (right_add right_G0 call_qj sound_qj)

abbrev cuts_qk : Cuts := []

abbrev k0_qk {R : Type} (K : AV -> List O -> Option R) : Bool -> Int -> Option R := fun r0 r1 => K (.v (.bool r0)) [.box 3 [iv r1]]

theorem gentry_qk {a0 : LT_qi} {R : Type} (K : AV -> List O -> Option R) (s : List Int) (o0 : Int) :
  fnRun Tryz.prog (T_ql @a0) cuts_qk Tryz.f108 0 [ri 3 s, .clo 109 [.ptr 0 0]] [.box 3 [iv o0]] K =
  gl_qk @a0 s o0 (k0_qk K) := by kernel_rfl

def S_ql (l_qk : LT_qk) : Sum := ⟨[], fun {R} args ob K => match args, ob with
 |[.rd ⟨false, 3, (.int .i64), s⟩, .clo 109 [.ptr 0 0]], [.box 3 [.v (.int .i64 o0)]] => l_qk s o0 (k0_qk K)
 |_, _ => none⟩

theorem sound_ql : Sound Tryz.prog 108 (S_ql @l_qk) := by
 refine fn_sound (cuts := cuts_qk) (fn := Tryz.f108) (Γ := C_ql) wide right_T_ql Tryz.func108 fun {R} K r args ob h => ?_
 unfold S_ql at h
 dsimp only at h
 split at h
 ·exact ⟨Nat.le_of_ble_eq_true (by kernel_rfl), 0, (gentry_qk K _ _).trans h⟩
 ·cases h

theorem call_ql : Callable Tryz.prog 108 := ⟨_, Tryz.func108, by kernel_rfl, by kernel_rfl⟩

def T_qm (a0 : LT_qk) : FuncId -> Option Sum := (addS G0 108 (S_ql @a0))

abbrev C_qm : FuncId -> Option Sum := T_qm @l_qk

theorem right_T_qm : Right Tryz.prog C_qm := (right_add right_G0 call_ql sound_ql)

abbrev cuts_qm : Cuts := []

abbrev k0_qm {R : Type} (K : AV -> List O -> Option R) : Bool -> Option R := fun r0 => K (.v (.bool r0)) []

theorem gentry_qm {a0 : LT_qk} {R : Type} (K : AV -> List O -> Option R) (q : Int) (q_1 : List Int) (q_2 q_3 q_4 q_5 : Int) (q_6 q_7 out : List Int) :
  fnRun Tryz.prog (T_qm @a0) cuts_qm Tryz.f92 0 [.agg [iv q, ri 3 q_1, iv q_2, iv q_3, iv q_4, iv q_5, ri 3 q_6, ri 3 q_7], ri 3 out] [] K =
  gl_qm @a0 q q_1 q_2 q_3 q_4 q_5 q_6 q_7 out (k0_qm K) := by kernel_rfl

def S_qm (l_qm : LT_qm) : Sum := ⟨[], fun {R} args ob K => match args, ob with
 |[.agg [.v (.int .i64 q), .rd ⟨false, 3, (.int .i64), q_1⟩, .v (.int .i64 q_2), .v (.int .i64 q_3), .v (.int .i64 q_4), .v (.int .i64 q_5), .rd ⟨false, 3, (.int .i64), q_6⟩, .rd ⟨false, 3, (.int .i64), q_7⟩], .rd ⟨false, 3, (.int .i64), out⟩], [] => l_qm q q_1 q_2 q_3 q_4 q_5 q_6 q_7 out (k0_qm K)
 |_, _ => none⟩

theorem sound_qm : Sound Tryz.prog 92 (S_qm @l_qm) := by
 refine fn_sound (cuts := cuts_qm) (fn := Tryz.f92) (Γ := C_qm) wide right_T_qm Tryz.func92 fun {R} K r args ob h => ?_
 unfold S_qm at h
 dsimp only at h
 split at h
 ·exact ⟨Nat.le_of_ble_eq_true (by kernel_rfl), 0, (gentry_qm K _ _ _ _ _ _ _ _ _).trans h⟩
 ·cases h

theorem call_qm : Callable Tryz.prog 92 := ⟨_, Tryz.func92, by kernel_rfl, by kernel_rfl⟩

def T_qn (a0 : LT_qm) (a1 : LT_qf) (a2 : LT_qg) : FuncId -> Option Sum := (addS (addS (addS G0 92 (S_qm @a0)) 70 (S_qf @a1)) 91 (S_qg @a2))

abbrev C_qn : FuncId -> Option Sum := T_qn @l_qm @l_qf @l_qg

theorem right_T_qn : Right Tryz.prog C_qn := (right_add (right_add (right_add right_G0 call_qm sound_qm) call_qf sound_qf) call_qg sound_qg)

abbrev cuts_qn : Cuts := []

abbrev k0_qn {R : Type} (K : AV -> List O -> Option R) : Int -> Option R := fun r0 => K (iv r0) []

theorem gentry_qn {a0 : LT_qm} {a1 : LT_qf} {a2 : LT_qg} {R : Type} (K : AV -> List O -> Option R) (q : Int) (q_1 : List Int) (q_2 q_3 q_4 q_5 : Int) (q_6 q_7 : List Int) (a : Int) (a_1 a_2 : List Int) :
  fnRun Tryz.prog (T_qn @a0 @a1 @a2) cuts_qn Tryz.f71 0 [.agg [iv q, ri 3 q_1, iv q_2, iv q_3, iv q_4, iv q_5, ri 3 q_6, ri 3 q_7], .agg [iv a, ri 3 a_1, ri 3 a_2]] [] K =
  gl_qn @a0 @a1 @a2 q q_1 q_2 q_3 q_4 q_5 q_6 q_7 a a_1 a_2 (k0_qn K) := by kernel_rfl

def S_qn (l_qn : LT_qn) : Sum := ⟨[], fun {R} args ob K => match args, ob with
 |[.agg [.v (.int .i64 q), .rd ⟨false, 3, (.int .i64), q_1⟩, .v (.int .i64 q_2), .v (.int .i64 q_3), .v (.int .i64 q_4), .v (.int .i64 q_5), .rd ⟨false, 3, (.int .i64), q_6⟩, .rd ⟨false, 3, (.int .i64), q_7⟩], .agg [.v (.int .i64 a), .rd ⟨false, 3, (.int .i64), a_1⟩, .rd ⟨false, 3, (.int .i64), a_2⟩]], [] => l_qn q q_1 q_2 q_3 q_4 q_5 q_6 q_7 a a_1 a_2 (k0_qn K)
 |_, _ => none⟩

theorem sound_qn : Sound Tryz.prog 71 (S_qn @l_qn) := by
 refine fn_sound (cuts := cuts_qn) (fn := Tryz.f71) (Γ := C_qn) wide right_T_qn Tryz.func71 fun {R} K r args ob h => ?_
 unfold S_qn at h
 dsimp only at h
 split at h
 ·exact ⟨Nat.le_of_ble_eq_true (by kernel_rfl), 0, (gentry_qn K _ _ _ _ _ _ _ _ _ _ _).trans h⟩
 ·cases h

theorem call_qn : Callable Tryz.prog 71 := ⟨_, Tryz.func71, by kernel_rfl, by kernel_rfl⟩

def T_qo (a0 : LT_qn) (a1 : LT_qa) (a2 : LT_qf) : FuncId -> Option Sum := (addS (addS (addS G0 71 (S_qn @a0)) 67 (S_qa @a1)) 70 (S_qf @a2))

abbrev C_qo : FuncId -> Option Sum := T_qo @l_qn @l_qa @l_qf

theorem right_T_qo : Right Tryz.prog C_qo := (right_add (right_add (right_add right_G0 call_qn sound_qn) call_qa sound_qa) call_qf sound_qf)

abbrev cuts_qo : Cuts := []

abbrev k0_qo {R : Type} (K : AV -> List O -> Option R) : Int -> Option R := fun r0 => K (iv r0) []

theorem gentry_qo {a0 : LT_qn} {a1 : LT_qa} {a2 : LT_qf} {R : Type} (K : AV -> List O -> Option R) (r : Int) (r_1 : List Int) (r_2 r_3 r_4 r_5 : Int) (r_6 r_7 : List Int) (r_8 : Int) (r_9 r_10 : List Int) (l l_1 l_2 : Int) :
  fnRun Tryz.prog (T_qo @a0 @a1 @a2) cuts_qo Tryz.f44 0 [.agg [iv r, ri 3 r_1, iv r_2, iv r_3, iv r_4, iv r_5, ri 3 r_6, ri 3 r_7, iv r_8, ri 3 r_9, ri 3 r_10], .agg [iv l, iv l_1, iv l_2, .cel]] [] K =
  gl_qo @a0 @a1 @a2 r r_1 r_2 r_3 r_4 r_5 r_6 r_7 r_8 r_9 r_10 l l_1 l_2 (k0_qo K) := by kernel_rfl

def S_qo (l_qo : LT_qo) : Sum := ⟨[98], fun {R} args ob K => match args, ob with
 |[.agg [.v (.int .i64 r), .rd ⟨false, 3, (.int .i64), r_1⟩, .v (.int .i64 r_2), .v (.int .i64 r_3), .v (.int .i64 r_4), .v (.int .i64 r_5), .rd ⟨false, 3, (.int .i64), r_6⟩, .rd ⟨false, 3, (.int .i64), r_7⟩, .v (.int .i64 r_8), .rd ⟨false, 3, (.int .i64), r_9⟩, .rd ⟨false, 3, (.int .i64), r_10⟩], .agg [.v (.int .i64 l), .v (.int .i64 l_1), .v (.int .i64 l_2), .cel]], [] => l_qo r r_1 r_2 r_3 r_4 r_5 r_6 r_7 r_8 r_9 r_10 l l_1 l_2 (k0_qo K)
 |_, _ => none⟩

theorem sound_qo : Sound Tryz.prog 44 (S_qo @l_qo) := by
 refine fn_sound (cuts := cuts_qo) (fn := Tryz.f44) (Γ := C_qo) wide right_T_qo Tryz.func44 fun {R} K r args ob h => ?_
 unfold S_qo at h
 dsimp only at h
 split at h
 ·exact ⟨Nat.le_of_ble_eq_true (by kernel_rfl), 0, (gentry_qo K _ _ _ _ _ _ _ _ _ _ _ _ _ _).trans h⟩
 ·cases h

theorem call_qo : Callable Tryz.prog 44 := ⟨_, Tryz.func44, by kernel_rfl, by kernel_rfl⟩

def T_qp : FuncId -> Option Sum := G0

theorem right_T_qp : Right Tryz.prog T_qp := right_G0

abbrev cuts_qp : Cuts := []

abbrev k0_qp {R : Type} (K : AV -> List O -> Option R) : Int -> Option R := fun r0 => K (iv r0) []

theorem gentry_qp {R : Type} (K : AV -> List O -> Option R) (m m_1 m_2 m_3 : Int) (m_4 m_5 : List Int) :
  fnRun Tryz.prog T_qp cuts_qp Tryz.f98 0 [.agg [iv m, iv m_1, iv m_2, iv m_3, ri 3 m_4, ri 3 m_5]] [] K =
  l_qp m m_1 m_2 m_3 m_4 m_5 (k0_qp K) := by kernel_rfl

def S_qp (l_qp : LT_qp) : Sum := ⟨[], fun {R} args ob K => match args, ob with
 |[.agg [.v (.int .i64 m), .v (.int .i64 m_1), .v (.int .i64 m_2), .v (.int .i64 m_3), .rd ⟨false, 3, (.int .i64), m_4⟩, .rd ⟨false, 3, (.int .i64), m_5⟩]], [] => l_qp m m_1 m_2 m_3 m_4 m_5 (k0_qp K)
 |_, _ => none⟩

theorem sound_qp : Sound Tryz.prog 98 (S_qp @l_qp) := by
 refine fn_sound (cuts := cuts_qp) (fn := Tryz.f98) (Γ := T_qp) wide right_T_qp Tryz.func98 fun {R} K r args ob h => ?_
 unfold S_qp at h
 dsimp only at h
 split at h
 ·exact ⟨Nat.le_of_ble_eq_true (by kernel_rfl), 0, (gentry_qp K _ _ _ _ _ _).trans h⟩
 ·cases h

theorem call_qp : Callable Tryz.prog 98 := ⟨_, Tryz.func98, by kernel_rfl, by kernel_rfl⟩

def T_qq (a0 : LT_qp) : FuncId -> Option Sum := (addS G0 98 (S_qp @a0))

abbrev C_qq : FuncId -> Option Sum := T_qq @l_qp

theorem right_T_qq : Right Tryz.prog C_qq := (right_add right_G0 call_qp sound_qp)

abbrev cuts_qq : Cuts := []

abbrev k0_qq {R : Type} (K : AV -> List O -> Option R) : Int -> Option R := fun r0 => K (iv r0) []

theorem gentry_qq {a0 : LT_qp} {R : Type} (K : AV -> List O -> Option R) (m m_1 m_2 m_3 : Int) (m_4 m_5 : List Int) :
  fnRun Tryz.prog (T_qq @a0) cuts_qq Tryz.f78 0 [.agg [iv m, iv m_1, iv m_2, iv m_3, ri 3 m_4, ri 3 m_5]] [] K =
  gl_qq @a0 m m_1 m_2 m_3 m_4 m_5 (k0_qq K) := by kernel_rfl

def S_qq (l_qq : LT_qq) : Sum := ⟨[], fun {R} args ob K => match args, ob with
 |[.agg [.v (.int .i64 m), .v (.int .i64 m_1), .v (.int .i64 m_2), .v (.int .i64 m_3), .rd ⟨false, 3, (.int .i64), m_4⟩, .rd ⟨false, 3, (.int .i64), m_5⟩]], [] => l_qq m m_1 m_2 m_3 m_4 m_5 (k0_qq K)
 |_, _ => none⟩

theorem sound_qq : Sound Tryz.prog 78 (S_qq @l_qq) := by
 refine fn_sound (cuts := cuts_qq) (fn := Tryz.f78) (Γ := C_qq) wide right_T_qq Tryz.func78 fun {R} K r args ob h => ?_
 unfold S_qq at h
 dsimp only at h
 split at h
 ·exact ⟨Nat.le_of_ble_eq_true (by kernel_rfl), 0, (gentry_qq K _ _ _ _ _ _).trans h⟩
 ·cases h

theorem call_qq : Callable Tryz.prog 78 := ⟨_, Tryz.func78, by kernel_rfl, by kernel_rfl⟩

def T_qr : FuncId -> Option Sum := G0

theorem right_T_qr : Right Tryz.prog T_qr := right_G0

abbrev cuts_qr : Cuts := [(2, [0, 1, 7, 8])]

abbrev k0_qr {R : Type} (K : AV -> List O -> Option R) : Int -> Option R := fun r0 => K (iv r0) []

abbrev sta_qr_2 (l : List Int) (n x7 x8 : Int) : St := ⟨fr0 21 [(0, ri 3 l), (1, iv n), (7, iv x7), (8, iv x8)], []⟩

abbrev gt_qr_2 {R : Type} (g : List Item -> St -> Option R) : GT_qr_2 R := fun (l : List Int) (n x7 x8 : Int) => g (at' Tryz.f79 2) (sta_qr_2 l n x7 x8)

theorem gstep_qr_2 {R : Type} (g : List Item -> St -> Option R) (K : AV -> List O -> Option R) (l : List Int) (n x7 x8 : Int) :
  runSeg Tryz.prog T_qr cuts_qr 0 g (finish Tryz.prog Tryz.f79 0 K) (at' Tryz.f79 2) (sta_qr_2 l n x7 x8) =
  s_qr_2 (gt_qr_2 g) (k0_qr K) l n x7 x8 := by kernel_rfl

theorem gentry_qr {R : Type} (fuel : Nat) (K : AV -> List O -> Option R) (l : List Int) (n : Int) :
  fnRun Tryz.prog T_qr cuts_qr Tryz.f79 fuel [ri 3 l, iv n] [] K =
  e_qr (gt_qr_2 (runO Tryz.prog T_qr cuts_qr 0 (finish Tryz.prog Tryz.f79 0 K) fuel)) (k0_qr K) l n := by kernel_rfl

theorem runs_qr {R : Type} (K : AV -> List O -> Option R) : ∀ fuel : Nat,
  (gt_qr_2 (runO Tryz.prog T_qr cuts_qr 0 (finish Tryz.prog Tryz.f79 0 K) fuel)) = (run_qr (k0_qr K) fuel)
 |0 => rfl
 |fuel + 1 => by
  have ih := runs_qr K fuel
  funext l n x7 x8
  refine (gstep_qr_2 _ K l n x7 x8).trans ?_
  rw [ih]
  rfl

def S_qr (l_qr : LT_qr) : Sum := ⟨[], fun {R} args ob K => match args, ob with
 |[.rd ⟨false, 3, (.int .i64), l⟩, .v (.int .i64 n)], [] => l_qr l n (k0_qr K)
 |_, _ => none⟩

theorem sound_qr : Sound Tryz.prog 79 (S_qr @l_qr) := by
 refine fn_sound (cuts := cuts_qr) (fn := Tryz.f79) (Γ := T_qr) wide right_T_qr Tryz.func79 fun {R} K r args ob h => ?_
 unfold S_qr at h
 dsimp only at h
 split at h
 ·obtain ⟨n, hn⟩ := ok_qr _ _ _ h
  refine ⟨Nat.le_of_ble_eq_true (by kernel_rfl), n, (gentry_qr n K _ _).trans ?_⟩
  rw [(runs_qr K n)]
  exact hn
 ·cases h

theorem call_qr : Callable Tryz.prog 79 := ⟨_, Tryz.func79, by kernel_rfl, by kernel_rfl⟩

def T_qs (a0 : LT_qr) (a1 : LT_qq) : FuncId -> Option Sum := (addS (addS G0 79 (S_qr @a0)) 78 (S_qq @a1))

abbrev C_qs : FuncId -> Option Sum := T_qs @l_qr @l_qq

theorem right_T_qs : Right Tryz.prog C_qs := (right_add (right_add right_G0 call_qr sound_qr) call_qq sound_qq)

abbrev cuts_qs : Cuts := []

abbrev k0_qs {R : Type} (K : AV -> List O -> Option R) : Int -> Int -> Option R := fun r0 r1 => K (.tup [iv r0, iv r1]) []

theorem gentry_qs {a0 : LT_qr} {a1 : LT_qq} {R : Type} (K : AV -> List O -> Option R) (m m_1 m_2 m_3 : Int) (m_4 m_5 : List Int) :
  fnRun Tryz.prog (T_qs @a0 @a1) cuts_qs Tryz.f53 0 [.agg [iv m, iv m_1, iv m_2, iv m_3, ri 3 m_4, ri 3 m_5]] [] K =
  gl_qs @a0 @a1 m m_1 m_2 m_3 m_4 m_5 (k0_qs K) := by kernel_rfl

def S_qs (l_qs : LT_qs) : Sum := ⟨[], fun {R} args ob K => match args, ob with
 |[.agg [.v (.int .i64 m), .v (.int .i64 m_1), .v (.int .i64 m_2), .v (.int .i64 m_3), .rd ⟨false, 3, (.int .i64), m_4⟩, .rd ⟨false, 3, (.int .i64), m_5⟩]], [] => l_qs m m_1 m_2 m_3 m_4 m_5 (k0_qs K)
 |_, _ => none⟩

theorem sound_qs : Sound Tryz.prog 53 (S_qs @l_qs) := by
 refine fn_sound (cuts := cuts_qs) (fn := Tryz.f53) (Γ := C_qs) wide right_T_qs Tryz.func53 fun {R} K r args ob h => ?_
 unfold S_qs at h
 dsimp only at h
 split at h
 ·exact ⟨Nat.le_of_ble_eq_true (by kernel_rfl), 0, (gentry_qs K _ _ _ _ _ _).trans h⟩
 ·cases h

theorem call_qs : Callable Tryz.prog 53 := ⟨_, Tryz.func53, by kernel_rfl, by kernel_rfl⟩

def T_qt : FuncId -> Option Sum := G0

theorem right_T_qt : Right Tryz.prog T_qt := right_G0

abbrev cuts_qt : Cuts := []

abbrev k0_qt {R : Type} (K : AV -> List O -> Option R) : Int -> Option R := fun r0 => K (iv r0) []

theorem gentry_qt {R : Type} (K : AV -> List O -> Option R) (l l_1 l_2 m m_1 m_2 m_3 : Int) (m_4 m_5 : List Int) :
  fnRun Tryz.prog T_qt cuts_qt Tryz.f54 0 [.agg [iv l, iv l_1, iv l_2, .cel], .agg [iv m, iv m_1, iv m_2, iv m_3, ri 3 m_4, ri 3 m_5]] [] K =
  l_qt l l_1 l_2 m m_1 m_2 m_3 m_4 m_5 (k0_qt K) := by kernel_rfl

abbrev cuts_q1p : Cuts := []

abbrev k0_q1p {R : Type} (K : AV -> List O -> Option R) : Int -> Option R := fun r0 => K (iv r0) []

theorem gentry_q1p {R : Type} (K : AV -> List O -> Option R) (l l_1 l_2 : Int) (l_3 : List Ent) (m m_1 m_2 m_3 : Int) (m_4 m_5 : List Int) :
  fnRun Tryz.prog T_qt cuts_q1p Tryz.f54 0 [.agg [iv l, iv l_1, iv l_2, .rd ⟨false, 53, (.pr (.pr (.int .i64) (.pr (.sl 3 (.int .i64)) (.pr (.int .i64) (.pr (.int .i64) (.pr (.int .i64) (.pr (.int .i64) (.pr (.sl 3 (.int .i64)) (.sl 3 (.int .i64))))))))) (.pr (.int .i64) (.pr (.sl 3 (.int .i64)) (.sl 3 (.int .i64))))), l_3⟩], .agg [iv m, iv m_1, iv m_2, iv m_3, ri 3 m_4, ri 3 m_5]] [] K =
  l_q1p l l_1 l_2 l_3 m m_1 m_2 m_3 m_4 m_5 (k0_q1p K) := by kernel_rfl

def S_qt (l_qt : LT_qt) (l_q1p : LT_q1p) : Sum := ⟨[], fun {R} args ob K => match args, ob with
 |[.agg [.v (.int .i64 l), .v (.int .i64 l_1), .v (.int .i64 l_2), .cel], .agg [.v (.int .i64 m), .v (.int .i64 m_1), .v (.int .i64 m_2), .v (.int .i64 m_3), .rd ⟨false, 3, (.int .i64), m_4⟩, .rd ⟨false, 3, (.int .i64), m_5⟩]], [] => l_qt l l_1 l_2 m m_1 m_2 m_3 m_4 m_5 (k0_qt K)
 |[.agg [.v (.int .i64 l), .v (.int .i64 l_1), .v (.int .i64 l_2), .rd ⟨false, 53, (.pr (.pr (.int .i64) (.pr (.sl 3 (.int .i64)) (.pr (.int .i64) (.pr (.int .i64) (.pr (.int .i64) (.pr (.int .i64) (.pr (.sl 3 (.int .i64)) (.sl 3 (.int .i64))))))))) (.pr (.int .i64) (.pr (.sl 3 (.int .i64)) (.sl 3 (.int .i64))))), l_3⟩], .agg [.v (.int .i64 m), .v (.int .i64 m_1), .v (.int .i64 m_2), .v (.int .i64 m_3), .rd ⟨false, 3, (.int .i64), m_4⟩, .rd ⟨false, 3, (.int .i64), m_5⟩]], [] => l_q1p l l_1 l_2 l_3 m m_1 m_2 m_3 m_4 m_5 (k0_q1p K)
 |_, _ => none⟩

theorem sound_qt : Sound Tryz.prog 54 (S_qt @l_qt @l_q1p) := by
 refine fn_sound (cuts := cuts_qt) (fn := Tryz.f54) (Γ := T_qt) wide right_T_qt Tryz.func54 fun {R} K r args ob h => ?_
 unfold S_qt at h
 dsimp only at h
 split at h
 ·exact ⟨Nat.le_of_ble_eq_true (by kernel_rfl), 0, (gentry_qt K _ _ _ _ _ _ _ _ _).trans h⟩
 ·exact ⟨Nat.le_of_ble_eq_true (by kernel_rfl), 0, (gentry_q1p K _ _ _ _ _ _ _ _ _ _).trans h⟩
 ·cases h

theorem call_qt : Callable Tryz.prog 54 := ⟨_, Tryz.func54, by kernel_rfl, by kernel_rfl⟩

def T_qu (a0 : LT_qn) (a1 : LT_qt) (a2 : LT_q1p) (a3 : LT_qs) : FuncId -> Option Sum := (addS (addS (addS G0 71 (S_qn @a0)) 54 (S_qt @a1 @a2)) 53 (S_qs @a3))

abbrev C_qu : FuncId -> Option Sum := T_qu @l_qn @l_qt @l_q1p @l_qs

theorem right_T_qu : Right Tryz.prog C_qu := (right_add (right_add (right_add right_G0 call_qn sound_qn) call_qt sound_qt) call_qs sound_qs)

abbrev cuts_qu : Cuts := []

abbrev k0_qu {R : Type} (K : AV -> List O -> Option R) : Int -> Option R := fun r0 => K (iv r0) []

theorem gentry_qu {a0 : LT_qn} {a1 : LT_qt} {a2 : LT_q1p} {a3 : LT_qs} {R : Type} (K : AV -> List O -> Option R) (r : Int) (r_1 : List Int) (r_2 r_3 r_4 r_5 : Int) (r_6 r_7 : List Int) (r_8 : Int) (r_9 r_10 : List Int) (l l_1 l_2 : Int) :
  fnRun Tryz.prog (T_qu @a0 @a1 @a2 @a3) cuts_qu Tryz.f45 0 [.agg [iv r, ri 3 r_1, iv r_2, iv r_3, iv r_4, iv r_5, ri 3 r_6, ri 3 r_7, iv r_8, ri 3 r_9, ri 3 r_10], .agg [iv l, iv l_1, iv l_2, .cel]] [] K =
  gl_qu @a0 @a1 @a3 r r_1 r_2 r_3 r_4 r_5 r_6 r_7 r_8 r_9 r_10 l l_1 l_2 (k0_qu K) := by kernel_rfl

def S_qu (l_qu : LT_qu) : Sum := ⟨[98], fun {R} args ob K => match args, ob with
 |[.agg [.v (.int .i64 r), .rd ⟨false, 3, (.int .i64), r_1⟩, .v (.int .i64 r_2), .v (.int .i64 r_3), .v (.int .i64 r_4), .v (.int .i64 r_5), .rd ⟨false, 3, (.int .i64), r_6⟩, .rd ⟨false, 3, (.int .i64), r_7⟩, .v (.int .i64 r_8), .rd ⟨false, 3, (.int .i64), r_9⟩, .rd ⟨false, 3, (.int .i64), r_10⟩], .agg [.v (.int .i64 l), .v (.int .i64 l_1), .v (.int .i64 l_2), .cel]], [] => l_qu r r_1 r_2 r_3 r_4 r_5 r_6 r_7 r_8 r_9 r_10 l l_1 l_2 (k0_qu K)
 |_, _ => none⟩

theorem sound_qu : Sound Tryz.prog 45 (S_qu @l_qu) := by
 refine fn_sound (cuts := cuts_qu) (fn := Tryz.f45) (Γ := C_qu) wide right_T_qu Tryz.func45 fun {R} K r args ob h => ?_
 unfold S_qu at h
 dsimp only at h
 split at h
 ·exact ⟨Nat.le_of_ble_eq_true (by kernel_rfl), 0, (gentry_qu K _ _ _ _ _ _ _ _ _ _ _ _ _ _).trans h⟩
 ·cases h

theorem call_qu : Callable Tryz.prog 45 := ⟨_, Tryz.func45, by kernel_rfl, by kernel_rfl⟩


def S_qv (l_qv : LT_qv) : Sum := ⟨[], fun {R} args ob K => match args, ob with
 |[.rd ⟨false, _, .int .u8, xs⟩, .rd ⟨false, _, .int .u8, ys⟩], [] => l_qv xs ys (fun r0 => K (.v (.int .i64 r0)) [])
 |_, _ => none⟩

theorem sound_qv : Sound Tryz.prog 63 (S_qv @l_qv) := sound_Index (g := 0) Tryz.laysC13 rfl rfl inferInstance

theorem call_qv : Callable Tryz.prog 63 := ⟨_, Tryz.func63, by kernel_rfl, by kernel_rfl⟩

def T_qx : FuncId -> Option Sum := G0

theorem right_T_qx : Right Tryz.prog T_qx := right_G0

abbrev cuts_qw : Cuts := [(1, [0, 1, 4])]

abbrev k0_qw {R : Type} (K : AV -> List O -> Option R) : (List Int) -> Int -> Int -> Int -> Option R := fun r0 r1 r2 r3 => K (.tup []) [.box 145 [rb 5 r0, iv r1, .ifc 147 (.ptr 1 0)], .box 151 [iv r2, iv r3]]

abbrev k1_qw {R : Type} (K : AV -> List O -> Option R) : (List Int) -> Int -> Option R := fun r0 r1 => K (.tup []) [.box 145 [rb 5 r0, iv r1, .v (.nilIface)]]

abbrev sta_qw_1 (s : ByteArray) (i : Int) (o0 : List Int) (o0_1 : Int) : St := ⟨fr0 61 [(0, .ptr 0 0), (1, .v (.string s)), (4, iv i)], [.box 145 [rb 5 o0, iv o0_1, .v (.nilIface)]]⟩

abbrev gt_qw_1 {R : Type} (g : List Item -> St -> Option R) : GT_qw_1 R := fun (s : ByteArray) (i : Int) (o0 : List Int) (o0_1 : Int) => g (at' Tryz.f103 1) (sta_qw_1 s i o0 o0_1)

theorem gstep_qw_1 {R : Type} (g : List Item -> St -> Option R) (K : AV -> List O -> Option R) (s : ByteArray) (i : Int) (o0 : List Int) (o0_1 : Int) :
  runSeg Tryz.prog T_qx cuts_qw 1 g (finish Tryz.prog Tryz.f103 1 K) (at' Tryz.f103 1) (sta_qw_1 s i o0 o0_1) =
  s_qw_1 (gt_qw_1 g) (k0_qw K) (k1_qw K) s i o0 o0_1 := by kernel_rfl

theorem gentry_qw {R : Type} (fuel : Nat) (K : AV -> List O -> Option R) (s : ByteArray) (o0 : List Int) (o0_1 : Int) :
  fnRun Tryz.prog T_qx cuts_qw Tryz.f103 fuel [.ptr 0 0, .v (.string s)] [.box 145 [rb 5 o0, iv o0_1, .v (.nilIface)]] K =
  e_qw (gt_qw_1 (runO Tryz.prog T_qx cuts_qw 1 (finish Tryz.prog Tryz.f103 1 K) fuel)) (k0_qw K) (k1_qw K) s o0 o0_1 := by kernel_rfl

theorem runs_qw {R : Type} (K : AV -> List O -> Option R) : ∀ fuel : Nat,
  (gt_qw_1 (runO Tryz.prog T_qx cuts_qw 1 (finish Tryz.prog Tryz.f103 1 K) fuel)) = (run_qw (k0_qw K) (k1_qw K) fuel)
 |0 => rfl
 |fuel + 1 => by
  have ih := runs_qw K fuel
  funext s i o0 o0_1
  refine (gstep_qw_1 _ K s i o0 o0_1).trans ?_
  rw [ih]
  rfl

abbrev cuts_q10 : Cuts := [(1, [0, 1, 4])]

abbrev k0_q10 {R : Type} (K : AV -> List O -> Option R) : (List Int) -> Int -> Int -> Int -> Option R := fun r0 r1 r2 r3 => K (.tup []) [.box 145 [rb 5 r0, iv r1, .ifc 147 (.ptr 1 0)], .box 151 [iv r2, iv r3]]

abbrev sta_q10_1 (s : ByteArray) (i : Int) (o0 : List Int) (o0_1 o1 o1_1 : Int) : St := ⟨fr0 61 [(0, .ptr 0 0), (1, .v (.string s)), (4, iv i)], [.box 145 [rb 5 o0, iv o0_1, .ifc 147 (.ptr 1 0)], .box 151 [iv o1, iv o1_1]]⟩

abbrev gt_q10_1 {R : Type} (g : List Item -> St -> Option R) : GT_q10_1 R := fun (s : ByteArray) (i : Int) (o0 : List Int) (o0_1 o1 o1_1 : Int) => g (at' Tryz.f103 1) (sta_q10_1 s i o0 o0_1 o1 o1_1)

theorem gstep_q10_1 {R : Type} (g : List Item -> St -> Option R) (K : AV -> List O -> Option R) (s : ByteArray) (i : Int) (o0 : List Int) (o0_1 o1 o1_1 : Int) :
  runSeg Tryz.prog T_qx cuts_q10 2 g (finish Tryz.prog Tryz.f103 2 K) (at' Tryz.f103 1) (sta_q10_1 s i o0 o0_1 o1 o1_1) =
  s_q10_1 (gt_q10_1 g) (k0_q10 K) s i o0 o0_1 o1 o1_1 := by kernel_rfl

theorem gentry_q10 {R : Type} (fuel : Nat) (K : AV -> List O -> Option R) (s : ByteArray) (o0 : List Int) (o0_1 o1 o1_1 : Int) :
  fnRun Tryz.prog T_qx cuts_q10 Tryz.f103 fuel [.ptr 0 0, .v (.string s)] [.box 145 [rb 5 o0, iv o0_1, .ifc 147 (.ptr 1 0)], .box 151 [iv o1, iv o1_1]] K =
  e_q10 (gt_q10_1 (runO Tryz.prog T_qx cuts_q10 2 (finish Tryz.prog Tryz.f103 2 K) fuel)) (k0_q10 K) s o0 o0_1 o1 o1_1 := by kernel_rfl

theorem runs_q10 {R : Type} (K : AV -> List O -> Option R) : ∀ fuel : Nat,
  (gt_q10_1 (runO Tryz.prog T_qx cuts_q10 2 (finish Tryz.prog Tryz.f103 2 K) fuel)) = (run_q10 (k0_q10 K) fuel)
 |0 => rfl
 |fuel + 1 => by
  have ih := runs_q10 K fuel
  funext s i o0 o0_1 o1 o1_1
  refine (gstep_q10_1 _ K s i o0 o0_1 o1 o1_1).trans ?_
  rw [ih]
  rfl

def S_qx (l_qw : LT_qw) (l_q10 : LT_q10) : Sum := ⟨[], fun {R} args ob K => match args, ob with
 |[.ptr 0 0, .v (.string s)], [.box 145 [.rd ⟨false, 5, (.int .u8), o0⟩, .v (.int .i64 o0_1), .v (.nilIface)]] => l_qw s o0 o0_1 (k0_qw K) (k1_qw K)
 |[.ptr 0 0, .v (.string s)], [.box 145 [.rd ⟨false, 5, (.int .u8), o0⟩, .v (.int .i64 o0_1), .ifc 147 (.ptr 1 0)], .box 151 [.v (.int .i64 o1), .v (.int .i64 o1_1)]] => l_q10 s o0 o0_1 o1 o1_1 (k0_q10 K)
 |_, _ => none⟩

theorem sound_qx : Sound Tryz.prog 103 (S_qx @l_qw @l_q10) := by
 refine fn_sound (cuts := cuts_qw) (fn := Tryz.f103) (Γ := T_qx) wide right_T_qx Tryz.func103 fun {R} K r args ob h => ?_
 unfold S_qx at h
 dsimp only at h
 split at h
 ·obtain ⟨n, hn⟩ := evl_ok h
  refine ⟨Nat.le_of_ble_eq_true (by kernel_rfl), n, (gentry_qw n K _ _ _).trans ?_⟩
  rw [(runs_qw K n)]
  exact hn
 ·obtain ⟨n, hn⟩ := evl_ok h
  refine ⟨Nat.le_of_ble_eq_true (by kernel_rfl), n, (gentry_q10 n K _ _ _ _ _).trans ?_⟩
  rw [(runs_q10 K n)]
  exact hn
 ·cases h

theorem call_qx : Callable Tryz.prog 103 := ⟨_, Tryz.func103, by kernel_rfl, by kernel_rfl⟩

def T_qz (a0 : LT_q7) : FuncId -> Option Sum := (addS G0 87 (S_q7 @a0))

abbrev C_qz : FuncId -> Option Sum := T_qz @l_q7

theorem right_T_qz : Right Tryz.prog C_qz := (right_add right_G0 call_q7 sound_q7)

abbrev cuts_qy : Cuts := []

abbrev k0_qy {R : Type} (K : AV -> List O -> Option R) : Int -> (List Int) -> Int -> Int -> Int -> Option R := fun r0 r1 r2 r3 r4 => K (iv r0) [.box 145 [rb 5 r1, iv r2, .ifc 147 (.ptr 1 0)], .box 151 [iv r3, iv r4]]

theorem gentry_qy {a0 : LT_q7} {R : Type} (K : AV -> List O -> Option R) (low high kind : Int) (o0 : List Int) (o0_1 o1 o1_1 : Int) :
  fnRun Tryz.prog (T_qz @a0) cuts_qy Tryz.f102 0 [.ptr 0 0, iv low, iv high, iv kind] [.box 145 [rb 5 o0, iv o0_1, .ifc 147 (.ptr 1 0)], .box 151 [iv o1, iv o1_1]] K =
  l_qy low high kind o0 o0_1 o1 o1_1 (k0_qy K) := by kernel_rfl

abbrev cuts_q11 : Cuts := []

abbrev k0_q11 {R : Type} (K : AV -> List O -> Option R) : Int -> (List Int) -> Int -> Int -> Int -> Option R := fun r0 r1 r2 r3 r4 => K (iv r0) [.box 145 [rb 5 r1, iv r2, .ifc 147 (.ptr 1 0)], .box 151 [iv r3, iv r4]]

abbrev k1_q11 {R : Type} (K : AV -> List O -> Option R) : Int -> (List Int) -> Int -> Option R := fun r0 r1 r2 => K (iv r0) [.box 145 [rb 5 r1, iv r2, .v (.nilIface)]]

theorem gentry_q11 {a0 : LT_q7} {R : Type} (K : AV -> List O -> Option R) (low high kind : Int) (o0 : List Int) (o0_1 : Int) :
  fnRun Tryz.prog (T_qz @a0) cuts_q11 Tryz.f102 0 [.ptr 0 0, iv low, iv high, iv kind] [.box 145 [rb 5 o0, iv o0_1, .v (.nilIface)]] K =
  gl_q11 @a0 low high kind o0 o0_1 (k0_q11 K) (k1_q11 K) := by kernel_rfl

def S_qz (l_qy : LT_qy) (l_q11 : LT_q11) : Sum := ⟨[], fun {R} args ob K => match args, ob with
 |[.ptr 0 0, .v (.int .i64 low), .v (.int .i64 high), .v (.int .i64 kind)], [.box 145 [.rd ⟨false, 5, (.int .u8), o0⟩, .v (.int .i64 o0_1), .ifc 147 (.ptr 1 0)], .box 151 [.v (.int .i64 o1), .v (.int .i64 o1_1)]] => l_qy low high kind o0 o0_1 o1 o1_1 (k0_qy K)
 |[.ptr 0 0, .v (.int .i64 low), .v (.int .i64 high), .v (.int .i64 kind)], [.box 145 [.rd ⟨false, 5, (.int .u8), o0⟩, .v (.int .i64 o0_1), .v (.nilIface)]] => l_q11 low high kind o0 o0_1 (k0_q11 K) (k1_q11 K)
 |_, _ => none⟩

theorem sound_qz : Sound Tryz.prog 102 (S_qz @l_qy @l_q11) := by
 refine fn_sound (cuts := cuts_qy) (fn := Tryz.f102) (Γ := C_qz) wide right_T_qz Tryz.func102 fun {R} K r args ob h => ?_
 unfold S_qz at h
 dsimp only at h
 split at h
 ·exact ⟨Nat.le_of_ble_eq_true (by kernel_rfl), 0, (gentry_qy K _ _ _ _ _ _ _).trans h⟩
 ·exact ⟨Nat.le_of_ble_eq_true (by kernel_rfl), 0, (gentry_q11 K _ _ _ _ _).trans h⟩
 ·cases h

theorem call_qz : Callable Tryz.prog 102 := ⟨_, Tryz.func102, by kernel_rfl, by kernel_rfl⟩

def T_q13 (a0 : LT_qw) (a1 : LT_q10) (a2 : LT_qy) (a3 : LT_q11) : FuncId -> Option Sum := (addS (addS G0 103 (S_qx @a0 @a1)) 102 (S_qz @a2 @a3))

abbrev C_q13 : FuncId -> Option Sum := T_q13 @l_qw @l_q10 @l_qy @l_q11

theorem right_T_q13 : Right Tryz.prog C_q13 := (right_add (right_add right_G0 call_qx sound_qx) call_qz sound_qz)

abbrev cuts_q12 : Cuts := [(15, [0, 2, 3, 4, 5, 6]), (19, [0, 2, 3, 4, 5, 6]), (20, [0, 2, 3, 4, 5, 6, 7]), (21, [0, 2, 3, 4, 5, 6, 7]), (25, [0, 2, 3, 4, 5, 6, 7])]

abbrev k0_q12 {R : Type} (K : AV -> List O -> Option R) : KT0_q12 R := fun r0 r1 r2 r3 r4 r5 r6 r7 r8 r9 => K (.agg [iv r0, iv r1, iv r2, iv r3, .own 2, .own 3]) [.box 145 [rb 5 r4, iv r5, .ifc 147 (.ptr 1 0)], .box 151 [iv r6, iv r7], wi 3 r8, wi 3 r9]

abbrev k1_q12 {R : Type} (K : AV -> List O -> Option R) : KT1_q12 R := fun r0 r1 r2 r3 r4 r5 r6 r7 => K (.agg [iv r0, iv r1, iv r2, iv r3, .own 1, .own 2]) [.box 145 [rb 5 r4, iv r5, .v (.nilIface)], wi 3 r6, wi 3 r7]

abbrev sta_q12_15a (s : Int) (o0 : List Int) (o0_1 o1 o1_1 o2 o2_1 o2_2 o2_3 : Int) (o3 o4 : List Int) (o5 o5_1 o5_2 o5_3 : Int) (o6 o7 : List Int) : St := ⟨fr0 151 [(0, .ptr 0 0), (2, .ptr 2 0), (3, .ptr 5 0), (4, .bnd 102 [.ptr 0 0]), (5, .bnd 103 [.ptr 0 0]), (6, iv s)], [.box 145 [rb 5 o0, iv o0_1, .ifc 147 (.ptr 1 0)], .box 151 [iv o1, iv o1_1], .box 47 [iv o2, iv o2_1, iv o2_2, iv o2_3, .own 3, .own 4], wi 3 o3, wi 3 o4, .box 47 [iv o5, iv o5_1, iv o5_2, iv o5_3, .own 6, .own 7], wi 3 o6, wi 3 o7]⟩

abbrev gt_q12_15a {R : Type} (g : List Item -> St -> Option R) : GT_q12_15a R := fun (s : Int) (o0 : List Int) (o0_1 o1 o1_1 o2 o2_1 o2_2 o2_3 : Int) (o3 o4 : List Int) (o5 o5_1 o5_2 o5_3 : Int) (o6 o7 : List Int) => g (at' Tryz.f88 15) (sta_q12_15a s o0 o0_1 o1 o1_1 o2 o2_1 o2_2 o2_3 o3 o4 o5 o5_1 o5_2 o5_3 o6 o7)

abbrev sta_q12_15b (s : Int) (o0 : List Int) (o0_1 o1 o1_1 o1_2 o1_3 : Int) (o2 o3 : List Int) (o4 o4_1 o4_2 o4_3 : Int) (o5 o6 : List Int) : St := ⟨fr0 151 [(0, .ptr 0 0), (2, .ptr 1 0), (3, .ptr 4 0), (4, .bnd 102 [.ptr 0 0]), (5, .bnd 103 [.ptr 0 0]), (6, iv s)], [.box 145 [rb 5 o0, iv o0_1, .v (.nilIface)], .box 47 [iv o1, iv o1_1, iv o1_2, iv o1_3, .own 2, .own 3], wi 3 o2, wi 3 o3, .box 47 [iv o4, iv o4_1, iv o4_2, iv o4_3, .own 5, .own 6], wi 3 o5, wi 3 o6]⟩

abbrev gt_q12_15b {R : Type} (g : List Item -> St -> Option R) : GT_q12_15b R := fun (s : Int) (o0 : List Int) (o0_1 o1 o1_1 o1_2 o1_3 : Int) (o2 o3 : List Int) (o4 o4_1 o4_2 o4_3 : Int) (o5 o6 : List Int) => g (at' Tryz.f88 15) (sta_q12_15b s o0 o0_1 o1 o1_1 o1_2 o1_3 o2 o3 o4 o4_1 o4_2 o4_3 o5 o6)

abbrev sta_q12_19a (s : Int) (o0 : List Int) (o0_1 o1 o1_1 o2 o2_1 o2_2 o2_3 : Int) (o3 o4 : List Int) (o5 o5_1 o5_2 o5_3 : Int) (o6 o7 : List Int) : St := ⟨fr0 151 [(0, .ptr 0 0), (2, .ptr 2 0), (3, .ptr 5 0), (4, .bnd 102 [.ptr 0 0]), (5, .bnd 103 [.ptr 0 0]), (6, iv s)], [.box 145 [rb 5 o0, iv o0_1, .ifc 147 (.ptr 1 0)], .box 151 [iv o1, iv o1_1], .box 47 [iv o2, iv o2_1, iv o2_2, iv o2_3, .own 3, .own 4], wi 3 o3, wi 3 o4, .box 47 [iv o5, iv o5_1, iv o5_2, iv o5_3, .own 6, .own 7], wi 3 o6, wi 3 o7]⟩

abbrev gt_q12_19a {R : Type} (g : List Item -> St -> Option R) : GT_q12_19a R := fun (s : Int) (o0 : List Int) (o0_1 o1 o1_1 o2 o2_1 o2_2 o2_3 : Int) (o3 o4 : List Int) (o5 o5_1 o5_2 o5_3 : Int) (o6 o7 : List Int) => g (at' Tryz.f88 19) (sta_q12_19a s o0 o0_1 o1 o1_1 o2 o2_1 o2_2 o2_3 o3 o4 o5 o5_1 o5_2 o5_3 o6 o7)

abbrev sta_q12_19b (s : Int) (o0 : List Int) (o0_1 o1 o1_1 o1_2 o1_3 : Int) (o2 o3 : List Int) (o4 o4_1 o4_2 o4_3 : Int) (o5 o6 : List Int) : St := ⟨fr0 151 [(0, .ptr 0 0), (2, .ptr 1 0), (3, .ptr 4 0), (4, .bnd 102 [.ptr 0 0]), (5, .bnd 103 [.ptr 0 0]), (6, iv s)], [.box 145 [rb 5 o0, iv o0_1, .v (.nilIface)], .box 47 [iv o1, iv o1_1, iv o1_2, iv o1_3, .own 2, .own 3], wi 3 o2, wi 3 o3, .box 47 [iv o4, iv o4_1, iv o4_2, iv o4_3, .own 5, .own 6], wi 3 o5, wi 3 o6]⟩

abbrev gt_q12_19b {R : Type} (g : List Item -> St -> Option R) : GT_q12_19b R := fun (s : Int) (o0 : List Int) (o0_1 o1 o1_1 o1_2 o1_3 : Int) (o2 o3 : List Int) (o4 o4_1 o4_2 o4_3 : Int) (o5 o6 : List Int) => g (at' Tryz.f88 19) (sta_q12_19b s o0 o0_1 o1 o1_1 o1_2 o1_3 o2 o3 o4 o4_1 o4_2 o4_3 o5 o6)

abbrev sta_q12_20a (s x : Int) (o0 : List Int) (o0_1 o1 o1_1 o2 o2_1 o2_2 o2_3 : Int) (o3 o4 : List Int) (o5 o5_1 o5_2 o5_3 : Int) (o6 o7 : List Int) : St := ⟨fr0 151 [(0, .ptr 0 0), (2, .ptr 2 0), (3, .ptr 5 0), (4, .bnd 102 [.ptr 0 0]), (5, .bnd 103 [.ptr 0 0]), (6, iv s), (7, iv x)], [.box 145 [rb 5 o0, iv o0_1, .ifc 147 (.ptr 1 0)], .box 151 [iv o1, iv o1_1], .box 47 [iv o2, iv o2_1, iv o2_2, iv o2_3, .own 3, .own 4], wi 3 o3, wi 3 o4, .box 47 [iv o5, iv o5_1, iv o5_2, iv o5_3, .own 6, .own 7], wi 3 o6, wi 3 o7]⟩

abbrev gt_q12_20a {R : Type} (g : List Item -> St -> Option R) : GT_q12_20a R := fun (s x : Int) (o0 : List Int) (o0_1 o1 o1_1 o2 o2_1 o2_2 o2_3 : Int) (o3 o4 : List Int) (o5 o5_1 o5_2 o5_3 : Int) (o6 o7 : List Int) => g (at' Tryz.f88 20) (sta_q12_20a s x o0 o0_1 o1 o1_1 o2 o2_1 o2_2 o2_3 o3 o4 o5 o5_1 o5_2 o5_3 o6 o7)

abbrev sta_q12_20b (s x : Int) (o0 : List Int) (o0_1 o1 o1_1 o1_2 o1_3 : Int) (o2 o3 : List Int) (o4 o4_1 o4_2 o4_3 : Int) (o5 o6 : List Int) : St := ⟨fr0 151 [(0, .ptr 0 0), (2, .ptr 1 0), (3, .ptr 4 0), (4, .bnd 102 [.ptr 0 0]), (5, .bnd 103 [.ptr 0 0]), (6, iv s), (7, iv x)], [.box 145 [rb 5 o0, iv o0_1, .v (.nilIface)], .box 47 [iv o1, iv o1_1, iv o1_2, iv o1_3, .own 2, .own 3], wi 3 o2, wi 3 o3, .box 47 [iv o4, iv o4_1, iv o4_2, iv o4_3, .own 5, .own 6], wi 3 o5, wi 3 o6]⟩

abbrev gt_q12_20b {R : Type} (g : List Item -> St -> Option R) : GT_q12_20b R := fun (s x : Int) (o0 : List Int) (o0_1 o1 o1_1 o1_2 o1_3 : Int) (o2 o3 : List Int) (o4 o4_1 o4_2 o4_3 : Int) (o5 o6 : List Int) => g (at' Tryz.f88 20) (sta_q12_20b s x o0 o0_1 o1 o1_1 o1_2 o1_3 o2 o3 o4 o4_1 o4_2 o4_3 o5 o6)

abbrev sta_q12_25a (s x : Int) (o0 : List Int) (o0_1 o1 o1_1 o2 o2_1 o2_2 o2_3 : Int) (o3 o4 : List Int) (o5 o5_1 o5_2 o5_3 : Int) (o6 o7 : List Int) : St := ⟨fr0 151 [(0, .ptr 0 0), (2, .ptr 2 0), (3, .ptr 5 0), (4, .bnd 102 [.ptr 0 0]), (5, .bnd 103 [.ptr 0 0]), (6, iv s), (7, iv x)], [.box 145 [rb 5 o0, iv o0_1, .ifc 147 (.ptr 1 0)], .box 151 [iv o1, iv o1_1], .box 47 [iv o2, iv o2_1, iv o2_2, iv o2_3, .own 3, .own 4], wi 3 o3, wi 3 o4, .box 47 [iv o5, iv o5_1, iv o5_2, iv o5_3, .own 6, .own 7], wi 3 o6, wi 3 o7]⟩

abbrev gt_q12_25a {R : Type} (g : List Item -> St -> Option R) : GT_q12_25a R := fun (s x : Int) (o0 : List Int) (o0_1 o1 o1_1 o2 o2_1 o2_2 o2_3 : Int) (o3 o4 : List Int) (o5 o5_1 o5_2 o5_3 : Int) (o6 o7 : List Int) => g (at' Tryz.f88 25) (sta_q12_25a s x o0 o0_1 o1 o1_1 o2 o2_1 o2_2 o2_3 o3 o4 o5 o5_1 o5_2 o5_3 o6 o7)

abbrev sta_q12_25b (s x : Int) (o0 : List Int) (o0_1 o1 o1_1 o1_2 o1_3 : Int) (o2 o3 : List Int) (o4 o4_1 o4_2 o4_3 : Int) (o5 o6 : List Int) : St := ⟨fr0 151 [(0, .ptr 0 0), (2, .ptr 1 0), (3, .ptr 4 0), (4, .bnd 102 [.ptr 0 0]), (5, .bnd 103 [.ptr 0 0]), (6, iv s), (7, iv x)], [.box 145 [rb 5 o0, iv o0_1, .v (.nilIface)], .box 47 [iv o1, iv o1_1, iv o1_2, iv o1_3, .own 2, .own 3], wi 3 o2, wi 3 o3, .box 47 [iv o4, iv o4_1, iv o4_2, iv o4_3, .own 5, .own 6], wi 3 o5, wi 3 o6]⟩

abbrev gt_q12_25b {R : Type} (g : List Item -> St -> Option R) : GT_q12_25b R := fun (s x : Int) (o0 : List Int) (o0_1 o1 o1_1 o1_2 o1_3 : Int) (o2 o3 : List Int) (o4 o4_1 o4_2 o4_3 : Int) (o5 o6 : List Int) => g (at' Tryz.f88 25) (sta_q12_25b s x o0 o0_1 o1 o1_1 o1_2 o1_3 o2 o3 o4 o4_1 o4_2 o4_3 o5 o6)

abbrev sta_q12_21a (s x : Int) (o0 : List Int) (o0_1 o1 o1_1 o2 o2_1 o2_2 o2_3 : Int) (o3 o4 : List Int) (o5 o5_1 o5_2 o5_3 : Int) (o6 o7 : List Int) : St := ⟨fr0 151 [(0, .ptr 0 0), (2, .ptr 2 0), (3, .ptr 5 0), (4, .bnd 102 [.ptr 0 0]), (5, .bnd 103 [.ptr 0 0]), (6, iv s), (7, iv x)], [.box 145 [rb 5 o0, iv o0_1, .ifc 147 (.ptr 1 0)], .box 151 [iv o1, iv o1_1], .box 47 [iv o2, iv o2_1, iv o2_2, iv o2_3, .own 3, .own 4], wi 3 o3, wi 3 o4, .box 47 [iv o5, iv o5_1, iv o5_2, iv o5_3, .own 6, .own 7], wi 3 o6, wi 3 o7]⟩

abbrev gt_q12_21a {R : Type} (g : List Item -> St -> Option R) : GT_q12_21a R := fun (s x : Int) (o0 : List Int) (o0_1 o1 o1_1 o2 o2_1 o2_2 o2_3 : Int) (o3 o4 : List Int) (o5 o5_1 o5_2 o5_3 : Int) (o6 o7 : List Int) => g (at' Tryz.f88 21) (sta_q12_21a s x o0 o0_1 o1 o1_1 o2 o2_1 o2_2 o2_3 o3 o4 o5 o5_1 o5_2 o5_3 o6 o7)

abbrev sta_q12_21b (s x : Int) (o0 : List Int) (o0_1 o1 o1_1 o1_2 o1_3 : Int) (o2 o3 : List Int) (o4 o4_1 o4_2 o4_3 : Int) (o5 o6 : List Int) : St := ⟨fr0 151 [(0, .ptr 0 0), (2, .ptr 1 0), (3, .ptr 4 0), (4, .bnd 102 [.ptr 0 0]), (5, .bnd 103 [.ptr 0 0]), (6, iv s), (7, iv x)], [.box 145 [rb 5 o0, iv o0_1, .v (.nilIface)], .box 47 [iv o1, iv o1_1, iv o1_2, iv o1_3, .own 2, .own 3], wi 3 o2, wi 3 o3, .box 47 [iv o4, iv o4_1, iv o4_2, iv o4_3, .own 5, .own 6], wi 3 o5, wi 3 o6]⟩

abbrev gt_q12_21b {R : Type} (g : List Item -> St -> Option R) : GT_q12_21b R := fun (s x : Int) (o0 : List Int) (o0_1 o1 o1_1 o1_2 o1_3 : Int) (o2 o3 : List Int) (o4 o4_1 o4_2 o4_3 : Int) (o5 o6 : List Int) => g (at' Tryz.f88 21) (sta_q12_21b s x o0 o0_1 o1 o1_1 o1_2 o1_3 o2 o3 o4 o4_1 o4_2 o4_3 o5 o6)

abbrev gtt_q12 {R : Type} (g : List Item -> St -> Option R) : RT_q12 R := ((gt_q12_15a g), (gt_q12_15b g), (gt_q12_19a g), (gt_q12_19b g), (gt_q12_20a g), (gt_q12_20b g), (gt_q12_25a g), (gt_q12_25b g), (gt_q12_21a g), (gt_q12_21b g))

theorem gstep_q12_15a {a0 : LT_qw} {a1 : LT_q10} {a2 : LT_qy} {a3 : LT_q11} {R : Type} (g : List Item -> St -> Option R) (K : AV -> List O -> Option R) (s : Int) (o0 : List Int) (o0_1 o1 o1_1 o2 o2_1 o2_2 o2_3 : Int) (o3 o4 : List Int) (o5 o5_1 o5_2 o5_3 : Int) (o6 o7 : List Int) :
  runSeg Tryz.prog (T_q13 @a0 @a1 @a2 @a3) cuts_q12 1 g (finish Tryz.prog Tryz.f88 1 K) (at' Tryz.f88 15) (sta_q12_15a s o0 o0_1 o1 o1_1 o2 o2_1 o2_2 o2_3 o3 o4 o5 o5_1 o5_2 o5_3 o6 o7) =
  gs_q12_15a @a1 @a2 @a0 @a3 (gtt_q12 g) (k0_q12 K) (k1_q12 K) s o0 o0_1 o1 o1_1 o2 o2_1 o2_2 o2_3 o3 o4 o5 o5_1 o5_2 o5_3 o6 o7 := by kernel_rfl

theorem gstep_q12_15b {a0 : LT_qw} {a1 : LT_q10} {a2 : LT_qy} {a3 : LT_q11} {R : Type} (g : List Item -> St -> Option R) (K : AV -> List O -> Option R) (s : Int) (o0 : List Int) (o0_1 o1 o1_1 o1_2 o1_3 : Int) (o2 o3 : List Int) (o4 o4_1 o4_2 o4_3 : Int) (o5 o6 : List Int) :
  runSeg Tryz.prog (T_q13 @a0 @a1 @a2 @a3) cuts_q12 1 g (finish Tryz.prog Tryz.f88 1 K) (at' Tryz.f88 15) (sta_q12_15b s o0 o0_1 o1 o1_1 o1_2 o1_3 o2 o3 o4 o4_1 o4_2 o4_3 o5 o6) =
  gs_q12_15b @a1 @a2 @a0 @a3 (gtt_q12 g) (k0_q12 K) (k1_q12 K) s o0 o0_1 o1 o1_1 o1_2 o1_3 o2 o3 o4 o4_1 o4_2 o4_3 o5 o6 := by kernel_rfl

theorem gstep_q12_19a {a0 : LT_qw} {a1 : LT_q10} {a2 : LT_qy} {a3 : LT_q11} {R : Type} (g : List Item -> St -> Option R) (K : AV -> List O -> Option R) (s : Int) (o0 : List Int) (o0_1 o1 o1_1 o2 o2_1 o2_2 o2_3 : Int) (o3 o4 : List Int) (o5 o5_1 o5_2 o5_3 : Int) (o6 o7 : List Int) :
  runSeg Tryz.prog (T_q13 @a0 @a1 @a2 @a3) cuts_q12 1 g (finish Tryz.prog Tryz.f88 1 K) (at' Tryz.f88 19) (sta_q12_19a s o0 o0_1 o1 o1_1 o2 o2_1 o2_2 o2_3 o3 o4 o5 o5_1 o5_2 o5_3 o6 o7) =
  gs_q12_19a @a1 @a2 @a0 @a3 (gtt_q12 g) (k0_q12 K) (k1_q12 K) s o0 o0_1 o1 o1_1 o2 o2_1 o2_2 o2_3 o3 o4 o5 o5_1 o5_2 o5_3 o6 o7 := by kernel_rfl

theorem gstep_q12_19b {a0 : LT_qw} {a1 : LT_q10} {a2 : LT_qy} {a3 : LT_q11} {R : Type} (g : List Item -> St -> Option R) (K : AV -> List O -> Option R) (s : Int) (o0 : List Int) (o0_1 o1 o1_1 o1_2 o1_3 : Int) (o2 o3 : List Int) (o4 o4_1 o4_2 o4_3 : Int) (o5 o6 : List Int) :
  runSeg Tryz.prog (T_q13 @a0 @a1 @a2 @a3) cuts_q12 1 g (finish Tryz.prog Tryz.f88 1 K) (at' Tryz.f88 19) (sta_q12_19b s o0 o0_1 o1 o1_1 o1_2 o1_3 o2 o3 o4 o4_1 o4_2 o4_3 o5 o6) =
  gs_q12_19b @a1 @a2 @a0 @a3 (gtt_q12 g) (k0_q12 K) (k1_q12 K) s o0 o0_1 o1 o1_1 o1_2 o1_3 o2 o3 o4 o4_1 o4_2 o4_3 o5 o6 := by kernel_rfl

theorem gstep_q12_20a {a0 : LT_qw} {a1 : LT_q10} {a2 : LT_qy} {a3 : LT_q11} {R : Type} (g : List Item -> St -> Option R) (K : AV -> List O -> Option R) (s x : Int) (o0 : List Int) (o0_1 o1 o1_1 o2 o2_1 o2_2 o2_3 : Int) (o3 o4 : List Int) (o5 o5_1 o5_2 o5_3 : Int) (o6 o7 : List Int) :
  runSeg Tryz.prog (T_q13 @a0 @a1 @a2 @a3) cuts_q12 1 g (finish Tryz.prog Tryz.f88 1 K) (at' Tryz.f88 20) (sta_q12_20a s x o0 o0_1 o1 o1_1 o2 o2_1 o2_2 o2_3 o3 o4 o5 o5_1 o5_2 o5_3 o6 o7) =
  gs_q12_20a @a1 @a2 @a0 @a3 (gtt_q12 g) (k0_q12 K) (k1_q12 K) s x o0 o0_1 o1 o1_1 o2 o2_1 o2_2 o2_3 o3 o4 o5 o5_1 o5_2 o5_3 o6 o7 := by kernel_rfl

theorem gstep_q12_20b {a0 : LT_qw} {a1 : LT_q10} {a2 : LT_qy} {a3 : LT_q11} {R : Type} (g : List Item -> St -> Option R) (K : AV -> List O -> Option R) (s x : Int) (o0 : List Int) (o0_1 o1 o1_1 o1_2 o1_3 : Int) (o2 o3 : List Int) (o4 o4_1 o4_2 o4_3 : Int) (o5 o6 : List Int) :
  runSeg Tryz.prog (T_q13 @a0 @a1 @a2 @a3) cuts_q12 1 g (finish Tryz.prog Tryz.f88 1 K) (at' Tryz.f88 20) (sta_q12_20b s x o0 o0_1 o1 o1_1 o1_2 o1_3 o2 o3 o4 o4_1 o4_2 o4_3 o5 o6) =
  gs_q12_20b @a1 @a2 @a0 @a3 (gtt_q12 g) (k0_q12 K) (k1_q12 K) s x o0 o0_1 o1 o1_1 o1_2 o1_3 o2 o3 o4 o4_1 o4_2 o4_3 o5 o6 := by kernel_rfl

theorem gstep_q12_25a {a0 : LT_qw} {a1 : LT_q10} {a2 : LT_qy} {a3 : LT_q11} {R : Type} (g : List Item -> St -> Option R) (K : AV -> List O -> Option R) (s x : Int) (o0 : List Int) (o0_1 o1 o1_1 o2 o2_1 o2_2 o2_3 : Int) (o3 o4 : List Int) (o5 o5_1 o5_2 o5_3 : Int) (o6 o7 : List Int) :
  runSeg Tryz.prog (T_q13 @a0 @a1 @a2 @a3) cuts_q12 1 g (finish Tryz.prog Tryz.f88 1 K) (at' Tryz.f88 25) (sta_q12_25a s x o0 o0_1 o1 o1_1 o2 o2_1 o2_2 o2_3 o3 o4 o5 o5_1 o5_2 o5_3 o6 o7) =
  gs_q12_25a @a1 @a2 @a0 @a3 (gtt_q12 g) (k0_q12 K) (k1_q12 K) s x o0 o0_1 o1 o1_1 o2 o2_1 o2_2 o2_3 o3 o4 o5 o5_1 o5_2 o5_3 o6 o7 := by kernel_rfl

theorem gstep_q12_25b {a0 : LT_qw} {a1 : LT_q10} {a2 : LT_qy} {a3 : LT_q11} {R : Type} (g : List Item -> St -> Option R) (K : AV -> List O -> Option R) (s x : Int) (o0 : List Int) (o0_1 o1 o1_1 o1_2 o1_3 : Int) (o2 o3 : List Int) (o4 o4_1 o4_2 o4_3 : Int) (o5 o6 : List Int) :
  runSeg Tryz.prog (T_q13 @a0 @a1 @a2 @a3) cuts_q12 1 g (finish Tryz.prog Tryz.f88 1 K) (at' Tryz.f88 25) (sta_q12_25b s x o0 o0_1 o1 o1_1 o1_2 o1_3 o2 o3 o4 o4_1 o4_2 o4_3 o5 o6) =
  gs_q12_25b @a1 @a2 @a0 @a3 (gtt_q12 g) (k0_q12 K) (k1_q12 K) s x o0 o0_1 o1 o1_1 o1_2 o1_3 o2 o3 o4 o4_1 o4_2 o4_3 o5 o6 := by kernel_rfl

theorem gstep_q12_21a {a0 : LT_qw} {a1 : LT_q10} {a2 : LT_qy} {a3 : LT_q11} {R : Type} (g : List Item -> St -> Option R) (K : AV -> List O -> Option R) (s x : Int) (o0 : List Int) (o0_1 o1 o1_1 o2 o2_1 o2_2 o2_3 : Int) (o3 o4 : List Int) (o5 o5_1 o5_2 o5_3 : Int) (o6 o7 : List Int) :
  runSeg Tryz.prog (T_q13 @a0 @a1 @a2 @a3) cuts_q12 1 g (finish Tryz.prog Tryz.f88 1 K) (at' Tryz.f88 21) (sta_q12_21a s x o0 o0_1 o1 o1_1 o2 o2_1 o2_2 o2_3 o3 o4 o5 o5_1 o5_2 o5_3 o6 o7) =
  gs_q12_21a @a1 @a2 @a0 @a3 (gtt_q12 g) (k0_q12 K) (k1_q12 K) s x o0 o0_1 o1 o1_1 o2 o2_1 o2_2 o2_3 o3 o4 o5 o5_1 o5_2 o5_3 o6 o7 := by kernel_rfl

theorem gstep_q12_21b {a0 : LT_qw} {a1 : LT_q10} {a2 : LT_qy} {a3 : LT_q11} {R : Type} (g : List Item -> St -> Option R) (K : AV -> List O -> Option R) (s x : Int) (o0 : List Int) (o0_1 o1 o1_1 o1_2 o1_3 : Int) (o2 o3 : List Int) (o4 o4_1 o4_2 o4_3 : Int) (o5 o6 : List Int) :
  runSeg Tryz.prog (T_q13 @a0 @a1 @a2 @a3) cuts_q12 1 g (finish Tryz.prog Tryz.f88 1 K) (at' Tryz.f88 21) (sta_q12_21b s x o0 o0_1 o1 o1_1 o1_2 o1_3 o2 o3 o4 o4_1 o4_2 o4_3 o5 o6) =
  gs_q12_21b @a1 @a2 @a0 @a3 (gtt_q12 g) (k0_q12 K) (k1_q12 K) s x o0 o0_1 o1 o1_1 o1_2 o1_3 o2 o3 o4 o4_1 o4_2 o4_3 o5 o6 := by kernel_rfl

theorem gentry_q12 {a0 : LT_qw} {a1 : LT_q10} {a2 : LT_qy} {a3 : LT_q11} {R : Type} (fuel : Nat) (K : AV -> List O -> Option R) (o0 : List Int) (o0_1 : Int) :
  fnRun Tryz.prog (T_q13 @a0 @a1 @a2 @a3) cuts_q12 Tryz.f88 fuel [.ptr 0 0] [.box 145 [rb 5 o0, iv o0_1, .v (.nilIface)]] K =
  ge_q12 @a1 @a2 @a0 @a3 (gtt_q12 (runO Tryz.prog (T_q13 @a0 @a1 @a2 @a3) cuts_q12 1 (finish Tryz.prog Tryz.f88 1 K) fuel)) (k0_q12 K) (k1_q12 K) o0 o0_1 := by kernel_rfl

theorem runs_q12 {R : Type} (K : AV -> List O -> Option R) : ∀ fuel : Nat, gtt_q12 (runO Tryz.prog C_q13 cuts_q12 1 (finish Tryz.prog Tryz.f88 1 K) fuel) = run_q12 (k0_q12 K) (k1_q12 K) fuel
 |0 => rfl
 |fuel + 1 => by
  have ih := runs_q12 K fuel
  refine Prod.ext ?_ (Prod.ext ?_ (Prod.ext ?_ (Prod.ext ?_ (Prod.ext ?_ (Prod.ext ?_ (Prod.ext ?_ (Prod.ext ?_ (Prod.ext ?_ ?_))))))))
  ·funext s o0 o0_1 o1 o1_1 o2 o2_1 o2_2 o2_3 o3 o4 o5 o5_1 o5_2 o5_3 o6 o7
   exact (gstep_q12_15a (a0 := @l_qw) (a1 := @l_q10) (a2 := @l_qy) (a3 := @l_q11) _ K s o0 o0_1 o1 o1_1 o2 o2_1 o2_2 o2_3 o3 o4 o5 o5_1 o5_2 o5_3 o6 o7).trans (by rw [ih]; rfl)
  ·funext s o0 o0_1 o1 o1_1 o1_2 o1_3 o2 o3 o4 o4_1 o4_2 o4_3 o5 o6
   exact (gstep_q12_15b (a0 := @l_qw) (a1 := @l_q10) (a2 := @l_qy) (a3 := @l_q11) _ K s o0 o0_1 o1 o1_1 o1_2 o1_3 o2 o3 o4 o4_1 o4_2 o4_3 o5 o6).trans (by rw [ih]; rfl)
  ·funext s o0 o0_1 o1 o1_1 o2 o2_1 o2_2 o2_3 o3 o4 o5 o5_1 o5_2 o5_3 o6 o7
   exact (gstep_q12_19a (a0 := @l_qw) (a1 := @l_q10) (a2 := @l_qy) (a3 := @l_q11) _ K s o0 o0_1 o1 o1_1 o2 o2_1 o2_2 o2_3 o3 o4 o5 o5_1 o5_2 o5_3 o6 o7).trans (by rw [ih]; rfl)
  ·funext s o0 o0_1 o1 o1_1 o1_2 o1_3 o2 o3 o4 o4_1 o4_2 o4_3 o5 o6
   exact (gstep_q12_19b (a0 := @l_qw) (a1 := @l_q10) (a2 := @l_qy) (a3 := @l_q11) _ K s o0 o0_1 o1 o1_1 o1_2 o1_3 o2 o3 o4 o4_1 o4_2 o4_3 o5 o6).trans (by rw [ih]; rfl)
  ·funext s x o0 o0_1 o1 o1_1 o2 o2_1 o2_2 o2_3 o3 o4 o5 o5_1 o5_2 o5_3 o6 o7
   exact (gstep_q12_20a (a0 := @l_qw) (a1 := @l_q10) (a2 := @l_qy) (a3 := @l_q11) _ K s x o0 o0_1 o1 o1_1 o2 o2_1 o2_2 o2_3 o3 o4 o5 o5_1 o5_2 o5_3 o6 o7).trans (by rw [ih]; rfl)
  ·funext s x o0 o0_1 o1 o1_1 o1_2 o1_3 o2 o3 o4 o4_1 o4_2 o4_3 o5 o6
   exact (gstep_q12_20b (a0 := @l_qw) (a1 := @l_q10) (a2 := @l_qy) (a3 := @l_q11) _ K s x o0 o0_1 o1 o1_1 o1_2 o1_3 o2 o3 o4 o4_1 o4_2 o4_3 o5 o6).trans (by rw [ih]; rfl)
  ·funext s x o0 o0_1 o1 o1_1 o2 o2_1 o2_2 o2_3 o3 o4 o5 o5_1 o5_2 o5_3 o6 o7
   exact (gstep_q12_25a (a0 := @l_qw) (a1 := @l_q10) (a2 := @l_qy) (a3 := @l_q11) _ K s x o0 o0_1 o1 o1_1 o2 o2_1 o2_2 o2_3 o3 o4 o5 o5_1 o5_2 o5_3 o6 o7).trans (by rw [ih]; rfl)
  ·funext s x o0 o0_1 o1 o1_1 o1_2 o1_3 o2 o3 o4 o4_1 o4_2 o4_3 o5 o6
   exact (gstep_q12_25b (a0 := @l_qw) (a1 := @l_q10) (a2 := @l_qy) (a3 := @l_q11) _ K s x o0 o0_1 o1 o1_1 o1_2 o1_3 o2 o3 o4 o4_1 o4_2 o4_3 o5 o6).trans (by rw [ih]; rfl)
  ·funext s x o0 o0_1 o1 o1_1 o2 o2_1 o2_2 o2_3 o3 o4 o5 o5_1 o5_2 o5_3 o6 o7
   exact (gstep_q12_21a (a0 := @l_qw) (a1 := @l_q10) (a2 := @l_qy) (a3 := @l_q11) _ K s x o0 o0_1 o1 o1_1 o2 o2_1 o2_2 o2_3 o3 o4 o5 o5_1 o5_2 o5_3 o6 o7).trans (by rw [ih]; rfl)
  ·funext s x o0 o0_1 o1 o1_1 o1_2 o1_3 o2 o3 o4 o4_1 o4_2 o4_3 o5 o6
   exact (gstep_q12_21b (a0 := @l_qw) (a1 := @l_q10) (a2 := @l_qy) (a3 := @l_q11) _ K s x o0 o0_1 o1 o1_1 o1_2 o1_3 o2 o3 o4 o4_1 o4_2 o4_3 o5 o6).trans (by rw [ih]; rfl)

def S_q13 (l_q12 : LT_q12) : Sum := ⟨[], fun {R} args ob K => match args, ob with
 |[.ptr 0 0], [.box 145 [.rd ⟨false, 5, (.int .u8), o0⟩, .v (.int .i64 o0_1), .v (.nilIface)]] => l_q12 o0 o0_1 (k0_q12 K) (k1_q12 K)
 |_, _ => none⟩

theorem sound_q13 : Sound Tryz.prog 88 (S_q13 @l_q12) := by
 refine fn_sound (cuts := cuts_q12) (fn := Tryz.f88) (Γ := C_q13) wide right_T_q13 Tryz.func88 fun {R} K r args ob h => ?_
 unfold S_q13 at h
 dsimp only at h
 split at h
 ·obtain ⟨n, hn⟩ := evl_ok h
  refine ⟨Nat.le_of_ble_eq_true (by kernel_rfl), n, (gentry_q12 n K _ _).trans ?_⟩
  rw [(runs_q12 K n)]
  exact hn
 ·cases h

theorem call_q13 : Callable Tryz.prog 88 := ⟨_, Tryz.func88, by kernel_rfl, by kernel_rfl⟩



def S_q15 (l_q14 : LT_q14) (l_q16 : LT_q16) : Sum := ⟨[], fun {R} args ob K => match args, ob with
 |[.ifc 147 (.ptr 0 0), .ifc 149 (.ptr 1 0)], [.box 151 [.v (.int .i64 o0), .v (.int .i64 o0_1)], .box 147 [.v (.pointer none)]] => l_q14 o0 o0_1 (fun r0 r1 => K (.v (.bool true)) [.box 151 [.v (.int .i64 r0), .v (.int .i64 r1)], .box 147 [.ptr 0 0]])
 |[.v (.nilIface), .ifc 149 (.ptr 0 0)], [.box 147 [.v (.pointer none)]] => l_q16  (K (.v (.bool false)) [.box 147 [.v (.pointer none)]])
 |_, _ => none⟩

theorem sound_q15 : Sound Tryz.prog 89 (S_q15 @l_q14 @l_q16) := sound_errorsAs

theorem call_q15 : Callable Tryz.prog 89 := ⟨_, Tryz.func89, by kernel_rfl, by kernel_rfl⟩

def T_q17 (a0 : LT_q14) (a1 : LT_q16) (a2 : LT_q12) : FuncId -> Option Sum := (addS (addS G0 89 (S_q15 @a0 @a1)) 88 (S_q13 @a2))

abbrev C_q17 : FuncId -> Option Sum := T_q17 @l_q14 @l_q16 @l_q12

theorem right_T_q17 : Right Tryz.prog C_q17 := (right_add (right_add right_G0 call_q15 sound_q15) call_q13 sound_q13)

abbrev cuts_q17 : Cuts := []

abbrev k0_q17 {R : Type} (K : AV -> List O -> Option R) : KT0_q17 R := fun r0 r1 r2 r3 r4 r5 r6 r7 => K (.tup [.agg [iv r0, iv r1, iv r2, iv r3, .own 0, .own 1], iv r4, iv r5]) [wi 3 r6, wi 3 r7]

theorem gentry_q17 {a0 : LT_q14} {a1 : LT_q16} {a2 : LT_q12} {R : Type} (K : AV -> List O -> Option R) (b : List Int) :
  fnRun Tryz.prog (T_q17 @a0 @a1 @a2) cuts_q17 Tryz.f69 0 [rb 5 b] [] K =
  gl_q17 @a0 @a1 @a2 b (k0_q17 K) := by kernel_rfl

def S_q17 (l_q17 : LT_q17) : Sum := ⟨[], fun {R} args ob K => match args, ob with
 |[.rd ⟨false, 5, (.int .u8), b⟩], [] => l_q17 b (k0_q17 K)
 |_, _ => none⟩

theorem sound_q17 : Sound Tryz.prog 69 (S_q17 @l_q17) := by
 refine fn_sound (cuts := cuts_q17) (fn := Tryz.f69) (Γ := C_q17) wide right_T_q17 Tryz.func69 fun {R} K r args ob h => ?_
 unfold S_q17 at h
 dsimp only at h
 split at h
 ·exact ⟨Nat.le_of_ble_eq_true (by kernel_rfl), 0, (gentry_q17 K _).trans h⟩
 ·cases h

theorem call_q17 : Callable Tryz.prog 69 := ⟨_, Tryz.func69, by kernel_rfl, by kernel_rfl⟩

def T_q18 (a0 : LT_q3) (a1 : LT_qb) (a2 : LT_q6) (a3 : LT_q17) (a4 : LT_qv) : FuncId -> Option Sum := (addS (addS (addS (addS (addS G0 64 (S_q3 @a0)) 68 (S_qb @a1)) 41 (S_q6 @a2)) 69 (S_q17 @a3)) 63 (S_qv @a4))

abbrev C_q18 : FuncId -> Option Sum := T_q18 @l_q3 @l_qb @l_q6 @l_q17 @l_qv

theorem right_T_q18 : Right Tryz.prog C_q18 := (right_add (right_add (right_add (right_add (right_add right_G0 call_q3 sound_q3) call_qb sound_qb) call_q6 sound_q6) call_q17 sound_q17) call_qv sound_qv)

abbrev cuts_q18 : Cuts := []

abbrev k0_q18 {R : Type} (K : AV -> List O -> Option R) : KT0_q18 R := fun r0 r1 r2 r3 r4 r5 r6 r7 r8 r9 r10 r11 r12 r13 => K (.agg [iv r0, .own 1, iv r1, iv r2, iv r3, iv r4, .own 2, .own 3, iv r5, .own 4, .own 5]) [.box 87 [rb 5 r6, iv r7, iv r8], wi 3 r9, wi 3 r10, wi 3 r11, wi 3 r12, wi 3 r13]

theorem gentry_q18 {a0 : LT_q3} {a1 : LT_qb} {a2 : LT_q6} {a3 : LT_q17} {a4 : LT_qv} {R : Type} (K : AV -> List O -> Option R) (o0 : List Int) (o0_1 o0_2 : Int) :
  fnRun Tryz.prog (T_q18 @a0 @a1 @a2 @a3 @a4) cuts_q18 Tryz.f43 0 [.ptr 0 0] [.box 87 [rb 5 o0, iv o0_1, iv o0_2]] K =
  gl_q18 @a0 @a1 @a2 @a3 @a4 o0 o0_1 o0_2 (k0_q18 K) := by kernel_rfl

def S_q18 (l_q18 : LT_q18) : Sum := ⟨[], fun {R} args ob K => match args, ob with
 |[.ptr 0 0], [.box 87 [.rd ⟨false, 5, (.int .u8), o0⟩, .v (.int .i64 o0_1), .v (.int .i64 o0_2)]] => l_q18 o0 o0_1 o0_2 (k0_q18 K)
 |_, _ => none⟩

theorem sound_q18 : Sound Tryz.prog 43 (S_q18 @l_q18) := by
 refine fn_sound (cuts := cuts_q18) (fn := Tryz.f43) (Γ := C_q18) wide right_T_q18 Tryz.func43 fun {R} K r args ob h => ?_
 unfold S_q18 at h
 dsimp only at h
 split at h
 ·exact ⟨Nat.le_of_ble_eq_true (by kernel_rfl), 0, (gentry_q18 K _ _ _).trans h⟩
 ·cases h

theorem call_q18 : Callable Tryz.prog 43 := ⟨_, Tryz.func43, by kernel_rfl, by kernel_rfl⟩

def T_q19 (a0 : LT_q9) (a1 : LT_q2) (a2 : LT_qo) (a3 : LT_qu) (a4 : LT_qd) (a5 : LT_qc) (a6 : LT_q18) (a7 : LT_q6) : FuncId -> Option Sum := (addS (addS (addS (addS (addS (addS (addS (addS G0 40 (S_q9 @a0)) 39 (S_q2 @a1)) 44 (S_qo @a2)) 45 (S_qu @a3)) 34 (S_qd @a4)) 42 (S_qc @a5)) 43 (S_q18 @a6)) 41 (S_q6 @a7))

abbrev C_q19 : FuncId -> Option Sum := T_q19 @l_q9 @l_q2 @l_qo @l_qu @l_qd @l_qc @l_q18 @l_q6

theorem right_T_q19 : Right Tryz.prog C_q19 := (right_add (right_add (right_add (right_add (right_add (right_add (right_add (right_add right_G0 call_q9 sound_q9) call_q2 sound_q2) call_qo sound_qo) call_qu sound_qu) call_qd sound_qd) call_qc sound_qc) call_q18 sound_q18) call_q6 sound_q6)

abbrev cuts_q19 : Cuts := [(10, [0, 2, 6])]

abbrev k0_q19 {R : Type} (K : AV -> List O -> Option R) : KT0_q19 R := fun r0 r1 r2 r3 r4 r5 => K (.tup [.agg [iv r0, iv r1, iv r2, .own 0], iv r3, iv r4]) [.row ⟨true, 53, (.pr (.pr (.int .i64) (.pr (.sl 3 (.int .i64)) (.pr (.int .i64) (.pr (.int .i64) (.pr (.int .i64) (.pr (.int .i64) (.pr (.sl 3 (.int .i64)) (.sl 3 (.int .i64))))))))) (.pr (.int .i64) (.pr (.sl 3 (.int .i64)) (.sl 3 (.int .i64))))), r5⟩]

abbrev sta_q19_10 (b : List Int) (o0 o0_1 o0_2 : Int) (o1 : List Ent) (o2 : List Int) (o2_1 o2_2 : Int) : St := ⟨fr0 139 [(0, rb 5 b), (2, .ptr 0 0), (6, .ptr 2 0)], [.box 24 [iv o0, iv o0_1, iv o0_2, .own 1], .row ⟨true, 53, (.pr (.pr (.int .i64) (.pr (.sl 3 (.int .i64)) (.pr (.int .i64) (.pr (.int .i64) (.pr (.int .i64) (.pr (.int .i64) (.pr (.sl 3 (.int .i64)) (.sl 3 (.int .i64))))))))) (.pr (.int .i64) (.pr (.sl 3 (.int .i64)) (.sl 3 (.int .i64))))), o1⟩, .box 87 [rb 5 o2, iv o2_1, iv o2_2]]⟩

abbrev gt_q19_10 {R : Type} (g : List Item -> St -> Option R) : GT_q19_10 R := fun (b : List Int) (o0 o0_1 o0_2 : Int) (o1 : List Ent) (o2 : List Int) (o2_1 o2_2 : Int) => g (at' Tryz.f18 10) (sta_q19_10 b o0 o0_1 o0_2 o1 o2 o2_1 o2_2)

theorem gstep_q19_10 {a0 : LT_q9} {a1 : LT_q2} {a2 : LT_qo} {a3 : LT_qu} {a4 : LT_qd} {a5 : LT_qc} {a6 : LT_q18} {a7 : LT_q6} {R : Type} (g : List Item -> St -> Option R) (K : AV -> List O -> Option R) (b : List Int) (o0 o0_1 o0_2 : Int) (o1 : List Ent) (o2 : List Int) (o2_1 o2_2 : Int) :
  runSeg Tryz.prog (T_q19 @a0 @a1 @a2 @a3 @a4 @a5 @a6 @a7) cuts_q19 0 g (finish Tryz.prog Tryz.f18 0 K) (at' Tryz.f18 10) (sta_q19_10 b o0 o0_1 o0_2 o1 o2 o2_1 o2_2) =
  gs_q19_10 @a0 @a1 @a2 @a3 @a4 @a5 @a6 @a7 (gt_q19_10 g) (k0_q19 K) b o0 o0_1 o0_2 o1 o2 o2_1 o2_2 := by kernel_rfl

theorem gentry_q19 {a0 : LT_q9} {a1 : LT_q2} {a2 : LT_qo} {a3 : LT_qu} {a4 : LT_qd} {a5 : LT_qc} {a6 : LT_q18} {a7 : LT_q6} {R : Type} (fuel : Nat) (K : AV -> List O -> Option R) (b : List Int) :
  fnRun Tryz.prog (T_q19 @a0 @a1 @a2 @a3 @a4 @a5 @a6 @a7) cuts_q19 Tryz.f18 fuel [rb 5 b] [] K =
  ge_q19 @a0 @a1 @a2 @a3 @a4 @a5 @a6 @a7 (gt_q19_10 (runO Tryz.prog (T_q19 @a0 @a1 @a2 @a3 @a4 @a5 @a6 @a7) cuts_q19 0 (finish Tryz.prog Tryz.f18 0 K) fuel)) (k0_q19 K) b := by kernel_rfl

theorem runs_q19 {R : Type} (K : AV -> List O -> Option R) : ∀ fuel : Nat,
  (gt_q19_10 (runO Tryz.prog C_q19 cuts_q19 0 (finish Tryz.prog Tryz.f18 0 K) fuel)) = (run_q19 (k0_q19 K) fuel)
 |0 => rfl
 |fuel + 1 => by
  have ih := runs_q19 K fuel
  funext b o0 o0_1 o0_2 o1 o2 o2_1 o2_2
  refine (gstep_q19_10 _ K b o0 o0_1 o0_2 o1 o2 o2_1 o2_2).trans ?_
  rw [ih]
  rfl

def S_q19 (l_q19 : LT_q19) : Sum := ⟨[], fun {R} args ob K => match args, ob with
 |[.rd ⟨false, 5, (.int .u8), b⟩], [] => l_q19 b (k0_q19 K)
 |_, _ => none⟩

theorem sound_q19 : Sound Tryz.prog 18 (S_q19 @l_q19) := by
 refine fn_sound (cuts := cuts_q19) (fn := Tryz.f18) (Γ := C_q19) wide right_T_q19 Tryz.func18 fun {R} K r args ob h => ?_
 unfold S_q19 at h
 dsimp only at h
 split at h
 ·obtain ⟨n, hn⟩ := evl_ok h
  refine ⟨Nat.le_of_ble_eq_true (by kernel_rfl), n, (gentry_q19 n K _).trans ?_⟩
  rw [(runs_q19 K n)]
  exact hn
 ·cases h

theorem call_q19 : Callable Tryz.prog 18 := ⟨_, Tryz.func18, by kernel_rfl, by kernel_rfl⟩

def T_q1a : FuncId -> Option Sum := G0

theorem right_T_q1a : Right Tryz.prog T_q1a := right_G0

abbrev cuts_q1a : Cuts := []

abbrev k0_q1a {R : Type} (K : AV -> List O -> Option R) : Int -> Option R := fun r0 => K (iv r0) []

theorem gentry_q1a {R : Type} (K : AV -> List O -> Option R) (l l_1 l_2 : Int) (l_3 : List Ent) :
  fnRun Tryz.prog T_q1a cuts_q1a Tryz.f33 0 [.agg [iv l, iv l_1, iv l_2, .rd ⟨false, 53, (.pr (.pr (.int .i64) (.pr (.sl 3 (.int .i64)) (.pr (.int .i64) (.pr (.int .i64) (.pr (.int .i64) (.pr (.int .i64) (.pr (.sl 3 (.int .i64)) (.sl 3 (.int .i64))))))))) (.pr (.int .i64) (.pr (.sl 3 (.int .i64)) (.sl 3 (.int .i64))))), l_3⟩]] [] K =
  l_q1a l l_1 l_2 l_3 (k0_q1a K) := by kernel_rfl

def S_q1a (l_q1a : LT_q1a) : Sum := ⟨[], fun {R} args ob K => match args, ob with
 |[.agg [.v (.int .i64 l), .v (.int .i64 l_1), .v (.int .i64 l_2), .rd ⟨false, 53, (.pr (.pr (.int .i64) (.pr (.sl 3 (.int .i64)) (.pr (.int .i64) (.pr (.int .i64) (.pr (.int .i64) (.pr (.int .i64) (.pr (.sl 3 (.int .i64)) (.sl 3 (.int .i64))))))))) (.pr (.int .i64) (.pr (.sl 3 (.int .i64)) (.sl 3 (.int .i64))))), l_3⟩]], [] => l_q1a l l_1 l_2 l_3 (k0_q1a K)
 |_, _ => none⟩

theorem sound_q1a : Sound Tryz.prog 33 (S_q1a @l_q1a) := by
 refine fn_sound (cuts := cuts_q1a) (fn := Tryz.f33) (Γ := T_q1a) wide right_T_q1a Tryz.func33 fun {R} K r args ob h => ?_
 unfold S_q1a at h
 dsimp only at h
 split at h
 ·exact ⟨Nat.le_of_ble_eq_true (by kernel_rfl), 0, (gentry_q1a K _ _ _ _).trans h⟩
 ·cases h

theorem call_q1a : Callable Tryz.prog 33 := ⟨_, Tryz.func33, by kernel_rfl, by kernel_rfl⟩

def T_q1b (a0 : LT_q1a) (a1 : LT_qo) (a2 : LT_qu) (a3 : LT_qd) : FuncId -> Option Sum := (addS (addS (addS (addS G0 33 (S_q1a @a0)) 44 (S_qo @a1)) 45 (S_qu @a2)) 34 (S_qd @a3))

abbrev C_q1b : FuncId -> Option Sum := T_q1b @l_q1a @l_qo @l_qu @l_qd

theorem right_T_q1b : Right Tryz.prog C_q1b := (right_add (right_add (right_add (right_add right_G0 call_q1a sound_q1a) call_qo sound_qo) call_qu sound_qu) call_qd sound_qd)

abbrev cuts_q1b : Cuts := [(5, [1, 15, 16, 17])]

abbrev k0_q1b {R : Type} (K : AV -> List O -> Option R) : Int -> Int -> Option R := fun r0 r1 => K (.tup [iv r0, iv r1]) []

abbrev sta_q1b_5 (x15 : List Ent) (x16 x17 o0 o0_1 o0_2 : Int) (o0_3 : List Ent) : St := ⟨fr0 38 [(1, .ptr 0 0), (15, .rd ⟨false, 53, (.pr (.pr (.int .i64) (.pr (.sl 3 (.int .i64)) (.pr (.int .i64) (.pr (.int .i64) (.pr (.int .i64) (.pr (.int .i64) (.pr (.sl 3 (.int .i64)) (.sl 3 (.int .i64))))))))) (.pr (.int .i64) (.pr (.sl 3 (.int .i64)) (.sl 3 (.int .i64))))), x15⟩), (16, iv x16), (17, iv x17)], [.box 24 [iv o0, iv o0_1, iv o0_2, .rd ⟨false, 53, (.pr (.pr (.int .i64) (.pr (.sl 3 (.int .i64)) (.pr (.int .i64) (.pr (.int .i64) (.pr (.int .i64) (.pr (.int .i64) (.pr (.sl 3 (.int .i64)) (.sl 3 (.int .i64))))))))) (.pr (.int .i64) (.pr (.sl 3 (.int .i64)) (.sl 3 (.int .i64))))), o0_3⟩]]⟩

abbrev gt_q1b_5 {R : Type} (g : List Item -> St -> Option R) : GT_q1b_5 R := fun (x15 : List Ent) (x16 x17 o0 o0_1 o0_2 : Int) (o0_3 : List Ent) => g (at' Tryz.f12 5) (sta_q1b_5 x15 x16 x17 o0 o0_1 o0_2 o0_3)

theorem gstep_q1b_5 {a0 : LT_q1a} {a1 : LT_qo} {a2 : LT_qu} {a3 : LT_qd} {R : Type} (g : List Item -> St -> Option R) (K : AV -> List O -> Option R) (x15 : List Ent) (x16 x17 o0 o0_1 o0_2 : Int) (o0_3 : List Ent) :
  runSeg Tryz.prog (T_q1b @a0 @a1 @a2 @a3) cuts_q1b 0 g (finish Tryz.prog Tryz.f12 0 K) (at' Tryz.f12 5) (sta_q1b_5 x15 x16 x17 o0 o0_1 o0_2 o0_3) =
  gs_q1b_5 @a0 @a1 @a2 @a3 (gt_q1b_5 g) (k0_q1b K) x15 x16 x17 o0 o0_1 o0_2 o0_3 := by kernel_rfl

theorem gentry_q1b {a0 : LT_q1a} {a1 : LT_qo} {a2 : LT_qu} {a3 : LT_qd} {R : Type} (fuel : Nat) (K : AV -> List O -> Option R) (l l_1 l_2 : Int) (l_3 : List Ent) :
  fnRun Tryz.prog (T_q1b @a0 @a1 @a2 @a3) cuts_q1b Tryz.f12 fuel [.agg [iv l, iv l_1, iv l_2, .rd ⟨false, 53, (.pr (.pr (.int .i64) (.pr (.sl 3 (.int .i64)) (.pr (.int .i64) (.pr (.int .i64) (.pr (.int .i64) (.pr (.int .i64) (.pr (.sl 3 (.int .i64)) (.sl 3 (.int .i64))))))))) (.pr (.int .i64) (.pr (.sl 3 (.int .i64)) (.sl 3 (.int .i64))))), l_3⟩]] [] K =
  ge_q1b @a0 @a1 @a2 @a3 (gt_q1b_5 (runO Tryz.prog (T_q1b @a0 @a1 @a2 @a3) cuts_q1b 0 (finish Tryz.prog Tryz.f12 0 K) fuel)) (k0_q1b K) l l_1 l_2 l_3 := by kernel_rfl

theorem runs_q1b {R : Type} (K : AV -> List O -> Option R) : ∀ fuel : Nat,
  (gt_q1b_5 (runO Tryz.prog C_q1b cuts_q1b 0 (finish Tryz.prog Tryz.f12 0 K) fuel)) = (run_q1b (k0_q1b K) fuel)
 |0 => rfl
 |fuel + 1 => by
  have ih := runs_q1b K fuel
  funext x15 x16 x17 o0 o0_1 o0_2 o0_3
  refine (gstep_q1b_5 _ K x15 x16 x17 o0 o0_1 o0_2 o0_3).trans ?_
  rw [ih]
  rfl

def S_q1b (l_q1b : LT_q1b) : Sum := ⟨[], fun {R} args ob K => match args, ob with
 |[.agg [.v (.int .i64 l), .v (.int .i64 l_1), .v (.int .i64 l_2), .rd ⟨false, 53, (.pr (.pr (.int .i64) (.pr (.sl 3 (.int .i64)) (.pr (.int .i64) (.pr (.int .i64) (.pr (.int .i64) (.pr (.int .i64) (.pr (.sl 3 (.int .i64)) (.sl 3 (.int .i64))))))))) (.pr (.int .i64) (.pr (.sl 3 (.int .i64)) (.sl 3 (.int .i64))))), l_3⟩]], [] => l_q1b l l_1 l_2 l_3 (k0_q1b K)
 |_, _ => none⟩

theorem sound_q1b : Sound Tryz.prog 12 (S_q1b @l_q1b) := by
 refine fn_sound (cuts := cuts_q1b) (fn := Tryz.f12) (Γ := C_q1b) wide right_T_q1b Tryz.func12 fun {R} K r args ob h => ?_
 unfold S_q1b at h
 dsimp only at h
 split at h
 ·obtain ⟨n, hn⟩ := evl_ok h
  refine ⟨Nat.le_of_ble_eq_true (by kernel_rfl), n, (gentry_q1b n K _ _ _ _).trans ?_⟩
  rw [(runs_q1b K n)]
  exact hn
 ·cases h

theorem call_q1b : Callable Tryz.prog 12 := ⟨_, Tryz.func12, by kernel_rfl, by kernel_rfl⟩


def S_q1c (l_q1c : LT_q1c) : Sum := ⟨[0], fun {R} args ob K => match args, ob with
 |[.v (.slice none 0 0), .v (.int .i64 n), .v (.int .i64 b)], [] => l_q1c n b (fun r0 => K (.own 0) [.row ⟨true, 5, (.int .u8), r0⟩])
 |_, _ => none⟩

theorem sound_q1c : Sound Tryz.prog 80 (S_q1c @l_q1c) := sound_AppendInt Tryz.lays176 TabsHold.pow10

theorem call_q1c : Callable Tryz.prog 80 := ⟨_, Tryz.func80, by kernel_rfl, by kernel_rfl⟩

def T_q1d (a0 : LT_q1c) : FuncId -> Option Sum := (addS G0 80 (S_q1c @a0))

abbrev C_q1d : FuncId -> Option Sum := T_q1d @l_q1c

theorem right_T_q1d : Right Tryz.prog C_q1d := (right_add right_G0 call_q1c sound_q1c)

abbrev cuts_q1d : Cuts := []

abbrev k0_q1d {R : Type} (K : AV -> List O -> Option R) : (List Int) -> Option R := fun r0 => K (.own 0) [wb 5 r0]

theorem gentry_q1d {a0 : LT_q1c} {R : Type} (K : AV -> List O -> Option R) (n : Int) :
  fnRun Tryz.prog (T_q1d @a0) cuts_q1d Tryz.f59 0 [iv n] [] K =
  gl_q1d @a0 n (k0_q1d K) := by kernel_rfl

def S_q1d (l_q1d : LT_q1d) : Sum := ⟨[], fun {R} args ob K => match args, ob with
 |[.v (.int .i64 n)], [] => l_q1d n (k0_q1d K)
 |_, _ => none⟩

theorem sound_q1d : Sound Tryz.prog 59 (S_q1d @l_q1d) := by
 refine fn_sound (cuts := cuts_q1d) (fn := Tryz.f59) (Γ := C_q1d) wide right_T_q1d Tryz.func59 fun {R} K r args ob h => ?_
 unfold S_q1d at h
 dsimp only at h
 split at h
 ·exact ⟨Nat.le_of_ble_eq_true (by kernel_rfl), 0, (gentry_q1d K _).trans h⟩
 ·cases h

theorem call_q1d : Callable Tryz.prog 59 := ⟨_, Tryz.func59, by kernel_rfl, by kernel_rfl⟩

def T_q1e (a0 : LT_q1d) : FuncId -> Option Sum := (addS G0 59 (S_q1d @a0))

abbrev C_q1e : FuncId -> Option Sum := T_q1e @l_q1d

theorem right_T_q1e : Right Tryz.prog C_q1e := (right_add right_G0 call_q1d sound_q1d)

abbrev cuts_q1e : Cuts := [(2, [0, 7, 8, 9])]

abbrev k0_q1e {R : Type} (K : AV -> List O -> Option R) : (List Int) -> Option R := fun r0 => K (.own 0) [.row ⟨false, 5, (.int .u8), r0⟩]

abbrev k1_q1e {R : Type} (K : AV -> List O -> Option R) : (List Int) -> Option R := fun r0 => K (.own 1) [.gone, .row ⟨false, 5, (.int .u8), r0⟩]

abbrev sta_q1e_2a (x7 : List Int) (x8 x9 : Int) (o0 : List Int) : St := ⟨fr0 21 [(0, .own 0), (7, ri 3 x7), (8, iv x8), (9, iv x9)], [.row ⟨false, 5, (.int .u8), o0⟩]⟩

abbrev gt_q1e_2a {R : Type} (g : List Item -> St -> Option R) : GT_q1e_2a R := fun (x7 : List Int) (x8 x9 : Int) (o0 : List Int) => g (at' Tryz.f36 2) (sta_q1e_2a x7 x8 x9 o0)

abbrev sta_q1e_2b (x7 : List Int) (x8 x9 : Int) (o1 : List Int) : St := ⟨fr0 21 [(0, .own 1), (7, ri 3 x7), (8, iv x8), (9, iv x9)], [.gone, .row ⟨false, 5, (.int .u8), o1⟩]⟩

abbrev gt_q1e_2b {R : Type} (g : List Item -> St -> Option R) : GT_q1e_2b R := fun (x7 : List Int) (x8 x9 : Int) (o1 : List Int) => g (at' Tryz.f36 2) (sta_q1e_2b x7 x8 x9 o1)

theorem gstep_q1e_2a {a0 : LT_q1d} {R : Type} (g : List Item -> St -> Option R) (K : AV -> List O -> Option R) (x7 : List Int) (x8 x9 : Int) (o0 : List Int) :
  runSeg Tryz.prog (T_q1e @a0) cuts_q1e 1 g (finish Tryz.prog Tryz.f36 1 K) (at' Tryz.f36 2) (sta_q1e_2a x7 x8 x9 o0) =
  gs_q1e_2a @a0 (gt_q1e_2a g) (gt_q1e_2b g) (k0_q1e K) (k1_q1e K) x7 x8 x9 o0 := by kernel_rfl

theorem gstep_q1e_2b {a0 : LT_q1d} {R : Type} (g : List Item -> St -> Option R) (K : AV -> List O -> Option R) (x7 : List Int) (x8 x9 : Int) (o1 : List Int) :
  runSeg Tryz.prog (T_q1e @a0) cuts_q1e 1 g (finish Tryz.prog Tryz.f36 1 K) (at' Tryz.f36 2) (sta_q1e_2b x7 x8 x9 o1) =
  gs_q1e_2b @a0 (gt_q1e_2a g) (gt_q1e_2b g) (k0_q1e K) (k1_q1e K) x7 x8 x9 o1 := by kernel_rfl

theorem gentry_q1e {a0 : LT_q1d} {R : Type} (fuel : Nat) (K : AV -> List O -> Option R) (l o0 : List Int) :
  fnRun Tryz.prog (T_q1e @a0) cuts_q1e Tryz.f36 fuel [.own 0, ri 3 l] [.row ⟨false, 5, (.int .u8), o0⟩] K =
  ge_q1e @a0 (gt_q1e_2a (runO Tryz.prog (T_q1e @a0) cuts_q1e 1 (finish Tryz.prog Tryz.f36 1 K) fuel)) (gt_q1e_2b (runO Tryz.prog (T_q1e @a0) cuts_q1e 1 (finish Tryz.prog Tryz.f36 1 K) fuel)) (k0_q1e K) (k1_q1e K) l o0 := by kernel_rfl

theorem runs_q1e {R : Type} (K : AV -> List O -> Option R) : ∀ fuel : Nat,
  (gt_q1e_2a (runO Tryz.prog C_q1e cuts_q1e 1 (finish Tryz.prog Tryz.f36 1 K) fuel)) = (run_q1e (k0_q1e K) (k1_q1e K) fuel).1 ∧
  (gt_q1e_2b (runO Tryz.prog C_q1e cuts_q1e 1 (finish Tryz.prog Tryz.f36 1 K) fuel)) = (run_q1e (k0_q1e K) (k1_q1e K) fuel).2
 |0 => ⟨rfl, rfl⟩
 |fuel + 1 => by
  have ih := runs_q1e K fuel
  refine ⟨?_, ?_⟩
  ·funext x7 x8 x9 o0
   refine (gstep_q1e_2a _ K x7 x8 x9 o0).trans ?_
   rw [ih.1, ih.2]
   rfl
  ·funext x7 x8 x9 o1
   refine (gstep_q1e_2b _ K x7 x8 x9 o1).trans ?_
   rw [ih.1, ih.2]
   rfl

def S_q1e (l_q1e : LT_q1e) : Sum := ⟨[0], fun {R} args ob K => match args, ob with
 |[.own 0, .rd ⟨false, 3, (.int .i64), l⟩], [.row ⟨false, 5, (.int .u8), o0⟩] => l_q1e l o0 (k0_q1e K) (k1_q1e K)
 |_, _ => none⟩

theorem sound_q1e : Sound Tryz.prog 36 (S_q1e @l_q1e) := by
 refine fn_sound (cuts := cuts_q1e) (fn := Tryz.f36) (Γ := C_q1e) wide right_T_q1e Tryz.func36 fun {R} K r args ob h => ?_
 unfold S_q1e at h
 dsimp only at h
 split at h
 ·obtain ⟨n, hn⟩ := evl_ok h
  refine ⟨Nat.le_of_ble_eq_true (by kernel_rfl), n, (gentry_q1e n K _ _).trans ?_⟩
  rw [(runs_q1e K n).1, (runs_q1e K n).2]
  exact hn
 ·cases h

theorem call_q1e : Callable Tryz.prog 36 := ⟨_, Tryz.func36, by kernel_rfl, by kernel_rfl⟩

def T_q1f (a0 : LT_q1e) : FuncId -> Option Sum := (addS G0 36 (S_q1e @a0))

abbrev C_q1f : FuncId -> Option Sum := T_q1f @l_q1e

theorem right_T_q1f : Right Tryz.prog C_q1f := (right_add right_G0 call_q1e sound_q1e)

abbrev cuts_q1f : Cuts := []

abbrev k0_q1f {R : Type} (K : AV -> List O -> Option R) : (List Int) -> Option R := fun r0 => K (.own 0) [wb 5 r0]

abbrev k1_q1f {R : Type} (K : AV -> List O -> Option R) : (List Int) -> Option R := fun r0 => K (.own 0) [.row ⟨false, 5, (.int .u8), r0⟩]

theorem gentry_q1f {a0 : LT_q1e} {R : Type} (K : AV -> List O -> Option R) (r : Int) (r_1 : List Int) (r_2 r_3 r_4 r_5 : Int) (r_6 r_7 : List Int) (r_8 : Int) (r_9 r_10 : List Int) :
  fnRun Tryz.prog (T_q1f @a0) cuts_q1f Tryz.f144 0 [.agg [iv r, ri 3 r_1, iv r_2, iv r_3, iv r_4, iv r_5, ri 3 r_6, ri 3 r_7, iv r_8, ri 3 r_9, ri 3 r_10]] [] K =
  gl_q1f @a0 r r_1 r_2 r_3 r_4 r_5 r_6 r_7 r_8 r_9 r_10 (k0_q1f K) (k1_q1f K) := by kernel_rfl

def S_q1f (l_q1f : LT_q1f) : Sum := ⟨[], fun {R} args ob K => match args, ob with
 |[.agg [.v (.int .i64 r), .rd ⟨false, 3, (.int .i64), r_1⟩, .v (.int .i64 r_2), .v (.int .i64 r_3), .v (.int .i64 r_4), .v (.int .i64 r_5), .rd ⟨false, 3, (.int .i64), r_6⟩, .rd ⟨false, 3, (.int .i64), r_7⟩, .v (.int .i64 r_8), .rd ⟨false, 3, (.int .i64), r_9⟩, .rd ⟨false, 3, (.int .i64), r_10⟩]], [] => l_q1f r r_1 r_2 r_3 r_4 r_5 r_6 r_7 r_8 r_9 r_10 (k0_q1f K) (k1_q1f K)
 |_, _ => none⟩

theorem sound_q1f : Sound Tryz.prog 144 (S_q1f @l_q1f) := by
 refine fn_sound (cuts := cuts_q1f) (fn := Tryz.f144) (Γ := C_q1f) wide right_T_q1f Tryz.func144 fun {R} K r args ob h => ?_
 unfold S_q1f at h
 dsimp only at h
 split at h
 ·exact ⟨Nat.le_of_ble_eq_true (by kernel_rfl), 0, (gentry_q1f K _ _ _ _ _ _ _ _ _ _ _).trans h⟩
 ·cases h

theorem call_q1f : Callable Tryz.prog 144 := ⟨_, Tryz.func144, by kernel_rfl, by kernel_rfl⟩


def S_q1g (l_q1g : LT_q1g) : Sum := ⟨[], fun {R} args ob K => match args, ob with
 |[.agg [.v (.int .i64 m), .v (.int .i64 m_1), .v (.int .i64 m_2), .v (.int .i64 m_3), .rd ⟨false, 3, (.int .i64), m_4⟩, .rd ⟨false, 3, (.int .i64), m_5⟩]], [] => l_q1g m m_1 m_2 m_3 m_4 m_5 (fun r0 r1 => K (.tup [.own 0, .v (.int .i64 r0)]) [.row ⟨true, 5, (.int .u8), r1⟩])
 |_, _ => none⟩

theorem sound_q1g : Sound Tryz.prog 151 (S_q1g @l_q1g) := sound_export sound_qs (fun k K O N nx ou h1 h2 KK => check_eq k K O N nx ou h1 h2 (fun r0 r1 => KK (.tup [.v (.int .i64 r0), .v (.int .i64 r1)]) []))

theorem call_q1g : Callable Tryz.prog 151 := ⟨_, Tryz.func151, by kernel_rfl, by kernel_rfl⟩

def T_q1h : FuncId -> Option Sum := G0

theorem right_T_q1h : Right Tryz.prog T_q1h := right_G0

abbrev cuts_q1h : Cuts := []

abbrev k0_q1h {R : Type} (K : AV -> List O -> Option R) : Nat -> (List Int) -> Option R := fun r0 r1 => K (.view 0 1 0 r0) [wb 5 r1]

abbrev k1_q1h {R : Type} (K : AV -> List O -> Option R) : (List Int) -> Option R := fun r0 => K (.own 0) [wb 5 r0]

theorem gentry_q1h {R : Type} (K : AV -> List O -> Option R) (n : Int) :
  fnRun Tryz.prog T_q1h cuts_q1h Tryz.f160 0 [.v (.slice none 0 0), iv n] [] K =
  l_q1h n (k0_q1h K) (k1_q1h K) := by kernel_rfl

def S_q1h (l_q1h : LT_q1h) : Sum := ⟨[0], fun {R} args ob K => match args, ob with
 |[.v (.slice none 0 0), .v (.int .i64 n)], [] => l_q1h n (k0_q1h K) (k1_q1h K)
 |_, _ => none⟩

theorem sound_q1h : Sound Tryz.prog 160 (S_q1h @l_q1h) := by
 refine fn_sound (cuts := cuts_q1h) (fn := Tryz.f160) (Γ := T_q1h) wide right_T_q1h Tryz.func160 fun {R} K r args ob h => ?_
 unfold S_q1h at h
 dsimp only at h
 split at h
 ·exact ⟨Nat.le_of_ble_eq_true (by kernel_rfl), 0, (gentry_q1h K _).trans h⟩
 ·cases h

theorem call_q1h : Callable Tryz.prog 160 := ⟨_, Tryz.func160, by kernel_rfl, by kernel_rfl⟩

def T_q1i (a0 : LT_q1h) : FuncId -> Option Sum := (addS G0 160 (S_q1h @a0))

abbrev C_q1i : FuncId -> Option Sum := T_q1i @l_q1h

theorem right_T_q1i : Right Tryz.prog C_q1i := (right_add right_G0 call_q1h sound_q1h)

abbrev cuts_q1i : Cuts := [(3, [0, 3, 9, 10, 11]), (11, [6, 25, 26, 27])]

abbrev k0_q1i {R : Type} (K : AV -> List O -> Option R) : Nat -> (List Int) -> Option R := fun r0 r1 => K (.view 0 1 0 r0) [wb 5 r1]

abbrev k1_q1i {R : Type} (K : AV -> List O -> Option R) : (List Int) -> Option R := fun r0 => K (.own 0) [wb 5 r0]

abbrev sta_q1i_3 (slices : List (List Int)) (size : Int) (x9 : List (List Int)) (x10 x11 : Int) : St := ⟨fr0 36 [(0, .rd ⟨false, 34, (.sl 5 (.int .u8)), slices⟩), (3, iv size), (9, .rd ⟨false, 34, (.sl 5 (.int .u8)), x9⟩), (10, iv x10), (11, iv x11)], []⟩

abbrev gt_q1i_3 {R : Type} (g : List Item -> St -> Option R) : GT_q1i_3 R := fun (slices : List (List Int)) (size : Int) (x9 : List (List Int)) (x10 x11 : Int) => g (at' Tryz.f152 3) (sta_q1i_3 slices size x9 x10 x11)

abbrev sta_q1i_11a (newslice : Nat) (x25 : List (List Int)) (x26 x27 : Int) (o0 : List Int) : St := ⟨fr0 36 [(6, .view 0 1 0 newslice), (25, .rd ⟨false, 34, (.sl 5 (.int .u8)), x25⟩), (26, iv x26), (27, iv x27)], [wb 5 o0]⟩

abbrev gt_q1i_11a {R : Type} (g : List Item -> St -> Option R) : GT_q1i_11a R := fun (newslice : Nat) (x25 : List (List Int)) (x26 x27 : Int) (o0 : List Int) => g (at' Tryz.f152 11) (sta_q1i_11a newslice x25 x26 x27 o0)

abbrev sta_q1i_11b (x25 : List (List Int)) (x26 x27 : Int) (o0 : List Int) : St := ⟨fr0 36 [(6, .own 0), (25, .rd ⟨false, 34, (.sl 5 (.int .u8)), x25⟩), (26, iv x26), (27, iv x27)], [wb 5 o0]⟩

abbrev gt_q1i_11b {R : Type} (g : List Item -> St -> Option R) : GT_q1i_11b R := fun (x25 : List (List Int)) (x26 x27 : Int) (o0 : List Int) => g (at' Tryz.f152 11) (sta_q1i_11b x25 x26 x27 o0)

theorem gstep_q1i_3 {a0 : LT_q1h} {R : Type} (g : List Item -> St -> Option R) (K : AV -> List O -> Option R) (slices : List (List Int)) (size : Int) (x9 : List (List Int)) (x10 x11 : Int) :
  runSeg Tryz.prog (T_q1i @a0) cuts_q1i 0 g (finish Tryz.prog Tryz.f152 0 K) (at' Tryz.f152 3) (sta_q1i_3 slices size x9 x10 x11) =
  gs_q1i_3 @a0 (gt_q1i_3 g) (gt_q1i_11a g) (gt_q1i_11b g) (k0_q1i K) (k1_q1i K) slices size x9 x10 x11 := by kernel_rfl

theorem gstep_q1i_11a {a0 : LT_q1h} {R : Type} (g : List Item -> St -> Option R) (K : AV -> List O -> Option R) (newslice : Nat) (x25 : List (List Int)) (x26 x27 : Int) (o0 : List Int) :
  runSeg Tryz.prog (T_q1i @a0) cuts_q1i 0 g (finish Tryz.prog Tryz.f152 0 K) (at' Tryz.f152 11) (sta_q1i_11a newslice x25 x26 x27 o0) =
  gs_q1i_11a @a0 (gt_q1i_3 g) (gt_q1i_11a g) (gt_q1i_11b g) (k0_q1i K) (k1_q1i K) newslice x25 x26 x27 o0 := by kernel_rfl

theorem gstep_q1i_11b {a0 : LT_q1h} {R : Type} (g : List Item -> St -> Option R) (K : AV -> List O -> Option R) (x25 : List (List Int)) (x26 x27 : Int) (o0 : List Int) :
  runSeg Tryz.prog (T_q1i @a0) cuts_q1i 0 g (finish Tryz.prog Tryz.f152 0 K) (at' Tryz.f152 11) (sta_q1i_11b x25 x26 x27 o0) =
  gs_q1i_11b @a0 (gt_q1i_3 g) (gt_q1i_11a g) (gt_q1i_11b g) (k0_q1i K) (k1_q1i K) x25 x26 x27 o0 := by kernel_rfl

theorem gentry_q1i {a0 : LT_q1h} {R : Type} (fuel : Nat) (K : AV -> List O -> Option R) (slices : List (List Int)) :
  fnRun Tryz.prog (T_q1i @a0) cuts_q1i Tryz.f152 fuel [.rd ⟨false, 34, (.sl 5 (.int .u8)), slices⟩] [] K =
  ge_q1i @a0 (gt_q1i_3 (runO Tryz.prog (T_q1i @a0) cuts_q1i 0 (finish Tryz.prog Tryz.f152 0 K) fuel)) (gt_q1i_11a (runO Tryz.prog (T_q1i @a0) cuts_q1i 0 (finish Tryz.prog Tryz.f152 0 K) fuel)) (gt_q1i_11b (runO Tryz.prog (T_q1i @a0) cuts_q1i 0 (finish Tryz.prog Tryz.f152 0 K) fuel)) (k0_q1i K) (k1_q1i K) slices := by kernel_rfl

theorem runs_q1i {R : Type} (K : AV -> List O -> Option R) : ∀ fuel : Nat,
  (gt_q1i_3 (runO Tryz.prog C_q1i cuts_q1i 0 (finish Tryz.prog Tryz.f152 0 K) fuel)) = (run_q1i (k0_q1i K) (k1_q1i K) fuel).1 ∧
  (gt_q1i_11a (runO Tryz.prog C_q1i cuts_q1i 0 (finish Tryz.prog Tryz.f152 0 K) fuel)) = (run_q1i (k0_q1i K) (k1_q1i K) fuel).2.1 ∧
  (gt_q1i_11b (runO Tryz.prog C_q1i cuts_q1i 0 (finish Tryz.prog Tryz.f152 0 K) fuel)) = (run_q1i (k0_q1i K) (k1_q1i K) fuel).2.2
 |0 => ⟨rfl, rfl, rfl⟩
 |fuel + 1 => by
  have ih := runs_q1i K fuel
  refine ⟨?_, ?_, ?_⟩
  ·funext slices size x9 x10 x11
   refine (gstep_q1i_3 _ K slices size x9 x10 x11).trans ?_
   rw [ih.1, ih.2.1, ih.2.2]
   rfl
  ·funext newslice x25 x26 x27 o0
   refine (gstep_q1i_11a _ K newslice x25 x26 x27 o0).trans ?_
   rw [ih.1, ih.2.1, ih.2.2]
   rfl
  ·funext x25 x26 x27 o0
   refine (gstep_q1i_11b _ K x25 x26 x27 o0).trans ?_
   rw [ih.1, ih.2.1, ih.2.2]
   rfl

def S_q1i (l_q1i : LT_q1i) : Sum := ⟨[], fun {R} args ob K => match args, ob with
 |[.rd ⟨false, 34, (.sl 5 (.int .u8)), slices⟩], [] => l_q1i slices (k0_q1i K) (k1_q1i K)
 |_, _ => none⟩

theorem sound_q1i : Sound Tryz.prog 152 (S_q1i @l_q1i) := by
 refine fn_sound (cuts := cuts_q1i) (fn := Tryz.f152) (Γ := C_q1i) wide right_T_q1i Tryz.func152 fun {R} K r args ob h => ?_
 unfold S_q1i at h
 dsimp only at h
 split at h
 ·obtain ⟨n, hn⟩ := evl_ok h
  refine ⟨Nat.le_of_ble_eq_true (by kernel_rfl), n, (gentry_q1i n K _).trans ?_⟩
  rw [(runs_q1i K n).1, (runs_q1i K n).2.1, (runs_q1i K n).2.2]
  exact hn
 ·cases h

theorem call_q1i : Callable Tryz.prog 152 := ⟨_, Tryz.func152, by kernel_rfl, by kernel_rfl⟩

def T_q1j (a0 : LT_q1e) (a1 : LT_q1i) (a2 : LT_q1g) : FuncId -> Option Sum := (addS (addS (addS G0 36 (S_q1e @a0)) 152 (S_q1i @a1)) 151 (S_q1g @a2))

abbrev C_q1j : FuncId -> Option Sum := T_q1j @l_q1e @l_q1i @l_q1g

theorem right_T_q1j : Right Tryz.prog C_q1j := (right_add (right_add (right_add right_G0 call_q1e sound_q1e) call_q1i sound_q1i) call_q1g sound_q1g)

abbrev cuts_q1j : Cuts := []

abbrev k0_q1j {R : Type} (K : AV -> List O -> Option R) : (List Int) -> Option R := fun r0 => K (.own 0) [wb 5 r0]

abbrev k1_q1j {R : Type} (K : AV -> List O -> Option R) : (List Int) -> Option R := fun r0 => K (.own 0) [.row ⟨false, 5, (.int .u8), r0⟩]

theorem gentry_q1j {a0 : LT_q1e} {a1 : LT_q1i} {a2 : LT_q1g} {R : Type} (K : AV -> List O -> Option R) (r : Int) (r_1 : List Int) (r_2 r_3 r_4 r_5 : Int) (r_6 r_7 : List Int) (r_8 : Int) (r_9 r_10 : List Int) :
  fnRun Tryz.prog (T_q1j @a0 @a1 @a2) cuts_q1j Tryz.f149 0 [.agg [iv r, ri 3 r_1, iv r_2, iv r_3, iv r_4, iv r_5, ri 3 r_6, ri 3 r_7, iv r_8, ri 3 r_9, ri 3 r_10]] [] K =
  gl_q1j @a0 @a1 @a2 r r_1 r_2 r_3 r_4 r_5 r_6 r_7 r_8 r_9 r_10 (k0_q1j K) (k1_q1j K) := by kernel_rfl

def S_q1j (l_q1j : LT_q1j) : Sum := ⟨[], fun {R} args ob K => match args, ob with
 |[.agg [.v (.int .i64 r), .rd ⟨false, 3, (.int .i64), r_1⟩, .v (.int .i64 r_2), .v (.int .i64 r_3), .v (.int .i64 r_4), .v (.int .i64 r_5), .rd ⟨false, 3, (.int .i64), r_6⟩, .rd ⟨false, 3, (.int .i64), r_7⟩, .v (.int .i64 r_8), .rd ⟨false, 3, (.int .i64), r_9⟩, .rd ⟨false, 3, (.int .i64), r_10⟩]], [] => l_q1j r r_1 r_2 r_3 r_4 r_5 r_6 r_7 r_8 r_9 r_10 (k0_q1j K) (k1_q1j K)
 |_, _ => none⟩

theorem sound_q1j : Sound Tryz.prog 149 (S_q1j @l_q1j) := by
 refine fn_sound (cuts := cuts_q1j) (fn := Tryz.f149) (Γ := C_q1j) wide right_T_q1j Tryz.func149 fun {R} K r args ob h => ?_
 unfold S_q1j at h
 dsimp only at h
 split at h
 ·exact ⟨Nat.le_of_ble_eq_true (by kernel_rfl), 0, (gentry_q1j K _ _ _ _ _ _ _ _ _ _ _).trans h⟩
 ·cases h

theorem call_q1j : Callable Tryz.prog 149 := ⟨_, Tryz.func149, by kernel_rfl, by kernel_rfl⟩

def T_q1k (a0 : LT_q1e) (a1 : LT_q1b) (a2 : LT_q1f) (a3 : LT_q1j) (a4 : LT_qd) : FuncId -> Option Sum := (addS (addS (addS (addS (addS G0 36 (S_q1e @a0)) 12 (S_q1b @a1)) 144 (S_q1f @a2)) 149 (S_q1j @a3)) 34 (S_qd @a4))

abbrev C_q1k : FuncId -> Option Sum := T_q1k @l_q1e @l_q1b @l_q1f @l_q1j @l_qd

theorem right_T_q1k : Right Tryz.prog C_q1k := (right_add (right_add (right_add (right_add (right_add right_G0 call_q1e sound_q1e) call_q1b sound_q1b) call_q1f sound_q1f) call_q1j sound_q1j) call_qd sound_qd)

abbrev cuts_q1k : Cuts := [(9, [6, 38, 39, 40])]

abbrev k0_q1k {R : Type} (K : AV -> List O -> Option R) : Int -> (List Int) -> Option R := fun r0 r1 => K (.tup [.own 0, iv r0]) [wb 5 r1]

abbrev k1_q1k {R : Type} (K : AV -> List O -> Option R) : Int -> (List Int) -> Option R := fun r0 r1 => K (.tup [.own 0, iv r0]) [.row ⟨false, 5, (.int .u8), r1⟩]

abbrev sta_q1k_9a (x38 : List Ent) (x39 x40 : Int) (o0 : List Int) : St := ⟨fr0 51 [(6, .own 0), (38, .rd ⟨false, 53, (.pr (.pr (.int .i64) (.pr (.sl 3 (.int .i64)) (.pr (.int .i64) (.pr (.int .i64) (.pr (.int .i64) (.pr (.int .i64) (.pr (.sl 3 (.int .i64)) (.sl 3 (.int .i64))))))))) (.pr (.int .i64) (.pr (.sl 3 (.int .i64)) (.sl 3 (.int .i64))))), x38⟩), (39, iv x39), (40, iv x40)], [wb 5 o0]⟩

abbrev gt_q1k_9a {R : Type} (g : List Item -> St -> Option R) : GT_q1k_9a R := fun (x38 : List Ent) (x39 x40 : Int) (o0 : List Int) => g (at' Tryz.f15 9) (sta_q1k_9a x38 x39 x40 o0)

abbrev sta_q1k_9b (x38 : List Ent) (x39 x40 : Int) (o0 : List Int) : St := ⟨fr0 51 [(6, .own 0), (38, .rd ⟨false, 53, (.pr (.pr (.int .i64) (.pr (.sl 3 (.int .i64)) (.pr (.int .i64) (.pr (.int .i64) (.pr (.int .i64) (.pr (.int .i64) (.pr (.sl 3 (.int .i64)) (.sl 3 (.int .i64))))))))) (.pr (.int .i64) (.pr (.sl 3 (.int .i64)) (.sl 3 (.int .i64))))), x38⟩), (39, iv x39), (40, iv x40)], [.row ⟨false, 5, (.int .u8), o0⟩]⟩

abbrev gt_q1k_9b {R : Type} (g : List Item -> St -> Option R) : GT_q1k_9b R := fun (x38 : List Ent) (x39 x40 : Int) (o0 : List Int) => g (at' Tryz.f15 9) (sta_q1k_9b x38 x39 x40 o0)

theorem gstep_q1k_9a {a0 : LT_q1e} {a1 : LT_q1b} {a2 : LT_q1f} {a3 : LT_q1j} {a4 : LT_qd} {R : Type} (g : List Item -> St -> Option R) (K : AV -> List O -> Option R) (x38 : List Ent) (x39 x40 : Int) (o0 : List Int) :
  runSeg Tryz.prog (T_q1k @a0 @a1 @a2 @a3 @a4) cuts_q1k 0 g (finish Tryz.prog Tryz.f15 0 K) (at' Tryz.f15 9) (sta_q1k_9a x38 x39 x40 o0) =
  gs_q1k_9a @a0 @a1 @a2 @a3 @a4 (gt_q1k_9a g) (gt_q1k_9b g) (k0_q1k K) (k1_q1k K) x38 x39 x40 o0 := by kernel_rfl

theorem gstep_q1k_9b {a0 : LT_q1e} {a1 : LT_q1b} {a2 : LT_q1f} {a3 : LT_q1j} {a4 : LT_qd} {R : Type} (g : List Item -> St -> Option R) (K : AV -> List O -> Option R) (x38 : List Ent) (x39 x40 : Int) (o0 : List Int) :
  runSeg Tryz.prog (T_q1k @a0 @a1 @a2 @a3 @a4) cuts_q1k 0 g (finish Tryz.prog Tryz.f15 0 K) (at' Tryz.f15 9) (sta_q1k_9b x38 x39 x40 o0) =
  gs_q1k_9b @a0 @a1 @a2 @a3 @a4 (gt_q1k_9a g) (gt_q1k_9b g) (k0_q1k K) (k1_q1k K) x38 x39 x40 o0 := by kernel_rfl

theorem gentry_q1k {a0 : LT_q1e} {a1 : LT_q1b} {a2 : LT_q1f} {a3 : LT_q1j} {a4 : LT_qd} {R : Type} (fuel : Nat) (K : AV -> List O -> Option R) (l l_1 l_2 : Int) (l_3 : List Ent) :
  fnRun Tryz.prog (T_q1k @a0 @a1 @a2 @a3 @a4) cuts_q1k Tryz.f15 fuel [.agg [iv l, iv l_1, iv l_2, .rd ⟨false, 53, (.pr (.pr (.int .i64) (.pr (.sl 3 (.int .i64)) (.pr (.int .i64) (.pr (.int .i64) (.pr (.int .i64) (.pr (.int .i64) (.pr (.sl 3 (.int .i64)) (.sl 3 (.int .i64))))))))) (.pr (.int .i64) (.pr (.sl 3 (.int .i64)) (.sl 3 (.int .i64))))), l_3⟩]] [] K =
  ge_q1k @a0 @a1 @a2 @a3 @a4 (gt_q1k_9a (runO Tryz.prog (T_q1k @a0 @a1 @a2 @a3 @a4) cuts_q1k 0 (finish Tryz.prog Tryz.f15 0 K) fuel)) (gt_q1k_9b (runO Tryz.prog (T_q1k @a0 @a1 @a2 @a3 @a4) cuts_q1k 0 (finish Tryz.prog Tryz.f15 0 K) fuel)) (k0_q1k K) (k1_q1k K) l l_1 l_2 l_3 := by kernel_rfl

theorem runs_q1k {R : Type} (K : AV -> List O -> Option R) : ∀ fuel : Nat,
  (gt_q1k_9a (runO Tryz.prog C_q1k cuts_q1k 0 (finish Tryz.prog Tryz.f15 0 K) fuel)) = (run_q1k (k0_q1k K) (k1_q1k K) fuel).1 ∧
  (gt_q1k_9b (runO Tryz.prog C_q1k cuts_q1k 0 (finish Tryz.prog Tryz.f15 0 K) fuel)) = (run_q1k (k0_q1k K) (k1_q1k K) fuel).2
 |0 => ⟨rfl, rfl⟩
 |fuel + 1 => by
  have ih := runs_q1k K fuel
  refine ⟨?_, ?_⟩
  ·funext x38 x39 x40 o0
   refine (gstep_q1k_9a _ K x38 x39 x40 o0).trans ?_
   rw [ih.1, ih.2]
   rfl
  ·funext x38 x39 x40 o0
   refine (gstep_q1k_9b _ K x38 x39 x40 o0).trans ?_
   rw [ih.1, ih.2]
   rfl

def S_q1k (l_q1k : LT_q1k) : Sum := ⟨[], fun {R} args ob K => match args, ob with
 |[.agg [.v (.int .i64 l), .v (.int .i64 l_1), .v (.int .i64 l_2), .rd ⟨false, 53, (.pr (.pr (.int .i64) (.pr (.sl 3 (.int .i64)) (.pr (.int .i64) (.pr (.int .i64) (.pr (.int .i64) (.pr (.int .i64) (.pr (.sl 3 (.int .i64)) (.sl 3 (.int .i64))))))))) (.pr (.int .i64) (.pr (.sl 3 (.int .i64)) (.sl 3 (.int .i64))))), l_3⟩]], [] => l_q1k l l_1 l_2 l_3 (k0_q1k K) (k1_q1k K)
 |_, _ => none⟩

theorem sound_q1k : Sound Tryz.prog 15 (S_q1k @l_q1k) := by
 refine fn_sound (cuts := cuts_q1k) (fn := Tryz.f15) (Γ := C_q1k) wide right_T_q1k Tryz.func15 fun {R} K r args ob h => ?_
 unfold S_q1k at h
 dsimp only at h
 split at h
 ·obtain ⟨n, hn⟩ := evl_ok h
  refine ⟨Nat.le_of_ble_eq_true (by kernel_rfl), n, (gentry_q1k n K _ _ _ _).trans ?_⟩
  rw [(runs_q1k K n).1, (runs_q1k K n).2]
  exact hn
 ·cases h

theorem call_q1k : Callable Tryz.prog 15 := ⟨_, Tryz.func15, by kernel_rfl, by kernel_rfl⟩

def T_q1l : FuncId -> Option Sum := G0

theorem right_T_q1l : Right Tryz.prog T_q1l := right_G0

abbrev cuts_q1l : Cuts := [(2, [2, 3, 4, 8, 9, 10])]

abbrev k0_q1l {R : Type} (K : AV -> List O -> Option R) : Int -> Int -> Int -> Option R := fun r0 r1 r2 => K (.tup [iv r0, iv r1, iv r2]) []

abbrev sta_q1l_2 (members hypos symbols : Int) (x8 : List Ent) (x9 x10 : Int) : St := ⟨fr0 36 [(2, iv members), (3, iv hypos), (4, iv symbols), (8, .rd ⟨false, 53, (.pr (.pr (.int .i64) (.pr (.sl 3 (.int .i64)) (.pr (.int .i64) (.pr (.int .i64) (.pr (.int .i64) (.pr (.int .i64) (.pr (.sl 3 (.int .i64)) (.sl 3 (.int .i64))))))))) (.pr (.int .i64) (.pr (.sl 3 (.int .i64)) (.sl 3 (.int .i64))))), x8⟩), (9, iv x9), (10, iv x10)], []⟩

abbrev gt_q1l_2 {R : Type} (g : List Item -> St -> Option R) : GT_q1l_2 R := fun (members hypos symbols : Int) (x8 : List Ent) (x9 x10 : Int) => g (at' Tryz.f28 2) (sta_q1l_2 members hypos symbols x8 x9 x10)

theorem gstep_q1l_2 {R : Type} (g : List Item -> St -> Option R) (K : AV -> List O -> Option R) (members hypos symbols : Int) (x8 : List Ent) (x9 x10 : Int) :
  runSeg Tryz.prog T_q1l cuts_q1l 0 g (finish Tryz.prog Tryz.f28 0 K) (at' Tryz.f28 2) (sta_q1l_2 members hypos symbols x8 x9 x10) =
  s_q1l_2 (gt_q1l_2 g) (k0_q1l K) members hypos symbols x8 x9 x10 := by kernel_rfl

theorem gentry_q1l {R : Type} (fuel : Nat) (K : AV -> List O -> Option R) (l l_1 l_2 : Int) (l_3 : List Ent) :
  fnRun Tryz.prog T_q1l cuts_q1l Tryz.f28 fuel [.agg [iv l, iv l_1, iv l_2, .rd ⟨false, 53, (.pr (.pr (.int .i64) (.pr (.sl 3 (.int .i64)) (.pr (.int .i64) (.pr (.int .i64) (.pr (.int .i64) (.pr (.int .i64) (.pr (.sl 3 (.int .i64)) (.sl 3 (.int .i64))))))))) (.pr (.int .i64) (.pr (.sl 3 (.int .i64)) (.sl 3 (.int .i64))))), l_3⟩]] [] K =
  e_q1l (gt_q1l_2 (runO Tryz.prog T_q1l cuts_q1l 0 (finish Tryz.prog Tryz.f28 0 K) fuel)) (k0_q1l K) l l_1 l_2 l_3 := by kernel_rfl

theorem runs_q1l {R : Type} (K : AV -> List O -> Option R) : ∀ fuel : Nat,
  (gt_q1l_2 (runO Tryz.prog T_q1l cuts_q1l 0 (finish Tryz.prog Tryz.f28 0 K) fuel)) = (run_q1l (k0_q1l K) fuel)
 |0 => rfl
 |fuel + 1 => by
  have ih := runs_q1l K fuel
  funext members hypos symbols x8 x9 x10
  refine (gstep_q1l_2 _ K members hypos symbols x8 x9 x10).trans ?_
  rw [ih]
  rfl

def S_q1l (l_q1l : LT_q1l) : Sum := ⟨[], fun {R} args ob K => match args, ob with
 |[.agg [.v (.int .i64 l), .v (.int .i64 l_1), .v (.int .i64 l_2), .rd ⟨false, 53, (.pr (.pr (.int .i64) (.pr (.sl 3 (.int .i64)) (.pr (.int .i64) (.pr (.int .i64) (.pr (.int .i64) (.pr (.int .i64) (.pr (.sl 3 (.int .i64)) (.sl 3 (.int .i64))))))))) (.pr (.int .i64) (.pr (.sl 3 (.int .i64)) (.sl 3 (.int .i64))))), l_3⟩]], [] => l_q1l l l_1 l_2 l_3 (k0_q1l K)
 |_, _ => none⟩

theorem sound_q1l : Sound Tryz.prog 28 (S_q1l @l_q1l) := by
 refine fn_sound (cuts := cuts_q1l) (fn := Tryz.f28) (Γ := T_q1l) wide right_T_q1l Tryz.func28 fun {R} K r args ob h => ?_
 unfold S_q1l at h
 dsimp only at h
 split at h
 ·obtain ⟨n, hn⟩ := evl_ok h
  refine ⟨Nat.le_of_ble_eq_true (by kernel_rfl), n, (gentry_q1l n K _ _ _ _).trans ?_⟩
  rw [(runs_q1l K n)]
  exact hn
 ·cases h

theorem call_q1l : Callable Tryz.prog 28 := ⟨_, Tryz.func28, by kernel_rfl, by kernel_rfl⟩

def T_q1m : FuncId -> Option Sum := G0

theorem right_T_q1m : Right Tryz.prog T_q1m := right_G0

abbrev cuts_q1m : Cuts := []

abbrev k0_q1m {R : Type} (K : AV -> List O -> Option R) : Int -> Option R := fun r0 => K (iv r0) []

theorem gentry_q1m {R : Type} (K : AV -> List O -> Option R) (e : Int) :
  fnRun Tryz.prog T_q1m cuts_q1m Tryz.f14 0 [iv e] [] K =
  l_q1m e (k0_q1m K) := by kernel_rfl

def S_q1m (l_q1m : LT_q1m) : Sum := ⟨[], fun {R} args ob K => match args, ob with
 |[.v (.int .i64 e)], [] => l_q1m e (k0_q1m K)
 |_, _ => none⟩

theorem sound_q1m : Sound Tryz.prog 14 (S_q1m @l_q1m) := by
 refine fn_sound (cuts := cuts_q1m) (fn := Tryz.f14) (Γ := T_q1m) wide right_T_q1m Tryz.func14 fun {R} K r args ob h => ?_
 unfold S_q1m at h
 dsimp only at h
 split at h
 ·exact ⟨Nat.le_of_ble_eq_true (by kernel_rfl), 0, (gentry_q1m K _).trans h⟩
 ·cases h

theorem call_q1m : Callable Tryz.prog 14 := ⟨_, Tryz.func14, by kernel_rfl, by kernel_rfl⟩

def T_q1n (a0 : LT_q1m) (a1 : LT_q19) (a2 : LT_q1l) (a3 : LT_q1k) : FuncId -> Option Sum := (addS (addS (addS (addS G0 14 (S_q1m @a0)) 18 (S_q19 @a1)) 28 (S_q1l @a2)) 15 (S_q1k @a3))

abbrev C_q1n : FuncId -> Option Sum := T_q1n @l_q1m @l_q19 @l_q1l @l_q1k

theorem right_T_q1n : Right Tryz.prog C_q1n := (right_add (right_add (right_add (right_add right_G0 call_q1m sound_q1m) call_q19 sound_q19) call_q1l sound_q1l) call_q1k sound_q1k)

abbrev cuts_q1n : Cuts := []

abbrev k0_q1n {R : Type} (K : AV -> List O -> Option R) : Bool -> Option R := fun r0 => K (.v (.bool r0)) []

theorem gentry_q1n {a0 : LT_q1m} {a1 : LT_q19} {a2 : LT_q1l} {a3 : LT_q1k} {R : Type} (K : AV -> List O -> Option R)  :
  fnRun Tryz.prog (T_q1n @a0 @a1 @a2 @a3) cuts_q1n Tryz.f11 0 [] [] K =
  gl_q1n @a0 @a1 @a2 @a3  (k0_q1n K) := by kernel_rfl

def S_q1n (l_q1n : LT_q1n) : Sum := ⟨[], fun {R} args ob K => match args, ob with
 |[], [] => l_q1n  (k0_q1n K)
 |_, _ => none⟩

theorem sound_q1n : Sound Tryz.prog 11 (S_q1n @l_q1n) := by
 refine fn_sound (cuts := cuts_q1n) (fn := Tryz.f11) (Γ := C_q1n) wide right_T_q1n Tryz.func11 fun {R} K r args ob h => ?_
 unfold S_q1n at h
 dsimp only at h
 split at h
 ·exact ⟨Nat.le_of_ble_eq_true (by kernel_rfl), 0, (gentry_q1n K).trans h⟩
 ·cases h

theorem call_q1n : Callable Tryz.prog 11 := ⟨_, Tryz.func11, by kernel_rfl, by kernel_rfl⟩

def T_q1o : FuncId -> Option Sum := G0

theorem right_T_q1o : Right Tryz.prog T_q1o := right_G0

abbrev cuts_q1o : Cuts := [(3, [1, 5, 6, 7, 8])]

abbrev k0_q1o {R : Type} (K : AV -> List O -> Option R) : Int -> Int -> Int -> Option R := fun r0 r1 r2 => K (.tup [iv r0, iv r1, iv r2]) []

abbrev sta_q1o_3 (a b c i o0 o0_1 o0_2 : Int) (o0_3 : List Ent) : St := ⟨fr0 51 [(1, .ptr 0 0), (5, iv a), (6, iv b), (7, iv c), (8, iv i)], [.box 24 [iv o0, iv o0_1, iv o0_2, .rd ⟨false, 53, (.pr (.pr (.int .i64) (.pr (.sl 3 (.int .i64)) (.pr (.int .i64) (.pr (.int .i64) (.pr (.int .i64) (.pr (.int .i64) (.pr (.sl 3 (.int .i64)) (.sl 3 (.int .i64))))))))) (.pr (.int .i64) (.pr (.sl 3 (.int .i64)) (.sl 3 (.int .i64))))), o0_3⟩]]⟩

abbrev gt_q1o_3 {R : Type} (g : List Item -> St -> Option R) : GT_q1o_3 R := fun (a b c i o0 o0_1 o0_2 : Int) (o0_3 : List Ent) => g (at' Tryz.f29 3) (sta_q1o_3 a b c i o0 o0_1 o0_2 o0_3)

theorem gstep_q1o_3 {R : Type} (g : List Item -> St -> Option R) (K : AV -> List O -> Option R) (a b c i o0 o0_1 o0_2 : Int) (o0_3 : List Ent) :
  runSeg Tryz.prog T_q1o cuts_q1o 0 g (finish Tryz.prog Tryz.f29 0 K) (at' Tryz.f29 3) (sta_q1o_3 a b c i o0 o0_1 o0_2 o0_3) =
  s_q1o_3 (gt_q1o_3 g) (k0_q1o K) a b c i o0 o0_1 o0_2 o0_3 := by kernel_rfl

theorem gentry_q1o {R : Type} (fuel : Nat) (K : AV -> List O -> Option R) (l l_1 l_2 : Int) (l_3 : List Ent) :
  fnRun Tryz.prog T_q1o cuts_q1o Tryz.f29 fuel [.agg [iv l, iv l_1, iv l_2, .rd ⟨false, 53, (.pr (.pr (.int .i64) (.pr (.sl 3 (.int .i64)) (.pr (.int .i64) (.pr (.int .i64) (.pr (.int .i64) (.pr (.int .i64) (.pr (.sl 3 (.int .i64)) (.sl 3 (.int .i64))))))))) (.pr (.int .i64) (.pr (.sl 3 (.int .i64)) (.sl 3 (.int .i64))))), l_3⟩]] [] K =
  e_q1o (gt_q1o_3 (runO Tryz.prog T_q1o cuts_q1o 0 (finish Tryz.prog Tryz.f29 0 K) fuel)) (k0_q1o K) l l_1 l_2 l_3 := by kernel_rfl

theorem runs_q1o {R : Type} (K : AV -> List O -> Option R) : ∀ fuel : Nat,
  (gt_q1o_3 (runO Tryz.prog T_q1o cuts_q1o 0 (finish Tryz.prog Tryz.f29 0 K) fuel)) = (run_q1o (k0_q1o K) fuel)
 |0 => rfl
 |fuel + 1 => by
  have ih := runs_q1o K fuel
  funext a b c i o0 o0_1 o0_2 o0_3
  refine (gstep_q1o_3 _ K a b c i o0 o0_1 o0_2 o0_3).trans ?_
  rw [ih]
  rfl

def S_q1o (l_q1o : LT_q1o) : Sum := ⟨[], fun {R} args ob K => match args, ob with
 |[.agg [.v (.int .i64 l), .v (.int .i64 l_1), .v (.int .i64 l_2), .rd ⟨false, 53, (.pr (.pr (.int .i64) (.pr (.sl 3 (.int .i64)) (.pr (.int .i64) (.pr (.int .i64) (.pr (.int .i64) (.pr (.int .i64) (.pr (.sl 3 (.int .i64)) (.sl 3 (.int .i64))))))))) (.pr (.int .i64) (.pr (.sl 3 (.int .i64)) (.sl 3 (.int .i64))))), l_3⟩]], [] => l_q1o l l_1 l_2 l_3 (k0_q1o K)
 |_, _ => none⟩

theorem sound_q1o : Sound Tryz.prog 29 (S_q1o @l_q1o) := by
 refine fn_sound (cuts := cuts_q1o) (fn := Tryz.f29) (Γ := T_q1o) wide right_T_q1o Tryz.func29 fun {R} K r args ob h => ?_
 unfold S_q1o at h
 dsimp only at h
 split at h
 ·obtain ⟨n, hn⟩ := evl_ok h
  refine ⟨Nat.le_of_ble_eq_true (by kernel_rfl), n, (gentry_q1o n K _ _ _ _).trans ?_⟩
  rw [(runs_q1o K n)]
  exact hn
 ·cases h

theorem call_q1o : Callable Tryz.prog 29 := ⟨_, Tryz.func29, by kernel_rfl, by kernel_rfl⟩

def T_q1q (a0 : LT_qf) (a1 : LT_qs) : FuncId -> Option Sum := (addS (addS G0 70 (S_qf @a0)) 53 (S_qs @a1))

abbrev C_q1q : FuncId -> Option Sum := T_q1q @l_qf @l_qs

theorem right_T_q1q : Right Tryz.prog C_q1q := (right_add (right_add right_G0 call_qf sound_qf) call_qs sound_qs)

abbrev cuts_q1q : Cuts := [(10, [1, 3, 7, 42, 43, 44])]

abbrev k0_q1q {R : Type} (K : AV -> List O -> Option R) : Int -> Int -> (List Int) -> Option R := fun r0 r1 r2 => K (.tup [iv r0, .own 0, iv r1]) [wi 3 r2]

abbrev sta_q1q_10 (s : Int) (x42 : List Int) (x43 x44 o0 o0_1 o0_2 o0_3 : Int) (o0_4 o0_5 o1 : List Int) : St := ⟨fr0 82 [(1, iv s), (3, .ptr 0 0), (7, .own 1), (42, ri 3 x42), (43, iv x43), (44, iv x44)], [.box 47 [iv o0, iv o0_1, iv o0_2, iv o0_3, ri 3 o0_4, ri 3 o0_5], wi 3 o1]⟩

abbrev gt_q1q_10 {R : Type} (g : List Item -> St -> Option R) : GT_q1q_10 R := fun (s : Int) (x42 : List Int) (x43 x44 o0 o0_1 o0_2 o0_3 : Int) (o0_4 o0_5 o1 : List Int) => g (at' Tryz.f148 10) (sta_q1q_10 s x42 x43 x44 o0 o0_1 o0_2 o0_3 o0_4 o0_5 o1)

theorem gstep_q1q_10 {a0 : LT_qf} {a1 : LT_qs} {R : Type} (g : List Item -> St -> Option R) (K : AV -> List O -> Option R) (s : Int) (x42 : List Int) (x43 x44 o0 o0_1 o0_2 o0_3 : Int) (o0_4 o0_5 o1 : List Int) :
  runSeg Tryz.prog (T_q1q @a0 @a1) cuts_q1q 0 g (finish Tryz.prog Tryz.f148 0 K) (at' Tryz.f148 10) (sta_q1q_10 s x42 x43 x44 o0 o0_1 o0_2 o0_3 o0_4 o0_5 o1) =
  gs_q1q_10 @a0 @a1 (gt_q1q_10 g) (k0_q1q K) s x42 x43 x44 o0 o0_1 o0_2 o0_3 o0_4 o0_5 o1 := by kernel_rfl

theorem gentry_q1q {a0 : LT_qf} {a1 : LT_qs} {R : Type} (fuel : Nat) (K : AV -> List O -> Option R) (m m_1 m_2 m_3 : Int) (m_4 m_5 : List Int) (s : Int) (w : List Int) :
  fnRun Tryz.prog (T_q1q @a0 @a1) cuts_q1q Tryz.f148 fuel [.agg [iv m, iv m_1, iv m_2, iv m_3, ri 3 m_4, ri 3 m_5], iv s, ri 3 w] [] K =
  ge_q1q @a0 @a1 (gt_q1q_10 (runO Tryz.prog (T_q1q @a0 @a1) cuts_q1q 0 (finish Tryz.prog Tryz.f148 0 K) fuel)) (k0_q1q K) m m_1 m_2 m_3 m_4 m_5 s w := by kernel_rfl

theorem runs_q1q {R : Type} (K : AV -> List O -> Option R) : ∀ fuel : Nat,
  (gt_q1q_10 (runO Tryz.prog C_q1q cuts_q1q 0 (finish Tryz.prog Tryz.f148 0 K) fuel)) = (run_q1q (k0_q1q K) fuel)
 |0 => rfl
 |fuel + 1 => by
  have ih := runs_q1q K fuel
  funext s x42 x43 x44 o0 o0_1 o0_2 o0_3 o0_4 o0_5 o1
  refine (gstep_q1q_10 _ K s x42 x43 x44 o0 o0_1 o0_2 o0_3 o0_4 o0_5 o1).trans ?_
  rw [ih]
  rfl

def S_q1q (l_q1q : LT_q1q) : Sum := ⟨[], fun {R} args ob K => match args, ob with
 |[.agg [.v (.int .i64 m), .v (.int .i64 m_1), .v (.int .i64 m_2), .v (.int .i64 m_3), .rd ⟨false, 3, (.int .i64), m_4⟩, .rd ⟨false, 3, (.int .i64), m_5⟩], .v (.int .i64 s), .rd ⟨false, 3, (.int .i64), w⟩], [] => l_q1q m m_1 m_2 m_3 m_4 m_5 s w (k0_q1q K)
 |_, _ => none⟩

theorem sound_q1q : Sound Tryz.prog 148 (S_q1q @l_q1q) := by
 refine fn_sound (cuts := cuts_q1q) (fn := Tryz.f148) (Γ := C_q1q) wide right_T_q1q Tryz.func148 fun {R} K r args ob h => ?_
 unfold S_q1q at h
 dsimp only at h
 split at h
 ·obtain ⟨n, hn⟩ := ok_q1q _ _ _ _ _ _ _ _ _ h
  refine ⟨Nat.le_of_ble_eq_true (by kernel_rfl), n, (gentry_q1q n K _ _ _ _ _ _ _ _).trans ?_⟩
  rw [(runs_q1q K n)]
  exact hn
 ·cases h

theorem call_q1q : Callable Tryz.prog 148 := ⟨_, Tryz.func148, by kernel_rfl, by kernel_rfl⟩

def T_q1r (a0 : LT_q1q) : FuncId -> Option Sum := (addS G0 148 (S_q1q @a0))

abbrev C_q1r : FuncId -> Option Sum := T_q1r @l_q1q

theorem right_T_q1r : Right Tryz.prog C_q1r := (right_add right_G0 call_q1q sound_q1q)

abbrev cuts_q1r : Cuts := []

abbrev k0_q1r {R : Type} (K : AV -> List O -> Option R) : Int -> (List Int) -> Option R := fun r0 r1 => K (.tup [.own 0, iv r0]) [wi 3 r1]

theorem gentry_q1r {a0 : LT_q1q} {R : Type} (K : AV -> List O -> Option R) (m m_1 m_2 m_3 : Int) (m_4 m_5 w : List Int) :
  fnRun Tryz.prog (T_q1r @a0) cuts_q1r Tryz.f146 0 [.agg [iv m, iv m_1, iv m_2, iv m_3, ri 3 m_4, ri 3 m_5], ri 3 w] [] K =
  gl_q1r @a0 m m_1 m_2 m_3 m_4 m_5 w (k0_q1r K) := by kernel_rfl

def S_q1r (l_q1r : LT_q1r) : Sum := ⟨[], fun {R} args ob K => match args, ob with
 |[.agg [.v (.int .i64 m), .v (.int .i64 m_1), .v (.int .i64 m_2), .v (.int .i64 m_3), .rd ⟨false, 3, (.int .i64), m_4⟩, .rd ⟨false, 3, (.int .i64), m_5⟩], .rd ⟨false, 3, (.int .i64), w⟩], [] => l_q1r m m_1 m_2 m_3 m_4 m_5 w (k0_q1r K)
 |_, _ => none⟩

theorem sound_q1r : Sound Tryz.prog 146 (S_q1r @l_q1r) := by
 refine fn_sound (cuts := cuts_q1r) (fn := Tryz.f146) (Γ := C_q1r) wide right_T_q1r Tryz.func146 fun {R} K r args ob h => ?_
 unfold S_q1r at h
 dsimp only at h
 split at h
 ·exact ⟨Nat.le_of_ble_eq_true (by kernel_rfl), 0, (gentry_q1r K _ _ _ _ _ _ _).trans h⟩
 ·cases h

theorem call_q1r : Callable Tryz.prog 146 := ⟨_, Tryz.func146, by kernel_rfl, by kernel_rfl⟩

def T_q1s : FuncId -> Option Sum := G0

theorem right_T_q1s : Right Tryz.prog T_q1s := right_G0

abbrev cuts_q1s : Cuts := [(4, [0, 1, 12, 13])]

abbrev k0_q1s {R : Type} (K : AV -> List O -> Option R) : Bool -> Option R := fun r0 => K (.v (.bool r0)) []

abbrev sta_q1s_4 (s1 s2 : List Int) (x12 x13 : Int) : St := ⟨fr0 26 [(0, ri 3 s1), (1, ri 3 s2), (12, iv x12), (13, iv x13)], []⟩

abbrev gt_q1s_4 {R : Type} (g : List Item -> St -> Option R) : GT_q1s_4 R := fun (s1 s2 : List Int) (x12 x13 : Int) => g (at' Tryz.f147 4) (sta_q1s_4 s1 s2 x12 x13)

theorem gstep_q1s_4 {R : Type} (g : List Item -> St -> Option R) (K : AV -> List O -> Option R) (s1 s2 : List Int) (x12 x13 : Int) :
  runSeg Tryz.prog T_q1s cuts_q1s 0 g (finish Tryz.prog Tryz.f147 0 K) (at' Tryz.f147 4) (sta_q1s_4 s1 s2 x12 x13) =
  s_q1s_4 (gt_q1s_4 g) (k0_q1s K) s1 s2 x12 x13 := by kernel_rfl

theorem gentry_q1s {R : Type} (fuel : Nat) (K : AV -> List O -> Option R) (s1 s2 : List Int) :
  fnRun Tryz.prog T_q1s cuts_q1s Tryz.f147 fuel [ri 3 s1, ri 3 s2] [] K =
  e_q1s (gt_q1s_4 (runO Tryz.prog T_q1s cuts_q1s 0 (finish Tryz.prog Tryz.f147 0 K) fuel)) (k0_q1s K) s1 s2 := by kernel_rfl

theorem runs_q1s {R : Type} (K : AV -> List O -> Option R) : ∀ fuel : Nat,
  (gt_q1s_4 (runO Tryz.prog T_q1s cuts_q1s 0 (finish Tryz.prog Tryz.f147 0 K) fuel)) = (run_q1s (k0_q1s K) fuel)
 |0 => rfl
 |fuel + 1 => by
  have ih := runs_q1s K fuel
  funext s1 s2 x12 x13
  refine (gstep_q1s_4 _ K s1 s2 x12 x13).trans ?_
  rw [ih]
  rfl

def S_q1s (l_q1s : LT_q1s) : Sum := ⟨[], fun {R} args ob K => match args, ob with
 |[.rd ⟨false, 3, (.int .i64), s1⟩, .rd ⟨false, 3, (.int .i64), s2⟩], [] => l_q1s s1 s2 (k0_q1s K)
 |_, _ => none⟩

theorem sound_q1s : Sound Tryz.prog 147 (S_q1s @l_q1s) := by
 refine fn_sound (cuts := cuts_q1s) (fn := Tryz.f147) (Γ := T_q1s) wide right_T_q1s Tryz.func147 fun {R} K r args ob h => ?_
 unfold S_q1s at h
 dsimp only at h
 split at h
 ·obtain ⟨n, hn⟩ := evl_ok h
  refine ⟨Nat.le_of_ble_eq_true (by kernel_rfl), n, (gentry_q1s n K _ _).trans ?_⟩
  rw [(runs_q1s K n)]
  exact hn
 ·cases h

theorem call_q1s : Callable Tryz.prog 147 := ⟨_, Tryz.func147, by kernel_rfl, by kernel_rfl⟩

def T_q1t (a0 : LT_q1s) (a1 : LT_q1r) : FuncId -> Option Sum := (addS (addS G0 147 (S_q1s @a0)) 146 (S_q1r @a1))

abbrev C_q1t : FuncId -> Option Sum := T_q1t @l_q1s @l_q1r

theorem right_T_q1t : Right Tryz.prog C_q1t := (right_add (right_add right_G0 call_q1s sound_q1s) call_q1r sound_q1r)

abbrev cuts_q1t : Cuts := []

abbrev k0_q1t {R : Type} (K : AV -> List O -> Option R) : Bool -> Option R := fun r0 => K (.v (.bool r0)) []

theorem gentry_q1t {a0 : LT_q1s} {a1 : LT_q1r} {R : Type} (K : AV -> List O -> Option R) (r : Int) (r_1 : List Int) (r_2 r_3 r_4 r_5 : Int) (r_6 r_7 : List Int) (r_8 : Int) (r_9 r_10 : List Int) (m m_1 m_2 m_3 : Int) (m_4 m_5 : List Int) :
  fnRun Tryz.prog (T_q1t @a0 @a1) cuts_q1t Tryz.f145 0 [.agg [iv r, ri 3 r_1, iv r_2, iv r_3, iv r_4, iv r_5, ri 3 r_6, ri 3 r_7, iv r_8, ri 3 r_9, ri 3 r_10], .agg [iv m, iv m_1, iv m_2, iv m_3, ri 3 m_4, ri 3 m_5]] [] K =
  gl_q1t @a0 @a1 r r_1 r_2 r_3 r_4 r_5 r_6 r_7 r_8 r_9 r_10 m m_1 m_2 m_3 m_4 m_5 (k0_q1t K) := by kernel_rfl

def S_q1t (l_q1t : LT_q1t) : Sum := ⟨[], fun {R} args ob K => match args, ob with
 |[.agg [.v (.int .i64 r), .rd ⟨false, 3, (.int .i64), r_1⟩, .v (.int .i64 r_2), .v (.int .i64 r_3), .v (.int .i64 r_4), .v (.int .i64 r_5), .rd ⟨false, 3, (.int .i64), r_6⟩, .rd ⟨false, 3, (.int .i64), r_7⟩, .v (.int .i64 r_8), .rd ⟨false, 3, (.int .i64), r_9⟩, .rd ⟨false, 3, (.int .i64), r_10⟩], .agg [.v (.int .i64 m), .v (.int .i64 m_1), .v (.int .i64 m_2), .v (.int .i64 m_3), .rd ⟨false, 3, (.int .i64), m_4⟩, .rd ⟨false, 3, (.int .i64), m_5⟩]], [] => l_q1t r r_1 r_2 r_3 r_4 r_5 r_6 r_7 r_8 r_9 r_10 m m_1 m_2 m_3 m_4 m_5 (k0_q1t K)
 |_, _ => none⟩

theorem sound_q1t : Sound Tryz.prog 145 (S_q1t @l_q1t) := by
 refine fn_sound (cuts := cuts_q1t) (fn := Tryz.f145) (Γ := C_q1t) wide right_T_q1t Tryz.func145 fun {R} K r args ob h => ?_
 unfold S_q1t at h
 dsimp only at h
 split at h
 ·exact ⟨Nat.le_of_ble_eq_true (by kernel_rfl), 0, (gentry_q1t K _ _ _ _ _ _ _ _ _ _ _ _ _ _ _ _ _).trans h⟩
 ·cases h

theorem call_q1t : Callable Tryz.prog 145 := ⟨_, Tryz.func145, by kernel_rfl, by kernel_rfl⟩

def T_q1u (a0 : LT_qs) : FuncId -> Option Sum := (addS G0 53 (S_qs @a0))

abbrev C_q1u : FuncId -> Option Sum := T_q1u @l_qs

theorem right_T_q1u : Right Tryz.prog C_q1u := (right_add right_G0 call_qs sound_qs)

abbrev cuts_q1u : Cuts := [(2, [2, 3, 11, 12, 13])]

abbrev k0_q1u {R : Type} (K : AV -> List O -> Option R) : Int -> Option R := fun r0 => K (iv r0) []

abbrev sta_q1u_2 (x12 x13 o0 o0_1 o0_2 o0_3 : Int) (o0_4 o0_5 : List Int) (o1 o1_1 o1_2 o1_3 : Int) (o1_4 o1_5 : List Int) (o2 : List (Int × (Int × (Int × (Int × (List Int × List Int)))))) : St := ⟨fr0 44 [(2, .ptr 0 0), (3, .ptr 1 0), (11, .own 2), (12, iv x12), (13, iv x13)], [.box 47 [iv o0, iv o0_1, iv o0_2, iv o0_3, ri 3 o0_4, ri 3 o0_5], .box 47 [iv o1, iv o1_1, iv o1_2, iv o1_3, ri 3 o1_4, ri 3 o1_5], .row ⟨false, 47, (.pr (.int .i64) (.pr (.int .i64) (.pr (.int .i64) (.pr (.int .i64) (.pr (.sl 3 (.int .i64)) (.sl 3 (.int .i64))))))), o2⟩]⟩

abbrev gt_q1u_2 {R : Type} (g : List Item -> St -> Option R) : GT_q1u_2 R := fun (x12 x13 o0 o0_1 o0_2 o0_3 : Int) (o0_4 o0_5 : List Int) (o1 o1_1 o1_2 o1_3 : Int) (o1_4 o1_5 : List Int) (o2 : List (Int × (Int × (Int × (Int × (List Int × List Int)))))) => g (at' Tryz.f164 2) (sta_q1u_2 x12 x13 o0 o0_1 o0_2 o0_3 o0_4 o0_5 o1 o1_1 o1_2 o1_3 o1_4 o1_5 o2)

theorem gstep_q1u_2 {a0 : LT_qs} {R : Type} (g : List Item -> St -> Option R) (K : AV -> List O -> Option R) (x12 x13 o0 o0_1 o0_2 o0_3 : Int) (o0_4 o0_5 : List Int) (o1 o1_1 o1_2 o1_3 : Int) (o1_4 o1_5 : List Int) (o2 : List (Int × (Int × (Int × (Int × (List Int × List Int)))))) :
  runSeg Tryz.prog (T_q1u @a0) cuts_q1u 0 g (finish Tryz.prog Tryz.f164 0 K) (at' Tryz.f164 2) (sta_q1u_2 x12 x13 o0 o0_1 o0_2 o0_3 o0_4 o0_5 o1 o1_1 o1_2 o1_3 o1_4 o1_5 o2) =
  gs_q1u_2 @a0 (gt_q1u_2 g) (k0_q1u K) x12 x13 o0 o0_1 o0_2 o0_3 o0_4 o0_5 o1 o1_1 o1_2 o1_3 o1_4 o1_5 o2 := by kernel_rfl

theorem gentry_q1u {a0 : LT_qs} {R : Type} (fuel : Nat) (K : AV -> List O -> Option R) (a a_1 a_2 a_3 : Int) (a_4 a_5 : List Int) (b b_1 b_2 b_3 : Int) (b_4 b_5 : List Int) :
  fnRun Tryz.prog (T_q1u @a0) cuts_q1u Tryz.f164 fuel [.agg [iv a, iv a_1, iv a_2, iv a_3, ri 3 a_4, ri 3 a_5], .agg [iv b, iv b_1, iv b_2, iv b_3, ri 3 b_4, ri 3 b_5]] [] K =
  ge_q1u @a0 (gt_q1u_2 (runO Tryz.prog (T_q1u @a0) cuts_q1u 0 (finish Tryz.prog Tryz.f164 0 K) fuel)) (k0_q1u K) a a_1 a_2 a_3 a_4 a_5 b b_1 b_2 b_3 b_4 b_5 := by kernel_rfl

theorem runs_q1u {R : Type} (K : AV -> List O -> Option R) : ∀ fuel : Nat,
  (gt_q1u_2 (runO Tryz.prog C_q1u cuts_q1u 0 (finish Tryz.prog Tryz.f164 0 K) fuel)) = (run_q1u (k0_q1u K) fuel)
 |0 => rfl
 |fuel + 1 => by
  have ih := runs_q1u K fuel
  funext x12 x13 o0 o0_1 o0_2 o0_3 o0_4 o0_5 o1 o1_1 o1_2 o1_3 o1_4 o1_5 o2
  refine (gstep_q1u_2 _ K x12 x13 o0 o0_1 o0_2 o0_3 o0_4 o0_5 o1 o1_1 o1_2 o1_3 o1_4 o1_5 o2).trans ?_
  rw [ih]
  rfl

def S_q1u (l_q1u : LT_q1u) : Sum := ⟨[], fun {R} args ob K => match args, ob with
 |[.agg [.v (.int .i64 a), .v (.int .i64 a_1), .v (.int .i64 a_2), .v (.int .i64 a_3), .rd ⟨false, 3, (.int .i64), a_4⟩, .rd ⟨false, 3, (.int .i64), a_5⟩], .agg [.v (.int .i64 b), .v (.int .i64 b_1), .v (.int .i64 b_2), .v (.int .i64 b_3), .rd ⟨false, 3, (.int .i64), b_4⟩, .rd ⟨false, 3, (.int .i64), b_5⟩]], [] => l_q1u a a_1 a_2 a_3 a_4 a_5 b b_1 b_2 b_3 b_4 b_5 (k0_q1u K)
 |_, _ => none⟩

theorem sound_q1u : Sound Tryz.prog 164 (S_q1u @l_q1u) := by
 refine fn_sound (cuts := cuts_q1u) (fn := Tryz.f164) (Γ := C_q1u) wide right_T_q1u Tryz.func164 fun {R} K r args ob h => ?_
 unfold S_q1u at h
 dsimp only at h
 split at h
 ·obtain ⟨n, hn⟩ := ok_q1u _ _ _ _ _ _ _ _ _ _ _ _ _ h
  refine ⟨Nat.le_of_ble_eq_true (by kernel_rfl), n, (gentry_q1u n K _ _ _ _ _ _ _ _ _ _ _ _).trans ?_⟩
  rw [(runs_q1u K n)]
  exact hn
 ·cases h

theorem call_q1u : Callable Tryz.prog 164 := ⟨_, Tryz.func164, by kernel_rfl, by kernel_rfl⟩

def T_q1v : FuncId -> Option Sum := G0

theorem right_T_q1v : Right Tryz.prog T_q1v := right_G0

abbrev cuts_q1v : Cuts := [(1, [0, 2, 3])]

abbrev k0_q1v {R : Type} (K : AV -> List O -> Option R) : (List Int) -> Option R := fun r0 => K (.tup []) [.row ⟨false, 3, (.int .i64), r0⟩]

abbrev sta_q1v_1 (i j : Int) (o0 : List Int) : St := ⟨fr0 28 [(0, .own 0), (2, iv i), (3, iv j)], [.row ⟨false, 3, (.int .i64), o0⟩]⟩

abbrev gt_q1v_1 {R : Type} (g : List Item -> St -> Option R) : GT_q1v_1 R := fun (i j : Int) (o0 : List Int) => g (at' Tryz.f171 1) (sta_q1v_1 i j o0)

theorem gstep_q1v_1 {R : Type} (g : List Item -> St -> Option R) (K : AV -> List O -> Option R) (i j : Int) (o0 : List Int) :
  runSeg Tryz.prog T_q1v cuts_q1v 1 g (finish Tryz.prog Tryz.f171 1 K) (at' Tryz.f171 1) (sta_q1v_1 i j o0) =
  s_q1v_1 (gt_q1v_1 g) (k0_q1v K) i j o0 := by kernel_rfl

theorem gentry_q1v {R : Type} (fuel : Nat) (K : AV -> List O -> Option R) (o0 : List Int) :
  fnRun Tryz.prog T_q1v cuts_q1v Tryz.f171 fuel [.own 0] [.row ⟨false, 3, (.int .i64), o0⟩] K =
  e_q1v (gt_q1v_1 (runO Tryz.prog T_q1v cuts_q1v 1 (finish Tryz.prog Tryz.f171 1 K) fuel)) (k0_q1v K) o0 := by kernel_rfl

theorem runs_q1v {R : Type} (K : AV -> List O -> Option R) : ∀ fuel : Nat,
  (gt_q1v_1 (runO Tryz.prog T_q1v cuts_q1v 1 (finish Tryz.prog Tryz.f171 1 K) fuel)) = (run_q1v (k0_q1v K) fuel)
 |0 => rfl
 |fuel + 1 => by
  have ih := runs_q1v K fuel
  funext i j o0
  refine (gstep_q1v_1 _ K i j o0).trans ?_
  rw [ih]
  rfl

def S_q1v (l_q1v : LT_q1v) : Sum := ⟨[0], fun {R} args ob K => match args, ob with
 |[.own 0], [.row ⟨false, 3, (.int .i64), o0⟩] => l_q1v o0 (k0_q1v K)
 |_, _ => none⟩

theorem sound_q1v : Sound Tryz.prog 171 (S_q1v @l_q1v) := by
 refine fn_sound (cuts := cuts_q1v) (fn := Tryz.f171) (Γ := T_q1v) wide right_T_q1v Tryz.func171 fun {R} K r args ob h => ?_
 unfold S_q1v at h
 dsimp only at h
 split at h
 ·obtain ⟨n, hn⟩ := ok_q1v _ _ h
  refine ⟨Nat.le_of_ble_eq_true (by kernel_rfl), n, (gentry_q1v n K _).trans ?_⟩
  rw [(runs_q1v K n)]
  exact hn
 ·cases h

theorem call_q1v : Callable Tryz.prog 171 := ⟨_, Tryz.func171, by kernel_rfl, by kernel_rfl⟩

def T_q1w (a0 : LT_q1v) : FuncId -> Option Sum := (addS G0 171 (S_q1v @a0))

abbrev C_q1w : FuncId -> Option Sum := T_q1w @l_q1v

theorem right_T_q1w : Right Tryz.prog C_q1w := (right_add right_G0 call_q1v sound_q1v)

abbrev cuts_q1w : Cuts := [(2, [0, 4, 5, 7])]

abbrev k0_q1w {R : Type} (K : AV -> List O -> Option R) : KT0_q1w R := fun r0 r1 => K (.own 1) [.map (.pr (.int .i64) (.int .i64)) (.pr (.pr (.int .i64) (.int .i64)) (.int .i64)) r0, wi 3 r1]

abbrev sta_q1w_2 (o0 : List ((Int × Int) × ((Int × Int) × Int))) (o1 o1_1 o2 o2_1 : Int) (o3 : List Int) : St := ⟨fr0 25 [(0, .mp 0), (4, .ptr 1 0), (5, .ptr 2 0), (7, .own 3)], [.map (.pr (.int .i64) (.int .i64)) (.pr (.pr (.int .i64) (.int .i64)) (.int .i64)) o0, .box 264 [iv o1, iv o1_1], .box 264 [iv o2, iv o2_1], wi 3 o3]⟩

abbrev gt_q1w_2 {R : Type} (g : List Item -> St -> Option R) : GT_q1w_2 R := fun (o0 : List ((Int × Int) × ((Int × Int) × Int))) (o1 o1_1 o2 o2_1 : Int) (o3 : List Int) => g (at' Tryz.f169 2) (sta_q1w_2 o0 o1 o1_1 o2 o2_1 o3)

theorem gstep_q1w_2 {a0 : LT_q1v} {R : Type} (g : List Item -> St -> Option R) (K : AV -> List O -> Option R) (o0 : List ((Int × Int) × ((Int × Int) × Int))) (o1 o1_1 o2 o2_1 : Int) (o3 : List Int) :
  runSeg Tryz.prog (T_q1w @a0) cuts_q1w 1 g (finish Tryz.prog Tryz.f169 1 K) (at' Tryz.f169 2) (sta_q1w_2 o0 o1 o1_1 o2 o2_1 o3) =
  gs_q1w_2 @a0 (gt_q1w_2 g) (k0_q1w K) o0 o1 o1_1 o2 o2_1 o3 := by kernel_rfl

theorem gentry_q1w {a0 : LT_q1v} {R : Type} (fuel : Nat) (K : AV -> List O -> Option R) (start start_1 p p_1 : Int) (o0 : List ((Int × Int) × ((Int × Int) × Int))) :
  fnRun Tryz.prog (T_q1w @a0) cuts_q1w Tryz.f169 fuel [.mp 0, .agg [iv start, iv start_1], .agg [iv p, iv p_1]] [.map (.pr (.int .i64) (.int .i64)) (.pr (.pr (.int .i64) (.int .i64)) (.int .i64)) o0] K =
  ge_q1w @a0 (gt_q1w_2 (runO Tryz.prog (T_q1w @a0) cuts_q1w 1 (finish Tryz.prog Tryz.f169 1 K) fuel)) (k0_q1w K) start start_1 p p_1 o0 := by kernel_rfl

theorem runs_q1w {R : Type} (K : AV -> List O -> Option R) : ∀ fuel : Nat,
  (gt_q1w_2 (runO Tryz.prog C_q1w cuts_q1w 1 (finish Tryz.prog Tryz.f169 1 K) fuel)) = (run_q1w (k0_q1w K) fuel)
 |0 => rfl
 |fuel + 1 => by
  have ih := runs_q1w K fuel
  funext o0 o1 o1_1 o2 o2_1 o3
  refine (gstep_q1w_2 _ K o0 o1 o1_1 o2 o2_1 o3).trans ?_
  rw [ih]
  rfl

def S_q1w (l_q1w : LT_q1w) : Sum := ⟨[], fun {R} args ob K => match args, ob with
 |[.mp 0, .agg [.v (.int .i64 start), .v (.int .i64 start_1)], .agg [.v (.int .i64 p), .v (.int .i64 p_1)]], [.map (.pr (.int .i64) (.int .i64)) (.pr (.pr (.int .i64) (.int .i64)) (.int .i64)) o0] => l_q1w start start_1 p p_1 o0 (k0_q1w K)
 |_, _ => none⟩

theorem sound_q1w : Sound Tryz.prog 169 (S_q1w @l_q1w) := by
 refine fn_sound (cuts := cuts_q1w) (fn := Tryz.f169) (Γ := C_q1w) wide right_T_q1w Tryz.func169 fun {R} K r args ob h => ?_
 unfold S_q1w at h
 dsimp only at h
 split at h
 ·obtain ⟨n, hn⟩ := ok_q1w _ _ _ _ _ _ h
  refine ⟨Nat.le_of_ble_eq_true (by kernel_rfl), n, (gentry_q1w n K _ _ _ _ _).trans ?_⟩
  rw [(runs_q1w K n)]
  exact hn
 ·cases h

theorem call_q1w : Callable Tryz.prog 169 := ⟨_, Tryz.func169, by kernel_rfl, by kernel_rfl⟩

def T_q1x (a0 : LT_q1w) : FuncId -> Option Sum := (addS G0 169 (S_q1w @a0))

abbrev C_q1x : FuncId -> Option Sum := T_q1x @l_q1w

theorem right_T_q1x : Right Tryz.prog C_q1x := (right_add right_G0 call_q1w sound_q1w)

abbrev cuts_q1x : Cuts := [(9, [3, 4, 5, 8, 9, 10, 11, 12]), (13, [3, 4, 5, 8, 9, 10, 11, 12, 13, 55, 56])]

abbrev k0_q1x {R : Type} (K : AV -> List O -> Option R) : Bool -> (List Int) -> Option R := fun r0 r1 => K (.tup [.own 0, .v (.bool r0)]) [wi 3 r1]

abbrev sta_q1x_9 (i o0 o0_1 o0_2 o0_3 : Int) (o0_4 o0_5 : List Int) (o1 o1_1 o1_2 o1_3 : Int) (o1_4 o1_5 : List Int) (o2 o2_1 : Int) (o3 : List ((Int × Int) × ((Int × Int) × Int))) (o4 : List (Int × Int)) (o5 o5_1 : Int) (o6 : List Int) : St := ⟨fr0 145 [(3, .ptr 0 0), (4, .ptr 1 0), (5, .ptr 2 0), (8, .mp 3), (9, .own 4), (10, .ptr 5 0), (11, .own 6), (12, iv i)], [.box 47 [iv o0, iv o0_1, iv o0_2, iv o0_3, ri 3 o0_4, ri 3 o0_5], .box 47 [iv o1, iv o1_1, iv o1_2, iv o1_3, ri 3 o1_4, ri 3 o1_5], .box 264 [iv o2, iv o2_1], .map (.pr (.int .i64) (.int .i64)) (.pr (.pr (.int .i64) (.int .i64)) (.int .i64)) o3, .row ⟨true, 264, (.pr (.int .i64) (.int .i64)), o4⟩, .box 264 [iv o5, iv o5_1], wi 3 o6]⟩

abbrev gt_q1x_9 {R : Type} (g : List Item -> St -> Option R) : GT_q1x_9 R := fun (i o0 o0_1 o0_2 o0_3 : Int) (o0_4 o0_5 : List Int) (o1 o1_1 o1_2 o1_3 : Int) (o1_4 o1_5 : List Int) (o2 o2_1 : Int) (o3 : List ((Int × Int) × ((Int × Int) × Int))) (o4 : List (Int × Int)) (o5 o5_1 : Int) (o6 : List Int) => g (at' Tryz.f165 9) (sta_q1x_9 i o0 o0_1 o0_2 o0_3 o0_4 o0_5 o1 o1_1 o1_2 o1_3 o1_4 o1_5 o2 o2_1 o3 o4 o5 o5_1 o6)

abbrev sta_q1x_13 (i x55 x56 o0 o0_1 o0_2 o0_3 : Int) (o0_4 o0_5 : List Int) (o1 o1_1 o1_2 o1_3 : Int) (o1_4 o1_5 : List Int) (o2 o2_1 : Int) (o3 : List ((Int × Int) × ((Int × Int) × Int))) (o4 : List (Int × Int)) (o5 o5_1 : Int) (o6 : List Int) (o7 o7_1 : Int) : St := ⟨fr0 145 [(3, .ptr 0 0), (4, .ptr 1 0), (5, .ptr 2 0), (8, .mp 3), (9, .own 4), (10, .ptr 5 0), (11, .own 6), (12, iv i), (13, .ptr 7 0), (55, iv x55), (56, iv x56)], [.box 47 [iv o0, iv o0_1, iv o0_2, iv o0_3, ri 3 o0_4, ri 3 o0_5], .box 47 [iv o1, iv o1_1, iv o1_2, iv o1_3, ri 3 o1_4, ri 3 o1_5], .box 264 [iv o2, iv o2_1], .map (.pr (.int .i64) (.int .i64)) (.pr (.pr (.int .i64) (.int .i64)) (.int .i64)) o3, .row ⟨true, 264, (.pr (.int .i64) (.int .i64)), o4⟩, .box 264 [iv o5, iv o5_1], wi 3 o6, .box 264 [iv o7, iv o7_1]]⟩

abbrev gt_q1x_13 {R : Type} (g : List Item -> St -> Option R) : GT_q1x_13 R := fun (i x55 x56 o0 o0_1 o0_2 o0_3 : Int) (o0_4 o0_5 : List Int) (o1 o1_1 o1_2 o1_3 : Int) (o1_4 o1_5 : List Int) (o2 o2_1 : Int) (o3 : List ((Int × Int) × ((Int × Int) × Int))) (o4 : List (Int × Int)) (o5 o5_1 : Int) (o6 : List Int) (o7 o7_1 : Int) => g (at' Tryz.f165 13) (sta_q1x_13 i x55 x56 o0 o0_1 o0_2 o0_3 o0_4 o0_5 o1 o1_1 o1_2 o1_3 o1_4 o1_5 o2 o2_1 o3 o4 o5 o5_1 o6 o7 o7_1)

theorem gstep_q1x_9 {a0 : LT_q1w} {R : Type} (g : List Item -> St -> Option R) (K : AV -> List O -> Option R) (i o0 o0_1 o0_2 o0_3 : Int) (o0_4 o0_5 : List Int) (o1 o1_1 o1_2 o1_3 : Int) (o1_4 o1_5 : List Int) (o2 o2_1 : Int) (o3 : List ((Int × Int) × ((Int × Int) × Int))) (o4 : List (Int × Int)) (o5 o5_1 : Int) (o6 : List Int) :
  runSeg Tryz.prog (T_q1x @a0) cuts_q1x 0 g (finish Tryz.prog Tryz.f165 0 K) (at' Tryz.f165 9) (sta_q1x_9 i o0 o0_1 o0_2 o0_3 o0_4 o0_5 o1 o1_1 o1_2 o1_3 o1_4 o1_5 o2 o2_1 o3 o4 o5 o5_1 o6) =
  gs_q1x_9 @a0 (gt_q1x_9 g) (gt_q1x_13 g) (k0_q1x K) i o0 o0_1 o0_2 o0_3 o0_4 o0_5 o1 o1_1 o1_2 o1_3 o1_4 o1_5 o2 o2_1 o3 o4 o5 o5_1 o6 := by kernel_rfl

theorem gstep_q1x_13 {a0 : LT_q1w} {R : Type} (g : List Item -> St -> Option R) (K : AV -> List O -> Option R) (i x55 x56 o0 o0_1 o0_2 o0_3 : Int) (o0_4 o0_5 : List Int) (o1 o1_1 o1_2 o1_3 : Int) (o1_4 o1_5 : List Int) (o2 o2_1 : Int) (o3 : List ((Int × Int) × ((Int × Int) × Int))) (o4 : List (Int × Int)) (o5 o5_1 : Int) (o6 : List Int) (o7 o7_1 : Int) :
  runSeg Tryz.prog (T_q1x @a0) cuts_q1x 0 g (finish Tryz.prog Tryz.f165 0 K) (at' Tryz.f165 13) (sta_q1x_13 i x55 x56 o0 o0_1 o0_2 o0_3 o0_4 o0_5 o1 o1_1 o1_2 o1_3 o1_4 o1_5 o2 o2_1 o3 o4 o5 o5_1 o6 o7 o7_1) =
  gs_q1x_13 @a0 (gt_q1x_9 g) (gt_q1x_13 g) (k0_q1x K) i x55 x56 o0 o0_1 o0_2 o0_3 o0_4 o0_5 o1 o1_1 o1_2 o1_3 o1_4 o1_5 o2 o2_1 o3 o4 o5 o5_1 o6 o7 o7_1 := by kernel_rfl

theorem gentry_q1x {a0 : LT_q1w} {R : Type} (fuel : Nat) (K : AV -> List O -> Option R) (a a_1 a_2 a_3 : Int) (a_4 a_5 : List Int) (b b_1 b_2 b_3 : Int) (b_4 b_5 : List Int) (start start_1 : Int) :
  fnRun Tryz.prog (T_q1x @a0) cuts_q1x Tryz.f165 fuel [.agg [iv a, iv a_1, iv a_2, iv a_3, ri 3 a_4, ri 3 a_5], .agg [iv b, iv b_1, iv b_2, iv b_3, ri 3 b_4, ri 3 b_5], .agg [iv start, iv start_1]] [] K =
  ge_q1x @a0 (gt_q1x_9 (runO Tryz.prog (T_q1x @a0) cuts_q1x 0 (finish Tryz.prog Tryz.f165 0 K) fuel)) (gt_q1x_13 (runO Tryz.prog (T_q1x @a0) cuts_q1x 0 (finish Tryz.prog Tryz.f165 0 K) fuel)) (k0_q1x K) a a_1 a_2 a_3 a_4 a_5 b b_1 b_2 b_3 b_4 b_5 start start_1 := by kernel_rfl

theorem runs_q1x {R : Type} (K : AV -> List O -> Option R) : ∀ fuel : Nat,
  (gt_q1x_9 (runO Tryz.prog C_q1x cuts_q1x 0 (finish Tryz.prog Tryz.f165 0 K) fuel)) = (run_q1x (k0_q1x K) fuel).1 ∧
  (gt_q1x_13 (runO Tryz.prog C_q1x cuts_q1x 0 (finish Tryz.prog Tryz.f165 0 K) fuel)) = (run_q1x (k0_q1x K) fuel).2
 |0 => ⟨rfl, rfl⟩
 |fuel + 1 => by
  have ih := runs_q1x K fuel
  refine ⟨?_, ?_⟩
  ·funext i o0 o0_1 o0_2 o0_3 o0_4 o0_5 o1 o1_1 o1_2 o1_3 o1_4 o1_5 o2 o2_1 o3 o4 o5 o5_1 o6
   refine (gstep_q1x_9 _ K i o0 o0_1 o0_2 o0_3 o0_4 o0_5 o1 o1_1 o1_2 o1_3 o1_4 o1_5 o2 o2_1 o3 o4 o5 o5_1 o6).trans ?_
   rw [ih.1, ih.2]
   rfl
  ·funext i x55 x56 o0 o0_1 o0_2 o0_3 o0_4 o0_5 o1 o1_1 o1_2 o1_3 o1_4 o1_5 o2 o2_1 o3 o4 o5 o5_1 o6 o7 o7_1
   refine (gstep_q1x_13 _ K i x55 x56 o0 o0_1 o0_2 o0_3 o0_4 o0_5 o1 o1_1 o1_2 o1_3 o1_4 o1_5 o2 o2_1 o3 o4 o5 o5_1 o6 o7 o7_1).trans ?_
   rw [ih.1, ih.2]
   rfl

def S_q1x (l_q1x : LT_q1x) : Sum := ⟨[], fun {R} args ob K => match args, ob with
 |[.agg [.v (.int .i64 a), .v (.int .i64 a_1), .v (.int .i64 a_2), .v (.int .i64 a_3), .rd ⟨false, 3, (.int .i64), a_4⟩, .rd ⟨false, 3, (.int .i64), a_5⟩], .agg [.v (.int .i64 b), .v (.int .i64 b_1), .v (.int .i64 b_2), .v (.int .i64 b_3), .rd ⟨false, 3, (.int .i64), b_4⟩, .rd ⟨false, 3, (.int .i64), b_5⟩], .agg [.v (.int .i64 start), .v (.int .i64 start_1)]], [] => l_q1x a a_1 a_2 a_3 a_4 a_5 b b_1 b_2 b_3 b_4 b_5 start start_1 (k0_q1x K)
 |_, _ => none⟩

theorem sound_q1x : Sound Tryz.prog 165 (S_q1x @l_q1x) := by
 refine fn_sound (cuts := cuts_q1x) (fn := Tryz.f165) (Γ := C_q1x) wide right_T_q1x Tryz.func165 fun {R} K r args ob h => ?_
 unfold S_q1x at h
 dsimp only at h
 split at h
 ·obtain ⟨n, hn⟩ := ok_q1x _ _ _ _ _ _ _ _ _ _ _ _ _ _ _ h
  refine ⟨Nat.le_of_ble_eq_true (by kernel_rfl), n, (gentry_q1x n K _ _ _ _ _ _ _ _ _ _ _ _ _ _).trans ?_⟩
  rw [(runs_q1x K n).1, (runs_q1x K n).2]
  exact hn
 ·cases h

theorem call_q1x : Callable Tryz.prog 165 := ⟨_, Tryz.func165, by kernel_rfl, by kernel_rfl⟩

def T_q1y (a0 : LT_q1x) (a1 : LT_q1u) : FuncId -> Option Sum := (addS (addS G0 165 (S_q1x @a0)) 164 (S_q1u @a1))

abbrev C_q1y : FuncId -> Option Sum := T_q1y @l_q1x @l_q1u

theorem right_T_q1y : Right Tryz.prog C_q1y := (right_add (right_add right_G0 call_q1x sound_q1x) call_q1u sound_q1u)

abbrev cuts_q1y : Cuts := []

abbrev k0_q1y {R : Type} (K : AV -> List O -> Option R) : Bool -> Int -> (List Int) -> Option R := fun r0 r1 r2 => K (.tup [.own 0, .v (.bool r0), iv r1]) [wi 3 r2]

theorem gentry_q1y {a0 : LT_q1x} {a1 : LT_q1u} {R : Type} (K : AV -> List O -> Option R) (a a_1 a_2 a_3 : Int) (a_4 a_5 : List Int) (b b_1 b_2 b_3 : Int) (b_4 b_5 : List Int) :
  fnRun Tryz.prog (T_q1y @a0 @a1) cuts_q1y Tryz.f161 0 [.agg [iv a, iv a_1, iv a_2, iv a_3, ri 3 a_4, ri 3 a_5], .agg [iv b, iv b_1, iv b_2, iv b_3, ri 3 b_4, ri 3 b_5]] [] K =
  gl_q1y @a0 @a1 a a_1 a_2 a_3 a_4 a_5 b b_1 b_2 b_3 b_4 b_5 (k0_q1y K) := by kernel_rfl

def S_q1y (l_q1y : LT_q1y) : Sum := ⟨[], fun {R} args ob K => match args, ob with
 |[.agg [.v (.int .i64 a), .v (.int .i64 a_1), .v (.int .i64 a_2), .v (.int .i64 a_3), .rd ⟨false, 3, (.int .i64), a_4⟩, .rd ⟨false, 3, (.int .i64), a_5⟩], .agg [.v (.int .i64 b), .v (.int .i64 b_1), .v (.int .i64 b_2), .v (.int .i64 b_3), .rd ⟨false, 3, (.int .i64), b_4⟩, .rd ⟨false, 3, (.int .i64), b_5⟩]], [] => l_q1y a a_1 a_2 a_3 a_4 a_5 b b_1 b_2 b_3 b_4 b_5 (k0_q1y K)
 |_, _ => none⟩

theorem sound_q1y : Sound Tryz.prog 161 (S_q1y @l_q1y) := by
 refine fn_sound (cuts := cuts_q1y) (fn := Tryz.f161) (Γ := C_q1y) wide right_T_q1y Tryz.func161 fun {R} K r args ob h => ?_
 unfold S_q1y at h
 dsimp only at h
 split at h
 ·exact ⟨Nat.le_of_ble_eq_true (by kernel_rfl), 0, (gentry_q1y K _ _ _ _ _ _ _ _ _ _ _ _).trans h⟩
 ·cases h

theorem call_q1y : Callable Tryz.prog 161 := ⟨_, Tryz.func161, by kernel_rfl, by kernel_rfl⟩

def T_q1z (a0 : LT_q1y) : FuncId -> Option Sum := (addS G0 161 (S_q1y @a0))

abbrev C_q1z : FuncId -> Option Sum := T_q1z @l_q1y

theorem right_T_q1z : Right Tryz.prog C_q1z := (right_add right_G0 call_q1y sound_q1y)

abbrev cuts_q1z : Cuts := []

abbrev k0_q1z {R : Type} (K : AV -> List O -> Option R) : Bool -> Int -> Option R := fun r0 r1 => K (.tup [.v (.bool r0), iv r1]) []

theorem gentry_q1z {a0 : LT_q1y} {R : Type} (K : AV -> List O -> Option R) (a a_1 a_2 a_3 : Int) (a_4 a_5 : List Int) (b b_1 b_2 b_3 : Int) (b_4 b_5 : List Int) :
  fnRun Tryz.prog (T_q1z @a0) cuts_q1z Tryz.f153 0 [.agg [iv a, iv a_1, iv a_2, iv a_3, ri 3 a_4, ri 3 a_5], .agg [iv b, iv b_1, iv b_2, iv b_3, ri 3 b_4, ri 3 b_5]] [] K =
  gl_q1z @a0 a a_1 a_2 a_3 a_4 a_5 b b_1 b_2 b_3 b_4 b_5 (k0_q1z K) := by kernel_rfl

def S_q1z (l_q1z : LT_q1z) : Sum := ⟨[], fun {R} args ob K => match args, ob with
 |[.agg [.v (.int .i64 a), .v (.int .i64 a_1), .v (.int .i64 a_2), .v (.int .i64 a_3), .rd ⟨false, 3, (.int .i64), a_4⟩, .rd ⟨false, 3, (.int .i64), a_5⟩], .agg [.v (.int .i64 b), .v (.int .i64 b_1), .v (.int .i64 b_2), .v (.int .i64 b_3), .rd ⟨false, 3, (.int .i64), b_4⟩, .rd ⟨false, 3, (.int .i64), b_5⟩]], [] => l_q1z a a_1 a_2 a_3 a_4 a_5 b b_1 b_2 b_3 b_4 b_5 (k0_q1z K)
 |_, _ => none⟩

theorem sound_q1z : Sound Tryz.prog 153 (S_q1z @l_q1z) := by
 refine fn_sound (cuts := cuts_q1z) (fn := Tryz.f153) (Γ := C_q1z) wide right_T_q1z Tryz.func153 fun {R} K r args ob h => ?_
 unfold S_q1z at h
 dsimp only at h
 split at h
 ·exact ⟨Nat.le_of_ble_eq_true (by kernel_rfl), 0, (gentry_q1z K _ _ _ _ _ _ _ _ _ _ _ _).trans h⟩
 ·cases h

theorem call_q1z : Callable Tryz.prog 153 := ⟨_, Tryz.func153, by kernel_rfl, by kernel_rfl⟩

def T_q20 (a0 : LT_q1z) (a1 : LT_q1s) (a2 : LT_q1r) : FuncId -> Option Sum := (addS (addS (addS G0 153 (S_q1z @a0)) 147 (S_q1s @a1)) 146 (S_q1r @a2))

abbrev C_q20 : FuncId -> Option Sum := T_q20 @l_q1z @l_q1s @l_q1r

theorem right_T_q20 : Right Tryz.prog C_q20 := (right_add (right_add (right_add right_G0 call_q1z sound_q1z) call_q1s sound_q1s) call_q1r sound_q1r)

abbrev cuts_q20 : Cuts := []

abbrev k0_q20 {R : Type} (K : AV -> List O -> Option R) : Bool -> Option R := fun r0 => K (.v (.bool r0)) []

theorem gentry_q20 {a0 : LT_q1z} {a1 : LT_q1s} {a2 : LT_q1r} {R : Type} (K : AV -> List O -> Option R) (r : Int) (r_1 : List Int) (r_2 r_3 r_4 r_5 : Int) (r_6 r_7 : List Int) (r_8 : Int) (r_9 r_10 : List Int) (m m_1 m_2 m_3 : Int) (m_4 m_5 : List Int) :
  fnRun Tryz.prog (T_q20 @a0 @a1 @a2) cuts_q20 Tryz.f150 0 [.agg [iv r, ri 3 r_1, iv r_2, iv r_3, iv r_4, iv r_5, ri 3 r_6, ri 3 r_7, iv r_8, ri 3 r_9, ri 3 r_10], .agg [iv m, iv m_1, iv m_2, iv m_3, ri 3 m_4, ri 3 m_5]] [] K =
  gl_q20 @a0 @a1 @a2 r r_1 r_2 r_3 r_4 r_5 r_6 r_7 r_8 r_9 r_10 m m_1 m_2 m_3 m_4 m_5 (k0_q20 K) := by kernel_rfl

def S_q20 (l_q20 : LT_q20) : Sum := ⟨[], fun {R} args ob K => match args, ob with
 |[.agg [.v (.int .i64 r), .rd ⟨false, 3, (.int .i64), r_1⟩, .v (.int .i64 r_2), .v (.int .i64 r_3), .v (.int .i64 r_4), .v (.int .i64 r_5), .rd ⟨false, 3, (.int .i64), r_6⟩, .rd ⟨false, 3, (.int .i64), r_7⟩, .v (.int .i64 r_8), .rd ⟨false, 3, (.int .i64), r_9⟩, .rd ⟨false, 3, (.int .i64), r_10⟩], .agg [.v (.int .i64 m), .v (.int .i64 m_1), .v (.int .i64 m_2), .v (.int .i64 m_3), .rd ⟨false, 3, (.int .i64), m_4⟩, .rd ⟨false, 3, (.int .i64), m_5⟩]], [] => l_q20 r r_1 r_2 r_3 r_4 r_5 r_6 r_7 r_8 r_9 r_10 m m_1 m_2 m_3 m_4 m_5 (k0_q20 K)
 |_, _ => none⟩

theorem sound_q20 : Sound Tryz.prog 150 (S_q20 @l_q20) := by
 refine fn_sound (cuts := cuts_q20) (fn := Tryz.f150) (Γ := C_q20) wide right_T_q20 Tryz.func150 fun {R} K r args ob h => ?_
 unfold S_q20 at h
 dsimp only at h
 split at h
 ·exact ⟨Nat.le_of_ble_eq_true (by kernel_rfl), 0, (gentry_q20 K _ _ _ _ _ _ _ _ _ _ _ _ _ _ _ _ _).trans h⟩
 ·cases h

theorem call_q20 : Callable Tryz.prog 150 := ⟨_, Tryz.func150, by kernel_rfl, by kernel_rfl⟩

def T_q21 (a0 : LT_qt) (a1 : LT_q1p) (a2 : LT_qs) (a3 : LT_q1b) (a4 : LT_q1t) (a5 : LT_q20) (a6 : LT_qd) : FuncId -> Option Sum := (addS (addS (addS (addS (addS (addS G0 54 (S_qt @a0 @a1)) 53 (S_qs @a2)) 12 (S_q1b @a3)) 145 (S_q1t @a4)) 150 (S_q20 @a5)) 34 (S_qd @a6))

abbrev C_q21 : FuncId -> Option Sum := T_q21 @l_qt @l_q1p @l_qs @l_q1b @l_q1t @l_q20 @l_qd

theorem right_T_q21 : Right Tryz.prog C_q21 := (right_add (right_add (right_add (right_add (right_add (right_add right_G0 call_qt sound_qt) call_qs sound_qs) call_q1b sound_q1b) call_q1t sound_q1t) call_q20 sound_q20) call_qd sound_qd)

abbrev cuts_q21 : Cuts := [(11, [2, 3, 38, 39, 40])]

abbrev k0_q21 {R : Type} (K : AV -> List O -> Option R) : Int -> Bool -> Int -> Option R := fun r0 r1 r2 => K (.tup [iv r0, .v (.bool r1), iv r2]) []

abbrev sta_q21_11 (x38 : List Ent) (x39 x40 o0 o0_1 o0_2 : Int) (o0_3 : List Ent) (o1 o1_1 o1_2 o1_3 : Int) (o1_4 o1_5 : List Int) : St := ⟨fr0 55 [(2, .ptr 0 0), (3, .ptr 1 0), (38, .rd ⟨false, 53, (.pr (.pr (.int .i64) (.pr (.sl 3 (.int .i64)) (.pr (.int .i64) (.pr (.int .i64) (.pr (.int .i64) (.pr (.int .i64) (.pr (.sl 3 (.int .i64)) (.sl 3 (.int .i64))))))))) (.pr (.int .i64) (.pr (.sl 3 (.int .i64)) (.sl 3 (.int .i64))))), x38⟩), (39, iv x39), (40, iv x40)], [.box 24 [iv o0, iv o0_1, iv o0_2, .rd ⟨false, 53, (.pr (.pr (.int .i64) (.pr (.sl 3 (.int .i64)) (.pr (.int .i64) (.pr (.int .i64) (.pr (.int .i64) (.pr (.int .i64) (.pr (.sl 3 (.int .i64)) (.sl 3 (.int .i64))))))))) (.pr (.int .i64) (.pr (.sl 3 (.int .i64)) (.sl 3 (.int .i64))))), o0_3⟩], .box 47 [iv o1, iv o1_1, iv o1_2, iv o1_3, ri 3 o1_4, ri 3 o1_5]]⟩

abbrev gt_q21_11 {R : Type} (g : List Item -> St -> Option R) : GT_q21_11 R := fun (x38 : List Ent) (x39 x40 o0 o0_1 o0_2 : Int) (o0_3 : List Ent) (o1 o1_1 o1_2 o1_3 : Int) (o1_4 o1_5 : List Int) => g (at' Tryz.f27 11) (sta_q21_11 x38 x39 x40 o0 o0_1 o0_2 o0_3 o1 o1_1 o1_2 o1_3 o1_4 o1_5)

theorem gstep_q21_11 {a0 : LT_qt} {a1 : LT_q1p} {a2 : LT_qs} {a3 : LT_q1b} {a4 : LT_q1t} {a5 : LT_q20} {a6 : LT_qd} {R : Type} (g : List Item -> St -> Option R) (K : AV -> List O -> Option R) (x38 : List Ent) (x39 x40 o0 o0_1 o0_2 : Int) (o0_3 : List Ent) (o1 o1_1 o1_2 o1_3 : Int) (o1_4 o1_5 : List Int) :
  runSeg Tryz.prog (T_q21 @a0 @a1 @a2 @a3 @a4 @a5 @a6) cuts_q21 0 g (finish Tryz.prog Tryz.f27 0 K) (at' Tryz.f27 11) (sta_q21_11 x38 x39 x40 o0 o0_1 o0_2 o0_3 o1 o1_1 o1_2 o1_3 o1_4 o1_5) =
  gs_q21_11 @a1 @a2 @a3 @a4 @a5 @a6 (gt_q21_11 g) (k0_q21 K) x38 x39 x40 o0 o0_1 o0_2 o0_3 o1 o1_1 o1_2 o1_3 o1_4 o1_5 := by kernel_rfl

theorem gentry_q21 {a0 : LT_qt} {a1 : LT_q1p} {a2 : LT_qs} {a3 : LT_q1b} {a4 : LT_q1t} {a5 : LT_q20} {a6 : LT_qd} {R : Type} (fuel : Nat) (K : AV -> List O -> Option R) (l l_1 l_2 : Int) (l_3 : List Ent) (m m_1 m_2 m_3 : Int) (m_4 m_5 : List Int) :
  fnRun Tryz.prog (T_q21 @a0 @a1 @a2 @a3 @a4 @a5 @a6) cuts_q21 Tryz.f27 fuel [.agg [iv l, iv l_1, iv l_2, .rd ⟨false, 53, (.pr (.pr (.int .i64) (.pr (.sl 3 (.int .i64)) (.pr (.int .i64) (.pr (.int .i64) (.pr (.int .i64) (.pr (.int .i64) (.pr (.sl 3 (.int .i64)) (.sl 3 (.int .i64))))))))) (.pr (.int .i64) (.pr (.sl 3 (.int .i64)) (.sl 3 (.int .i64))))), l_3⟩], .agg [iv m, iv m_1, iv m_2, iv m_3, ri 3 m_4, ri 3 m_5]] [] K =
  ge_q21 @a1 @a2 @a3 @a4 @a5 @a6 (gt_q21_11 (runO Tryz.prog (T_q21 @a0 @a1 @a2 @a3 @a4 @a5 @a6) cuts_q21 0 (finish Tryz.prog Tryz.f27 0 K) fuel)) (k0_q21 K) l l_1 l_2 l_3 m m_1 m_2 m_3 m_4 m_5 := by kernel_rfl

theorem runs_q21 {R : Type} (K : AV -> List O -> Option R) : ∀ fuel : Nat,
  (gt_q21_11 (runO Tryz.prog C_q21 cuts_q21 0 (finish Tryz.prog Tryz.f27 0 K) fuel)) = (run_q21 (k0_q21 K) fuel)
 |0 => rfl
 |fuel + 1 => by
  have ih := runs_q21 K fuel
  funext x38 x39 x40 o0 o0_1 o0_2 o0_3 o1 o1_1 o1_2 o1_3 o1_4 o1_5
  refine (gstep_q21_11 _ K x38 x39 x40 o0 o0_1 o0_2 o0_3 o1 o1_1 o1_2 o1_3 o1_4 o1_5).trans ?_
  rw [ih]
  rfl

def S_q21 (l_q21 : LT_q21) : Sum := ⟨[], fun {R} args ob K => match args, ob with
 |[.agg [.v (.int .i64 l), .v (.int .i64 l_1), .v (.int .i64 l_2), .rd ⟨false, 53, (.pr (.pr (.int .i64) (.pr (.sl 3 (.int .i64)) (.pr (.int .i64) (.pr (.int .i64) (.pr (.int .i64) (.pr (.int .i64) (.pr (.sl 3 (.int .i64)) (.sl 3 (.int .i64))))))))) (.pr (.int .i64) (.pr (.sl 3 (.int .i64)) (.sl 3 (.int .i64))))), l_3⟩], .agg [.v (.int .i64 m), .v (.int .i64 m_1), .v (.int .i64 m_2), .v (.int .i64 m_3), .rd ⟨false, 3, (.int .i64), m_4⟩, .rd ⟨false, 3, (.int .i64), m_5⟩]], [] => l_q21 l l_1 l_2 l_3 m m_1 m_2 m_3 m_4 m_5 (k0_q21 K)
 |_, _ => none⟩

theorem sound_q21 : Sound Tryz.prog 27 (S_q21 @l_q21) := by
 refine fn_sound (cuts := cuts_q21) (fn := Tryz.f27) (Γ := C_q21) wide right_T_q21 Tryz.func27 fun {R} K r args ob h => ?_
 unfold S_q21 at h
 dsimp only at h
 split at h
 ·obtain ⟨n, hn⟩ := evl_ok h
  refine ⟨Nat.le_of_ble_eq_true (by kernel_rfl), n, (gentry_q21 n K _ _ _ _ _ _ _ _ _ _).trans ?_⟩
  rw [(runs_q21 K n)]
  exact hn
 ·cases h

theorem call_q21 : Callable Tryz.prog 27 := ⟨_, Tryz.func27, by kernel_rfl, by kernel_rfl⟩

def T_q22 : FuncId -> Option Sum := G0

theorem right_T_q22 : Right Tryz.prog T_q22 := right_G0

abbrev cuts_q22 : Cuts := [(6, [0, 1, 6])]

abbrev k0_q22 {R : Type} (K : AV -> List O -> Option R) : Int -> Int -> Option R := fun r0 r1 => K (.tup [iv r0, iv r1]) []

abbrev sta_q22_6 (w : List Int) (k i : Int) : St := ⟨fr0 36 [(0, ri 3 w), (1, iv k), (6, iv i)], []⟩

abbrev gt_q22_6 {R : Type} (g : List Item -> St -> Option R) : GT_q22_6 R := fun (w : List Int) (k i : Int) => g (at' Tryz.f57 6) (sta_q22_6 w k i)

theorem gstep_q22_6 {R : Type} (g : List Item -> St -> Option R) (K : AV -> List O -> Option R) (w : List Int) (k i : Int) :
  runSeg Tryz.prog T_q22 cuts_q22 0 g (finish Tryz.prog Tryz.f57 0 K) (at' Tryz.f57 6) (sta_q22_6 w k i) =
  s_q22_6 (gt_q22_6 g) (k0_q22 K) w k i := by kernel_rfl

theorem gentry_q22 {R : Type} (fuel : Nat) (K : AV -> List O -> Option R) (w : List Int) (k : Int) :
  fnRun Tryz.prog T_q22 cuts_q22 Tryz.f57 fuel [ri 3 w, iv k] [] K =
  e_q22 (gt_q22_6 (runO Tryz.prog T_q22 cuts_q22 0 (finish Tryz.prog Tryz.f57 0 K) fuel)) (k0_q22 K) w k := by kernel_rfl

theorem runs_q22 {R : Type} (K : AV -> List O -> Option R) : ∀ fuel : Nat,
  (gt_q22_6 (runO Tryz.prog T_q22 cuts_q22 0 (finish Tryz.prog Tryz.f57 0 K) fuel)) = (run_q22 (k0_q22 K) fuel)
 |0 => rfl
 |fuel + 1 => by
  have ih := runs_q22 K fuel
  funext w k i
  refine (gstep_q22_6 _ K w k i).trans ?_
  rw [ih]
  rfl

def S_q22 (l_q22 : LT_q22) : Sum := ⟨[], fun {R} args ob K => match args, ob with
 |[.rd ⟨false, 3, (.int .i64), w⟩, .v (.int .i64 k)], [] => l_q22 w k (k0_q22 K)
 |_, _ => none⟩

theorem sound_q22 : Sound Tryz.prog 57 (S_q22 @l_q22) := by
 refine fn_sound (cuts := cuts_q22) (fn := Tryz.f57) (Γ := T_q22) wide right_T_q22 Tryz.func57 fun {R} K r args ob h => ?_
 unfold S_q22 at h
 dsimp only at h
 split at h
 ·obtain ⟨n, hn⟩ := ok_q22 _ _ _ h
  refine ⟨Nat.le_of_ble_eq_true (by kernel_rfl), n, (gentry_q22 n K _ _).trans ?_⟩
  rw [(runs_q22 K n)]
  exact hn
 ·cases h

theorem call_q22 : Callable Tryz.prog 57 := ⟨_, Tryz.func57, by kernel_rfl, by kernel_rfl⟩

def T_q23 (a0 : LT_q22) : FuncId -> Option Sum := (addS G0 57 (S_q22 @a0))

abbrev C_q23 : FuncId -> Option Sum := T_q23 @l_q22

theorem right_T_q23 : Right Tryz.prog C_q23 := (right_add right_G0 call_q22 sound_q22)

abbrev cuts_q23 : Cuts := [(14, [3, 8, 9])]

abbrev k0_q23 {R : Type} (K : AV -> List O -> Option R) : Int -> Option R := fun r0 => K (iv r0) []

abbrev sta_q23_14 (most i o0 : Int) (o0_1 o0_2 : List Int) : St := ⟨fr0 114 [(3, .ptr 0 0), (8, iv most), (9, iv i)], [.box 51 [iv o0, ri 3 o0_1, ri 3 o0_2]]⟩

abbrev gt_q23_14 {R : Type} (g : List Item -> St -> Option R) : GT_q23_14 R := fun (most i o0 : Int) (o0_1 o0_2 : List Int) => g (at' Tryz.f58 14) (sta_q23_14 most i o0 o0_1 o0_2)

theorem gstep_q23_14 {a0 : LT_q22} {R : Type} (g : List Item -> St -> Option R) (K : AV -> List O -> Option R) (most i o0 : Int) (o0_1 o0_2 : List Int) :
  runSeg Tryz.prog (T_q23 @a0) cuts_q23 0 g (finish Tryz.prog Tryz.f58 0 K) (at' Tryz.f58 14) (sta_q23_14 most i o0 o0_1 o0_2) =
  gs_q23_14 @a0 (gt_q23_14 g) (k0_q23 K) most i o0 o0_1 o0_2 := by kernel_rfl

theorem gentry_q23 {a0 : LT_q22} {R : Type} (fuel : Nat) (K : AV -> List O -> Option R) (q : Int) (q_1 : List Int) (q_2 q_3 q_4 q_5 : Int) (q_6 q_7 : List Int) (a : Int) (a_1 a_2 : List Int) :
  fnRun Tryz.prog (T_q23 @a0) cuts_q23 Tryz.f58 fuel [.agg [iv q, ri 3 q_1, iv q_2, iv q_3, iv q_4, iv q_5, ri 3 q_6, ri 3 q_7], .agg [iv a, ri 3 a_1, ri 3 a_2]] [] K =
  ge_q23 @a0 (gt_q23_14 (runO Tryz.prog (T_q23 @a0) cuts_q23 0 (finish Tryz.prog Tryz.f58 0 K) fuel)) (k0_q23 K) q q_1 q_2 q_3 q_4 q_5 q_6 q_7 a a_1 a_2 := by kernel_rfl

theorem runs_q23 {R : Type} (K : AV -> List O -> Option R) : ∀ fuel : Nat,
  (gt_q23_14 (runO Tryz.prog C_q23 cuts_q23 0 (finish Tryz.prog Tryz.f58 0 K) fuel)) = (run_q23 (k0_q23 K) fuel)
 |0 => rfl
 |fuel + 1 => by
  have ih := runs_q23 K fuel
  funext most i o0 o0_1 o0_2
  refine (gstep_q23_14 _ K most i o0 o0_1 o0_2).trans ?_
  rw [ih]
  rfl

def S_q23 (l_q23 : LT_q23) : Sum := ⟨[], fun {R} args ob K => match args, ob with
 |[.agg [.v (.int .i64 q), .rd ⟨false, 3, (.int .i64), q_1⟩, .v (.int .i64 q_2), .v (.int .i64 q_3), .v (.int .i64 q_4), .v (.int .i64 q_5), .rd ⟨false, 3, (.int .i64), q_6⟩, .rd ⟨false, 3, (.int .i64), q_7⟩], .agg [.v (.int .i64 a), .rd ⟨false, 3, (.int .i64), a_1⟩, .rd ⟨false, 3, (.int .i64), a_2⟩]], [] => l_q23 q q_1 q_2 q_3 q_4 q_5 q_6 q_7 a a_1 a_2 (k0_q23 K)
 |_, _ => none⟩

theorem sound_q23 : Sound Tryz.prog 58 (S_q23 @l_q23) := by
 refine fn_sound (cuts := cuts_q23) (fn := Tryz.f58) (Γ := C_q23) wide right_T_q23 Tryz.func58 fun {R} K r args ob h => ?_
 unfold S_q23 at h
 dsimp only at h
 split at h
 ·obtain ⟨n, hn⟩ := ok_q23 _ _ _ _ _ _ _ _ _ _ _ _ h
  refine ⟨Nat.le_of_ble_eq_true (by kernel_rfl), n, (gentry_q23 n K _ _ _ _ _ _ _ _ _ _ _).trans ?_⟩
  rw [(runs_q23 K n)]
  exact hn
 ·cases h

theorem call_q23 : Callable Tryz.prog 58 := ⟨_, Tryz.func58, by kernel_rfl, by kernel_rfl⟩

def T_q24 : FuncId -> Option Sum := G0

theorem right_T_q24 : Right Tryz.prog T_q24 := right_G0

abbrev cuts_q24 : Cuts := [(15, [1, 5]), (20, [1, 6])]

abbrev k0_q24 {R : Type} (K : AV -> List O -> Option R) : Int -> Int -> Option R := fun r0 r1 => K (.tup [iv r0, iv r1]) []

abbrev sta_q24_15 (i o0 o0_1 o0_2 o0_3 : Int) (o0_4 o0_5 : List Int) : St := ⟨fr0 123 [(1, .ptr 0 0), (5, iv i)], [.box 47 [iv o0, iv o0_1, iv o0_2, iv o0_3, ri 3 o0_4, ri 3 o0_5]]⟩

abbrev gt_q24_15 {R : Type} (g : List Item -> St -> Option R) : GT_q24_15 R := fun (i o0 o0_1 o0_2 o0_3 : Int) (o0_4 o0_5 : List Int) => g (at' Tryz.f50 15) (sta_q24_15 i o0 o0_1 o0_2 o0_3 o0_4 o0_5)

abbrev sta_q24_20 (i o0 o0_1 o0_2 o0_3 : Int) (o0_4 o0_5 : List Int) : St := ⟨fr0 123 [(1, .ptr 0 0), (6, iv i)], [.box 47 [iv o0, iv o0_1, iv o0_2, iv o0_3, ri 3 o0_4, ri 3 o0_5]]⟩

abbrev gt_q24_20 {R : Type} (g : List Item -> St -> Option R) : GT_q24_20 R := fun (i o0 o0_1 o0_2 o0_3 : Int) (o0_4 o0_5 : List Int) => g (at' Tryz.f50 20) (sta_q24_20 i o0 o0_1 o0_2 o0_3 o0_4 o0_5)

theorem gstep_q24_15 {R : Type} (g : List Item -> St -> Option R) (K : AV -> List O -> Option R) (i o0 o0_1 o0_2 o0_3 : Int) (o0_4 o0_5 : List Int) :
  runSeg Tryz.prog T_q24 cuts_q24 0 g (finish Tryz.prog Tryz.f50 0 K) (at' Tryz.f50 15) (sta_q24_15 i o0 o0_1 o0_2 o0_3 o0_4 o0_5) =
  s_q24_15 (gt_q24_15 g) (gt_q24_20 g) (k0_q24 K) i o0 o0_1 o0_2 o0_3 o0_4 o0_5 := by kernel_rfl

theorem gstep_q24_20 {R : Type} (g : List Item -> St -> Option R) (K : AV -> List O -> Option R) (i o0 o0_1 o0_2 o0_3 : Int) (o0_4 o0_5 : List Int) :
  runSeg Tryz.prog T_q24 cuts_q24 0 g (finish Tryz.prog Tryz.f50 0 K) (at' Tryz.f50 20) (sta_q24_20 i o0 o0_1 o0_2 o0_3 o0_4 o0_5) =
  s_q24_20 (gt_q24_15 g) (gt_q24_20 g) (k0_q24 K) i o0 o0_1 o0_2 o0_3 o0_4 o0_5 := by kernel_rfl

theorem gentry_q24 {R : Type} (fuel : Nat) (K : AV -> List O -> Option R) (m m_1 m_2 m_3 : Int) (m_4 m_5 : List Int) :
  fnRun Tryz.prog T_q24 cuts_q24 Tryz.f50 fuel [.agg [iv m, iv m_1, iv m_2, iv m_3, ri 3 m_4, ri 3 m_5]] [] K =
  e_q24 (gt_q24_15 (runO Tryz.prog T_q24 cuts_q24 0 (finish Tryz.prog Tryz.f50 0 K) fuel)) (gt_q24_20 (runO Tryz.prog T_q24 cuts_q24 0 (finish Tryz.prog Tryz.f50 0 K) fuel)) (k0_q24 K) m m_1 m_2 m_3 m_4 m_5 := by kernel_rfl

theorem runs_q24 {R : Type} (K : AV -> List O -> Option R) : ∀ fuel : Nat,
  (gt_q24_15 (runO Tryz.prog T_q24 cuts_q24 0 (finish Tryz.prog Tryz.f50 0 K) fuel)) = (run_q24 (k0_q24 K) fuel).1 ∧
  (gt_q24_20 (runO Tryz.prog T_q24 cuts_q24 0 (finish Tryz.prog Tryz.f50 0 K) fuel)) = (run_q24 (k0_q24 K) fuel).2
 |0 => ⟨rfl, rfl⟩
 |fuel + 1 => by
  have ih := runs_q24 K fuel
  refine ⟨?_, ?_⟩
  ·funext i o0 o0_1 o0_2 o0_3 o0_4 o0_5
   refine (gstep_q24_15 _ K i o0 o0_1 o0_2 o0_3 o0_4 o0_5).trans ?_
   rw [ih.1, ih.2]
   rfl
  ·funext i o0 o0_1 o0_2 o0_3 o0_4 o0_5
   refine (gstep_q24_20 _ K i o0 o0_1 o0_2 o0_3 o0_4 o0_5).trans ?_
   rw [ih.1, ih.2]
   rfl

def S_q24 (l_q24 : LT_q24) : Sum := ⟨[], fun {R} args ob K => match args, ob with
 |[.agg [.v (.int .i64 m), .v (.int .i64 m_1), .v (.int .i64 m_2), .v (.int .i64 m_3), .rd ⟨false, 3, (.int .i64), m_4⟩, .rd ⟨false, 3, (.int .i64), m_5⟩]], [] => l_q24 m m_1 m_2 m_3 m_4 m_5 (k0_q24 K)
 |_, _ => none⟩

theorem sound_q24 : Sound Tryz.prog 50 (S_q24 @l_q24) := by
 refine fn_sound (cuts := cuts_q24) (fn := Tryz.f50) (Γ := T_q24) wide right_T_q24 Tryz.func50 fun {R} K r args ob h => ?_
 unfold S_q24 at h
 dsimp only at h
 split at h
 ·obtain ⟨n, hn⟩ := ok_q24 _ _ _ _ _ _ _ h
  refine ⟨Nat.le_of_ble_eq_true (by kernel_rfl), n, (gentry_q24 n K _ _ _ _ _ _).trans ?_⟩
  rw [(runs_q24 K n).1, (runs_q24 K n).2]
  exact hn
 ·cases h

theorem call_q24 : Callable Tryz.prog 50 := ⟨_, Tryz.func50, by kernel_rfl, by kernel_rfl⟩

def T_q25 : FuncId -> Option Sum := G0

theorem right_T_q25 : Right Tryz.prog T_q25 := right_G0

abbrev cuts_q25 : Cuts := []

abbrev k0_q25 {R : Type} (K : AV -> List O -> Option R) : Int -> Option R := fun r0 => K (iv r0) []

theorem gentry_q25 {R : Type} (K : AV -> List O -> Option R) (l l_1 l_2 : Int) (l_3 : List Ent) (m m_1 m_2 m_3 : Int) (m_4 m_5 : List Int) :
  fnRun Tryz.prog T_q25 cuts_q25 Tryz.f55 0 [.agg [iv l, iv l_1, iv l_2, .rd ⟨false, 53, (.pr (.pr (.int .i64) (.pr (.sl 3 (.int .i64)) (.pr (.int .i64) (.pr (.int .i64) (.pr (.int .i64) (.pr (.int .i64) (.pr (.sl 3 (.int .i64)) (.sl 3 (.int .i64))))))))) (.pr (.int .i64) (.pr (.sl 3 (.int .i64)) (.sl 3 (.int .i64))))), l_3⟩], .agg [iv m, iv m_1, iv m_2, iv m_3, ri 3 m_4, ri 3 m_5]] [] K =
  l_q25 l l_1 l_2 l_3 m m_1 m_2 m_3 m_4 m_5 (k0_q25 K) := by kernel_rfl

def S_q25 (l_q25 : LT_q25) : Sum := ⟨[], fun {R} args ob K => match args, ob with
 |[.agg [.v (.int .i64 l), .v (.int .i64 l_1), .v (.int .i64 l_2), .rd ⟨false, 53, (.pr (.pr (.int .i64) (.pr (.sl 3 (.int .i64)) (.pr (.int .i64) (.pr (.int .i64) (.pr (.int .i64) (.pr (.int .i64) (.pr (.sl 3 (.int .i64)) (.sl 3 (.int .i64))))))))) (.pr (.int .i64) (.pr (.sl 3 (.int .i64)) (.sl 3 (.int .i64))))), l_3⟩], .agg [.v (.int .i64 m), .v (.int .i64 m_1), .v (.int .i64 m_2), .v (.int .i64 m_3), .rd ⟨false, 3, (.int .i64), m_4⟩, .rd ⟨false, 3, (.int .i64), m_5⟩]], [] => l_q25 l l_1 l_2 l_3 m m_1 m_2 m_3 m_4 m_5 (k0_q25 K)
 |_, _ => none⟩

theorem sound_q25 : Sound Tryz.prog 55 (S_q25 @l_q25) := by
 refine fn_sound (cuts := cuts_q25) (fn := Tryz.f55) (Γ := T_q25) wide right_T_q25 Tryz.func55 fun {R} K r args ob h => ?_
 unfold S_q25 at h
 dsimp only at h
 split at h
 ·exact ⟨Nat.le_of_ble_eq_true (by kernel_rfl), 0, (gentry_q25 K _ _ _ _ _ _ _ _ _ _).trans h⟩
 ·cases h

theorem call_q25 : Callable Tryz.prog 55 := ⟨_, Tryz.func55, by kernel_rfl, by kernel_rfl⟩

def T_q26 (a0 : LT_q23) (a1 : LT_q22) (a2 : LT_q25) (a3 : LT_q24) : FuncId -> Option Sum := (addS (addS (addS (addS G0 58 (S_q23 @a0)) 57 (S_q22 @a1)) 55 (S_q25 @a2)) 50 (S_q24 @a3))

abbrev C_q26 : FuncId -> Option Sum := T_q26 @l_q23 @l_q22 @l_q25 @l_q24

theorem right_T_q26 : Right Tryz.prog C_q26 := (right_add (right_add (right_add (right_add right_G0 call_q23 sound_q23) call_q22 sound_q22) call_q25 sound_q25) call_q24 sound_q24)

abbrev cuts_q26 : Cuts := []

abbrev k0_q26 {R : Type} (K : AV -> List O -> Option R) : Int -> Option R := fun r0 => K (iv r0) []

theorem gentry_q26 {a0 : LT_q23} {a1 : LT_q22} {a2 : LT_q25} {a3 : LT_q24} {R : Type} (K : AV -> List O -> Option R) (l l_1 l_2 : Int) (l_3 : List Ent) (x : Int) (x_1 : List Int) (x_2 x_3 x_4 x_5 : Int) (x_6 x_7 : List Int) (x_8 : Int) (x_9 x_10 : List Int) :
  fnRun Tryz.prog (T_q26 @a0 @a1 @a2 @a3) cuts_q26 Tryz.f35 0 [.agg [iv l, iv l_1, iv l_2, .rd ⟨false, 53, (.pr (.pr (.int .i64) (.pr (.sl 3 (.int .i64)) (.pr (.int .i64) (.pr (.int .i64) (.pr (.int .i64) (.pr (.int .i64) (.pr (.sl 3 (.int .i64)) (.sl 3 (.int .i64))))))))) (.pr (.int .i64) (.pr (.sl 3 (.int .i64)) (.sl 3 (.int .i64))))), l_3⟩], .agg [iv x, ri 3 x_1, iv x_2, iv x_3, iv x_4, iv x_5, ri 3 x_6, ri 3 x_7, iv x_8, ri 3 x_9, ri 3 x_10]] [] K =
  gl_q26 @a0 @a1 @a2 @a3 l l_1 l_2 l_3 x x_1 x_2 x_3 x_4 x_5 x_6 x_7 x_8 x_9 x_10 (k0_q26 K) := by kernel_rfl

def S_q26 (l_q26 : LT_q26) : Sum := ⟨[], fun {R} args ob K => match args, ob with
 |[.agg [.v (.int .i64 l), .v (.int .i64 l_1), .v (.int .i64 l_2), .rd ⟨false, 53, (.pr (.pr (.int .i64) (.pr (.sl 3 (.int .i64)) (.pr (.int .i64) (.pr (.int .i64) (.pr (.int .i64) (.pr (.int .i64) (.pr (.sl 3 (.int .i64)) (.sl 3 (.int .i64))))))))) (.pr (.int .i64) (.pr (.sl 3 (.int .i64)) (.sl 3 (.int .i64))))), l_3⟩], .agg [.v (.int .i64 x), .rd ⟨false, 3, (.int .i64), x_1⟩, .v (.int .i64 x_2), .v (.int .i64 x_3), .v (.int .i64 x_4), .v (.int .i64 x_5), .rd ⟨false, 3, (.int .i64), x_6⟩, .rd ⟨false, 3, (.int .i64), x_7⟩, .v (.int .i64 x_8), .rd ⟨false, 3, (.int .i64), x_9⟩, .rd ⟨false, 3, (.int .i64), x_10⟩]], [] => l_q26 l l_1 l_2 l_3 x x_1 x_2 x_3 x_4 x_5 x_6 x_7 x_8 x_9 x_10 (k0_q26 K)
 |_, _ => none⟩

theorem sound_q26 : Sound Tryz.prog 35 (S_q26 @l_q26) := by
 refine fn_sound (cuts := cuts_q26) (fn := Tryz.f35) (Γ := C_q26) wide right_T_q26 Tryz.func35 fun {R} K r args ob h => ?_
 unfold S_q26 at h
 dsimp only at h
 split at h
 ·exact ⟨Nat.le_of_ble_eq_true (by kernel_rfl), 0, (gentry_q26 K _ _ _ _ _ _ _ _ _ _ _ _ _ _ _).trans h⟩
 ·cases h

theorem call_q26 : Callable Tryz.prog 35 := ⟨_, Tryz.func35, by kernel_rfl, by kernel_rfl⟩

def T_q27 (a0 : LT_q26) : FuncId -> Option Sum := (addS G0 35 (S_q26 @a0))

abbrev C_q27 : FuncId -> Option Sum := T_q27 @l_q26

theorem right_T_q27 : Right Tryz.prog C_q27 := (right_add right_G0 call_q26 sound_q26)

abbrev cuts_q27 : Cuts := [(10, [1, 4])]

abbrev k0_q27 {R : Type} (K : AV -> List O -> Option R) : Int -> Int -> Option R := fun r0 r1 => K (.tup [iv r0, iv r1]) []

abbrev sta_q27_10 (i o0 o0_1 o0_2 : Int) (o0_3 : List Ent) : St := ⟨fr0 65 [(1, .ptr 0 0), (4, iv i)], [.box 24 [iv o0, iv o0_1, iv o0_2, .rd ⟨false, 53, (.pr (.pr (.int .i64) (.pr (.sl 3 (.int .i64)) (.pr (.int .i64) (.pr (.int .i64) (.pr (.int .i64) (.pr (.int .i64) (.pr (.sl 3 (.int .i64)) (.sl 3 (.int .i64))))))))) (.pr (.int .i64) (.pr (.sl 3 (.int .i64)) (.sl 3 (.int .i64))))), o0_3⟩]]⟩

abbrev gt_q27_10 {R : Type} (g : List Item -> St -> Option R) : GT_q27_10 R := fun (i o0 o0_1 o0_2 : Int) (o0_3 : List Ent) => g (at' Tryz.f13 10) (sta_q27_10 i o0 o0_1 o0_2 o0_3)

theorem gstep_q27_10 {a0 : LT_q26} {R : Type} (g : List Item -> St -> Option R) (K : AV -> List O -> Option R) (i o0 o0_1 o0_2 : Int) (o0_3 : List Ent) :
  runSeg Tryz.prog (T_q27 @a0) cuts_q27 0 g (finish Tryz.prog Tryz.f13 0 K) (at' Tryz.f13 10) (sta_q27_10 i o0 o0_1 o0_2 o0_3) =
  gs_q27_10 @a0 (gt_q27_10 g) (k0_q27 K) i o0 o0_1 o0_2 o0_3 := by kernel_rfl

theorem gentry_q27 {a0 : LT_q26} {R : Type} (fuel : Nat) (K : AV -> List O -> Option R) (l l_1 l_2 : Int) (l_3 : List Ent) :
  fnRun Tryz.prog (T_q27 @a0) cuts_q27 Tryz.f13 fuel [.agg [iv l, iv l_1, iv l_2, .rd ⟨false, 53, (.pr (.pr (.int .i64) (.pr (.sl 3 (.int .i64)) (.pr (.int .i64) (.pr (.int .i64) (.pr (.int .i64) (.pr (.int .i64) (.pr (.sl 3 (.int .i64)) (.sl 3 (.int .i64))))))))) (.pr (.int .i64) (.pr (.sl 3 (.int .i64)) (.sl 3 (.int .i64))))), l_3⟩]] [] K =
  ge_q27 @a0 (gt_q27_10 (runO Tryz.prog (T_q27 @a0) cuts_q27 0 (finish Tryz.prog Tryz.f13 0 K) fuel)) (k0_q27 K) l l_1 l_2 l_3 := by kernel_rfl

theorem runs_q27 {R : Type} (K : AV -> List O -> Option R) : ∀ fuel : Nat,
  (gt_q27_10 (runO Tryz.prog C_q27 cuts_q27 0 (finish Tryz.prog Tryz.f13 0 K) fuel)) = (run_q27 (k0_q27 K) fuel)
 |0 => rfl
 |fuel + 1 => by
  have ih := runs_q27 K fuel
  funext i o0 o0_1 o0_2 o0_3
  refine (gstep_q27_10 _ K i o0 o0_1 o0_2 o0_3).trans ?_
  rw [ih]
  rfl

def S_q27 (l_q27 : LT_q27) : Sum := ⟨[], fun {R} args ob K => match args, ob with
 |[.agg [.v (.int .i64 l), .v (.int .i64 l_1), .v (.int .i64 l_2), .rd ⟨false, 53, (.pr (.pr (.int .i64) (.pr (.sl 3 (.int .i64)) (.pr (.int .i64) (.pr (.int .i64) (.pr (.int .i64) (.pr (.int .i64) (.pr (.sl 3 (.int .i64)) (.sl 3 (.int .i64))))))))) (.pr (.int .i64) (.pr (.sl 3 (.int .i64)) (.sl 3 (.int .i64))))), l_3⟩]], [] => l_q27 l l_1 l_2 l_3 (k0_q27 K)
 |_, _ => none⟩

theorem sound_q27 : Sound Tryz.prog 13 (S_q27 @l_q27) := by
 refine fn_sound (cuts := cuts_q27) (fn := Tryz.f13) (Γ := C_q27) wide right_T_q27 Tryz.func13 fun {R} K r args ob h => ?_
 unfold S_q27 at h
 dsimp only at h
 split at h
 ·obtain ⟨n, hn⟩ := evl_ok h
  refine ⟨Nat.le_of_ble_eq_true (by kernel_rfl), n, (gentry_q27 n K _ _ _ _).trans ?_⟩
  rw [(runs_q27 K n)]
  exact hn
 ·cases h

theorem call_q27 : Callable Tryz.prog 13 := ⟨_, Tryz.func13, by kernel_rfl, by kernel_rfl⟩

def T_q28 : FuncId -> Option Sum := G0

theorem right_T_q28 : Right Tryz.prog T_q28 := right_G0

abbrev cuts_q28 : Cuts := [(3, [1, 2, 3, 8, 9])]

abbrev k0_q28 {R : Type} (K : AV -> List O -> Option R) : Int -> (List Int) -> Option R := fun r0 r1 => K (.tup [iv r0, .own 0]) [wi 3 r1]

abbrev sta_q28_3 (s : Int) (w : List Int) (i o0 o0_1 o0_2 o0_3 : Int) (o0_4 o0_5 o1 : List Int) : St := ⟨fr0 59 [(1, iv s), (2, ri 3 w), (3, .ptr 0 0), (8, .own 1), (9, iv i)], [.box 47 [iv o0, iv o0_1, iv o0_2, iv o0_3, ri 3 o0_4, ri 3 o0_5], wi 3 o1]⟩

abbrev gt_q28_3 {R : Type} (g : List Item -> St -> Option R) : GT_q28_3 R := fun (s : Int) (w : List Int) (i o0 o0_1 o0_2 o0_3 : Int) (o0_4 o0_5 o1 : List Int) => g (at' Tryz.f95 3) (sta_q28_3 s w i o0 o0_1 o0_2 o0_3 o0_4 o0_5 o1)

theorem gstep_q28_3 {R : Type} (g : List Item -> St -> Option R) (K : AV -> List O -> Option R) (s : Int) (w : List Int) (i o0 o0_1 o0_2 o0_3 : Int) (o0_4 o0_5 o1 : List Int) :
  runSeg Tryz.prog T_q28 cuts_q28 0 g (finish Tryz.prog Tryz.f95 0 K) (at' Tryz.f95 3) (sta_q28_3 s w i o0 o0_1 o0_2 o0_3 o0_4 o0_5 o1) =
  s_q28_3 (gt_q28_3 g) (k0_q28 K) s w i o0 o0_1 o0_2 o0_3 o0_4 o0_5 o1 := by kernel_rfl

theorem gentry_q28 {R : Type} (fuel : Nat) (K : AV -> List O -> Option R) (m m_1 m_2 m_3 : Int) (m_4 m_5 : List Int) (s : Int) (w : List Int) :
  fnRun Tryz.prog T_q28 cuts_q28 Tryz.f95 fuel [.agg [iv m, iv m_1, iv m_2, iv m_3, ri 3 m_4, ri 3 m_5], iv s, ri 3 w] [] K =
  e_q28 (gt_q28_3 (runO Tryz.prog T_q28 cuts_q28 0 (finish Tryz.prog Tryz.f95 0 K) fuel)) (k0_q28 K) m m_1 m_2 m_3 m_4 m_5 s w := by kernel_rfl

theorem runs_q28 {R : Type} (K : AV -> List O -> Option R) : ∀ fuel : Nat,
  (gt_q28_3 (runO Tryz.prog T_q28 cuts_q28 0 (finish Tryz.prog Tryz.f95 0 K) fuel)) = (run_q28 (k0_q28 K) fuel)
 |0 => rfl
 |fuel + 1 => by
  have ih := runs_q28 K fuel
  funext s w i o0 o0_1 o0_2 o0_3 o0_4 o0_5 o1
  refine (gstep_q28_3 _ K s w i o0 o0_1 o0_2 o0_3 o0_4 o0_5 o1).trans ?_
  rw [ih]
  rfl

def S_q28 (l_q28 : LT_q28) : Sum := ⟨[], fun {R} args ob K => match args, ob with
 |[.agg [.v (.int .i64 m), .v (.int .i64 m_1), .v (.int .i64 m_2), .v (.int .i64 m_3), .rd ⟨false, 3, (.int .i64), m_4⟩, .rd ⟨false, 3, (.int .i64), m_5⟩], .v (.int .i64 s), .rd ⟨false, 3, (.int .i64), w⟩], [] => l_q28 m m_1 m_2 m_3 m_4 m_5 s w (k0_q28 K)
 |_, _ => none⟩

theorem sound_q28 : Sound Tryz.prog 95 (S_q28 @l_q28) := by
 refine fn_sound (cuts := cuts_q28) (fn := Tryz.f95) (Γ := T_q28) wide right_T_q28 Tryz.func95 fun {R} K r args ob h => ?_
 unfold S_q28 at h
 dsimp only at h
 split at h
 ·obtain ⟨n, hn⟩ := ok_q28 _ _ _ _ _ _ _ _ _ h
  refine ⟨Nat.le_of_ble_eq_true (by kernel_rfl), n, (gentry_q28 n K _ _ _ _ _ _ _ _).trans ?_⟩
  rw [(runs_q28 K n)]
  exact hn
 ·cases h

theorem call_q28 : Callable Tryz.prog 95 := ⟨_, Tryz.func95, by kernel_rfl, by kernel_rfl⟩

def T_q29 (a0 : LT_q28) (a1 : LT_q22) (a2 : LT_q24) : FuncId -> Option Sum := (addS (addS (addS G0 95 (S_q28 @a0)) 57 (S_q22 @a1)) 50 (S_q24 @a2))

abbrev C_q29 : FuncId -> Option Sum := T_q29 @l_q28 @l_q22 @l_q24

theorem right_T_q29 : Right Tryz.prog C_q29 := (right_add (right_add (right_add right_G0 call_q28 sound_q28) call_q22 sound_q22) call_q24 sound_q24)

abbrev cuts_q29 : Cuts := []

abbrev k0_q29 {R : Type} (K : AV -> List O -> Option R) : Int -> Int -> (List Int) -> Option R := fun r0 r1 r2 => K (.tup [iv r0, .own 0, iv r1]) [wi 3 r2]

theorem gentry_q29 {a0 : LT_q28} {a1 : LT_q22} {a2 : LT_q24} {R : Type} (K : AV -> List O -> Option R) (m m_1 m_2 m_3 : Int) (m_4 m_5 : List Int) (s : Int) (w : List Int) :
  fnRun Tryz.prog (T_q29 @a0 @a1 @a2) cuts_q29 Tryz.f76 0 [.agg [iv m, iv m_1, iv m_2, iv m_3, ri 3 m_4, ri 3 m_5], iv s, ri 3 w] [] K =
  gl_q29 @a0 @a1 @a2 m m_1 m_2 m_3 m_4 m_5 s w (k0_q29 K) := by kernel_rfl

def S_q29 (l_q29 : LT_q29) : Sum := ⟨[], fun {R} args ob K => match args, ob with
 |[.agg [.v (.int .i64 m), .v (.int .i64 m_1), .v (.int .i64 m_2), .v (.int .i64 m_3), .rd ⟨false, 3, (.int .i64), m_4⟩, .rd ⟨false, 3, (.int .i64), m_5⟩], .v (.int .i64 s), .rd ⟨false, 3, (.int .i64), w⟩], [] => l_q29 m m_1 m_2 m_3 m_4 m_5 s w (k0_q29 K)
 |_, _ => none⟩

theorem sound_q29 : Sound Tryz.prog 76 (S_q29 @l_q29) := by
 refine fn_sound (cuts := cuts_q29) (fn := Tryz.f76) (Γ := C_q29) wide right_T_q29 Tryz.func76 fun {R} K r args ob h => ?_
 unfold S_q29 at h
 dsimp only at h
 split at h
 ·exact ⟨Nat.le_of_ble_eq_true (by kernel_rfl), 0, (gentry_q29 K _ _ _ _ _ _ _ _).trans h⟩
 ·cases h

theorem call_q29 : Callable Tryz.prog 76 := ⟨_, Tryz.func76, by kernel_rfl, by kernel_rfl⟩

def T_q2a (a0 : LT_q29) : FuncId -> Option Sum := (addS G0 76 (S_q29 @a0))

abbrev C_q2a : FuncId -> Option Sum := T_q2a @l_q29

theorem right_T_q2a : Right Tryz.prog C_q2a := (right_add right_G0 call_q29 sound_q29)

abbrev cuts_q2a : Cuts := []

abbrev k0_q2a {R : Type} (K : AV -> List O -> Option R) : Int -> (List Int) -> Option R := fun r0 r1 => K (.tup [.own 0, iv r0]) [wi 3 r1]

theorem gentry_q2a {a0 : LT_q29} {R : Type} (K : AV -> List O -> Option R) (m m_1 m_2 m_3 : Int) (m_4 m_5 w : List Int) :
  fnRun Tryz.prog (T_q2a @a0) cuts_q2a Tryz.f51 0 [.agg [iv m, iv m_1, iv m_2, iv m_3, ri 3 m_4, ri 3 m_5], ri 3 w] [] K =
  gl_q2a @a0 m m_1 m_2 m_3 m_4 m_5 w (k0_q2a K) := by kernel_rfl

def S_q2a (l_q2a : LT_q2a) : Sum := ⟨[], fun {R} args ob K => match args, ob with
 |[.agg [.v (.int .i64 m), .v (.int .i64 m_1), .v (.int .i64 m_2), .v (.int .i64 m_3), .rd ⟨false, 3, (.int .i64), m_4⟩, .rd ⟨false, 3, (.int .i64), m_5⟩], .rd ⟨false, 3, (.int .i64), w⟩], [] => l_q2a m m_1 m_2 m_3 m_4 m_5 w (k0_q2a K)
 |_, _ => none⟩

theorem sound_q2a : Sound Tryz.prog 51 (S_q2a @l_q2a) := by
 refine fn_sound (cuts := cuts_q2a) (fn := Tryz.f51) (Γ := C_q2a) wide right_T_q2a Tryz.func51 fun {R} K r args ob h => ?_
 unfold S_q2a at h
 dsimp only at h
 split at h
 ·exact ⟨Nat.le_of_ble_eq_true (by kernel_rfl), 0, (gentry_q2a K _ _ _ _ _ _ _).trans h⟩
 ·cases h

theorem call_q2a : Callable Tryz.prog 51 := ⟨_, Tryz.func51, by kernel_rfl, by kernel_rfl⟩

def T_q2b : FuncId -> Option Sum := G0

theorem right_T_q2b : Right Tryz.prog T_q2b := right_G0

abbrev cuts_q2b : Cuts := [(4, [0, 1, 5])]

abbrev k0_q2b {R : Type} (K : AV -> List O -> Option R) : Bool -> Option R := fun r0 => K (.v (.bool r0)) []

abbrev sta_q2b_4 (a b : List Int) (i : Int) : St := ⟨fr0 26 [(0, ri 3 a), (1, ri 3 b), (5, iv i)], []⟩

abbrev gt_q2b_4 {R : Type} (g : List Item -> St -> Option R) : GT_q2b_4 R := fun (a b : List Int) (i : Int) => g (at' Tryz.f48 4) (sta_q2b_4 a b i)

theorem gstep_q2b_4 {R : Type} (g : List Item -> St -> Option R) (K : AV -> List O -> Option R) (a b : List Int) (i : Int) :
  runSeg Tryz.prog T_q2b cuts_q2b 0 g (finish Tryz.prog Tryz.f48 0 K) (at' Tryz.f48 4) (sta_q2b_4 a b i) =
  s_q2b_4 (gt_q2b_4 g) (k0_q2b K) a b i := by kernel_rfl

theorem gentry_q2b {R : Type} (fuel : Nat) (K : AV -> List O -> Option R) (a b : List Int) :
  fnRun Tryz.prog T_q2b cuts_q2b Tryz.f48 fuel [ri 3 a, ri 3 b] [] K =
  e_q2b (gt_q2b_4 (runO Tryz.prog T_q2b cuts_q2b 0 (finish Tryz.prog Tryz.f48 0 K) fuel)) (k0_q2b K) a b := by kernel_rfl

theorem runs_q2b {R : Type} (K : AV -> List O -> Option R) : ∀ fuel : Nat,
  (gt_q2b_4 (runO Tryz.prog T_q2b cuts_q2b 0 (finish Tryz.prog Tryz.f48 0 K) fuel)) = (run_q2b (k0_q2b K) fuel)
 |0 => rfl
 |fuel + 1 => by
  have ih := runs_q2b K fuel
  funext a b i
  refine (gstep_q2b_4 _ K a b i).trans ?_
  rw [ih]
  rfl

def S_q2b (l_q2b : LT_q2b) : Sum := ⟨[], fun {R} args ob K => match args, ob with
 |[.rd ⟨false, 3, (.int .i64), a⟩, .rd ⟨false, 3, (.int .i64), b⟩], [] => l_q2b a b (k0_q2b K)
 |_, _ => none⟩

theorem sound_q2b : Sound Tryz.prog 48 (S_q2b @l_q2b) := by
 refine fn_sound (cuts := cuts_q2b) (fn := Tryz.f48) (Γ := T_q2b) wide right_T_q2b Tryz.func48 fun {R} K r args ob h => ?_
 unfold S_q2b at h
 dsimp only at h
 split at h
 ·obtain ⟨n, hn⟩ := ok_q2b _ _ _ h
  refine ⟨Nat.le_of_ble_eq_true (by kernel_rfl), n, (gentry_q2b n K _ _).trans ?_⟩
  rw [(runs_q2b K n)]
  exact hn
 ·cases h

theorem call_q2b : Callable Tryz.prog 48 := ⟨_, Tryz.func48, by kernel_rfl, by kernel_rfl⟩

def T_q2c : FuncId -> Option Sum := G0

theorem right_T_q2c : Right Tryz.prog T_q2c := right_G0

abbrev cuts_q2c : Cuts := []

abbrev k0_q2c {R : Type} (K : AV -> List O -> Option R) : Bool -> Option R := fun r0 => K (.v (.bool r0)) []

theorem gentry_q2c {R : Type} (K : AV -> List O -> Option R) (a a_1 a_2 a_3 : Int) (a_4 a_5 : List Int) (b b_1 b_2 b_3 : Int) (b_4 b_5 : List Int) (s t x : Int) :
  fnRun Tryz.prog T_q2c cuts_q2c Tryz.f96 0 [.agg [iv a, iv a_1, iv a_2, iv a_3, ri 3 a_4, ri 3 a_5], .agg [iv b, iv b_1, iv b_2, iv b_3, ri 3 b_4, ri 3 b_5], iv s, iv t, iv x] [] K =
  l_q2c a a_1 a_2 a_3 a_4 a_5 b b_1 b_2 b_3 b_4 b_5 s t x (k0_q2c K) := by kernel_rfl

def S_q2c (l_q2c : LT_q2c) : Sum := ⟨[], fun {R} args ob K => match args, ob with
 |[.agg [.v (.int .i64 a), .v (.int .i64 a_1), .v (.int .i64 a_2), .v (.int .i64 a_3), .rd ⟨false, 3, (.int .i64), a_4⟩, .rd ⟨false, 3, (.int .i64), a_5⟩], .agg [.v (.int .i64 b), .v (.int .i64 b_1), .v (.int .i64 b_2), .v (.int .i64 b_3), .rd ⟨false, 3, (.int .i64), b_4⟩, .rd ⟨false, 3, (.int .i64), b_5⟩], .v (.int .i64 s), .v (.int .i64 t), .v (.int .i64 x)], [] => l_q2c a a_1 a_2 a_3 a_4 a_5 b b_1 b_2 b_3 b_4 b_5 s t x (k0_q2c K)
 |_, _ => none⟩

theorem sound_q2c : Sound Tryz.prog 96 (S_q2c @l_q2c) := by
 refine fn_sound (cuts := cuts_q2c) (fn := Tryz.f96) (Γ := T_q2c) wide right_T_q2c Tryz.func96 fun {R} K r args ob h => ?_
 unfold S_q2c at h
 dsimp only at h
 split at h
 ·exact ⟨Nat.le_of_ble_eq_true (by kernel_rfl), 0, (gentry_q2c K _ _ _ _ _ _ _ _ _ _ _ _ _ _ _).trans h⟩
 ·cases h

theorem call_q2c : Callable Tryz.prog 96 := ⟨_, Tryz.func96, by kernel_rfl, by kernel_rfl⟩

def T_q2d : FuncId -> Option Sum := G0

theorem right_T_q2d : Right Tryz.prog T_q2d := right_G0

abbrev cuts_q2d : Cuts := []

abbrev k0_q2d {R : Type} (K : AV -> List O -> Option R) : (List Int) -> Option R := fun r0 => K (.own 0) [wi 3 r0]

theorem gentry_q2d {R : Type} (K : AV -> List O -> Option R) (a b : List Int) :
  fnRun Tryz.prog T_q2d cuts_q2d Tryz.f97 0 [ri 3 a, ri 3 b] [] K =
  l_q2d a b (k0_q2d K) := by kernel_rfl

def S_q2d (l_q2d : LT_q2d) : Sum := ⟨[], fun {R} args ob K => match args, ob with
 |[.rd ⟨false, 3, (.int .i64), a⟩, .rd ⟨false, 3, (.int .i64), b⟩], [] => l_q2d a b (k0_q2d K)
 |_, _ => none⟩

theorem sound_q2d : Sound Tryz.prog 97 (S_q2d @l_q2d) := by
 refine fn_sound (cuts := cuts_q2d) (fn := Tryz.f97) (Γ := T_q2d) wide right_T_q2d Tryz.func97 fun {R} K r args ob h => ?_
 unfold S_q2d at h
 dsimp only at h
 split at h
 ·exact ⟨Nat.le_of_ble_eq_true (by kernel_rfl), 0, (gentry_q2d K _ _).trans h⟩
 ·cases h

theorem call_q2d : Callable Tryz.prog 97 := ⟨_, Tryz.func97, by kernel_rfl, by kernel_rfl⟩

def T_q2e (a0 : LT_q2c) (a1 : LT_q2d) : FuncId -> Option Sum := (addS (addS G0 96 (S_q2c @a0)) 97 (S_q2d @a1))

abbrev C_q2e : FuncId -> Option Sum := T_q2e @l_q2c @l_q2d

theorem right_T_q2e : Right Tryz.prog C_q2e := (right_add (right_add right_G0 call_q2c sound_q2c) call_q2d sound_q2d)

abbrev cuts_q2e : Cuts := [(8, [4, 5, 10, 11, 12, 13]), (12, [4, 5, 10, 11, 12, 13, 14, 15, 16])]

abbrev k0_q2e {R : Type} (K : AV -> List O -> Option R) : Bool -> (List Int) -> Option R := fun r0 r1 => K (.tup [.own 0, .v (.bool r0)]) [wi 3 r1]

abbrev sta_q2e_8 (i o0 o0_1 o0_2 o0_3 : Int) (o0_4 o0_5 : List Int) (o1 o1_1 o1_2 o1_3 : Int) (o1_4 o1_5 : List Int) (o2 : List Bool) (o3 : List (List Int)) (o4 : List Int) : St := ⟨fr0 146 [(4, .ptr 0 0), (5, .ptr 1 0), (10, .own 2), (11, .nst 3), (12, .own 4), (13, iv i)], [.box 47 [iv o0, iv o0_1, iv o0_2, iv o0_3, ri 3 o0_4, ri 3 o0_5], .box 47 [iv o1, iv o1_1, iv o1_2, iv o1_3, ri 3 o1_4, ri 3 o1_5], .row ⟨true, 4, .bool, o2⟩, .nst ⟨true, 45, (.sl 3 (.int .i64)), o3⟩, wi 3 o4]⟩

abbrev gt_q2e_8 {R : Type} (g : List Item -> St -> Option R) : GT_q2e_8 R := fun (i o0 o0_1 o0_2 o0_3 : Int) (o0_4 o0_5 : List Int) (o1 o1_1 o1_2 o1_3 : Int) (o1_4 o1_5 : List Int) (o2 : List Bool) (o3 : List (List Int)) (o4 : List Int) => g (at' Tryz.f77 8) (sta_q2e_8 i o0 o0_1 o0_2 o0_3 o0_4 o0_5 o1 o1_1 o1_2 o1_3 o1_4 o1_5 o2 o3 o4)

abbrev sta_q2e_12 (i s t x o0 o0_1 o0_2 o0_3 : Int) (o0_4 o0_5 : List Int) (o1 o1_1 o1_2 o1_3 : Int) (o1_4 o1_5 : List Int) (o2 : List Bool) (o3 : List (List Int)) (o4 : List Int) : St := ⟨fr0 146 [(4, .ptr 0 0), (5, .ptr 1 0), (10, .own 2), (11, .nst 3), (12, .own 4), (13, iv i), (14, iv s), (15, iv t), (16, iv x)], [.box 47 [iv o0, iv o0_1, iv o0_2, iv o0_3, ri 3 o0_4, ri 3 o0_5], .box 47 [iv o1, iv o1_1, iv o1_2, iv o1_3, ri 3 o1_4, ri 3 o1_5], .row ⟨true, 4, .bool, o2⟩, .nst ⟨true, 45, (.sl 3 (.int .i64)), o3⟩, wi 3 o4]⟩

abbrev gt_q2e_12 {R : Type} (g : List Item -> St -> Option R) : GT_q2e_12 R := fun (i s t x o0 o0_1 o0_2 o0_3 : Int) (o0_4 o0_5 : List Int) (o1 o1_1 o1_2 o1_3 : Int) (o1_4 o1_5 : List Int) (o2 : List Bool) (o3 : List (List Int)) (o4 : List Int) => g (at' Tryz.f77 12) (sta_q2e_12 i s t x o0 o0_1 o0_2 o0_3 o0_4 o0_5 o1 o1_1 o1_2 o1_3 o1_4 o1_5 o2 o3 o4)

theorem gstep_q2e_8 {a0 : LT_q2c} {a1 : LT_q2d} {R : Type} (g : List Item -> St -> Option R) (K : AV -> List O -> Option R) (i o0 o0_1 o0_2 o0_3 : Int) (o0_4 o0_5 : List Int) (o1 o1_1 o1_2 o1_3 : Int) (o1_4 o1_5 : List Int) (o2 : List Bool) (o3 : List (List Int)) (o4 : List Int) :
  runSeg Tryz.prog (T_q2e @a0 @a1) cuts_q2e 0 g (finish Tryz.prog Tryz.f77 0 K) (at' Tryz.f77 8) (sta_q2e_8 i o0 o0_1 o0_2 o0_3 o0_4 o0_5 o1 o1_1 o1_2 o1_3 o1_4 o1_5 o2 o3 o4) =
  gs_q2e_8 @a0 @a1 (gt_q2e_8 g) (gt_q2e_12 g) (k0_q2e K) i o0 o0_1 o0_2 o0_3 o0_4 o0_5 o1 o1_1 o1_2 o1_3 o1_4 o1_5 o2 o3 o4 := by kernel_rfl

theorem gstep_q2e_12 {a0 : LT_q2c} {a1 : LT_q2d} {R : Type} (g : List Item -> St -> Option R) (K : AV -> List O -> Option R) (i s t x o0 o0_1 o0_2 o0_3 : Int) (o0_4 o0_5 : List Int) (o1 o1_1 o1_2 o1_3 : Int) (o1_4 o1_5 : List Int) (o2 : List Bool) (o3 : List (List Int)) (o4 : List Int) :
  runSeg Tryz.prog (T_q2e @a0 @a1) cuts_q2e 0 g (finish Tryz.prog Tryz.f77 0 K) (at' Tryz.f77 12) (sta_q2e_12 i s t x o0 o0_1 o0_2 o0_3 o0_4 o0_5 o1 o1_1 o1_2 o1_3 o1_4 o1_5 o2 o3 o4) =
  gs_q2e_12 @a0 @a1 (gt_q2e_8 g) (gt_q2e_12 g) (k0_q2e K) i s t x o0 o0_1 o0_2 o0_3 o0_4 o0_5 o1 o1_1 o1_2 o1_3 o1_4 o1_5 o2 o3 o4 := by kernel_rfl

theorem gentry_q2e {a0 : LT_q2c} {a1 : LT_q2d} {R : Type} (fuel : Nat) (K : AV -> List O -> Option R) (a a_1 a_2 a_3 : Int) (a_4 a_5 : List Int) (b b_1 b_2 b_3 : Int) (b_4 b_5 : List Int) (s t : Int) :
  fnRun Tryz.prog (T_q2e @a0 @a1) cuts_q2e Tryz.f77 fuel [.agg [iv a, iv a_1, iv a_2, iv a_3, ri 3 a_4, ri 3 a_5], .agg [iv b, iv b_1, iv b_2, iv b_3, ri 3 b_4, ri 3 b_5], iv s, iv t] [] K =
  ge_q2e @a0 @a1 (gt_q2e_8 (runO Tryz.prog (T_q2e @a0 @a1) cuts_q2e 0 (finish Tryz.prog Tryz.f77 0 K) fuel)) (gt_q2e_12 (runO Tryz.prog (T_q2e @a0 @a1) cuts_q2e 0 (finish Tryz.prog Tryz.f77 0 K) fuel)) (k0_q2e K) a a_1 a_2 a_3 a_4 a_5 b b_1 b_2 b_3 b_4 b_5 s t := by kernel_rfl

theorem runs_q2e {R : Type} (K : AV -> List O -> Option R) : ∀ fuel : Nat,
  (gt_q2e_8 (runO Tryz.prog C_q2e cuts_q2e 0 (finish Tryz.prog Tryz.f77 0 K) fuel)) = (run_q2e (k0_q2e K) fuel).1 ∧
  (gt_q2e_12 (runO Tryz.prog C_q2e cuts_q2e 0 (finish Tryz.prog Tryz.f77 0 K) fuel)) = (run_q2e (k0_q2e K) fuel).2
 |0 => ⟨rfl, rfl⟩
 |fuel + 1 => by
  have ih := runs_q2e K fuel
  refine ⟨?_, ?_⟩
  ·funext i o0 o0_1 o0_2 o0_3 o0_4 o0_5 o1 o1_1 o1_2 o1_3 o1_4 o1_5 o2 o3 o4
   refine (gstep_q2e_8 _ K i o0 o0_1 o0_2 o0_3 o0_4 o0_5 o1 o1_1 o1_2 o1_3 o1_4 o1_5 o2 o3 o4).trans ?_
   rw [ih.1, ih.2]
   rfl
  ·funext i s t x o0 o0_1 o0_2 o0_3 o0_4 o0_5 o1 o1_1 o1_2 o1_3 o1_4 o1_5 o2 o3 o4
   refine (gstep_q2e_12 _ K i s t x o0 o0_1 o0_2 o0_3 o0_4 o0_5 o1 o1_1 o1_2 o1_3 o1_4 o1_5 o2 o3 o4).trans ?_
   rw [ih.1, ih.2]
   rfl

def S_q2e (l_q2e : LT_q2e) : Sum := ⟨[], fun {R} args ob K => match args, ob with
 |[.agg [.v (.int .i64 a), .v (.int .i64 a_1), .v (.int .i64 a_2), .v (.int .i64 a_3), .rd ⟨false, 3, (.int .i64), a_4⟩, .rd ⟨false, 3, (.int .i64), a_5⟩], .agg [.v (.int .i64 b), .v (.int .i64 b_1), .v (.int .i64 b_2), .v (.int .i64 b_3), .rd ⟨false, 3, (.int .i64), b_4⟩, .rd ⟨false, 3, (.int .i64), b_5⟩], .v (.int .i64 s), .v (.int .i64 t)], [] => l_q2e a a_1 a_2 a_3 a_4 a_5 b b_1 b_2 b_3 b_4 b_5 s t (k0_q2e K)
 |_, _ => none⟩

theorem sound_q2e : Sound Tryz.prog 77 (S_q2e @l_q2e) := by
 refine fn_sound (cuts := cuts_q2e) (fn := Tryz.f77) (Γ := C_q2e) wide right_T_q2e Tryz.func77 fun {R} K r args ob h => ?_
 unfold S_q2e at h
 dsimp only at h
 split at h
 ·obtain ⟨n, hn⟩ := ok_q2e _ _ _ _ _ _ _ _ _ _ _ _ _ _ _ h
  refine ⟨Nat.le_of_ble_eq_true (by kernel_rfl), n, (gentry_q2e n K _ _ _ _ _ _ _ _ _ _ _ _ _ _).trans ?_⟩
  rw [(runs_q2e K n).1, (runs_q2e K n).2]
  exact hn
 ·cases h

theorem call_q2e : Callable Tryz.prog 77 := ⟨_, Tryz.func77, by kernel_rfl, by kernel_rfl⟩

def T_q2f (a0 : LT_q2e) (a1 : LT_q24) : FuncId -> Option Sum := (addS (addS G0 77 (S_q2e @a0)) 50 (S_q24 @a1))

abbrev C_q2f : FuncId -> Option Sum := T_q2f @l_q2e @l_q24

theorem right_T_q2f : Right Tryz.prog C_q2f := (right_add (right_add right_G0 call_q2e sound_q2e) call_q24 sound_q24)

abbrev cuts_q2f : Cuts := []

abbrev k0_q2f {R : Type} (K : AV -> List O -> Option R) : Bool -> Int -> (List Int) -> Option R := fun r0 r1 r2 => K (.tup [.own 0, .v (.bool r0), iv r1]) [wi 3 r2]

theorem gentry_q2f {a0 : LT_q2e} {a1 : LT_q24} {R : Type} (K : AV -> List O -> Option R) (a a_1 a_2 a_3 : Int) (a_4 a_5 : List Int) (b b_1 b_2 b_3 : Int) (b_4 b_5 : List Int) :
  fnRun Tryz.prog (T_q2f @a0 @a1) cuts_q2f Tryz.f52 0 [.agg [iv a, iv a_1, iv a_2, iv a_3, ri 3 a_4, ri 3 a_5], .agg [iv b, iv b_1, iv b_2, iv b_3, ri 3 b_4, ri 3 b_5]] [] K =
  gl_q2f @a0 @a1 a a_1 a_2 a_3 a_4 a_5 b b_1 b_2 b_3 b_4 b_5 (k0_q2f K) := by kernel_rfl

def S_q2f (l_q2f : LT_q2f) : Sum := ⟨[], fun {R} args ob K => match args, ob with
 |[.agg [.v (.int .i64 a), .v (.int .i64 a_1), .v (.int .i64 a_2), .v (.int .i64 a_3), .rd ⟨false, 3, (.int .i64), a_4⟩, .rd ⟨false, 3, (.int .i64), a_5⟩], .agg [.v (.int .i64 b), .v (.int .i64 b_1), .v (.int .i64 b_2), .v (.int .i64 b_3), .rd ⟨false, 3, (.int .i64), b_4⟩, .rd ⟨false, 3, (.int .i64), b_5⟩]], [] => l_q2f a a_1 a_2 a_3 a_4 a_5 b b_1 b_2 b_3 b_4 b_5 (k0_q2f K)
 |_, _ => none⟩

theorem sound_q2f : Sound Tryz.prog 52 (S_q2f @l_q2f) := by
 refine fn_sound (cuts := cuts_q2f) (fn := Tryz.f52) (Γ := C_q2f) wide right_T_q2f Tryz.func52 fun {R} K r args ob h => ?_
 unfold S_q2f at h
 dsimp only at h
 split at h
 ·exact ⟨Nat.le_of_ble_eq_true (by kernel_rfl), 0, (gentry_q2f K _ _ _ _ _ _ _ _ _ _ _ _).trans h⟩
 ·cases h

theorem call_q2f : Callable Tryz.prog 52 := ⟨_, Tryz.func52, by kernel_rfl, by kernel_rfl⟩

def T_q2g (a0 : LT_q2b) (a1 : LT_q2a) (a2 : LT_q2f) : FuncId -> Option Sum := (addS (addS (addS G0 48 (S_q2b @a0)) 51 (S_q2a @a1)) 52 (S_q2f @a2))

abbrev C_q2g : FuncId -> Option Sum := T_q2g @l_q2b @l_q2a @l_q2f

theorem right_T_q2g : Right Tryz.prog C_q2g := (right_add (right_add (right_add right_G0 call_q2b sound_q2b) call_q2a sound_q2a) call_q2f sound_q2f)

abbrev cuts_q2g : Cuts := []

abbrev k0_q2g {R : Type} (K : AV -> List O -> Option R) : Bool -> Option R := fun r0 => K (.v (.bool r0)) []

theorem gentry_q2g {a0 : LT_q2b} {a1 : LT_q2a} {a2 : LT_q2f} {R : Type} (K : AV -> List O -> Option R) (x : Int) (x_1 : List Int) (x_2 x_3 x_4 x_5 : Int) (x_6 x_7 : List Int) (x_8 : Int) (x_9 x_10 : List Int) (m m_1 m_2 m_3 : Int) (m_4 m_5 : List Int) :
  fnRun Tryz.prog (T_q2g @a0 @a1 @a2) cuts_q2g Tryz.f56 0 [.agg [iv x, ri 3 x_1, iv x_2, iv x_3, iv x_4, iv x_5, ri 3 x_6, ri 3 x_7, iv x_8, ri 3 x_9, ri 3 x_10], .agg [iv m, iv m_1, iv m_2, iv m_3, ri 3 m_4, ri 3 m_5]] [] K =
  gl_q2g @a0 @a1 @a2 x x_1 x_2 x_3 x_4 x_5 x_6 x_7 x_8 x_9 x_10 m m_1 m_2 m_3 m_4 m_5 (k0_q2g K) := by kernel_rfl

def S_q2g (l_q2g : LT_q2g) : Sum := ⟨[], fun {R} args ob K => match args, ob with
 |[.agg [.v (.int .i64 x), .rd ⟨false, 3, (.int .i64), x_1⟩, .v (.int .i64 x_2), .v (.int .i64 x_3), .v (.int .i64 x_4), .v (.int .i64 x_5), .rd ⟨false, 3, (.int .i64), x_6⟩, .rd ⟨false, 3, (.int .i64), x_7⟩, .v (.int .i64 x_8), .rd ⟨false, 3, (.int .i64), x_9⟩, .rd ⟨false, 3, (.int .i64), x_10⟩], .agg [.v (.int .i64 m), .v (.int .i64 m_1), .v (.int .i64 m_2), .v (.int .i64 m_3), .rd ⟨false, 3, (.int .i64), m_4⟩, .rd ⟨false, 3, (.int .i64), m_5⟩]], [] => l_q2g x x_1 x_2 x_3 x_4 x_5 x_6 x_7 x_8 x_9 x_10 m m_1 m_2 m_3 m_4 m_5 (k0_q2g K)
 |_, _ => none⟩

theorem sound_q2g : Sound Tryz.prog 56 (S_q2g @l_q2g) := by
 refine fn_sound (cuts := cuts_q2g) (fn := Tryz.f56) (Γ := C_q2g) wide right_T_q2g Tryz.func56 fun {R} K r args ob h => ?_
 unfold S_q2g at h
 dsimp only at h
 split at h
 ·exact ⟨Nat.le_of_ble_eq_true (by kernel_rfl), 0, (gentry_q2g K _ _ _ _ _ _ _ _ _ _ _ _ _ _ _ _ _).trans h⟩
 ·cases h

theorem call_q2g : Callable Tryz.prog 56 := ⟨_, Tryz.func56, by kernel_rfl, by kernel_rfl⟩

def T_q2h (a0 : LT_q25) (a1 : LT_q24) (a2 : LT_q27) (a3 : LT_q2g) : FuncId -> Option Sum := (addS (addS (addS (addS G0 55 (S_q25 @a0)) 50 (S_q24 @a1)) 13 (S_q27 @a2)) 56 (S_q2g @a3))

abbrev C_q2h : FuncId -> Option Sum := T_q2h @l_q25 @l_q24 @l_q27 @l_q2g

theorem right_T_q2h : Right Tryz.prog C_q2h := (right_add (right_add (right_add (right_add right_G0 call_q25 sound_q25) call_q24 sound_q24) call_q27 sound_q27) call_q2g sound_q2g)

abbrev cuts_q2h : Cuts := [(11, [2, 3, 9])]

abbrev k0_q2h {R : Type} (K : AV -> List O -> Option R) : Int -> Bool -> Int -> Option R := fun r0 r1 r2 => K (.tup [iv r0, .v (.bool r1), iv r2]) []

abbrev sta_q2h_11 (i o0 o0_1 o0_2 : Int) (o0_3 : List Ent) (o1 o1_1 o1_2 o1_3 : Int) (o1_4 o1_5 : List Int) : St := ⟨fr0 52 [(2, .ptr 0 0), (3, .ptr 1 0), (9, iv i)], [.box 24 [iv o0, iv o0_1, iv o0_2, .rd ⟨false, 53, (.pr (.pr (.int .i64) (.pr (.sl 3 (.int .i64)) (.pr (.int .i64) (.pr (.int .i64) (.pr (.int .i64) (.pr (.int .i64) (.pr (.sl 3 (.int .i64)) (.sl 3 (.int .i64))))))))) (.pr (.int .i64) (.pr (.sl 3 (.int .i64)) (.sl 3 (.int .i64))))), o0_3⟩], .box 47 [iv o1, iv o1_1, iv o1_2, iv o1_3, ri 3 o1_4, ri 3 o1_5]]⟩

abbrev gt_q2h_11 {R : Type} (g : List Item -> St -> Option R) : GT_q2h_11 R := fun (i o0 o0_1 o0_2 : Int) (o0_3 : List Ent) (o1 o1_1 o1_2 o1_3 : Int) (o1_4 o1_5 : List Int) => g (at' Tryz.f30 11) (sta_q2h_11 i o0 o0_1 o0_2 o0_3 o1 o1_1 o1_2 o1_3 o1_4 o1_5)

theorem gstep_q2h_11 {a0 : LT_q25} {a1 : LT_q24} {a2 : LT_q27} {a3 : LT_q2g} {R : Type} (g : List Item -> St -> Option R) (K : AV -> List O -> Option R) (i o0 o0_1 o0_2 : Int) (o0_3 : List Ent) (o1 o1_1 o1_2 o1_3 : Int) (o1_4 o1_5 : List Int) :
  runSeg Tryz.prog (T_q2h @a0 @a1 @a2 @a3) cuts_q2h 0 g (finish Tryz.prog Tryz.f30 0 K) (at' Tryz.f30 11) (sta_q2h_11 i o0 o0_1 o0_2 o0_3 o1 o1_1 o1_2 o1_3 o1_4 o1_5) =
  gs_q2h_11 @a0 @a1 @a2 @a3 (gt_q2h_11 g) (k0_q2h K) i o0 o0_1 o0_2 o0_3 o1 o1_1 o1_2 o1_3 o1_4 o1_5 := by kernel_rfl

theorem gentry_q2h {a0 : LT_q25} {a1 : LT_q24} {a2 : LT_q27} {a3 : LT_q2g} {R : Type} (fuel : Nat) (K : AV -> List O -> Option R) (l l_1 l_2 : Int) (l_3 : List Ent) (m m_1 m_2 m_3 : Int) (m_4 m_5 : List Int) :
  fnRun Tryz.prog (T_q2h @a0 @a1 @a2 @a3) cuts_q2h Tryz.f30 fuel [.agg [iv l, iv l_1, iv l_2, .rd ⟨false, 53, (.pr (.pr (.int .i64) (.pr (.sl 3 (.int .i64)) (.pr (.int .i64) (.pr (.int .i64) (.pr (.int .i64) (.pr (.int .i64) (.pr (.sl 3 (.int .i64)) (.sl 3 (.int .i64))))))))) (.pr (.int .i64) (.pr (.sl 3 (.int .i64)) (.sl 3 (.int .i64))))), l_3⟩], .agg [iv m, iv m_1, iv m_2, iv m_3, ri 3 m_4, ri 3 m_5]] [] K =
  ge_q2h @a0 @a1 @a2 @a3 (gt_q2h_11 (runO Tryz.prog (T_q2h @a0 @a1 @a2 @a3) cuts_q2h 0 (finish Tryz.prog Tryz.f30 0 K) fuel)) (k0_q2h K) l l_1 l_2 l_3 m m_1 m_2 m_3 m_4 m_5 := by kernel_rfl

theorem runs_q2h {R : Type} (K : AV -> List O -> Option R) : ∀ fuel : Nat,
  (gt_q2h_11 (runO Tryz.prog C_q2h cuts_q2h 0 (finish Tryz.prog Tryz.f30 0 K) fuel)) = (run_q2h (k0_q2h K) fuel)
 |0 => rfl
 |fuel + 1 => by
  have ih := runs_q2h K fuel
  funext i o0 o0_1 o0_2 o0_3 o1 o1_1 o1_2 o1_3 o1_4 o1_5
  refine (gstep_q2h_11 _ K i o0 o0_1 o0_2 o0_3 o1 o1_1 o1_2 o1_3 o1_4 o1_5).trans ?_
  rw [ih]
  rfl

def S_q2h (l_q2h : LT_q2h) : Sum := ⟨[], fun {R} args ob K => match args, ob with
 |[.agg [.v (.int .i64 l), .v (.int .i64 l_1), .v (.int .i64 l_2), .rd ⟨false, 53, (.pr (.pr (.int .i64) (.pr (.sl 3 (.int .i64)) (.pr (.int .i64) (.pr (.int .i64) (.pr (.int .i64) (.pr (.int .i64) (.pr (.sl 3 (.int .i64)) (.sl 3 (.int .i64))))))))) (.pr (.int .i64) (.pr (.sl 3 (.int .i64)) (.sl 3 (.int .i64))))), l_3⟩], .agg [.v (.int .i64 m), .v (.int .i64 m_1), .v (.int .i64 m_2), .v (.int .i64 m_3), .rd ⟨false, 3, (.int .i64), m_4⟩, .rd ⟨false, 3, (.int .i64), m_5⟩]], [] => l_q2h l l_1 l_2 l_3 m m_1 m_2 m_3 m_4 m_5 (k0_q2h K)
 |_, _ => none⟩

theorem sound_q2h : Sound Tryz.prog 30 (S_q2h @l_q2h) := by
 refine fn_sound (cuts := cuts_q2h) (fn := Tryz.f30) (Γ := C_q2h) wide right_T_q2h Tryz.func30 fun {R} K r args ob h => ?_
 unfold S_q2h at h
 dsimp only at h
 split at h
 ·obtain ⟨n, hn⟩ := evl_ok h
  refine ⟨Nat.le_of_ble_eq_true (by kernel_rfl), n, (gentry_q2h n K _ _ _ _ _ _ _ _ _ _).trans ?_⟩
  rw [(runs_q2h K n)]
  exact hn
 ·cases h

theorem call_q2h : Callable Tryz.prog 30 := ⟨_, Tryz.func30, by kernel_rfl, by kernel_rfl⟩

theorem nil_q2i {R : Type} (K : AV -> List O -> Option R) (c : Nat) :
  fnRun Tryz.prog G0 [] Tryz.f49 0 [.v (.slice none 0 c)] [] K = K (.own 0) [.row ⟨true, 3, (.int .i64), []⟩] := by kernel_rfl

theorem emp_q2i {R : Type} (K : AV -> List O -> Option R) (a : Addr) (c : Nat) :
  fnRun Tryz.prog G0 [] Tryz.f49 0 [.v (.slice (some a) 0 c)] [] K = K (.own 0) [.row ⟨true, 3, (.int .i64), [] ++ []⟩] := by kernel_rfl

theorem cons_q2i {R : Type} (K : AV -> List O -> Option R) (x : Int) (xs : List Int) :
  fnRun Tryz.prog G0 [] Tryz.f49 0 [.rd ⟨false, 3, (.int .i64), x :: xs⟩] [] K =
  bi (decide ((([] : List Int).length + (x :: xs).length) * 8 ≤ lim)) (K (.own 0) [.row ⟨true, 3, (.int .i64), [] ++ (x :: xs)⟩]) none := by kernel_rfl

def S_q2i (l_q2i : LT_q2i) : Sum := ⟨[], fun {R} args ob K => match args, ob with
 |[.rd ⟨false, 3, (.int .i64), s⟩], [] => l_q2i s (fun r0 => K (.own 0) [.row ⟨true, 3, (.int .i64), r0⟩])
 |_, _ => none⟩

theorem sound_q2i : Sound Tryz.prog 49 (S_q2i @l_q2i) := by
 refine fn_sound' (cuts := []) (fn := Tryz.f49) (Γ := G0) wide right_G0 Tryz.func49 fun {R} K r args ob h vals w ok β hr => ?_
 unfold S_q2i at h
 dsimp only at h
 split at h
 ·rename_i s
  letI : DfG := ⟨[]⟩
  obtain ⟨v, rfl, hv⟩ := hr.single
  rcases bi_some h with ⟨hl, h⟩ | ⟨_, h⟩
  ·cases hv with
   |rd _ A c hc hrow =>
    cases s with
    |nil => cases A with
     |none => exact ⟨[.v (.slice none 0 c)], RepL.consts _ _ _ [.slice none 0 c], Nat.le_of_ble_eq_true (by kernel_rfl), 0, (nil_q2i K c).trans h⟩
     |some a => exact ⟨[.v (.slice (some a) 0 c)], RepL.consts _ _ _ [.slice (some a) 0 c], Nat.le_of_ble_eq_true (by kernel_rfl), 0, (emp_q2i K a c).trans h⟩
    |cons x xs =>
     refine ⟨_, hr, Nat.le_of_ble_eq_true (by kernel_rfl), 0, (cons_q2i K x xs).trans ?_⟩
     rw [List.length_nil, Nat.zero_add, hl, br_tt]
     exact h
  ·cases h
 ·cases h

theorem call_q2i : Callable Tryz.prog 49 := ⟨_, Tryz.func49, by kernel_rfl, by kernel_rfl⟩

def T_q2j (a0 : LT_q2i) : FuncId -> Option Sum := (addS G0 49 (S_q2i @a0))

abbrev C_q2j : FuncId -> Option Sum := T_q2j @l_q2i

theorem right_T_q2j : Right Tryz.prog C_q2j := (right_add right_G0 call_q2i sound_q2i)

abbrev cuts_q2j : Cuts := [(3, [3, 7, 8, 9])]

abbrev k0_q2j {R : Type} (K : AV -> List O -> Option R) : (List (Int × (List Int × List Int))) -> Option R := fun r0 => K (.own 0) [.row ⟨true, 51, (.pr (.int .i64) (.pr (.sl 3 (.int .i64)) (.sl 3 (.int .i64)))), r0⟩]

abbrev sta_q2j_3 (x7 : List Ent) (x8 x9 : Int) (o0 : List (Int × (List Int × List Int))) : St := ⟨fr0 30 [(3, .own 0), (7, .rd ⟨false, 53, (.pr (.pr (.int .i64) (.pr (.sl 3 (.int .i64)) (.pr (.int .i64) (.pr (.int .i64) (.pr (.int .i64) (.pr (.int .i64) (.pr (.sl 3 (.int .i64)) (.sl 3 (.int .i64))))))))) (.pr (.int .i64) (.pr (.sl 3 (.int .i64)) (.sl 3 (.int .i64))))), x7⟩), (8, iv x8), (9, iv x9)], [.row ⟨true, 51, (.pr (.int .i64) (.pr (.sl 3 (.int .i64)) (.sl 3 (.int .i64)))), o0⟩]⟩

abbrev gt_q2j_3 {R : Type} (g : List Item -> St -> Option R) : GT_q2j_3 R := fun (x7 : List Ent) (x8 x9 : Int) (o0 : List (Int × (List Int × List Int))) => g (at' Tryz.f22 3) (sta_q2j_3 x7 x8 x9 o0)

theorem gstep_q2j_3 {a0 : LT_q2i} {R : Type} (g : List Item -> St -> Option R) (K : AV -> List O -> Option R) (x7 : List Ent) (x8 x9 : Int) (o0 : List (Int × (List Int × List Int))) :
  runSeg Tryz.prog (T_q2j @a0) cuts_q2j 0 g (finish Tryz.prog Tryz.f22 0 K) (at' Tryz.f22 3) (sta_q2j_3 x7 x8 x9 o0) =
  gs_q2j_3 @a0 (gt_q2j_3 g) (k0_q2j K) x7 x8 x9 o0 := by kernel_rfl

theorem gentry_q2j {a0 : LT_q2i} {R : Type} (fuel : Nat) (K : AV -> List O -> Option R) (l l_1 l_2 : Int) (l_3 : List Ent) :
  fnRun Tryz.prog (T_q2j @a0) cuts_q2j Tryz.f22 fuel [.agg [iv l, iv l_1, iv l_2, .rd ⟨false, 53, (.pr (.pr (.int .i64) (.pr (.sl 3 (.int .i64)) (.pr (.int .i64) (.pr (.int .i64) (.pr (.int .i64) (.pr (.int .i64) (.pr (.sl 3 (.int .i64)) (.sl 3 (.int .i64))))))))) (.pr (.int .i64) (.pr (.sl 3 (.int .i64)) (.sl 3 (.int .i64))))), l_3⟩]] [] K =
  ge_q2j @a0 (gt_q2j_3 (runO Tryz.prog (T_q2j @a0) cuts_q2j 0 (finish Tryz.prog Tryz.f22 0 K) fuel)) (k0_q2j K) l l_1 l_2 l_3 := by kernel_rfl

theorem runs_q2j {R : Type} (K : AV -> List O -> Option R) : ∀ fuel : Nat,
  (gt_q2j_3 (runO Tryz.prog C_q2j cuts_q2j 0 (finish Tryz.prog Tryz.f22 0 K) fuel)) = (run_q2j (k0_q2j K) fuel)
 |0 => rfl
 |fuel + 1 => by
  have ih := runs_q2j K fuel
  funext x7 x8 x9 o0
  refine (gstep_q2j_3 _ K x7 x8 x9 o0).trans ?_
  rw [ih]
  rfl

def S_q2j (l_q2j : LT_q2j) : Sum := ⟨[], fun {R} args ob K => match args, ob with
 |[.agg [.v (.int .i64 l), .v (.int .i64 l_1), .v (.int .i64 l_2), .rd ⟨false, 53, (.pr (.pr (.int .i64) (.pr (.sl 3 (.int .i64)) (.pr (.int .i64) (.pr (.int .i64) (.pr (.int .i64) (.pr (.int .i64) (.pr (.sl 3 (.int .i64)) (.sl 3 (.int .i64))))))))) (.pr (.int .i64) (.pr (.sl 3 (.int .i64)) (.sl 3 (.int .i64))))), l_3⟩]], [] => l_q2j l l_1 l_2 l_3 (k0_q2j K)
 |_, _ => none⟩

theorem sound_q2j : Sound Tryz.prog 22 (S_q2j @l_q2j) := by
 refine fn_sound (cuts := cuts_q2j) (fn := Tryz.f22) (Γ := C_q2j) wide right_T_q2j Tryz.func22 fun {R} K r args ob h => ?_
 unfold S_q2j at h
 dsimp only at h
 split at h
 ·obtain ⟨n, hn⟩ := evl_ok h
  refine ⟨Nat.le_of_ble_eq_true (by kernel_rfl), n, (gentry_q2j n K _ _ _ _).trans ?_⟩
  rw [(runs_q2j K n)]
  exact hn
 ·cases h

theorem call_q2j : Callable Tryz.prog 22 := ⟨_, Tryz.func22, by kernel_rfl, by kernel_rfl⟩

def T_q2k : FuncId -> Option Sum := G0

theorem right_T_q2k : Right Tryz.prog T_q2k := right_G0

abbrev cuts_q2k : Cuts := [(3, [1, 3, 4])]

abbrev k0_q2k {R : Type} (K : AV -> List O -> Option R) : (List (Int × (List Int × List Int))) -> Option R := fun r0 => K (.own 0) [.row ⟨true, 51, (.pr (.int .i64) (.pr (.sl 3 (.int .i64)) (.sl 3 (.int .i64)))), r0⟩]

abbrev k1_q2k {R : Type} (K : AV -> List O -> Option R) : (List (Int × (List Int × List Int))) -> Option R := fun r0 => K (.own 0) [.row ⟨false, 51, (.pr (.int .i64) (.pr (.sl 3 (.int .i64)) (.sl 3 (.int .i64)))), r0⟩]

abbrev sta_q2k_3a (i o0 o0_1 o0_2 : Int) (o0_3 : List Ent) (o1 : List (Int × (List Int × List Int))) : St := ⟨fr0 22 [(1, .ptr 0 0), (3, .own 1), (4, iv i)], [.box 24 [iv o0, iv o0_1, iv o0_2, .rd ⟨false, 53, (.pr (.pr (.int .i64) (.pr (.sl 3 (.int .i64)) (.pr (.int .i64) (.pr (.int .i64) (.pr (.int .i64) (.pr (.int .i64) (.pr (.sl 3 (.int .i64)) (.sl 3 (.int .i64))))))))) (.pr (.int .i64) (.pr (.sl 3 (.int .i64)) (.sl 3 (.int .i64))))), o0_3⟩], .row ⟨true, 51, (.pr (.int .i64) (.pr (.sl 3 (.int .i64)) (.sl 3 (.int .i64)))), o1⟩]⟩

abbrev gt_q2k_3a {R : Type} (g : List Item -> St -> Option R) : GT_q2k_3a R := fun (i o0 o0_1 o0_2 : Int) (o0_3 : List Ent) (o1 : List (Int × (List Int × List Int))) => g (at' Tryz.f32 3) (sta_q2k_3a i o0 o0_1 o0_2 o0_3 o1)

abbrev sta_q2k_3b (i o0 o0_1 o0_2 : Int) (o0_3 : List Ent) (o1 : List (Int × (List Int × List Int))) : St := ⟨fr0 22 [(1, .ptr 0 0), (3, .own 1), (4, iv i)], [.box 24 [iv o0, iv o0_1, iv o0_2, .rd ⟨false, 53, (.pr (.pr (.int .i64) (.pr (.sl 3 (.int .i64)) (.pr (.int .i64) (.pr (.int .i64) (.pr (.int .i64) (.pr (.int .i64) (.pr (.sl 3 (.int .i64)) (.sl 3 (.int .i64))))))))) (.pr (.int .i64) (.pr (.sl 3 (.int .i64)) (.sl 3 (.int .i64))))), o0_3⟩], .row ⟨false, 51, (.pr (.int .i64) (.pr (.sl 3 (.int .i64)) (.sl 3 (.int .i64)))), o1⟩]⟩

abbrev gt_q2k_3b {R : Type} (g : List Item -> St -> Option R) : GT_q2k_3b R := fun (i o0 o0_1 o0_2 : Int) (o0_3 : List Ent) (o1 : List (Int × (List Int × List Int))) => g (at' Tryz.f32 3) (sta_q2k_3b i o0 o0_1 o0_2 o0_3 o1)

theorem gstep_q2k_3a {R : Type} (g : List Item -> St -> Option R) (K : AV -> List O -> Option R) (i o0 o0_1 o0_2 : Int) (o0_3 : List Ent) (o1 : List (Int × (List Int × List Int))) :
  runSeg Tryz.prog T_q2k cuts_q2k 0 g (finish Tryz.prog Tryz.f32 0 K) (at' Tryz.f32 3) (sta_q2k_3a i o0 o0_1 o0_2 o0_3 o1) =
  s_q2k_3a (gt_q2k_3a g) (gt_q2k_3b g) (k0_q2k K) (k1_q2k K) i o0 o0_1 o0_2 o0_3 o1 := by kernel_rfl

theorem gstep_q2k_3b {R : Type} (g : List Item -> St -> Option R) (K : AV -> List O -> Option R) (i o0 o0_1 o0_2 : Int) (o0_3 : List Ent) (o1 : List (Int × (List Int × List Int))) :
  runSeg Tryz.prog T_q2k cuts_q2k 0 g (finish Tryz.prog Tryz.f32 0 K) (at' Tryz.f32 3) (sta_q2k_3b i o0 o0_1 o0_2 o0_3 o1) =
  s_q2k_3b (gt_q2k_3a g) (gt_q2k_3b g) (k0_q2k K) (k1_q2k K) i o0 o0_1 o0_2 o0_3 o1 := by kernel_rfl

theorem gentry_q2k {R : Type} (fuel : Nat) (K : AV -> List O -> Option R) (l l_1 l_2 : Int) (l_3 : List Ent) :
  fnRun Tryz.prog T_q2k cuts_q2k Tryz.f32 fuel [.agg [iv l, iv l_1, iv l_2, .rd ⟨false, 53, (.pr (.pr (.int .i64) (.pr (.sl 3 (.int .i64)) (.pr (.int .i64) (.pr (.int .i64) (.pr (.int .i64) (.pr (.int .i64) (.pr (.sl 3 (.int .i64)) (.sl 3 (.int .i64))))))))) (.pr (.int .i64) (.pr (.sl 3 (.int .i64)) (.sl 3 (.int .i64))))), l_3⟩]] [] K =
  e_q2k (gt_q2k_3a (runO Tryz.prog T_q2k cuts_q2k 0 (finish Tryz.prog Tryz.f32 0 K) fuel)) (gt_q2k_3b (runO Tryz.prog T_q2k cuts_q2k 0 (finish Tryz.prog Tryz.f32 0 K) fuel)) (k0_q2k K) (k1_q2k K) l l_1 l_2 l_3 := by kernel_rfl

theorem runs_q2k {R : Type} (K : AV -> List O -> Option R) : ∀ fuel : Nat,
  (gt_q2k_3a (runO Tryz.prog T_q2k cuts_q2k 0 (finish Tryz.prog Tryz.f32 0 K) fuel)) = (run_q2k (k0_q2k K) (k1_q2k K) fuel).1 ∧
  (gt_q2k_3b (runO Tryz.prog T_q2k cuts_q2k 0 (finish Tryz.prog Tryz.f32 0 K) fuel)) = (run_q2k (k0_q2k K) (k1_q2k K) fuel).2
 |0 => ⟨rfl, rfl⟩
 |fuel + 1 => by
  have ih := runs_q2k K fuel
  refine ⟨?_, ?_⟩
  ·funext i o0 o0_1 o0_2 o0_3 o1
   refine (gstep_q2k_3a _ K i o0 o0_1 o0_2 o0_3 o1).trans ?_
   rw [ih.1, ih.2]
   rfl
  ·funext i o0 o0_1 o0_2 o0_3 o1
   refine (gstep_q2k_3b _ K i o0 o0_1 o0_2 o0_3 o1).trans ?_
   rw [ih.1, ih.2]
   rfl

def S_q2k (l_q2k : LT_q2k) : Sum := ⟨[], fun {R} args ob K => match args, ob with
 |[.agg [.v (.int .i64 l), .v (.int .i64 l_1), .v (.int .i64 l_2), .rd ⟨false, 53, (.pr (.pr (.int .i64) (.pr (.sl 3 (.int .i64)) (.pr (.int .i64) (.pr (.int .i64) (.pr (.int .i64) (.pr (.int .i64) (.pr (.sl 3 (.int .i64)) (.sl 3 (.int .i64))))))))) (.pr (.int .i64) (.pr (.sl 3 (.int .i64)) (.sl 3 (.int .i64))))), l_3⟩]], [] => l_q2k l l_1 l_2 l_3 (k0_q2k K) (k1_q2k K)
 |_, _ => none⟩

theorem sound_q2k : Sound Tryz.prog 32 (S_q2k @l_q2k) := by
 refine fn_sound (cuts := cuts_q2k) (fn := Tryz.f32) (Γ := T_q2k) wide right_T_q2k Tryz.func32 fun {R} K r args ob h => ?_
 unfold S_q2k at h
 dsimp only at h
 split at h
 ·obtain ⟨n, hn⟩ := evl_ok h
  refine ⟨Nat.le_of_ble_eq_true (by kernel_rfl), n, (gentry_q2k n K _ _ _ _).trans ?_⟩
  rw [(runs_q2k K n).1, (runs_q2k K n).2]
  exact hn
 ·cases h

theorem call_q2k : Callable Tryz.prog 32 := ⟨_, Tryz.func32, by kernel_rfl, by kernel_rfl⟩

def T_q2l (a0 : LT_q2b) : FuncId -> Option Sum := (addS G0 48 (S_q2b @a0))

abbrev C_q2l : FuncId -> Option Sum := T_q2l @l_q2b

theorem right_T_q2l : Right Tryz.prog C_q2l := (right_add right_G0 call_q2b sound_q2b)

abbrev cuts_q2l : Cuts := [(4, [0, 1, 5])]

abbrev k0_q2l {R : Type} (K : AV -> List O -> Option R) : Bool -> Option R := fun r0 => K (.v (.bool r0)) []

abbrev sta_q2l_4 (a b : List (Int × (List Int × List Int))) (i : Int) : St := ⟨fr0 56 [(0, .rd ⟨false, 51, (.pr (.int .i64) (.pr (.sl 3 (.int .i64)) (.sl 3 (.int .i64)))), a⟩), (1, .rd ⟨false, 51, (.pr (.int .i64) (.pr (.sl 3 (.int .i64)) (.sl 3 (.int .i64)))), b⟩), (5, iv i)], []⟩

abbrev gt_q2l_4 {R : Type} (g : List Item -> St -> Option R) : GT_q2l_4 R := fun (a b : List (Int × (List Int × List Int))) (i : Int) => g (at' Tryz.f31 4) (sta_q2l_4 a b i)

theorem gstep_q2l_4 {a0 : LT_q2b} {R : Type} (g : List Item -> St -> Option R) (K : AV -> List O -> Option R) (a b : List (Int × (List Int × List Int))) (i : Int) :
  runSeg Tryz.prog (T_q2l @a0) cuts_q2l 0 g (finish Tryz.prog Tryz.f31 0 K) (at' Tryz.f31 4) (sta_q2l_4 a b i) =
  gs_q2l_4 @a0 (gt_q2l_4 g) (k0_q2l K) a b i := by kernel_rfl

theorem gentry_q2l {a0 : LT_q2b} {R : Type} (fuel : Nat) (K : AV -> List O -> Option R) (a b : List (Int × (List Int × List Int))) :
  fnRun Tryz.prog (T_q2l @a0) cuts_q2l Tryz.f31 fuel [.rd ⟨false, 51, (.pr (.int .i64) (.pr (.sl 3 (.int .i64)) (.sl 3 (.int .i64)))), a⟩, .rd ⟨false, 51, (.pr (.int .i64) (.pr (.sl 3 (.int .i64)) (.sl 3 (.int .i64)))), b⟩] [] K =
  ge_q2l @a0 (gt_q2l_4 (runO Tryz.prog (T_q2l @a0) cuts_q2l 0 (finish Tryz.prog Tryz.f31 0 K) fuel)) (k0_q2l K) a b := by kernel_rfl

theorem runs_q2l {R : Type} (K : AV -> List O -> Option R) : ∀ fuel : Nat,
  (gt_q2l_4 (runO Tryz.prog C_q2l cuts_q2l 0 (finish Tryz.prog Tryz.f31 0 K) fuel)) = (run_q2l (k0_q2l K) fuel)
 |0 => rfl
 |fuel + 1 => by
  have ih := runs_q2l K fuel
  funext a b i
  refine (gstep_q2l_4 _ K a b i).trans ?_
  rw [ih]
  rfl

def S_q2l (l_q2l : LT_q2l) : Sum := ⟨[], fun {R} args ob K => match args, ob with
 |[.rd ⟨false, 51, (.pr (.int .i64) (.pr (.sl 3 (.int .i64)) (.sl 3 (.int .i64)))), a⟩, .rd ⟨false, 51, (.pr (.int .i64) (.pr (.sl 3 (.int .i64)) (.sl 3 (.int .i64)))), b⟩], [] => l_q2l a b (k0_q2l K)
 |_, _ => none⟩

theorem sound_q2l : Sound Tryz.prog 31 (S_q2l @l_q2l) := by
 refine fn_sound (cuts := cuts_q2l) (fn := Tryz.f31) (Γ := C_q2l) wide right_T_q2l Tryz.func31 fun {R} K r args ob h => ?_
 unfold S_q2l at h
 dsimp only at h
 split at h
 ·obtain ⟨n, hn⟩ := ok_q2l _ _ _ h
  refine ⟨Nat.le_of_ble_eq_true (by kernel_rfl), n, (gentry_q2l n K _ _).trans ?_⟩
  rw [(runs_q2l K n)]
  exact hn
 ·cases h

theorem call_q2l : Callable Tryz.prog 31 := ⟨_, Tryz.func31, by kernel_rfl, by kernel_rfl⟩

def T_q2m (a0 : LT_q1n) (a1 : LT_q2l) (a2 : LT_q2k) (a3 : LT_q2j) (a4 : LT_q1m) (a5 : LT_q2h) (a6 : LT_q21) (a7 : LT_q1o) (a8 : LT_q1l) (a9 : LT_q0) (a10 : LT_q1) : FuncId -> Option Sum := (addS (addS (addS (addS (addS (addS (addS (addS (addS (addS (addS G0 11 (S_q1n @a0)) 31 (S_q2l @a1)) 32 (S_q2k @a2)) 22 (S_q2j @a3)) 14 (S_q1m @a4)) 30 (S_q2h @a5)) 27 (S_q21 @a6)) 29 (S_q1o @a7)) 28 (S_q1l @a8)) 24 (S_q0 @a9)) 10 (S_q1 @a10))

abbrev C_q2m : FuncId -> Option Sum := T_q2m @l_q1n @l_q2l @l_q2k @l_q2j @l_q1m @l_q2h @l_q21 @l_q1o @l_q1l @l_q0 @l_q1

theorem right_T_q2m : Right Tryz.prog C_q2m := (right_add (right_add (right_add (right_add (right_add (right_add (right_add (right_add (right_add (right_add (right_add right_G0 call_q1n sound_q1n) call_q2l sound_q2l) call_q2k sound_q2k) call_q2j sound_q2j) call_q1m sound_q1m) call_q2h sound_q2h) call_q21 sound_q21) call_q1o sound_q1o) call_q1l sound_q1l) call_q0 sound_q0) call_q1 sound_q1)

abbrev cuts_q2m : Cuts := []

abbrev k0_q2m {R : Type} (K : AV -> List O -> Option R) : Bool -> Option R := fun r0 => K (.v (.bool r0)) []

theorem gentry_q2m {a0 : LT_q1n} {a1 : LT_q2l} {a2 : LT_q2k} {a3 : LT_q2j} {a4 : LT_q1m} {a5 : LT_q2h} {a6 : LT_q21} {a7 : LT_q1o} {a8 : LT_q1l} {a9 : LT_q0} {a10 : LT_q1} {R : Type} (K : AV -> List O -> Option R) (l l_1 l_2 : Int) (l_3 : List Ent) (m m_1 m_2 m_3 : Int) (m_4 m_5 : List Int) :
  fnRun Tryz.prog (T_q2m @a0 @a1 @a2 @a3 @a4 @a5 @a6 @a7 @a8 @a9 @a10) cuts_q2m Tryz.f9 0 [.agg [iv l, iv l_1, iv l_2, .rd ⟨false, 53, (.pr (.pr (.int .i64) (.pr (.sl 3 (.int .i64)) (.pr (.int .i64) (.pr (.int .i64) (.pr (.int .i64) (.pr (.int .i64) (.pr (.sl 3 (.int .i64)) (.sl 3 (.int .i64))))))))) (.pr (.int .i64) (.pr (.sl 3 (.int .i64)) (.sl 3 (.int .i64))))), l_3⟩], .agg [iv m, iv m_1, iv m_2, iv m_3, ri 3 m_4, ri 3 m_5]] [] K =
  gl_q2m @a0 @a1 @a2 @a3 @a4 @a5 @a6 @a7 @a8 @a9 @a10 l l_1 l_2 l_3 m m_1 m_2 m_3 m_4 m_5 (k0_q2m K) := by kernel_rfl

def S_q2m (l_q2m : LT_q2m) : Sum := ⟨[], fun {R} args ob K => match args, ob with
 |[.agg [.v (.int .i64 l), .v (.int .i64 l_1), .v (.int .i64 l_2), .rd ⟨false, 53, (.pr (.pr (.int .i64) (.pr (.sl 3 (.int .i64)) (.pr (.int .i64) (.pr (.int .i64) (.pr (.int .i64) (.pr (.int .i64) (.pr (.sl 3 (.int .i64)) (.sl 3 (.int .i64))))))))) (.pr (.int .i64) (.pr (.sl 3 (.int .i64)) (.sl 3 (.int .i64))))), l_3⟩], .agg [.v (.int .i64 m), .v (.int .i64 m_1), .v (.int .i64 m_2), .v (.int .i64 m_3), .rd ⟨false, 3, (.int .i64), m_4⟩, .rd ⟨false, 3, (.int .i64), m_5⟩]], [] => l_q2m l l_1 l_2 l_3 m m_1 m_2 m_3 m_4 m_5 (k0_q2m K)
 |_, _ => none⟩

theorem sound_q2m : Sound Tryz.prog 9 (S_q2m @l_q2m) := by
 refine fn_sound (cuts := cuts_q2m) (fn := Tryz.f9) (Γ := C_q2m) wide right_T_q2m Tryz.func9 fun {R} K r args ob h => ?_
 unfold S_q2m at h
 dsimp only at h
 split at h
 ·exact ⟨Nat.le_of_ble_eq_true (by kernel_rfl), 0, (gentry_q2m K _ _ _ _ _ _ _ _ _ _).trans h⟩
 ·cases h

theorem call_q2m : Callable Tryz.prog 9 := ⟨_, Tryz.func9, by kernel_rfl, by kernel_rfl⟩

end
end Go.Ev
