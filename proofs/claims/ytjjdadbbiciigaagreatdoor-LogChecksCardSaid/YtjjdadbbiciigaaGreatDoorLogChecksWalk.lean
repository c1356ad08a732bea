/- Each function of the program is its tree. -/
import Derived.Test.YtjjdadbbiciigaaGreatDoorProg
import Derived.Test.YtjjdadbbiciigaaGreatDoorEvFn
import Derived.Test.YtjjdadbbiciigaaGreatDoorEvTabs
import Derived.Test.YtjjdadbbiciigaaGreatDoorEvSrch
import Derived.Test.YtjjdadbbiciigaaGreatDoorEvLay9
import Derived.Test.YtjjdadbbiciigaaGreatDoorEvExpA9
import Derived.Test.YtjjdadbbiciigaaGreatDoorEvExpB9
import Derived.Test.YtjjdadbbiciigaaGreatDoorEvExpC9
import Derived.Test.YtjjdadbbiciigaaGreatDoorEvExpD9
import Derived.Test.YtjjdadbbiciigaaGreatDoorEvExpE9
import Derived.Test.YtjjdadbbiciigaaGreatDoorEvAs9
import Derived.Test.YtjjdadbbiciigaaGreatDoorEvAsE9
import Derived.Test.YtjjdadbbiciigaaGreatDoorLogChecksPure
namespace Go.Ev
open Go.Proofs
noncomputable section
set_option linter.unusedVariables false
set_option linter.unusedSimpArgs false
set_option maxRecDepth 100000
set_option maxHeartbeats 4000000

variable [TabG] [TabsHold Tryz.prog] [CellHold ⟨1, 0, none⟩ (.iface 194 (.agg #[.pointer (some ⟨6, 143, none⟩)]))] [IntHold ⟨0, 0, none⟩]
set_option linter.unusedSectionVars false

instance : LoopG := ⟨fun k => rfOf Tryz.prog k⟩

theorem wide : Tables.follows Tryz.prog.toTables .mixedOrders = true := by kernel_rfl

def G0 : FuncId → Option Sum := fun _ => none
theorem right_G0 : Right Tryz.prog G0 := fun f S h => by cases h

def T_tutorref03_Big : FuncId → Option Sum := G0

theorem right_T_tutorref03_Big : Right Tryz.prog T_tutorref03_Big := right_G0

abbrev cuts_tutorref03_Big : Cuts := []

abbrev k0_tutorref03_Big {R : Type} (K : AV → List O → Option R) : Bool → Option R := fun r0 => K (.v (.bool r0)) []

theorem gentry_tutorref03_Big {R : Type} (K : AV → List O → Option R) (m m_1 m_2 m_3 : Int) (m_4 m_5 : List Int) (states : Int) :
    fnRun Tryz.prog T_tutorref03_Big cuts_tutorref03_Big Tryz.f24 0 [.agg [.v (.int .i64 m), .v (.int .i64 m_1), .v (.int .i64 m_2), .v (.int .i64 m_3), .rd ⟨false, 3, (.int .i64), m_4⟩, .rd ⟨false, 3, (.int .i64), m_5⟩], .v (.int .i64 states)] [] K =
    l_tutorref03_Big m m_1 m_2 m_3 m_4 m_5 states (k0_tutorref03_Big K) := by kernel_rfl

def S_tutorref03_Big (l_tutorref03_Big : LT_tutorref03_Big) : Sum := ⟨[], fun {R} args ob K => match args, ob with
  | [.agg [.v (.int .i64 m), .v (.int .i64 m_1), .v (.int .i64 m_2), .v (.int .i64 m_3), .rd ⟨false, 3, (.int .i64), m_4⟩, .rd ⟨false, 3, (.int .i64), m_5⟩], .v (.int .i64 states)], [] => l_tutorref03_Big m m_1 m_2 m_3 m_4 m_5 states (k0_tutorref03_Big K)
  | _, _ => none⟩

theorem sound_tutorref03_Big : Sound Tryz.prog 24 (S_tutorref03_Big @l_tutorref03_Big) := by
  refine fn_sound (cuts := cuts_tutorref03_Big) (fn := Tryz.f24) (Γ := T_tutorref03_Big) wide right_T_tutorref03_Big Tryz.func24 fun {R} K r args ob h => ?_
  unfold S_tutorref03_Big at h
  dsimp only at h
  split at h
  · exact ⟨Nat.le_of_ble_eq_true (by kernel_rfl), 0, (gentry_tutorref03_Big K _ _ _ _ _ _ _).trans h⟩
  · cases h

theorem call_tutorref03_Big : Callable Tryz.prog 24 := ⟨_, Tryz.func24, by kernel_rfl, by kernel_rfl⟩

def T_tutorref27_Big (a0 : LT_tutorref03_Big) : FuncId → Option Sum := (addS G0 24 (S_tutorref03_Big @a0))

abbrev C_tutorref27_Big : FuncId → Option Sum := T_tutorref27_Big @l_tutorref03_Big

theorem right_T_tutorref27_Big : Right Tryz.prog C_tutorref27_Big := (right_add right_G0 call_tutorref03_Big sound_tutorref03_Big)

abbrev cuts_tutorref27_Big : Cuts := [(4, [1, 2, 5])]

abbrev k0_tutorref27_Big {R : Type} (K : AV → List O → Option R) : Bool → Option R := fun r0 => K (.v (.bool r0)) []

abbrev sta_tutorref27_Big_4 (most i o0 o0_1 o0_2 : Int) (o0_3 : List Ent) : St := ⟨fr0 51 [(1, .v (.int .i64 most)), (2, .ptr 0 0), (5, .v (.int .i64 i))], [.box 24 [.v (.int .i64 o0), .v (.int .i64 o0_1), .v (.int .i64 o0_2), .rd ⟨false, 53, (.pr (.pr (.int .i64) (.pr (.sl 3 (.int .i64)) (.pr (.int .i64) (.pr (.int .i64) (.pr (.int .i64) (.pr (.int .i64) (.pr (.sl 3 (.int .i64)) (.sl 3 (.int .i64))))))))) (.pr (.int .i64) (.pr (.sl 3 (.int .i64)) (.sl 3 (.int .i64))))), o0_3⟩]]⟩

abbrev gt_tutorref27_Big_4 {R : Type} (g : List Item → St → Option R) : GT_tutorref27_Big_4 R := fun (most i o0 o0_1 o0_2 : Int) (o0_3 : List Ent) => g (at' Tryz.f10 4) (sta_tutorref27_Big_4 most i o0 o0_1 o0_2 o0_3)

theorem gstep_tutorref27_Big_4 {a0 : LT_tutorref03_Big} {R : Type} (g : List Item → St → Option R) (K : AV → List O → Option R) (most i o0 o0_1 o0_2 : Int) (o0_3 : List Ent) :
    runSeg Tryz.prog (T_tutorref27_Big @a0) cuts_tutorref27_Big 0 g (finish Tryz.prog Tryz.f10 0 K) (at' Tryz.f10 4) (sta_tutorref27_Big_4 most i o0 o0_1 o0_2 o0_3) =
    gs_tutorref27_Big_4 @a0 (gt_tutorref27_Big_4 g) (k0_tutorref27_Big K) most i o0 o0_1 o0_2 o0_3 := by kernel_rfl

theorem gentry_tutorref27_Big {a0 : LT_tutorref03_Big} {R : Type} (fuel : Nat) (K : AV → List O → Option R) (l l_1 l_2 : Int) (l_3 : List Ent) (most : Int) :
    fnRun Tryz.prog (T_tutorref27_Big @a0) cuts_tutorref27_Big Tryz.f10 fuel [.agg [.v (.int .i64 l), .v (.int .i64 l_1), .v (.int .i64 l_2), .rd ⟨false, 53, (.pr (.pr (.int .i64) (.pr (.sl 3 (.int .i64)) (.pr (.int .i64) (.pr (.int .i64) (.pr (.int .i64) (.pr (.int .i64) (.pr (.sl 3 (.int .i64)) (.sl 3 (.int .i64))))))))) (.pr (.int .i64) (.pr (.sl 3 (.int .i64)) (.sl 3 (.int .i64))))), l_3⟩], .v (.int .i64 most)] [] K =
    ge_tutorref27_Big @a0 (gt_tutorref27_Big_4 (runO Tryz.prog (T_tutorref27_Big @a0) cuts_tutorref27_Big 0 (finish Tryz.prog Tryz.f10 0 K) fuel)) (k0_tutorref27_Big K) l l_1 l_2 l_3 most := by kernel_rfl

theorem runs_tutorref27_Big {R : Type} (K : AV → List O → Option R) : ∀ fuel : Nat,
    (gt_tutorref27_Big_4 (runO Tryz.prog C_tutorref27_Big cuts_tutorref27_Big 0 (finish Tryz.prog Tryz.f10 0 K) fuel)) = (run_tutorref27_Big (k0_tutorref27_Big K) fuel)
  | 0 => rfl
  | fuel + 1 => by
    have ih := runs_tutorref27_Big K fuel
    funext most i o0 o0_1 o0_2 o0_3
    refine (gstep_tutorref27_Big_4 _ K most i o0 o0_1 o0_2 o0_3).trans ?_
    rw [ih]
    rfl

def S_tutorref27_Big (l_tutorref27_Big : LT_tutorref27_Big) : Sum := ⟨[], fun {R} args ob K => match args, ob with
  | [.agg [.v (.int .i64 l), .v (.int .i64 l_1), .v (.int .i64 l_2), .rd ⟨false, 53, (.pr (.pr (.int .i64) (.pr (.sl 3 (.int .i64)) (.pr (.int .i64) (.pr (.int .i64) (.pr (.int .i64) (.pr (.int .i64) (.pr (.sl 3 (.int .i64)) (.sl 3 (.int .i64))))))))) (.pr (.int .i64) (.pr (.sl 3 (.int .i64)) (.sl 3 (.int .i64))))), l_3⟩], .v (.int .i64 most)], [] => l_tutorref27_Big l l_1 l_2 l_3 most (k0_tutorref27_Big K)
  | _, _ => none⟩

theorem sound_tutorref27_Big : Sound Tryz.prog 10 (S_tutorref27_Big @l_tutorref27_Big) := by
  refine fn_sound (cuts := cuts_tutorref27_Big) (fn := Tryz.f10) (Γ := C_tutorref27_Big) wide right_T_tutorref27_Big Tryz.func10 fun {R} K r args ob h => ?_
  unfold S_tutorref27_Big at h
  dsimp only at h
  split at h
  · obtain ⟨n, hn⟩ := evl_ok h
    refine ⟨Nat.le_of_ble_eq_true (by kernel_rfl), n, (gentry_tutorref27_Big n K _ _ _ _ _).trans ?_⟩
    rw [(runs_tutorref27_Big K n)]
    exact hn
  · cases h

theorem call_tutorref27_Big : Callable Tryz.prog 10 := ⟨_, Tryz.func10, by kernel_rfl, by kernel_rfl⟩


def S_bytes_Count (l_bytes_Count : LT_bytes_Count) : Sum := ⟨[], fun {R} args ob K => match args, ob with
  | [.rd ⟨false, _, .int .u8, xs⟩, .rd ⟨false, _, .int .u8, ys⟩], [] => l_bytes_Count xs ys (fun r0 => K (.v (.int .i64 r0)) [])
  | _, _ => none⟩

theorem nilI_bytes_Count {R : Type} (K : AV → List O → Option R) (y0 y1 : Int) (e1 e : TypeId) :
    fnRun Tryz.prog G0 [] Tryz.f63 0 [.rd ⟨false, e1, .int .u8, []⟩, .rd ⟨false, e, .int .u8, [y0, y1]⟩] [] K = K (.v (.int .i64 (-1))) [] := by kernel_rfl

theorem nilC_bytes_Count {R : Type} (K : AV → List O → Option R) (y0 y1 : Int) (e1 e : TypeId) :
    fnRun Tryz.prog (addS G0 63 S_nilIndex) [] Tryz.f39 0 [.rd ⟨false, e1, .int .u8, []⟩, .rd ⟨false, e, .int .u8, [y0, y1]⟩] [] K = K (.v (.int .i64 0)) [] := by kernel_rfl

theorem sound_nil_bytes_Count : Sound Tryz.prog 39 S_nilCount := by
  have hI : Sound Tryz.prog 63 S_nilIndex := by
    refine fn_sound (cuts := []) (fn := Tryz.f63) (Γ := G0) wide right_G0 Tryz.func63 fun {R} K r args ob h => ?_
    unfold S_nilIndex at h
    dsimp only at h
    split at h
    · exact ⟨Nat.le_of_ble_eq_true (by kernel_rfl), 0, (nilI_bytes_Count K _ _ _ _).trans h⟩
    · cases h
  have hc : Callable Tryz.prog 63 := ⟨_, Tryz.func63, by kernel_rfl, by kernel_rfl⟩
  have hΓ : Right Tryz.prog (addS G0 63 S_nilIndex) := right_add right_G0 hc hI
  have hF : ∀ {R : Type} (K : AV → List O → Option R) (r : R) (args : List AV) (ob : List O), S_nilCount.run args ob K = some r → args.length ≤ Tryz.f39.ntmps ∧ ∃ n, fnRun Tryz.prog (addS G0 63 S_nilIndex) [] Tryz.f39 n args ob K = some r := by
    intro R K r args ob h
    unfold S_nilCount at h
    dsimp only at h
    split at h
    · exact ⟨Nat.le_of_ble_eq_true (by kernel_rfl), 0, (nilC_bytes_Count K _ _ _ _).trans h⟩
    · cases h
  intro R K r args ob h vals w β rho pb disj hW hr
  exact fn_sound (S := S_nilCount) (cuts := []) (fn := Tryz.f39) (Γ := addS G0 63 S_nilIndex) wide hΓ Tryz.func39 (fun {R} => hF) (key_none (by decide)) K r args ob h vals w β rho pb disj hW hr

theorem sound_bytes_Count : Sound Tryz.prog 39 (S_bytes_Count @l_bytes_Count) := sound_Count (g := 0) Tryz.laysC13 rfl rfl inferInstance sound_nil_bytes_Count

theorem call_bytes_Count : Callable Tryz.prog 39 := ⟨_, Tryz.func39, by kernel_rfl, by kernel_rfl⟩

def T_log_reader_want : FuncId → Option Sum := G0

theorem right_T_log_reader_want : Right Tryz.prog T_log_reader_want := right_G0

abbrev cuts_log_reader_want : Cuts := [(1, [0, 1, 4])]

abbrev k0_log_reader_want {R : Type} (K : AV → List O → Option R) : (List Int) → Int → Int → Option R := fun r0 r1 r2 => K (.tup []) [.box 87 [.rd ⟨false, 5, (.int .u8), r0⟩, .v (.int .i64 r1), .v (.int .i64 r2)]]

abbrev sta_log_reader_want_1 (s : ByteArray) (i : Int) (o0 : List Int) (o0_1 o0_2 : Int) : St := ⟨fr0 54 [(0, .ptr 0 0), (1, .v (.string s)), (4, .v (.int .i64 i))], [.box 87 [.rd ⟨false, 5, (.int .u8), o0⟩, .v (.int .i64 o0_1), .v (.int .i64 o0_2)]]⟩

abbrev gt_log_reader_want_1 {R : Type} (g : List Item → St → Option R) : GT_log_reader_want_1 R := fun (s : ByteArray) (i : Int) (o0 : List Int) (o0_1 o0_2 : Int) => g (at' Tryz.f64 1) (sta_log_reader_want_1 s i o0 o0_1 o0_2)

theorem gstep_log_reader_want_1 {R : Type} (g : List Item → St → Option R) (K : AV → List O → Option R) (s : ByteArray) (i : Int) (o0 : List Int) (o0_1 o0_2 : Int) :
    runSeg Tryz.prog T_log_reader_want cuts_log_reader_want 1 g (finish Tryz.prog Tryz.f64 1 K) (at' Tryz.f64 1) (sta_log_reader_want_1 s i o0 o0_1 o0_2) =
    s_log_reader_want_1 (gt_log_reader_want_1 g) (k0_log_reader_want K) s i o0 o0_1 o0_2 := by kernel_rfl

theorem gentry_log_reader_want {R : Type} (fuel : Nat) (K : AV → List O → Option R) (s : ByteArray) (o0 : List Int) (o0_1 o0_2 : Int) :
    fnRun Tryz.prog T_log_reader_want cuts_log_reader_want Tryz.f64 fuel [.ptr 0 0, .v (.string s)] [.box 87 [.rd ⟨false, 5, (.int .u8), o0⟩, .v (.int .i64 o0_1), .v (.int .i64 o0_2)]] K =
    e_log_reader_want (gt_log_reader_want_1 (runO Tryz.prog T_log_reader_want cuts_log_reader_want 1 (finish Tryz.prog Tryz.f64 1 K) fuel)) (k0_log_reader_want K) s o0 o0_1 o0_2 := by kernel_rfl

theorem runs_log_reader_want {R : Type} (K : AV → List O → Option R) : ∀ fuel : Nat,
    (gt_log_reader_want_1 (runO Tryz.prog T_log_reader_want cuts_log_reader_want 1 (finish Tryz.prog Tryz.f64 1 K) fuel)) = (run_log_reader_want (k0_log_reader_want K) fuel)
  | 0 => rfl
  | fuel + 1 => by
    have ih := runs_log_reader_want K fuel
    funext s i o0 o0_1 o0_2
    refine (gstep_log_reader_want_1 _ K s i o0 o0_1 o0_2).trans ?_
    rw [ih]
    rfl

def S_log_reader_want (l_log_reader_want : LT_log_reader_want) : Sum := ⟨[], fun {R} args ob K => match args, ob with
  | [.ptr 0 0, .v (.string s)], [.box 87 [.rd ⟨false, 5, (.int .u8), o0⟩, .v (.int .i64 o0_1), .v (.int .i64 o0_2)]] => l_log_reader_want s o0 o0_1 o0_2 (k0_log_reader_want K)
  | _, _ => none⟩

theorem sound_log_reader_want : Sound Tryz.prog 64 (S_log_reader_want @l_log_reader_want) := by
  refine fn_sound (cuts := cuts_log_reader_want) (fn := Tryz.f64) (Γ := T_log_reader_want) wide right_T_log_reader_want Tryz.func64 fun {R} K r args ob h => ?_
  unfold S_log_reader_want at h
  dsimp only at h
  split at h
  · obtain ⟨n, hn⟩ := evl_ok h
    refine ⟨Nat.le_of_ble_eq_true (by kernel_rfl), n, (gentry_log_reader_want n K _ _ _ _).trans ?_⟩
    rw [(runs_log_reader_want K n)]
    exact hn
  · cases h

theorem call_log_reader_want : Callable Tryz.prog 64 := ⟨_, Tryz.func64, by kernel_rfl, by kernel_rfl⟩

def T_bytes_Equal : FuncId → Option Sum := G0

theorem right_T_bytes_Equal : Right Tryz.prog T_bytes_Equal := right_G0

abbrev cuts_bytes_Equal : Cuts := []

abbrev k0_bytes_Equal {R : Type} (K : AV → List O → Option R) : Bool → Option R := fun r0 => K (.v (.bool r0)) []

theorem gentry_bytes_Equal {R : Type} (K : AV → List O → Option R) (a b : List Int) :
    fnRun Tryz.prog T_bytes_Equal cuts_bytes_Equal Tryz.f83 0 [.rd ⟨false, 5, (.int .u8), a⟩, .rd ⟨false, 5, (.int .u8), b⟩] [] K =
    l_bytes_Equal a b (k0_bytes_Equal K) := by kernel_rfl

def S_bytes_Equal (l_bytes_Equal : LT_bytes_Equal) : Sum := ⟨[], fun {R} args ob K => match args, ob with
  | [.rd ⟨false, 5, (.int .u8), a⟩, .rd ⟨false, 5, (.int .u8), b⟩], [] => l_bytes_Equal a b (k0_bytes_Equal K)
  | _, _ => none⟩

theorem sound_bytes_Equal : Sound Tryz.prog 83 (S_bytes_Equal @l_bytes_Equal) := by
  refine fn_sound (cuts := cuts_bytes_Equal) (fn := Tryz.f83) (Γ := T_bytes_Equal) wide right_T_bytes_Equal Tryz.func83 fun {R} K r args ob h => ?_
  unfold S_bytes_Equal at h
  dsimp only at h
  split at h
  · exact ⟨Nat.le_of_ble_eq_true (by kernel_rfl), 0, (gentry_bytes_Equal K _ _).trans h⟩
  · cases h

theorem call_bytes_Equal : Callable Tryz.prog 83 := ⟨_, Tryz.func83, by kernel_rfl, by kernel_rfl⟩

def T_bytes_HasPrefix (a0 : LT_bytes_Equal) : FuncId → Option Sum := (addS G0 83 (S_bytes_Equal @a0))

abbrev C_bytes_HasPrefix : FuncId → Option Sum := T_bytes_HasPrefix @l_bytes_Equal

theorem right_T_bytes_HasPrefix : Right Tryz.prog C_bytes_HasPrefix := (right_add right_G0 call_bytes_Equal sound_bytes_Equal)

abbrev cuts_bytes_HasPrefix : Cuts := []

abbrev k0_bytes_HasPrefix {R : Type} (K : AV → List O → Option R) : Bool → Option R := fun r0 => K (.v (.bool r0)) []

theorem gentry_bytes_HasPrefix {a0 : LT_bytes_Equal} {R : Type} (K : AV → List O → Option R) (s vprefix : List Int) :
    fnRun Tryz.prog (T_bytes_HasPrefix @a0) cuts_bytes_HasPrefix Tryz.f66 0 [.rd ⟨false, 5, (.int .u8), s⟩, .rd ⟨false, 5, (.int .u8), vprefix⟩] [] K =
    gl_bytes_HasPrefix @a0 s vprefix (k0_bytes_HasPrefix K) := by kernel_rfl

def S_bytes_HasPrefix (l_bytes_HasPrefix : LT_bytes_HasPrefix) : Sum := ⟨[], fun {R} args ob K => match args, ob with
  | [.rd ⟨false, 5, (.int .u8), s⟩, .rd ⟨false, 5, (.int .u8), vprefix⟩], [] => l_bytes_HasPrefix s vprefix (k0_bytes_HasPrefix K)
  | _, _ => none⟩

theorem sound_bytes_HasPrefix : Sound Tryz.prog 66 (S_bytes_HasPrefix @l_bytes_HasPrefix) := by
  refine fn_sound (cuts := cuts_bytes_HasPrefix) (fn := Tryz.f66) (Γ := C_bytes_HasPrefix) wide right_T_bytes_HasPrefix Tryz.func66 fun {R} K r args ob h => ?_
  unfold S_bytes_HasPrefix at h
  dsimp only at h
  split at h
  · exact ⟨Nat.le_of_ble_eq_true (by kernel_rfl), 0, (gentry_bytes_HasPrefix K _ _).trans h⟩
  · cases h

theorem call_bytes_HasPrefix : Callable Tryz.prog 66 := ⟨_, Tryz.func66, by kernel_rfl, by kernel_rfl⟩

def T_log_reader_is (a0 : LT_bytes_HasPrefix) : FuncId → Option Sum := (addS G0 66 (S_bytes_HasPrefix @a0))

abbrev C_log_reader_is : FuncId → Option Sum := T_log_reader_is @l_bytes_HasPrefix

theorem right_T_log_reader_is : Right Tryz.prog C_log_reader_is := (right_add right_G0 call_bytes_HasPrefix sound_bytes_HasPrefix)

abbrev cuts_log_reader_is : Cuts := []

abbrev k0_log_reader_is {R : Type} (K : AV → List O → Option R) : Bool → (List Int) → Int → Int → Option R := fun r0 r1 r2 r3 => K (.v (.bool r0)) [.box 87 [.rd ⟨false, 5, (.int .u8), r1⟩, .v (.int .i64 r2), .v (.int .i64 r3)]]

theorem gentry_log_reader_is {a0 : LT_bytes_HasPrefix} {R : Type} (K : AV → List O → Option R) (s : ByteArray) (o0 : List Int) (o0_1 o0_2 : Int) :
    fnRun Tryz.prog (T_log_reader_is @a0) cuts_log_reader_is Tryz.f41 0 [.ptr 0 0, .v (.string s)] [.box 87 [.rd ⟨false, 5, (.int .u8), o0⟩, .v (.int .i64 o0_1), .v (.int .i64 o0_2)]] K =
    gl_log_reader_is @a0 s o0 o0_1 o0_2 (k0_log_reader_is K) := by kernel_rfl

def S_log_reader_is (l_log_reader_is : LT_log_reader_is) : Sum := ⟨[], fun {R} args ob K => match args, ob with
  | [.ptr 0 0, .v (.string s)], [.box 87 [.rd ⟨false, 5, (.int .u8), o0⟩, .v (.int .i64 o0_1), .v (.int .i64 o0_2)]] => l_log_reader_is s o0 o0_1 o0_2 (k0_log_reader_is K)
  | _, _ => none⟩

theorem sound_log_reader_is : Sound Tryz.prog 41 (S_log_reader_is @l_log_reader_is) := by
  refine fn_sound (cuts := cuts_log_reader_is) (fn := Tryz.f41) (Γ := C_log_reader_is) wide right_T_log_reader_is Tryz.func41 fun {R} K r args ob h => ?_
  unfold S_log_reader_is at h
  dsimp only at h
  split at h
  · exact ⟨Nat.le_of_ble_eq_true (by kernel_rfl), 0, (gentry_log_reader_is K _ _ _ _).trans h⟩
  · cases h

theorem call_log_reader_is : Callable Tryz.prog 41 := ⟨_, Tryz.func41, by kernel_rfl, by kernel_rfl⟩

def T_text_Number : FuncId → Option Sum := G0

theorem right_T_text_Number : Right Tryz.prog T_text_Number := right_G0

abbrev cuts_text_Number : Cuts := [(4, [0, 1, 4, 7])]

abbrev k0_text_Number {R : Type} (K : AV → List O → Option R) : Int → Int → Int → Option R := fun r0 r1 r2 => K (.tup [.v (.int .i64 r0), .v (.int .i64 r1), .v (.int .i64 r2)]) []

abbrev sta_text_Number_4 (b : List Int) (vat n i : Int) : St := ⟨fr0 70 [(0, .rd ⟨false, 5, (.int .u8), b⟩), (1, .v (.int .i64 vat)), (4, .v (.int .i64 n)), (7, .v (.int .i64 i))], []⟩

abbrev gt_text_Number_4 {R : Type} (g : List Item → St → Option R) : GT_text_Number_4 R := fun (b : List Int) (vat n i : Int) => g (at' Tryz.f87 4) (sta_text_Number_4 b vat n i)

theorem gstep_text_Number_4 {R : Type} (g : List Item → St → Option R) (K : AV → List O → Option R) (b : List Int) (vat n i : Int) :
    runSeg Tryz.prog T_text_Number cuts_text_Number 0 g (finish Tryz.prog Tryz.f87 0 K) (at' Tryz.f87 4) (sta_text_Number_4 b vat n i) =
    s_text_Number_4 (gt_text_Number_4 g) (k0_text_Number K) b vat n i := by kernel_rfl

theorem gentry_text_Number {R : Type} (fuel : Nat) (K : AV → List O → Option R) (b : List Int) (vat : Int) :
    fnRun Tryz.prog T_text_Number cuts_text_Number Tryz.f87 fuel [.rd ⟨false, 5, (.int .u8), b⟩, .v (.int .i64 vat)] [] K =
    e_text_Number (gt_text_Number_4 (runO Tryz.prog T_text_Number cuts_text_Number 0 (finish Tryz.prog Tryz.f87 0 K) fuel)) (k0_text_Number K) b vat := by kernel_rfl

theorem runs_text_Number {R : Type} (K : AV → List O → Option R) : ∀ fuel : Nat,
    (gt_text_Number_4 (runO Tryz.prog T_text_Number cuts_text_Number 0 (finish Tryz.prog Tryz.f87 0 K) fuel)) = (run_text_Number (k0_text_Number K) fuel)
  | 0 => rfl
  | fuel + 1 => by
    have ih := runs_text_Number K fuel
    funext b vat n i
    refine (gstep_text_Number_4 _ K b vat n i).trans ?_
    rw [ih]
    rfl

def S_text_Number (l_text_Number : LT_text_Number) : Sum := ⟨[], fun {R} args ob K => match args, ob with
  | [.rd ⟨false, 5, (.int .u8), b⟩, .v (.int .i64 vat)], [] => l_text_Number b vat (k0_text_Number K)
  | _, _ => none⟩

theorem sound_text_Number : Sound Tryz.prog 87 (S_text_Number @l_text_Number) := by
  refine fn_sound (cuts := cuts_text_Number) (fn := Tryz.f87) (Γ := T_text_Number) wide right_T_text_Number Tryz.func87 fun {R} K r args ob h => ?_
  unfold S_text_Number at h
  dsimp only at h
  split at h
  · obtain ⟨n, hn⟩ := ok_text_Number _ _ _ h
    refine ⟨Nat.le_of_ble_eq_true (by kernel_rfl), n, (gentry_text_Number n K _ _).trans ?_⟩
    rw [(runs_text_Number K n)]
    exact hn
  · cases h

theorem call_text_Number : Callable Tryz.prog 87 := ⟨_, Tryz.func87, by kernel_rfl, by kernel_rfl⟩

def T_log_reader_number (a0 : LT_text_Number) : FuncId → Option Sum := (addS G0 87 (S_text_Number @a0))

abbrev C_log_reader_number : FuncId → Option Sum := T_log_reader_number @l_text_Number

theorem right_T_log_reader_number : Right Tryz.prog C_log_reader_number := (right_add right_G0 call_text_Number sound_text_Number)

abbrev cuts_log_reader_number : Cuts := []

abbrev k0_log_reader_number {R : Type} (K : AV → List O → Option R) : Int → (List Int) → Int → Int → Option R := fun r0 r1 r2 r3 => K (.v (.int .i64 r0)) [.box 87 [.rd ⟨false, 5, (.int .u8), r1⟩, .v (.int .i64 r2), .v (.int .i64 r3)]]

theorem gentry_log_reader_number {a0 : LT_text_Number} {R : Type} (K : AV → List O → Option R) (most kind : Int) (o0 : List Int) (o0_1 o0_2 : Int) :
    fnRun Tryz.prog (T_log_reader_number @a0) cuts_log_reader_number Tryz.f65 0 [.ptr 0 0, .v (.int .i64 most), .v (.int .i64 kind)] [.box 87 [.rd ⟨false, 5, (.int .u8), o0⟩, .v (.int .i64 o0_1), .v (.int .i64 o0_2)]] K =
    gl_log_reader_number @a0 most kind o0 o0_1 o0_2 (k0_log_reader_number K) := by kernel_rfl

def S_log_reader_number (l_log_reader_number : LT_log_reader_number) : Sum := ⟨[], fun {R} args ob K => match args, ob with
  | [.ptr 0 0, .v (.int .i64 most), .v (.int .i64 kind)], [.box 87 [.rd ⟨false, 5, (.int .u8), o0⟩, .v (.int .i64 o0_1), .v (.int .i64 o0_2)]] => l_log_reader_number most kind o0 o0_1 o0_2 (k0_log_reader_number K)
  | _, _ => none⟩

theorem sound_log_reader_number : Sound Tryz.prog 65 (S_log_reader_number @l_log_reader_number) := by
  refine fn_sound (cuts := cuts_log_reader_number) (fn := Tryz.f65) (Γ := C_log_reader_number) wide right_T_log_reader_number Tryz.func65 fun {R} K r args ob h => ?_
  unfold S_log_reader_number at h
  dsimp only at h
  split at h
  · exact ⟨Nat.le_of_ble_eq_true (by kernel_rfl), 0, (gentry_log_reader_number K _ _ _ _ _).trans h⟩
  · cases h

theorem call_log_reader_number : Callable Tryz.prog 65 := ⟨_, Tryz.func65, by kernel_rfl, by kernel_rfl⟩

def T_log_reader_first (a0 : LT_log_reader_want) (a1 : LT_log_reader_number) (a2 : LT_log_reader_is) : FuncId → Option Sum := (addS (addS (addS G0 64 (S_log_reader_want @a0)) 65 (S_log_reader_number @a1)) 41 (S_log_reader_is @a2))

abbrev C_log_reader_first : FuncId → Option Sum := T_log_reader_first @l_log_reader_want @l_log_reader_number @l_log_reader_is

theorem right_T_log_reader_first : Right Tryz.prog C_log_reader_first := (right_add (right_add (right_add right_G0 call_log_reader_want sound_log_reader_want) call_log_reader_number sound_log_reader_number) call_log_reader_is sound_log_reader_is)

abbrev cuts_log_reader_first : Cuts := []

abbrev k0_log_reader_first {R : Type} (K : AV → List O → Option R) : Int → Int → Int → (List Int) → Int → Int → (List Ent) → Option R := fun r0 r1 r2 r3 r4 r5 r6 => K (.agg [.v (.int .i64 r0), .v (.int .i64 r1), .v (.int .i64 r2), .own 1]) [.box 87 [.rd ⟨false, 5, (.int .u8), r3⟩, .v (.int .i64 r4), .v (.int .i64 r5)], .row ⟨true, 53, (.pr (.pr (.int .i64) (.pr (.sl 3 (.int .i64)) (.pr (.int .i64) (.pr (.int .i64) (.pr (.int .i64) (.pr (.int .i64) (.pr (.sl 3 (.int .i64)) (.sl 3 (.int .i64))))))))) (.pr (.int .i64) (.pr (.sl 3 (.int .i64)) (.sl 3 (.int .i64))))), r6⟩]

theorem gentry_log_reader_first {a0 : LT_log_reader_want} {a1 : LT_log_reader_number} {a2 : LT_log_reader_is} {R : Type} (K : AV → List O → Option R) (o0 : List Int) (o0_1 o0_2 : Int) :
    fnRun Tryz.prog (T_log_reader_first @a0 @a1 @a2) cuts_log_reader_first Tryz.f40 0 [.ptr 0 0] [.box 87 [.rd ⟨false, 5, (.int .u8), o0⟩, .v (.int .i64 o0_1), .v (.int .i64 o0_2)]] K =
    gl_log_reader_first @a0 @a1 @a2 o0 o0_1 o0_2 (k0_log_reader_first K) := by kernel_rfl

def S_log_reader_first (l_log_reader_first : LT_log_reader_first) : Sum := ⟨[], fun {R} args ob K => match args, ob with
  | [.ptr 0 0], [.box 87 [.rd ⟨false, 5, (.int .u8), o0⟩, .v (.int .i64 o0_1), .v (.int .i64 o0_2)]] => l_log_reader_first o0 o0_1 o0_2 (k0_log_reader_first K)
  | _, _ => none⟩

theorem sound_log_reader_first : Sound Tryz.prog 40 (S_log_reader_first @l_log_reader_first) := by
  refine fn_sound (cuts := cuts_log_reader_first) (fn := Tryz.f40) (Γ := C_log_reader_first) wide right_T_log_reader_first Tryz.func40 fun {R} K r args ob h => ?_
  unfold S_log_reader_first at h
  dsimp only at h
  split at h
  · exact ⟨Nat.le_of_ble_eq_true (by kernel_rfl), 0, (gentry_log_reader_first K _ _ _).trans h⟩
  · cases h

theorem call_log_reader_first : Callable Tryz.prog 40 := ⟨_, Tryz.func40, by kernel_rfl, by kernel_rfl⟩

def T_log_query : FuncId → Option Sum := G0

theorem right_T_log_query : Right Tryz.prog T_log_query := right_G0

abbrev cuts_log_query : Cuts := []

abbrev k0_log_query {R : Type} (K : AV → List O → Option R) : Int → (List Int) → Int → Int → Int → Int → (List Int) → (List Int) → Option R := fun r0 r1 r2 r3 r4 r5 r6 r7 => K (.agg [.v (.int .i64 r0), .rd ⟨false, 3, (.int .i64), r1⟩, .v (.int .i64 r2), .v (.int .i64 r3), .v (.int .i64 r4), .v (.int .i64 r5), .own 0, .own 1]) [.row ⟨true, 3, (.int .i64), r6⟩, .row ⟨true, 3, (.int .i64), r7⟩]

theorem gentry_log_query {R : Type} (K : AV → List O → Option R) (l l_1 l_2 : Int) (w : List Int) :
    fnRun Tryz.prog T_log_query cuts_log_query Tryz.f67 0 [.agg [.v (.int .i64 l), .v (.int .i64 l_1), .v (.int .i64 l_2), .cel], .rd ⟨false, 3, (.int .i64), w⟩] [] K =
    l_log_query l l_1 l_2 w (k0_log_query K) := by kernel_rfl

def S_log_query (l_log_query : LT_log_query) : Sum := ⟨[], fun {R} args ob K => match args, ob with
  | [.agg [.v (.int .i64 l), .v (.int .i64 l_1), .v (.int .i64 l_2), .cel], .rd ⟨false, 3, (.int .i64), w⟩], [] => l_log_query l l_1 l_2 w (k0_log_query K)
  | _, _ => none⟩

theorem sound_log_query : Sound Tryz.prog 67 (S_log_query @l_log_query) := by
  refine fn_sound (cuts := cuts_log_query) (fn := Tryz.f67) (Γ := T_log_query) wide right_T_log_query Tryz.func67 fun {R} K r args ob h => ?_
  unfold S_log_query at h
  dsimp only at h
  split at h
  · exact ⟨Nat.le_of_ble_eq_true (by kernel_rfl), 0, (gentry_log_query K _ _ _ _).trans h⟩
  · cases h

theorem call_log_query : Callable Tryz.prog 67 := ⟨_, Tryz.func67, by kernel_rfl, by kernel_rfl⟩

def T_log_reader_row (a0 : LT_text_Number) : FuncId → Option Sum := (addS G0 87 (S_text_Number @a0))

abbrev C_log_reader_row : FuncId → Option Sum := T_log_reader_row @l_text_Number

theorem right_T_log_reader_row : Right Tryz.prog C_log_reader_row := (right_add right_G0 call_text_Number sound_text_Number)

abbrev cuts_log_reader_row : Cuts := [(2, [0, 1, 5])]

abbrev k0_log_reader_row {R : Type} (K : AV → List O → Option R) : (List Int) → Int → Int → (List Int) → Option R := fun r0 r1 r2 r3 => K (.own 1) [.box 87 [.rd ⟨false, 5, (.int .u8), r0⟩, .v (.int .i64 r1), .v (.int .i64 r2)], .row ⟨true, 3, (.int .i64), r3⟩]

abbrev sta_log_reader_row_2 (vall : Bool) (o0 : List Int) (o0_1 o0_2 : Int) (o1 : List Int) : St := ⟨fr0 97 [(0, .ptr 0 0), (1, .v (.bool vall)), (5, .own 1)], [.box 87 [.rd ⟨false, 5, (.int .u8), o0⟩, .v (.int .i64 o0_1), .v (.int .i64 o0_2)], .row ⟨true, 3, (.int .i64), o1⟩]⟩

abbrev gt_log_reader_row_2 {R : Type} (g : List Item → St → Option R) : GT_log_reader_row_2 R := fun (vall : Bool) (o0 : List Int) (o0_1 o0_2 : Int) (o1 : List Int) => g (at' Tryz.f68 2) (sta_log_reader_row_2 vall o0 o0_1 o0_2 o1)

theorem gstep_log_reader_row_2 {a0 : LT_text_Number} {R : Type} (g : List Item → St → Option R) (K : AV → List O → Option R) (vall : Bool) (o0 : List Int) (o0_1 o0_2 : Int) (o1 : List Int) :
    runSeg Tryz.prog (T_log_reader_row @a0) cuts_log_reader_row 1 g (finish Tryz.prog Tryz.f68 1 K) (at' Tryz.f68 2) (sta_log_reader_row_2 vall o0 o0_1 o0_2 o1) =
    gs_log_reader_row_2 @a0 (gt_log_reader_row_2 g) (k0_log_reader_row K) vall o0 o0_1 o0_2 o1 := by kernel_rfl

theorem gentry_log_reader_row {a0 : LT_text_Number} {R : Type} (fuel : Nat) (K : AV → List O → Option R) (vall : Bool) (o0 : List Int) (o0_1 o0_2 : Int) :
    fnRun Tryz.prog (T_log_reader_row @a0) cuts_log_reader_row Tryz.f68 fuel [.ptr 0 0, .v (.bool vall)] [.box 87 [.rd ⟨false, 5, (.int .u8), o0⟩, .v (.int .i64 o0_1), .v (.int .i64 o0_2)]] K =
    ge_log_reader_row @a0 (gt_log_reader_row_2 (runO Tryz.prog (T_log_reader_row @a0) cuts_log_reader_row 1 (finish Tryz.prog Tryz.f68 1 K) fuel)) (k0_log_reader_row K) vall o0 o0_1 o0_2 := by kernel_rfl

theorem runs_log_reader_row {R : Type} (K : AV → List O → Option R) : ∀ fuel : Nat,
    (gt_log_reader_row_2 (runO Tryz.prog C_log_reader_row cuts_log_reader_row 1 (finish Tryz.prog Tryz.f68 1 K) fuel)) = (run_log_reader_row (k0_log_reader_row K) fuel)
  | 0 => rfl
  | fuel + 1 => by
    have ih := runs_log_reader_row K fuel
    funext vall o0 o0_1 o0_2 o1
    refine (gstep_log_reader_row_2 _ K vall o0 o0_1 o0_2 o1).trans ?_
    rw [ih]
    rfl

def S_log_reader_row (l_log_reader_row : LT_log_reader_row) : Sum := ⟨[], fun {R} args ob K => match args, ob with
  | [.ptr 0 0, .v (.bool vall)], [.box 87 [.rd ⟨false, 5, (.int .u8), o0⟩, .v (.int .i64 o0_1), .v (.int .i64 o0_2)]] => l_log_reader_row vall o0 o0_1 o0_2 (k0_log_reader_row K)
  | _, _ => none⟩

theorem sound_log_reader_row : Sound Tryz.prog 68 (S_log_reader_row @l_log_reader_row) := by
  refine fn_sound (cuts := cuts_log_reader_row) (fn := Tryz.f68) (Γ := C_log_reader_row) wide right_T_log_reader_row Tryz.func68 fun {R} K r args ob h => ?_
  unfold S_log_reader_row at h
  dsimp only at h
  split at h
  · obtain ⟨n, hn⟩ := evl_ok h
    refine ⟨Nat.le_of_ble_eq_true (by kernel_rfl), n, (gentry_log_reader_row n K _ _ _ _).trans ?_⟩
    rw [(runs_log_reader_row K n)]
    exact hn
  · cases h

theorem call_log_reader_row : Callable Tryz.prog 68 := ⟨_, Tryz.func68, by kernel_rfl, by kernel_rfl⟩

def T_log_reader_member (a0 : LT_log_reader_want) (a1 : LT_log_reader_row) (a2 : LT_log_query) : FuncId → Option Sum := (addS (addS (addS G0 64 (S_log_reader_want @a0)) 68 (S_log_reader_row @a1)) 67 (S_log_query @a2))

abbrev C_log_reader_member : FuncId → Option Sum := T_log_reader_member @l_log_reader_want @l_log_reader_row @l_log_query

theorem right_T_log_reader_member : Right Tryz.prog C_log_reader_member := (right_add (right_add (right_add right_G0 call_log_reader_want sound_log_reader_want) call_log_reader_row sound_log_reader_row) call_log_query sound_log_query)

abbrev cuts_log_reader_member : Cuts := []

abbrev k0_log_reader_member {R : Type} (K : AV → List O → Option R) : Int → Int → Int → Int → Int → Int → (List Int) → Int → Int → (List Int) → (List Int) → (List Int) → (List Int) → (List Int) → Option R := fun r0 r1 r2 r3 r4 r5 r6 r7 r8 r9 r10 r11 r12 r13 => K (.agg [.v (.int .i64 r0), .own 1, .v (.int .i64 r1), .v (.int .i64 r2), .v (.int .i64 r3), .v (.int .i64 r4), .own 2, .own 3, .v (.int .i64 r5), .own 4, .own 5]) [.box 87 [.rd ⟨false, 5, (.int .u8), r6⟩, .v (.int .i64 r7), .v (.int .i64 r8)], .row ⟨true, 3, (.int .i64), r9⟩, .row ⟨true, 3, (.int .i64), r10⟩, .row ⟨true, 3, (.int .i64), r11⟩, .row ⟨true, 3, (.int .i64), r12⟩, .row ⟨true, 3, (.int .i64), r13⟩]

theorem gentry_log_reader_member {a0 : LT_log_reader_want} {a1 : LT_log_reader_row} {a2 : LT_log_query} {R : Type} (K : AV → List O → Option R) (l l_1 l_2 : Int) (o0 : List Int) (o0_1 o0_2 : Int) :
    fnRun Tryz.prog (T_log_reader_member @a0 @a1 @a2) cuts_log_reader_member Tryz.f42 0 [.ptr 0 0, .agg [.v (.int .i64 l), .v (.int .i64 l_1), .v (.int .i64 l_2), .cel]] [.box 87 [.rd ⟨false, 5, (.int .u8), o0⟩, .v (.int .i64 o0_1), .v (.int .i64 o0_2)]] K =
    gl_log_reader_member @a0 @a1 @a2 l l_1 l_2 o0 o0_1 o0_2 (k0_log_reader_member K) := by kernel_rfl

def S_log_reader_member (l_log_reader_member : LT_log_reader_member) : Sum := ⟨[98], fun {R} args ob K => match args, ob with
  | [.ptr 0 0, .agg [.v (.int .i64 l), .v (.int .i64 l_1), .v (.int .i64 l_2), .cel]], [.box 87 [.rd ⟨false, 5, (.int .u8), o0⟩, .v (.int .i64 o0_1), .v (.int .i64 o0_2)]] => l_log_reader_member l l_1 l_2 o0 o0_1 o0_2 (k0_log_reader_member K)
  | _, _ => none⟩

theorem sound_log_reader_member : Sound Tryz.prog 42 (S_log_reader_member @l_log_reader_member) := by
  refine fn_sound (cuts := cuts_log_reader_member) (fn := Tryz.f42) (Γ := C_log_reader_member) wide right_T_log_reader_member Tryz.func42 fun {R} K r args ob h => ?_
  unfold S_log_reader_member at h
  dsimp only at h
  split at h
  · exact ⟨Nat.le_of_ble_eq_true (by kernel_rfl), 0, (gentry_log_reader_member K _ _ _ _ _ _).trans h⟩
  · cases h

theorem call_log_reader_member : Callable Tryz.prog 42 := ⟨_, Tryz.func42, by kernel_rfl, by kernel_rfl⟩

def T_log_of : FuncId → Option Sum := G0

theorem right_T_log_of : Right Tryz.prog T_log_of := right_G0

abbrev cuts_log_of : Cuts := []

abbrev k0_log_of {R : Type} (K : AV → List O → Option R) : Int → (List Int) → Int → Int → Int → Int → (List Int) → (List Int) → Int → (List Int) → (List Int) → Option R := fun r0 r1 r2 r3 r4 r5 r6 r7 r8 r9 r10 => K (.ifc 93 (.agg [.v (.int .i64 r0), .rd ⟨false, 3, (.int .i64), r1⟩, .v (.int .i64 r2), .v (.int .i64 r3), .v (.int .i64 r4), .v (.int .i64 r5), .rd ⟨false, 3, (.int .i64), r6⟩, .rd ⟨false, 3, (.int .i64), r7⟩, .v (.int .i64 r8), .rd ⟨false, 3, (.int .i64), r9⟩, .rd ⟨false, 3, (.int .i64), r10⟩])) []

abbrev k1_log_of {R : Type} (K : AV → List O → Option R) : Int → (List Int) → Int → Int → Int → Int → (List Int) → (List Int) → Int → (List Int) → (List Int) → Option R := fun r0 r1 r2 r3 r4 r5 r6 r7 r8 r9 r10 => K (.ifc 95 (.agg [.v (.int .i64 r0), .rd ⟨false, 3, (.int .i64), r1⟩, .v (.int .i64 r2), .v (.int .i64 r3), .v (.int .i64 r4), .v (.int .i64 r5), .rd ⟨false, 3, (.int .i64), r6⟩, .rd ⟨false, 3, (.int .i64), r7⟩, .v (.int .i64 r8), .rd ⟨false, 3, (.int .i64), r9⟩, .rd ⟨false, 3, (.int .i64), r10⟩])) []

abbrev k2_log_of {R : Type} (K : AV → List O → Option R) : Option R := K (.v (.nilIface)) []

theorem gentry_log_of {R : Type} (K : AV → List O → Option R) (e : Int) (e_1 : List Int) (e_2 e_3 e_4 e_5 : Int) (e_6 e_7 : List Int) (e_8 : Int) (e_9 e_10 : List Int) :
    fnRun Tryz.prog T_log_of cuts_log_of Tryz.f34 0 [.agg [.v (.int .i64 e), .rd ⟨false, 3, (.int .i64), e_1⟩, .v (.int .i64 e_2), .v (.int .i64 e_3), .v (.int .i64 e_4), .v (.int .i64 e_5), .rd ⟨false, 3, (.int .i64), e_6⟩, .rd ⟨false, 3, (.int .i64), e_7⟩, .v (.int .i64 e_8), .rd ⟨false, 3, (.int .i64), e_9⟩, .rd ⟨false, 3, (.int .i64), e_10⟩]] [] K =
    l_log_of e e_1 e_2 e_3 e_4 e_5 e_6 e_7 e_8 e_9 e_10 (k0_log_of K) (k1_log_of K) (k2_log_of K) := by kernel_rfl

def S_log_of (l_log_of : LT_log_of) : Sum := ⟨[], fun {R} args ob K => match args, ob with
  | [.agg [.v (.int .i64 e), .rd ⟨false, 3, (.int .i64), e_1⟩, .v (.int .i64 e_2), .v (.int .i64 e_3), .v (.int .i64 e_4), .v (.int .i64 e_5), .rd ⟨false, 3, (.int .i64), e_6⟩, .rd ⟨false, 3, (.int .i64), e_7⟩, .v (.int .i64 e_8), .rd ⟨false, 3, (.int .i64), e_9⟩, .rd ⟨false, 3, (.int .i64), e_10⟩]], [] => l_log_of e e_1 e_2 e_3 e_4 e_5 e_6 e_7 e_8 e_9 e_10 (k0_log_of K) (k1_log_of K) (k2_log_of K)
  | _, _ => none⟩

theorem sound_log_of : Sound Tryz.prog 34 (S_log_of @l_log_of) := by
  refine fn_sound (cuts := cuts_log_of) (fn := Tryz.f34) (Γ := T_log_of) wide right_T_log_of Tryz.func34 fun {R} K r args ob h => ?_
  unfold S_log_of at h
  dsimp only at h
  split at h
  · exact ⟨Nat.le_of_ble_eq_true (by kernel_rfl), 0, (gentry_log_of K _ _ _ _ _ _ _ _ _ _ _).trans h⟩
  · cases h

theorem call_log_of : Callable Tryz.prog 34 := ⟨_, Tryz.func34, by kernel_rfl, by kernel_rfl⟩

def T_word_alphabet : FuncId → Option Sum := G0

theorem right_T_word_alphabet : Right Tryz.prog T_word_alphabet := right_G0

abbrev cuts_word_alphabet : Cuts := []

abbrev k0_word_alphabet {R : Type} (K : AV → List O → Option R) : Bool → Option R := fun r0 => K (.v (.bool r0)) []

theorem gentry_word_alphabet {R : Type} (K : AV → List O → Option R) (k : Int) :
    fnRun Tryz.prog T_word_alphabet cuts_word_alphabet Tryz.f90 0 [.v (.int .i64 k)] [] K =
    l_word_alphabet k (k0_word_alphabet K) := by kernel_rfl

def S_word_alphabet (l_word_alphabet : LT_word_alphabet) : Sum := ⟨[], fun {R} args ob K => match args, ob with
  | [.v (.int .i64 k)], [] => l_word_alphabet k (k0_word_alphabet K)
  | _, _ => none⟩

theorem sound_word_alphabet : Sound Tryz.prog 90 (S_word_alphabet @l_word_alphabet) := by
  refine fn_sound (cuts := cuts_word_alphabet) (fn := Tryz.f90) (Γ := T_word_alphabet) wide right_T_word_alphabet Tryz.func90 fun {R} K r args ob h => ?_
  unfold S_word_alphabet at h
  dsimp only at h
  split at h
  · exact ⟨Nat.le_of_ble_eq_true (by kernel_rfl), 0, (gentry_word_alphabet K _).trans h⟩
  · cases h

theorem call_word_alphabet : Callable Tryz.prog 90 := ⟨_, Tryz.func90, by kernel_rfl, by kernel_rfl⟩

def T_word_Check (a0 : LT_word_alphabet) : FuncId → Option Sum := (addS G0 90 (S_word_alphabet @a0))

abbrev C_word_Check : FuncId → Option Sum := T_word_Check @l_word_alphabet

theorem right_T_word_Check : Right Tryz.prog C_word_Check := (right_add right_G0 call_word_alphabet sound_word_alphabet)

abbrev cuts_word_Check : Cuts := [(6, [0, 1, 16, 17])]

abbrev k0_word_Check {R : Type} (K : AV → List O → Option R) : Int → Int → Option R := fun r0 r1 => K (.tup [.v (.int .i64 r0), .v (.int .i64 r1)]) []

abbrev sta_word_Check_6 (w : List Int) (k x16 x17 : Int) : St := ⟨fr0 35 [(0, .rd ⟨false, 3, (.int .i64), w⟩), (1, .v (.int .i64 k)), (16, .v (.int .i64 x16)), (17, .v (.int .i64 x17))], []⟩

abbrev gt_word_Check_6 {R : Type} (g : List Item → St → Option R) : GT_word_Check_6 R := fun (w : List Int) (k x16 x17 : Int) => g (at' Tryz.f70 6) (sta_word_Check_6 w k x16 x17)

theorem gstep_word_Check_6 {a0 : LT_word_alphabet} {R : Type} (g : List Item → St → Option R) (K : AV → List O → Option R) (w : List Int) (k x16 x17 : Int) :
    runSeg Tryz.prog (T_word_Check @a0) cuts_word_Check 0 g (finish Tryz.prog Tryz.f70 0 K) (at' Tryz.f70 6) (sta_word_Check_6 w k x16 x17) =
    gs_word_Check_6 @a0 (gt_word_Check_6 g) (k0_word_Check K) w k x16 x17 := by kernel_rfl

theorem gentry_word_Check {a0 : LT_word_alphabet} {R : Type} (fuel : Nat) (K : AV → List O → Option R) (w : List Int) (k : Int) :
    fnRun Tryz.prog (T_word_Check @a0) cuts_word_Check Tryz.f70 fuel [.rd ⟨false, 3, (.int .i64), w⟩, .v (.int .i64 k)] [] K =
    ge_word_Check @a0 (gt_word_Check_6 (runO Tryz.prog (T_word_Check @a0) cuts_word_Check 0 (finish Tryz.prog Tryz.f70 0 K) fuel)) (k0_word_Check K) w k := by kernel_rfl

theorem runs_word_Check {R : Type} (K : AV → List O → Option R) : ∀ fuel : Nat,
    (gt_word_Check_6 (runO Tryz.prog C_word_Check cuts_word_Check 0 (finish Tryz.prog Tryz.f70 0 K) fuel)) = (run_word_Check (k0_word_Check K) fuel)
  | 0 => rfl
  | fuel + 1 => by
    have ih := runs_word_Check K fuel
    funext w k x16 x17
    refine (gstep_word_Check_6 _ K w k x16 x17).trans ?_
    rw [ih]
    rfl

def S_word_Check (l_word_Check : LT_word_Check) : Sum := ⟨[], fun {R} args ob K => match args, ob with
  | [.rd ⟨false, 3, (.int .i64), w⟩, .v (.int .i64 k)], [] => l_word_Check w k (k0_word_Check K)
  | _, _ => none⟩

theorem sound_word_Check : Sound Tryz.prog 70 (S_word_Check @l_word_Check) := by
  refine fn_sound (cuts := cuts_word_Check) (fn := Tryz.f70) (Γ := C_word_Check) wide right_T_word_Check Tryz.func70 fun {R} K r args ob h => ?_
  unfold S_word_Check at h
  dsimp only at h
  split at h
  · obtain ⟨n, hn⟩ := ok_word_Check _ _ _ h
    refine ⟨Nat.le_of_ble_eq_true (by kernel_rfl), n, (gentry_word_Check n K _ _).trans ?_⟩
    rw [(runs_word_Check K n)]
    exact hn
  · cases h

theorem call_word_Check : Callable Tryz.prog 70 := ⟨_, Tryz.func70, by kernel_rfl, by kernel_rfl⟩

def T_teach_of : FuncId → Option Sum := G0

theorem right_T_teach_of : Right Tryz.prog T_teach_of := right_G0

abbrev cuts_teach_of : Cuts := []

abbrev k0_teach_of {R : Type} (K : AV → List O → Option R) : (List Int) → Option R := fun r0 => K (.ifc 157 (.agg [.rd ⟨false, 3, (.int .i64), r0⟩])) []

abbrev k1_teach_of {R : Type} (K : AV → List O → Option R) : Option R := K (.ifc 160 (.agg [])) []

abbrev k2_teach_of {R : Type} (K : AV → List O → Option R) : (List Int) → Option R := fun r0 => K (.ifc 162 (.agg [.rd ⟨false, 3, (.int .i64), r0⟩])) []

abbrev k3_teach_of {R : Type} (K : AV → List O → Option R) : Option R := K (.v (.nilIface)) []

theorem gentry_teach_of {R : Type} (K : AV → List O → Option R) (a : Int) (a_1 a_2 : List Int) :
    fnRun Tryz.prog T_teach_of cuts_teach_of Tryz.f91 0 [.agg [.v (.int .i64 a), .rd ⟨false, 3, (.int .i64), a_1⟩, .rd ⟨false, 3, (.int .i64), a_2⟩]] [] K =
    l_teach_of a a_1 a_2 (k0_teach_of K) (k1_teach_of K) (k2_teach_of K) (k3_teach_of K) := by kernel_rfl

def S_teach_of (l_teach_of : LT_teach_of) : Sum := ⟨[], fun {R} args ob K => match args, ob with
  | [.agg [.v (.int .i64 a), .rd ⟨false, 3, (.int .i64), a_1⟩, .rd ⟨false, 3, (.int .i64), a_2⟩]], [] => l_teach_of a a_1 a_2 (k0_teach_of K) (k1_teach_of K) (k2_teach_of K) (k3_teach_of K)
  | _, _ => none⟩

theorem sound_teach_of : Sound Tryz.prog 91 (S_teach_of @l_teach_of) := by
  refine fn_sound (cuts := cuts_teach_of) (fn := Tryz.f91) (Γ := T_teach_of) wide right_T_teach_of Tryz.func91 fun {R} K r args ob h => ?_
  unfold S_teach_of at h
  dsimp only at h
  split at h
  · exact ⟨Nat.le_of_ble_eq_true (by kernel_rfl), 0, (gentry_teach_of K _ _ _).trans h⟩
  · cases h

theorem call_teach_of : Callable Tryz.prog 91 := ⟨_, Tryz.func91, by kernel_rfl, by kernel_rfl⟩

def T_teach_member_1 : FuncId → Option Sum := G0

theorem right_T_teach_member_1 : Right Tryz.prog T_teach_member_1 := right_G0

abbrev cuts_teach_member_1 : Cuts := []

abbrev k0_teach_member_1 {R : Type} (K : AV → List O → Option R) : Bool → Int → Option R := fun r0 r1 => K (.v (.bool r0)) [.box 3 [.v (.int .i64 r1)]]

theorem gentry_teach_member_1 {R : Type} (K : AV → List O → Option R) (o o0 : Int) :
    fnRun Tryz.prog T_teach_member_1 cuts_teach_member_1 Tryz.f109 0 [.v (.int .i64 o), .ptr 0 0] [.box 3 [.v (.int .i64 o0)]] K =
    l_teach_member_1 o o0 (k0_teach_member_1 K) := by kernel_rfl

def S_teach_member_1 (l_teach_member_1 : LT_teach_member_1) : Sum := ⟨[], fun {R} args ob K => match args, ob with
  | [.v (.int .i64 o), .ptr 0 0], [.box 3 [.v (.int .i64 o0)]] => l_teach_member_1 o o0 (k0_teach_member_1 K)
  | _, _ => none⟩

theorem sound_teach_member_1 : Sound Tryz.prog 109 (S_teach_member_1 @l_teach_member_1) := by
  refine fn_sound (cuts := cuts_teach_member_1) (fn := Tryz.f109) (Γ := T_teach_member_1) wide right_T_teach_member_1 Tryz.func109 fun {R} K r args ob h => ?_
  unfold S_teach_member_1 at h
  dsimp only at h
  split at h
  · exact ⟨Nat.le_of_ble_eq_true (by kernel_rfl), 0, (gentry_teach_member_1 K _ _).trans h⟩
  · cases h

theorem call_teach_member_1 : Callable Tryz.prog 109 := ⟨_, Tryz.func109, by kernel_rfl, by kernel_rfl⟩

def T_slices_IndexFunc_int_int (a0 : LT_teach_member_1) : FuncId → Option Sum := (addS G0 109 (S_teach_member_1 @a0))

abbrev C_slices_IndexFunc_int_int : FuncId → Option Sum := T_slices_IndexFunc_int_int @l_teach_member_1

theorem right_T_slices_IndexFunc_int_int : Right Tryz.prog C_slices_IndexFunc_int_int := (right_add right_G0 call_teach_member_1 sound_teach_member_1)

abbrev cuts_slices_IndexFunc_int_int_fteach_member_1 : Cuts := [(2, [0, 1, 7, 8])]

abbrev k0_slices_IndexFunc_int_int_fteach_member_1 {R : Type} (K : AV → List O → Option R) : Int → Int → Option R := fun r0 r1 => K (.v (.int .i64 r0)) [.box 3 [.v (.int .i64 r1)]]

abbrev sta_slices_IndexFunc_int_int_fteach_member_1_2 (s : List Int) (x7 x8 o0 : Int) : St := ⟨fr0 19 [(0, .rd ⟨false, 3, (.int .i64), s⟩), (1, .clo 109 [.ptr 0 0]), (7, .v (.int .i64 x7)), (8, .v (.int .i64 x8))], [.box 3 [.v (.int .i64 o0)]]⟩

abbrev gt_slices_IndexFunc_int_int_fteach_member_1_2 {R : Type} (g : List Item → St → Option R) : GT_slices_IndexFunc_int_int_fteach_member_1_2 R := fun (s : List Int) (x7 x8 o0 : Int) => g (at' Tryz.f115 2) (sta_slices_IndexFunc_int_int_fteach_member_1_2 s x7 x8 o0)

theorem gstep_slices_IndexFunc_int_int_fteach_member_1_2 {a0 : LT_teach_member_1} {R : Type} (g : List Item → St → Option R) (K : AV → List O → Option R) (s : List Int) (x7 x8 o0 : Int) :
    runSeg Tryz.prog (T_slices_IndexFunc_int_int @a0) cuts_slices_IndexFunc_int_int_fteach_member_1 1 g (finish Tryz.prog Tryz.f115 1 K) (at' Tryz.f115 2) (sta_slices_IndexFunc_int_int_fteach_member_1_2 s x7 x8 o0) =
    gs_slices_IndexFunc_int_int_fteach_member_1_2 @a0 (gt_slices_IndexFunc_int_int_fteach_member_1_2 g) (k0_slices_IndexFunc_int_int_fteach_member_1 K) s x7 x8 o0 := by kernel_rfl

theorem gentry_slices_IndexFunc_int_int_fteach_member_1 {a0 : LT_teach_member_1} {R : Type} (fuel : Nat) (K : AV → List O → Option R) (s : List Int) (o0 : Int) :
    fnRun Tryz.prog (T_slices_IndexFunc_int_int @a0) cuts_slices_IndexFunc_int_int_fteach_member_1 Tryz.f115 fuel [.rd ⟨false, 3, (.int .i64), s⟩, .clo 109 [.ptr 0 0]] [.box 3 [.v (.int .i64 o0)]] K =
    ge_slices_IndexFunc_int_int_fteach_member_1 @a0 (gt_slices_IndexFunc_int_int_fteach_member_1_2 (runO Tryz.prog (T_slices_IndexFunc_int_int @a0) cuts_slices_IndexFunc_int_int_fteach_member_1 1 (finish Tryz.prog Tryz.f115 1 K) fuel)) (k0_slices_IndexFunc_int_int_fteach_member_1 K) s o0 := by kernel_rfl

theorem runs_slices_IndexFunc_int_int_fteach_member_1 {R : Type} (K : AV → List O → Option R) : ∀ fuel : Nat,
    (gt_slices_IndexFunc_int_int_fteach_member_1_2 (runO Tryz.prog C_slices_IndexFunc_int_int cuts_slices_IndexFunc_int_int_fteach_member_1 1 (finish Tryz.prog Tryz.f115 1 K) fuel)) = (run_slices_IndexFunc_int_int_fteach_member_1 (k0_slices_IndexFunc_int_int_fteach_member_1 K) fuel)
  | 0 => rfl
  | fuel + 1 => by
    have ih := runs_slices_IndexFunc_int_int_fteach_member_1 K fuel
    funext s x7 x8 o0
    refine (gstep_slices_IndexFunc_int_int_fteach_member_1_2 _ K s x7 x8 o0).trans ?_
    rw [ih]
    rfl

def S_slices_IndexFunc_int_int (l_slices_IndexFunc_int_int_fteach_member_1 : LT_slices_IndexFunc_int_int_fteach_member_1) : Sum := ⟨[], fun {R} args ob K => match args, ob with
  | [.rd ⟨false, 3, (.int .i64), s⟩, .clo 109 [.ptr 0 0]], [.box 3 [.v (.int .i64 o0)]] => l_slices_IndexFunc_int_int_fteach_member_1 s o0 (k0_slices_IndexFunc_int_int_fteach_member_1 K)
  | _, _ => none⟩

theorem sound_slices_IndexFunc_int_int : Sound Tryz.prog 115 (S_slices_IndexFunc_int_int @l_slices_IndexFunc_int_int_fteach_member_1) := by
  refine fn_sound (cuts := cuts_slices_IndexFunc_int_int_fteach_member_1) (fn := Tryz.f115) (Γ := C_slices_IndexFunc_int_int) wide right_T_slices_IndexFunc_int_int Tryz.func115 fun {R} K r args ob h => ?_
  unfold S_slices_IndexFunc_int_int at h
  dsimp only at h
  split at h
  · obtain ⟨n, hn⟩ := ok_slices_IndexFunc_int_int_fteach_member_1 _ _ _ h
    refine ⟨Nat.le_of_ble_eq_true (by kernel_rfl), n, (gentry_slices_IndexFunc_int_int_fteach_member_1 n K _ _).trans ?_⟩
    rw [(runs_slices_IndexFunc_int_int_fteach_member_1 K n)]
    exact hn
  · cases h

theorem call_slices_IndexFunc_int_int : Callable Tryz.prog 115 := ⟨_, Tryz.func115, by kernel_rfl, by kernel_rfl⟩

def T_slices_ContainsFunc_int_int (a0 : LT_slices_IndexFunc_int_int_fteach_member_1) : FuncId → Option Sum := (addS G0 115 (S_slices_IndexFunc_int_int @a0))

abbrev C_slices_ContainsFunc_int_int : FuncId → Option Sum := T_slices_ContainsFunc_int_int @l_slices_IndexFunc_int_int_fteach_member_1

theorem right_T_slices_ContainsFunc_int_int : Right Tryz.prog C_slices_ContainsFunc_int_int := (right_add right_G0 call_slices_IndexFunc_int_int sound_slices_IndexFunc_int_int)

abbrev cuts_slices_ContainsFunc_int_int_fteach_member_1 : Cuts := []

abbrev k0_slices_ContainsFunc_int_int_fteach_member_1 {R : Type} (K : AV → List O → Option R) : Bool → Int → Option R := fun r0 r1 => K (.v (.bool r0)) [.box 3 [.v (.int .i64 r1)]]

theorem gentry_slices_ContainsFunc_int_int_fteach_member_1 {a0 : LT_slices_IndexFunc_int_int_fteach_member_1} {R : Type} (K : AV → List O → Option R) (s : List Int) (o0 : Int) :
    fnRun Tryz.prog (T_slices_ContainsFunc_int_int @a0) cuts_slices_ContainsFunc_int_int_fteach_member_1 Tryz.f108 0 [.rd ⟨false, 3, (.int .i64), s⟩, .clo 109 [.ptr 0 0]] [.box 3 [.v (.int .i64 o0)]] K =
    gl_slices_ContainsFunc_int_int_fteach_member_1 @a0 s o0 (k0_slices_ContainsFunc_int_int_fteach_member_1 K) := by kernel_rfl

def S_slices_ContainsFunc_int_int (l_slices_ContainsFunc_int_int_fteach_member_1 : LT_slices_ContainsFunc_int_int_fteach_member_1) : Sum := ⟨[], fun {R} args ob K => match args, ob with
  | [.rd ⟨false, 3, (.int .i64), s⟩, .clo 109 [.ptr 0 0]], [.box 3 [.v (.int .i64 o0)]] => l_slices_ContainsFunc_int_int_fteach_member_1 s o0 (k0_slices_ContainsFunc_int_int_fteach_member_1 K)
  | _, _ => none⟩

theorem sound_slices_ContainsFunc_int_int : Sound Tryz.prog 108 (S_slices_ContainsFunc_int_int @l_slices_ContainsFunc_int_int_fteach_member_1) := by
  refine fn_sound (cuts := cuts_slices_ContainsFunc_int_int_fteach_member_1) (fn := Tryz.f108) (Γ := C_slices_ContainsFunc_int_int) wide right_T_slices_ContainsFunc_int_int Tryz.func108 fun {R} K r args ob h => ?_
  unfold S_slices_ContainsFunc_int_int at h
  dsimp only at h
  split at h
  · exact ⟨Nat.le_of_ble_eq_true (by kernel_rfl), 0, (gentry_slices_ContainsFunc_int_int_fteach_member_1 K _ _).trans h⟩
  · cases h

theorem call_slices_ContainsFunc_int_int : Callable Tryz.prog 108 := ⟨_, Tryz.func108, by kernel_rfl, by kernel_rfl⟩

def T_teach_member (a0 : LT_slices_ContainsFunc_int_int_fteach_member_1) : FuncId → Option Sum := (addS G0 108 (S_slices_ContainsFunc_int_int @a0))

abbrev C_teach_member : FuncId → Option Sum := T_teach_member @l_slices_ContainsFunc_int_int_fteach_member_1

theorem right_T_teach_member : Right Tryz.prog C_teach_member := (right_add right_G0 call_slices_ContainsFunc_int_int sound_slices_ContainsFunc_int_int)

abbrev cuts_teach_member : Cuts := []

abbrev k0_teach_member {R : Type} (K : AV → List O → Option R) : Bool → Option R := fun r0 => K (.v (.bool r0)) []

theorem gentry_teach_member {a0 : LT_slices_ContainsFunc_int_int_fteach_member_1} {R : Type} (K : AV → List O → Option R) (q : Int) (q_1 : List Int) (q_2 q_3 q_4 q_5 : Int) (q_6 q_7 out : List Int) :
    fnRun Tryz.prog (T_teach_member @a0) cuts_teach_member Tryz.f92 0 [.agg [.v (.int .i64 q), .rd ⟨false, 3, (.int .i64), q_1⟩, .v (.int .i64 q_2), .v (.int .i64 q_3), .v (.int .i64 q_4), .v (.int .i64 q_5), .rd ⟨false, 3, (.int .i64), q_6⟩, .rd ⟨false, 3, (.int .i64), q_7⟩], .rd ⟨false, 3, (.int .i64), out⟩] [] K =
    gl_teach_member @a0 q q_1 q_2 q_3 q_4 q_5 q_6 q_7 out (k0_teach_member K) := by kernel_rfl

def S_teach_member (l_teach_member : LT_teach_member) : Sum := ⟨[], fun {R} args ob K => match args, ob with
  | [.agg [.v (.int .i64 q), .rd ⟨false, 3, (.int .i64), q_1⟩, .v (.int .i64 q_2), .v (.int .i64 q_3), .v (.int .i64 q_4), .v (.int .i64 q_5), .rd ⟨false, 3, (.int .i64), q_6⟩, .rd ⟨false, 3, (.int .i64), q_7⟩], .rd ⟨false, 3, (.int .i64), out⟩], [] => l_teach_member q q_1 q_2 q_3 q_4 q_5 q_6 q_7 out (k0_teach_member K)
  | _, _ => none⟩

theorem sound_teach_member : Sound Tryz.prog 92 (S_teach_member @l_teach_member) := by
  refine fn_sound (cuts := cuts_teach_member) (fn := Tryz.f92) (Γ := C_teach_member) wide right_T_teach_member Tryz.func92 fun {R} K r args ob h => ?_
  unfold S_teach_member at h
  dsimp only at h
  split at h
  · exact ⟨Nat.le_of_ble_eq_true (by kernel_rfl), 0, (gentry_teach_member K _ _ _ _ _ _ _ _ _).trans h⟩
  · cases h

theorem call_teach_member : Callable Tryz.prog 92 := ⟨_, Tryz.func92, by kernel_rfl, by kernel_rfl⟩

def T_teach_Check (a0 : LT_teach_member) (a1 : LT_word_Check) (a2 : LT_teach_of) : FuncId → Option Sum := (addS (addS (addS G0 92 (S_teach_member @a0)) 70 (S_word_Check @a1)) 91 (S_teach_of @a2))

abbrev C_teach_Check : FuncId → Option Sum := T_teach_Check @l_teach_member @l_word_Check @l_teach_of

theorem right_T_teach_Check : Right Tryz.prog C_teach_Check := (right_add (right_add (right_add right_G0 call_teach_member sound_teach_member) call_word_Check sound_word_Check) call_teach_of sound_teach_of)

abbrev cuts_teach_Check : Cuts := []

abbrev k0_teach_Check {R : Type} (K : AV → List O → Option R) : Int → Option R := fun r0 => K (.v (.int .i64 r0)) []

theorem gentry_teach_Check {a0 : LT_teach_member} {a1 : LT_word_Check} {a2 : LT_teach_of} {R : Type} (K : AV → List O → Option R) (q : Int) (q_1 : List Int) (q_2 q_3 q_4 q_5 : Int) (q_6 q_7 : List Int) (a : Int) (a_1 a_2 : List Int) :
    fnRun Tryz.prog (T_teach_Check @a0 @a1 @a2) cuts_teach_Check Tryz.f71 0 [.agg [.v (.int .i64 q), .rd ⟨false, 3, (.int .i64), q_1⟩, .v (.int .i64 q_2), .v (.int .i64 q_3), .v (.int .i64 q_4), .v (.int .i64 q_5), .rd ⟨false, 3, (.int .i64), q_6⟩, .rd ⟨false, 3, (.int .i64), q_7⟩], .agg [.v (.int .i64 a), .rd ⟨false, 3, (.int .i64), a_1⟩, .rd ⟨false, 3, (.int .i64), a_2⟩]] [] K =
    gl_teach_Check @a0 @a1 @a2 q q_1 q_2 q_3 q_4 q_5 q_6 q_7 a a_1 a_2 (k0_teach_Check K) := by kernel_rfl

def S_teach_Check (l_teach_Check : LT_teach_Check) : Sum := ⟨[], fun {R} args ob K => match args, ob with
  | [.agg [.v (.int .i64 q), .rd ⟨false, 3, (.int .i64), q_1⟩, .v (.int .i64 q_2), .v (.int .i64 q_3), .v (.int .i64 q_4), .v (.int .i64 q_5), .rd ⟨false, 3, (.int .i64), q_6⟩, .rd ⟨false, 3, (.int .i64), q_7⟩], .agg [.v (.int .i64 a), .rd ⟨false, 3, (.int .i64), a_1⟩, .rd ⟨false, 3, (.int .i64), a_2⟩]], [] => l_teach_Check q q_1 q_2 q_3 q_4 q_5 q_6 q_7 a a_1 a_2 (k0_teach_Check K)
  | _, _ => none⟩

theorem sound_teach_Check : Sound Tryz.prog 71 (S_teach_Check @l_teach_Check) := by
  refine fn_sound (cuts := cuts_teach_Check) (fn := Tryz.f71) (Γ := C_teach_Check) wide right_T_teach_Check Tryz.func71 fun {R} K r args ob h => ?_
  unfold S_teach_Check at h
  dsimp only at h
  split at h
  · exact ⟨Nat.le_of_ble_eq_true (by kernel_rfl), 0, (gentry_teach_Check K _ _ _ _ _ _ _ _ _ _ _).trans h⟩
  · cases h

theorem call_teach_Check : Callable Tryz.prog 71 := ⟨_, Tryz.func71, by kernel_rfl, by kernel_rfl⟩

def T_log_asked_fault (a0 : LT_teach_Check) (a1 : LT_log_query) (a2 : LT_word_Check) : FuncId → Option Sum := (addS (addS (addS G0 71 (S_teach_Check @a0)) 67 (S_log_query @a1)) 70 (S_word_Check @a2))

abbrev C_log_asked_fault : FuncId → Option Sum := T_log_asked_fault @l_teach_Check @l_log_query @l_word_Check

theorem right_T_log_asked_fault : Right Tryz.prog C_log_asked_fault := (right_add (right_add (right_add right_G0 call_teach_Check sound_teach_Check) call_log_query sound_log_query) call_word_Check sound_word_Check)

abbrev cuts_log_asked_fault : Cuts := []

abbrev k0_log_asked_fault {R : Type} (K : AV → List O → Option R) : Int → Option R := fun r0 => K (.v (.int .i64 r0)) []

theorem gentry_log_asked_fault {a0 : LT_teach_Check} {a1 : LT_log_query} {a2 : LT_word_Check} {R : Type} (K : AV → List O → Option R) (r : Int) (r_1 : List Int) (r_2 r_3 r_4 r_5 : Int) (r_6 r_7 : List Int) (r_8 : Int) (r_9 r_10 : List Int) (l l_1 l_2 : Int) :
    fnRun Tryz.prog (T_log_asked_fault @a0 @a1 @a2) cuts_log_asked_fault Tryz.f44 0 [.agg [.v (.int .i64 r), .rd ⟨false, 3, (.int .i64), r_1⟩, .v (.int .i64 r_2), .v (.int .i64 r_3), .v (.int .i64 r_4), .v (.int .i64 r_5), .rd ⟨false, 3, (.int .i64), r_6⟩, .rd ⟨false, 3, (.int .i64), r_7⟩, .v (.int .i64 r_8), .rd ⟨false, 3, (.int .i64), r_9⟩, .rd ⟨false, 3, (.int .i64), r_10⟩], .agg [.v (.int .i64 l), .v (.int .i64 l_1), .v (.int .i64 l_2), .cel]] [] K =
    gl_log_asked_fault @a0 @a1 @a2 r r_1 r_2 r_3 r_4 r_5 r_6 r_7 r_8 r_9 r_10 l l_1 l_2 (k0_log_asked_fault K) := by kernel_rfl

def S_log_asked_fault (l_log_asked_fault : LT_log_asked_fault) : Sum := ⟨[98], fun {R} args ob K => match args, ob with
  | [.agg [.v (.int .i64 r), .rd ⟨false, 3, (.int .i64), r_1⟩, .v (.int .i64 r_2), .v (.int .i64 r_3), .v (.int .i64 r_4), .v (.int .i64 r_5), .rd ⟨false, 3, (.int .i64), r_6⟩, .rd ⟨false, 3, (.int .i64), r_7⟩, .v (.int .i64 r_8), .rd ⟨false, 3, (.int .i64), r_9⟩, .rd ⟨false, 3, (.int .i64), r_10⟩], .agg [.v (.int .i64 l), .v (.int .i64 l_1), .v (.int .i64 l_2), .cel]], [] => l_log_asked_fault r r_1 r_2 r_3 r_4 r_5 r_6 r_7 r_8 r_9 r_10 l l_1 l_2 (k0_log_asked_fault K)
  | _, _ => none⟩

theorem sound_log_asked_fault : Sound Tryz.prog 44 (S_log_asked_fault @l_log_asked_fault) := by
  refine fn_sound (cuts := cuts_log_asked_fault) (fn := Tryz.f44) (Γ := C_log_asked_fault) wide right_T_log_asked_fault Tryz.func44 fun {R} K r args ob h => ?_
  unfold S_log_asked_fault at h
  dsimp only at h
  split at h
  · exact ⟨Nat.le_of_ble_eq_true (by kernel_rfl), 0, (gentry_log_asked_fault K _ _ _ _ _ _ _ _ _ _ _ _ _ _).trans h⟩
  · cases h

theorem call_log_asked_fault : Callable Tryz.prog 44 := ⟨_, Tryz.func44, by kernel_rfl, by kernel_rfl⟩

def T_machine_says : FuncId → Option Sum := G0

theorem right_T_machine_says : Right Tryz.prog T_machine_says := right_G0

abbrev cuts_machine_says : Cuts := []

abbrev k0_machine_says {R : Type} (K : AV → List O → Option R) : Int → Option R := fun r0 => K (.v (.int .i64 r0)) []

theorem gentry_machine_says {R : Type} (K : AV → List O → Option R) (m m_1 m_2 m_3 : Int) (m_4 m_5 : List Int) :
    fnRun Tryz.prog T_machine_says cuts_machine_says Tryz.f98 0 [.agg [.v (.int .i64 m), .v (.int .i64 m_1), .v (.int .i64 m_2), .v (.int .i64 m_3), .rd ⟨false, 3, (.int .i64), m_4⟩, .rd ⟨false, 3, (.int .i64), m_5⟩]] [] K =
    l_machine_says m m_1 m_2 m_3 m_4 m_5 (k0_machine_says K) := by kernel_rfl

def S_machine_says (l_machine_says : LT_machine_says) : Sum := ⟨[], fun {R} args ob K => match args, ob with
  | [.agg [.v (.int .i64 m), .v (.int .i64 m_1), .v (.int .i64 m_2), .v (.int .i64 m_3), .rd ⟨false, 3, (.int .i64), m_4⟩, .rd ⟨false, 3, (.int .i64), m_5⟩]], [] => l_machine_says m m_1 m_2 m_3 m_4 m_5 (k0_machine_says K)
  | _, _ => none⟩

theorem sound_machine_says : Sound Tryz.prog 98 (S_machine_says @l_machine_says) := by
  refine fn_sound (cuts := cuts_machine_says) (fn := Tryz.f98) (Γ := T_machine_says) wide right_T_machine_says Tryz.func98 fun {R} K r args ob h => ?_
  unfold S_machine_says at h
  dsimp only at h
  split at h
  · exact ⟨Nat.le_of_ble_eq_true (by kernel_rfl), 0, (gentry_machine_says K _ _ _ _ _ _).trans h⟩
  · cases h

theorem call_machine_says : Callable Tryz.prog 98 := ⟨_, Tryz.func98, by kernel_rfl, by kernel_rfl⟩

def T_machine_head (a0 : LT_machine_says) : FuncId → Option Sum := (addS G0 98 (S_machine_says @a0))

abbrev C_machine_head : FuncId → Option Sum := T_machine_head @l_machine_says

theorem right_T_machine_head : Right Tryz.prog C_machine_head := (right_add right_G0 call_machine_says sound_machine_says)

abbrev cuts_machine_head : Cuts := []

abbrev k0_machine_head {R : Type} (K : AV → List O → Option R) : Int → Option R := fun r0 => K (.v (.int .i64 r0)) []

theorem gentry_machine_head {a0 : LT_machine_says} {R : Type} (K : AV → List O → Option R) (m m_1 m_2 m_3 : Int) (m_4 m_5 : List Int) :
    fnRun Tryz.prog (T_machine_head @a0) cuts_machine_head Tryz.f78 0 [.agg [.v (.int .i64 m), .v (.int .i64 m_1), .v (.int .i64 m_2), .v (.int .i64 m_3), .rd ⟨false, 3, (.int .i64), m_4⟩, .rd ⟨false, 3, (.int .i64), m_5⟩]] [] K =
    gl_machine_head @a0 m m_1 m_2 m_3 m_4 m_5 (k0_machine_head K) := by kernel_rfl

def S_machine_head (l_machine_head : LT_machine_head) : Sum := ⟨[], fun {R} args ob K => match args, ob with
  | [.agg [.v (.int .i64 m), .v (.int .i64 m_1), .v (.int .i64 m_2), .v (.int .i64 m_3), .rd ⟨false, 3, (.int .i64), m_4⟩, .rd ⟨false, 3, (.int .i64), m_5⟩]], [] => l_machine_head m m_1 m_2 m_3 m_4 m_5 (k0_machine_head K)
  | _, _ => none⟩

theorem sound_machine_head : Sound Tryz.prog 78 (S_machine_head @l_machine_head) := by
  refine fn_sound (cuts := cuts_machine_head) (fn := Tryz.f78) (Γ := C_machine_head) wide right_T_machine_head Tryz.func78 fun {R} K r args ob h => ?_
  unfold S_machine_head at h
  dsimp only at h
  split at h
  · exact ⟨Nat.le_of_ble_eq_true (by kernel_rfl), 0, (gentry_machine_head K _ _ _ _ _ _).trans h⟩
  · cases h

theorem call_machine_head : Callable Tryz.prog 78 := ⟨_, Tryz.func78, by kernel_rfl, by kernel_rfl⟩

def T_machine_beyond : FuncId → Option Sum := G0

theorem right_T_machine_beyond : Right Tryz.prog T_machine_beyond := right_G0

abbrev cuts_machine_beyond : Cuts := [(2, [0, 1, 7, 8])]

abbrev k0_machine_beyond {R : Type} (K : AV → List O → Option R) : Int → Option R := fun r0 => K (.v (.int .i64 r0)) []

abbrev sta_machine_beyond_2 (l : List Int) (n x7 x8 : Int) : St := ⟨fr0 21 [(0, .rd ⟨false, 3, (.int .i64), l⟩), (1, .v (.int .i64 n)), (7, .v (.int .i64 x7)), (8, .v (.int .i64 x8))], []⟩

abbrev gt_machine_beyond_2 {R : Type} (g : List Item → St → Option R) : GT_machine_beyond_2 R := fun (l : List Int) (n x7 x8 : Int) => g (at' Tryz.f79 2) (sta_machine_beyond_2 l n x7 x8)

theorem gstep_machine_beyond_2 {R : Type} (g : List Item → St → Option R) (K : AV → List O → Option R) (l : List Int) (n x7 x8 : Int) :
    runSeg Tryz.prog T_machine_beyond cuts_machine_beyond 0 g (finish Tryz.prog Tryz.f79 0 K) (at' Tryz.f79 2) (sta_machine_beyond_2 l n x7 x8) =
    s_machine_beyond_2 (gt_machine_beyond_2 g) (k0_machine_beyond K) l n x7 x8 := by kernel_rfl

theorem gentry_machine_beyond {R : Type} (fuel : Nat) (K : AV → List O → Option R) (l : List Int) (n : Int) :
    fnRun Tryz.prog T_machine_beyond cuts_machine_beyond Tryz.f79 fuel [.rd ⟨false, 3, (.int .i64), l⟩, .v (.int .i64 n)] [] K =
    e_machine_beyond (gt_machine_beyond_2 (runO Tryz.prog T_machine_beyond cuts_machine_beyond 0 (finish Tryz.prog Tryz.f79 0 K) fuel)) (k0_machine_beyond K) l n := by kernel_rfl

theorem runs_machine_beyond {R : Type} (K : AV → List O → Option R) : ∀ fuel : Nat,
    (gt_machine_beyond_2 (runO Tryz.prog T_machine_beyond cuts_machine_beyond 0 (finish Tryz.prog Tryz.f79 0 K) fuel)) = (run_machine_beyond (k0_machine_beyond K) fuel)
  | 0 => rfl
  | fuel + 1 => by
    have ih := runs_machine_beyond K fuel
    funext l n x7 x8
    refine (gstep_machine_beyond_2 _ K l n x7 x8).trans ?_
    rw [ih]
    rfl

def S_machine_beyond (l_machine_beyond : LT_machine_beyond) : Sum := ⟨[], fun {R} args ob K => match args, ob with
  | [.rd ⟨false, 3, (.int .i64), l⟩, .v (.int .i64 n)], [] => l_machine_beyond l n (k0_machine_beyond K)
  | _, _ => none⟩

theorem sound_machine_beyond : Sound Tryz.prog 79 (S_machine_beyond @l_machine_beyond) := by
  refine fn_sound (cuts := cuts_machine_beyond) (fn := Tryz.f79) (Γ := T_machine_beyond) wide right_T_machine_beyond Tryz.func79 fun {R} K r args ob h => ?_
  unfold S_machine_beyond at h
  dsimp only at h
  split at h
  · obtain ⟨n, hn⟩ := ok_machine_beyond _ _ _ h
    refine ⟨Nat.le_of_ble_eq_true (by kernel_rfl), n, (gentry_machine_beyond n K _ _).trans ?_⟩
    rw [(runs_machine_beyond K n)]
    exact hn
  · cases h

theorem call_machine_beyond : Callable Tryz.prog 79 := ⟨_, Tryz.func79, by kernel_rfl, by kernel_rfl⟩

def T_machine_Check (a0 : LT_machine_beyond) (a1 : LT_machine_head) : FuncId → Option Sum := (addS (addS G0 79 (S_machine_beyond @a0)) 78 (S_machine_head @a1))

abbrev C_machine_Check : FuncId → Option Sum := T_machine_Check @l_machine_beyond @l_machine_head

theorem right_T_machine_Check : Right Tryz.prog C_machine_Check := (right_add (right_add right_G0 call_machine_beyond sound_machine_beyond) call_machine_head sound_machine_head)

abbrev cuts_machine_Check : Cuts := []

abbrev k0_machine_Check {R : Type} (K : AV → List O → Option R) : Int → Int → Option R := fun r0 r1 => K (.tup [.v (.int .i64 r0), .v (.int .i64 r1)]) []

theorem gentry_machine_Check {a0 : LT_machine_beyond} {a1 : LT_machine_head} {R : Type} (K : AV → List O → Option R) (m m_1 m_2 m_3 : Int) (m_4 m_5 : List Int) :
    fnRun Tryz.prog (T_machine_Check @a0 @a1) cuts_machine_Check Tryz.f53 0 [.agg [.v (.int .i64 m), .v (.int .i64 m_1), .v (.int .i64 m_2), .v (.int .i64 m_3), .rd ⟨false, 3, (.int .i64), m_4⟩, .rd ⟨false, 3, (.int .i64), m_5⟩]] [] K =
    gl_machine_Check @a0 @a1 m m_1 m_2 m_3 m_4 m_5 (k0_machine_Check K) := by kernel_rfl

def S_machine_Check (l_machine_Check : LT_machine_Check) : Sum := ⟨[], fun {R} args ob K => match args, ob with
  | [.agg [.v (.int .i64 m), .v (.int .i64 m_1), .v (.int .i64 m_2), .v (.int .i64 m_3), .rd ⟨false, 3, (.int .i64), m_4⟩, .rd ⟨false, 3, (.int .i64), m_5⟩]], [] => l_machine_Check m m_1 m_2 m_3 m_4 m_5 (k0_machine_Check K)
  | _, _ => none⟩

theorem sound_machine_Check : Sound Tryz.prog 53 (S_machine_Check @l_machine_Check) := by
  refine fn_sound (cuts := cuts_machine_Check) (fn := Tryz.f53) (Γ := C_machine_Check) wide right_T_machine_Check Tryz.func53 fun {R} K r args ob h => ?_
  unfold S_machine_Check at h
  dsimp only at h
  split at h
  · exact ⟨Nat.le_of_ble_eq_true (by kernel_rfl), 0, (gentry_machine_Check K _ _ _ _ _ _).trans h⟩
  · cases h

theorem call_machine_Check : Callable Tryz.prog 53 := ⟨_, Tryz.func53, by kernel_rfl, by kernel_rfl⟩

def T_log_alike : FuncId → Option Sum := G0

theorem right_T_log_alike : Right Tryz.prog T_log_alike := right_G0

abbrev cuts_log_alike : Cuts := []

abbrev k0_log_alike {R : Type} (K : AV → List O → Option R) : Int → Option R := fun r0 => K (.v (.int .i64 r0)) []

theorem gentry_log_alike {R : Type} (K : AV → List O → Option R) (l l_1 l_2 m m_1 m_2 m_3 : Int) (m_4 m_5 : List Int) :
    fnRun Tryz.prog T_log_alike cuts_log_alike Tryz.f54 0 [.agg [.v (.int .i64 l), .v (.int .i64 l_1), .v (.int .i64 l_2), .cel], .agg [.v (.int .i64 m), .v (.int .i64 m_1), .v (.int .i64 m_2), .v (.int .i64 m_3), .rd ⟨false, 3, (.int .i64), m_4⟩, .rd ⟨false, 3, (.int .i64), m_5⟩]] [] K =
    l_log_alike l l_1 l_2 m m_1 m_2 m_3 m_4 m_5 (k0_log_alike K) := by kernel_rfl

def S_log_alike (l_log_alike : LT_log_alike) : Sum := ⟨[], fun {R} args ob K => match args, ob with
  | [.agg [.v (.int .i64 l), .v (.int .i64 l_1), .v (.int .i64 l_2), .cel], .agg [.v (.int .i64 m), .v (.int .i64 m_1), .v (.int .i64 m_2), .v (.int .i64 m_3), .rd ⟨false, 3, (.int .i64), m_4⟩, .rd ⟨false, 3, (.int .i64), m_5⟩]], [] => l_log_alike l l_1 l_2 m m_1 m_2 m_3 m_4 m_5 (k0_log_alike K)
  | _, _ => none⟩

theorem sound_log_alike : Sound Tryz.prog 54 (S_log_alike @l_log_alike) := by
  refine fn_sound (cuts := cuts_log_alike) (fn := Tryz.f54) (Γ := T_log_alike) wide right_T_log_alike Tryz.func54 fun {R} K r args ob h => ?_
  unfold S_log_alike at h
  dsimp only at h
  split at h
  · exact ⟨Nat.le_of_ble_eq_true (by kernel_rfl), 0, (gentry_log_alike K _ _ _ _ _ _ _ _ _).trans h⟩
  · cases h

theorem call_log_alike : Callable Tryz.prog 54 := ⟨_, Tryz.func54, by kernel_rfl, by kernel_rfl⟩

def T_log_tested_fault (a0 : LT_teach_Check) (a1 : LT_log_alike) (a2 : LT_machine_Check) : FuncId → Option Sum := (addS (addS (addS G0 71 (S_teach_Check @a0)) 54 (S_log_alike @a1)) 53 (S_machine_Check @a2))

abbrev C_log_tested_fault : FuncId → Option Sum := T_log_tested_fault @l_teach_Check @l_log_alike @l_machine_Check

theorem right_T_log_tested_fault : Right Tryz.prog C_log_tested_fault := (right_add (right_add (right_add right_G0 call_teach_Check sound_teach_Check) call_log_alike sound_log_alike) call_machine_Check sound_machine_Check)

abbrev cuts_log_tested_fault : Cuts := []

abbrev k0_log_tested_fault {R : Type} (K : AV → List O → Option R) : Int → Option R := fun r0 => K (.v (.int .i64 r0)) []

theorem gentry_log_tested_fault {a0 : LT_teach_Check} {a1 : LT_log_alike} {a2 : LT_machine_Check} {R : Type} (K : AV → List O → Option R) (r : Int) (r_1 : List Int) (r_2 r_3 r_4 r_5 : Int) (r_6 r_7 : List Int) (r_8 : Int) (r_9 r_10 : List Int) (l l_1 l_2 : Int) :
    fnRun Tryz.prog (T_log_tested_fault @a0 @a1 @a2) cuts_log_tested_fault Tryz.f45 0 [.agg [.v (.int .i64 r), .rd ⟨false, 3, (.int .i64), r_1⟩, .v (.int .i64 r_2), .v (.int .i64 r_3), .v (.int .i64 r_4), .v (.int .i64 r_5), .rd ⟨false, 3, (.int .i64), r_6⟩, .rd ⟨false, 3, (.int .i64), r_7⟩, .v (.int .i64 r_8), .rd ⟨false, 3, (.int .i64), r_9⟩, .rd ⟨false, 3, (.int .i64), r_10⟩], .agg [.v (.int .i64 l), .v (.int .i64 l_1), .v (.int .i64 l_2), .cel]] [] K =
    gl_log_tested_fault @a0 @a1 @a2 r r_1 r_2 r_3 r_4 r_5 r_6 r_7 r_8 r_9 r_10 l l_1 l_2 (k0_log_tested_fault K) := by kernel_rfl

def S_log_tested_fault (l_log_tested_fault : LT_log_tested_fault) : Sum := ⟨[98], fun {R} args ob K => match args, ob with
  | [.agg [.v (.int .i64 r), .rd ⟨false, 3, (.int .i64), r_1⟩, .v (.int .i64 r_2), .v (.int .i64 r_3), .v (.int .i64 r_4), .v (.int .i64 r_5), .rd ⟨false, 3, (.int .i64), r_6⟩, .rd ⟨false, 3, (.int .i64), r_7⟩, .v (.int .i64 r_8), .rd ⟨false, 3, (.int .i64), r_9⟩, .rd ⟨false, 3, (.int .i64), r_10⟩], .agg [.v (.int .i64 l), .v (.int .i64 l_1), .v (.int .i64 l_2), .cel]], [] => l_log_tested_fault r r_1 r_2 r_3 r_4 r_5 r_6 r_7 r_8 r_9 r_10 l l_1 l_2 (k0_log_tested_fault K)
  | _, _ => none⟩

theorem sound_log_tested_fault : Sound Tryz.prog 45 (S_log_tested_fault @l_log_tested_fault) := by
  refine fn_sound (cuts := cuts_log_tested_fault) (fn := Tryz.f45) (Γ := C_log_tested_fault) wide right_T_log_tested_fault Tryz.func45 fun {R} K r args ob h => ?_
  unfold S_log_tested_fault at h
  dsimp only at h
  split at h
  · exact ⟨Nat.le_of_ble_eq_true (by kernel_rfl), 0, (gentry_log_tested_fault K _ _ _ _ _ _ _ _ _ _ _ _ _ _).trans h⟩
  · cases h

theorem call_log_tested_fault : Callable Tryz.prog 45 := ⟨_, Tryz.func45, by kernel_rfl, by kernel_rfl⟩


def S_bytes_Index (l_bytes_Index : LT_bytes_Index) : Sum := ⟨[], fun {R} args ob K => match args, ob with
  | [.rd ⟨false, _, .int .u8, xs⟩, .rd ⟨false, _, .int .u8, ys⟩], [] => l_bytes_Index xs ys (fun r0 => K (.v (.int .i64 r0)) [])
  | _, _ => none⟩

theorem sound_bytes_Index : Sound Tryz.prog 63 (S_bytes_Index @l_bytes_Index) := sound_Index (g := 0) Tryz.laysC13 rfl rfl inferInstance

theorem call_bytes_Index : Callable Tryz.prog 63 := ⟨_, Tryz.func63, by kernel_rfl, by kernel_rfl⟩

def T_text_reader_want : FuncId → Option Sum := G0

theorem right_T_text_reader_want : Right Tryz.prog T_text_reader_want := right_G0

abbrev cuts_text_reader_want_none : Cuts := [(1, [0, 1, 4])]

abbrev k0_text_reader_want_none {R : Type} (K : AV → List O → Option R) : (List Int) → Int → Int → Int → Option R := fun r0 r1 r2 r3 => K (.tup []) [.box 145 [.rd ⟨false, 5, (.int .u8), r0⟩, .v (.int .i64 r1), .ifc 147 (.ptr 1 0)], .box 151 [.v (.int .i64 r2), .v (.int .i64 r3)]]

abbrev k1_text_reader_want_none {R : Type} (K : AV → List O → Option R) : (List Int) → Int → Option R := fun r0 r1 => K (.tup []) [.box 145 [.rd ⟨false, 5, (.int .u8), r0⟩, .v (.int .i64 r1), .v (.nilIface)]]

abbrev sta_text_reader_want_none_1 (s : ByteArray) (i : Int) (o0 : List Int) (o0_1 : Int) : St := ⟨fr0 61 [(0, .ptr 0 0), (1, .v (.string s)), (4, .v (.int .i64 i))], [.box 145 [.rd ⟨false, 5, (.int .u8), o0⟩, .v (.int .i64 o0_1), .v (.nilIface)]]⟩

abbrev gt_text_reader_want_none_1 {R : Type} (g : List Item → St → Option R) : GT_text_reader_want_none_1 R := fun (s : ByteArray) (i : Int) (o0 : List Int) (o0_1 : Int) => g (at' Tryz.f103 1) (sta_text_reader_want_none_1 s i o0 o0_1)

theorem gstep_text_reader_want_none_1 {R : Type} (g : List Item → St → Option R) (K : AV → List O → Option R) (s : ByteArray) (i : Int) (o0 : List Int) (o0_1 : Int) :
    runSeg Tryz.prog T_text_reader_want cuts_text_reader_want_none 1 g (finish Tryz.prog Tryz.f103 1 K) (at' Tryz.f103 1) (sta_text_reader_want_none_1 s i o0 o0_1) =
    s_text_reader_want_none_1 (gt_text_reader_want_none_1 g) (k0_text_reader_want_none K) (k1_text_reader_want_none K) s i o0 o0_1 := by kernel_rfl

theorem gentry_text_reader_want_none {R : Type} (fuel : Nat) (K : AV → List O → Option R) (s : ByteArray) (o0 : List Int) (o0_1 : Int) :
    fnRun Tryz.prog T_text_reader_want cuts_text_reader_want_none Tryz.f103 fuel [.ptr 0 0, .v (.string s)] [.box 145 [.rd ⟨false, 5, (.int .u8), o0⟩, .v (.int .i64 o0_1), .v (.nilIface)]] K =
    e_text_reader_want_none (gt_text_reader_want_none_1 (runO Tryz.prog T_text_reader_want cuts_text_reader_want_none 1 (finish Tryz.prog Tryz.f103 1 K) fuel)) (k0_text_reader_want_none K) (k1_text_reader_want_none K) s o0 o0_1 := by kernel_rfl

theorem runs_text_reader_want_none {R : Type} (K : AV → List O → Option R) : ∀ fuel : Nat,
    (gt_text_reader_want_none_1 (runO Tryz.prog T_text_reader_want cuts_text_reader_want_none 1 (finish Tryz.prog Tryz.f103 1 K) fuel)) = (run_text_reader_want_none (k0_text_reader_want_none K) (k1_text_reader_want_none K) fuel)
  | 0 => rfl
  | fuel + 1 => by
    have ih := runs_text_reader_want_none K fuel
    funext s i o0 o0_1
    refine (gstep_text_reader_want_none_1 _ K s i o0 o0_1).trans ?_
    rw [ih]
    rfl

abbrev cuts_text_reader_want_fault : Cuts := [(1, [0, 1, 4])]

abbrev k0_text_reader_want_fault {R : Type} (K : AV → List O → Option R) : (List Int) → Int → Int → Int → Option R := fun r0 r1 r2 r3 => K (.tup []) [.box 145 [.rd ⟨false, 5, (.int .u8), r0⟩, .v (.int .i64 r1), .ifc 147 (.ptr 1 0)], .box 151 [.v (.int .i64 r2), .v (.int .i64 r3)]]

abbrev sta_text_reader_want_fault_1 (s : ByteArray) (i : Int) (o0 : List Int) (o0_1 o1 o1_1 : Int) : St := ⟨fr0 61 [(0, .ptr 0 0), (1, .v (.string s)), (4, .v (.int .i64 i))], [.box 145 [.rd ⟨false, 5, (.int .u8), o0⟩, .v (.int .i64 o0_1), .ifc 147 (.ptr 1 0)], .box 151 [.v (.int .i64 o1), .v (.int .i64 o1_1)]]⟩

abbrev gt_text_reader_want_fault_1 {R : Type} (g : List Item → St → Option R) : GT_text_reader_want_fault_1 R := fun (s : ByteArray) (i : Int) (o0 : List Int) (o0_1 o1 o1_1 : Int) => g (at' Tryz.f103 1) (sta_text_reader_want_fault_1 s i o0 o0_1 o1 o1_1)

theorem gstep_text_reader_want_fault_1 {R : Type} (g : List Item → St → Option R) (K : AV → List O → Option R) (s : ByteArray) (i : Int) (o0 : List Int) (o0_1 o1 o1_1 : Int) :
    runSeg Tryz.prog T_text_reader_want cuts_text_reader_want_fault 2 g (finish Tryz.prog Tryz.f103 2 K) (at' Tryz.f103 1) (sta_text_reader_want_fault_1 s i o0 o0_1 o1 o1_1) =
    s_text_reader_want_fault_1 (gt_text_reader_want_fault_1 g) (k0_text_reader_want_fault K) s i o0 o0_1 o1 o1_1 := by kernel_rfl

theorem gentry_text_reader_want_fault {R : Type} (fuel : Nat) (K : AV → List O → Option R) (s : ByteArray) (o0 : List Int) (o0_1 o1 o1_1 : Int) :
    fnRun Tryz.prog T_text_reader_want cuts_text_reader_want_fault Tryz.f103 fuel [.ptr 0 0, .v (.string s)] [.box 145 [.rd ⟨false, 5, (.int .u8), o0⟩, .v (.int .i64 o0_1), .ifc 147 (.ptr 1 0)], .box 151 [.v (.int .i64 o1), .v (.int .i64 o1_1)]] K =
    e_text_reader_want_fault (gt_text_reader_want_fault_1 (runO Tryz.prog T_text_reader_want cuts_text_reader_want_fault 2 (finish Tryz.prog Tryz.f103 2 K) fuel)) (k0_text_reader_want_fault K) s o0 o0_1 o1 o1_1 := by kernel_rfl

theorem runs_text_reader_want_fault {R : Type} (K : AV → List O → Option R) : ∀ fuel : Nat,
    (gt_text_reader_want_fault_1 (runO Tryz.prog T_text_reader_want cuts_text_reader_want_fault 2 (finish Tryz.prog Tryz.f103 2 K) fuel)) = (run_text_reader_want_fault (k0_text_reader_want_fault K) fuel)
  | 0 => rfl
  | fuel + 1 => by
    have ih := runs_text_reader_want_fault K fuel
    funext s i o0 o0_1 o1 o1_1
    refine (gstep_text_reader_want_fault_1 _ K s i o0 o0_1 o1 o1_1).trans ?_
    rw [ih]
    rfl

def S_text_reader_want (l_text_reader_want_none : LT_text_reader_want_none) (l_text_reader_want_fault : LT_text_reader_want_fault) : Sum := ⟨[], fun {R} args ob K => match args, ob with
  | [.ptr 0 0, .v (.string s)], [.box 145 [.rd ⟨false, 5, (.int .u8), o0⟩, .v (.int .i64 o0_1), .v (.nilIface)]] => l_text_reader_want_none s o0 o0_1 (k0_text_reader_want_none K) (k1_text_reader_want_none K)
  | [.ptr 0 0, .v (.string s)], [.box 145 [.rd ⟨false, 5, (.int .u8), o0⟩, .v (.int .i64 o0_1), .ifc 147 (.ptr 1 0)], .box 151 [.v (.int .i64 o1), .v (.int .i64 o1_1)]] => l_text_reader_want_fault s o0 o0_1 o1 o1_1 (k0_text_reader_want_fault K)
  | _, _ => none⟩

theorem sound_text_reader_want : Sound Tryz.prog 103 (S_text_reader_want @l_text_reader_want_none @l_text_reader_want_fault) := by
  refine fn_sound (cuts := cuts_text_reader_want_none) (fn := Tryz.f103) (Γ := T_text_reader_want) wide right_T_text_reader_want Tryz.func103 fun {R} K r args ob h => ?_
  unfold S_text_reader_want at h
  dsimp only at h
  split at h
  · obtain ⟨n, hn⟩ := evl_ok h
    refine ⟨Nat.le_of_ble_eq_true (by kernel_rfl), n, (gentry_text_reader_want_none n K _ _ _).trans ?_⟩
    rw [(runs_text_reader_want_none K n)]
    exact hn
  · obtain ⟨n, hn⟩ := evl_ok h
    refine ⟨Nat.le_of_ble_eq_true (by kernel_rfl), n, (gentry_text_reader_want_fault n K _ _ _ _ _).trans ?_⟩
    rw [(runs_text_reader_want_fault K n)]
    exact hn
  · cases h

theorem call_text_reader_want : Callable Tryz.prog 103 := ⟨_, Tryz.func103, by kernel_rfl, by kernel_rfl⟩

def T_text_reader_number (a0 : LT_text_Number) : FuncId → Option Sum := (addS G0 87 (S_text_Number @a0))

abbrev C_text_reader_number : FuncId → Option Sum := T_text_reader_number @l_text_Number

theorem right_T_text_reader_number : Right Tryz.prog C_text_reader_number := (right_add right_G0 call_text_Number sound_text_Number)

abbrev cuts_text_reader_number_fault : Cuts := []

abbrev k0_text_reader_number_fault {R : Type} (K : AV → List O → Option R) : Int → (List Int) → Int → Int → Int → Option R := fun r0 r1 r2 r3 r4 => K (.v (.int .i64 r0)) [.box 145 [.rd ⟨false, 5, (.int .u8), r1⟩, .v (.int .i64 r2), .ifc 147 (.ptr 1 0)], .box 151 [.v (.int .i64 r3), .v (.int .i64 r4)]]

theorem gentry_text_reader_number_fault {a0 : LT_text_Number} {R : Type} (K : AV → List O → Option R) (low high kind : Int) (o0 : List Int) (o0_1 o1 o1_1 : Int) :
    fnRun Tryz.prog (T_text_reader_number @a0) cuts_text_reader_number_fault Tryz.f102 0 [.ptr 0 0, .v (.int .i64 low), .v (.int .i64 high), .v (.int .i64 kind)] [.box 145 [.rd ⟨false, 5, (.int .u8), o0⟩, .v (.int .i64 o0_1), .ifc 147 (.ptr 1 0)], .box 151 [.v (.int .i64 o1), .v (.int .i64 o1_1)]] K =
    l_text_reader_number_fault low high kind o0 o0_1 o1 o1_1 (k0_text_reader_number_fault K) := by kernel_rfl

abbrev cuts_text_reader_number_none : Cuts := []

abbrev k0_text_reader_number_none {R : Type} (K : AV → List O → Option R) : Int → (List Int) → Int → Int → Int → Option R := fun r0 r1 r2 r3 r4 => K (.v (.int .i64 r0)) [.box 145 [.rd ⟨false, 5, (.int .u8), r1⟩, .v (.int .i64 r2), .ifc 147 (.ptr 1 0)], .box 151 [.v (.int .i64 r3), .v (.int .i64 r4)]]

abbrev k1_text_reader_number_none {R : Type} (K : AV → List O → Option R) : Int → (List Int) → Int → Option R := fun r0 r1 r2 => K (.v (.int .i64 r0)) [.box 145 [.rd ⟨false, 5, (.int .u8), r1⟩, .v (.int .i64 r2), .v (.nilIface)]]

theorem gentry_text_reader_number_none {a0 : LT_text_Number} {R : Type} (K : AV → List O → Option R) (low high kind : Int) (o0 : List Int) (o0_1 : Int) :
    fnRun Tryz.prog (T_text_reader_number @a0) cuts_text_reader_number_none Tryz.f102 0 [.ptr 0 0, .v (.int .i64 low), .v (.int .i64 high), .v (.int .i64 kind)] [.box 145 [.rd ⟨false, 5, (.int .u8), o0⟩, .v (.int .i64 o0_1), .v (.nilIface)]] K =
    gl_text_reader_number_none @a0 low high kind o0 o0_1 (k0_text_reader_number_none K) (k1_text_reader_number_none K) := by kernel_rfl

def S_text_reader_number (l_text_reader_number_fault : LT_text_reader_number_fault) (l_text_reader_number_none : LT_text_reader_number_none) : Sum := ⟨[], fun {R} args ob K => match args, ob with
  | [.ptr 0 0, .v (.int .i64 low), .v (.int .i64 high), .v (.int .i64 kind)], [.box 145 [.rd ⟨false, 5, (.int .u8), o0⟩, .v (.int .i64 o0_1), .ifc 147 (.ptr 1 0)], .box 151 [.v (.int .i64 o1), .v (.int .i64 o1_1)]] => l_text_reader_number_fault low high kind o0 o0_1 o1 o1_1 (k0_text_reader_number_fault K)
  | [.ptr 0 0, .v (.int .i64 low), .v (.int .i64 high), .v (.int .i64 kind)], [.box 145 [.rd ⟨false, 5, (.int .u8), o0⟩, .v (.int .i64 o0_1), .v (.nilIface)]] => l_text_reader_number_none low high kind o0 o0_1 (k0_text_reader_number_none K) (k1_text_reader_number_none K)
  | _, _ => none⟩

theorem sound_text_reader_number : Sound Tryz.prog 102 (S_text_reader_number @l_text_reader_number_fault @l_text_reader_number_none) := by
  refine fn_sound (cuts := cuts_text_reader_number_fault) (fn := Tryz.f102) (Γ := C_text_reader_number) wide right_T_text_reader_number Tryz.func102 fun {R} K r args ob h => ?_
  unfold S_text_reader_number at h
  dsimp only at h
  split at h
  · exact ⟨Nat.le_of_ble_eq_true (by kernel_rfl), 0, (gentry_text_reader_number_fault K _ _ _ _ _ _ _).trans h⟩
  · exact ⟨Nat.le_of_ble_eq_true (by kernel_rfl), 0, (gentry_text_reader_number_none K _ _ _ _ _).trans h⟩
  · cases h

theorem call_text_reader_number : Callable Tryz.prog 102 := ⟨_, Tryz.func102, by kernel_rfl, by kernel_rfl⟩

def T_text_reader_read (a0 : LT_text_reader_want_none) (a1 : LT_text_reader_want_fault) (a2 : LT_text_reader_number_fault) (a3 : LT_text_reader_number_none) : FuncId → Option Sum := (addS (addS G0 103 (S_text_reader_want @a0 @a1)) 102 (S_text_reader_number @a2 @a3))

abbrev C_text_reader_read : FuncId → Option Sum := T_text_reader_read @l_text_reader_want_none @l_text_reader_want_fault @l_text_reader_number_fault @l_text_reader_number_none

theorem right_T_text_reader_read : Right Tryz.prog C_text_reader_read := (right_add (right_add right_G0 call_text_reader_want sound_text_reader_want) call_text_reader_number sound_text_reader_number)

abbrev cuts_text_reader_read_none : Cuts := [(15, [0, 2, 3, 4, 5, 6]), (19, [0, 2, 3, 4, 5, 6]), (20, [0, 2, 3, 4, 5, 6, 7]), (21, [0, 2, 3, 4, 5, 6, 7]), (25, [0, 2, 3, 4, 5, 6, 7])]

abbrev k0_text_reader_read_none {R : Type} (K : AV → List O → Option R) : Int → Int → Int → Int → (List Int) → Int → Int → Int → (List Int) → (List Int) → Option R := fun r0 r1 r2 r3 r4 r5 r6 r7 r8 r9 => K (.agg [.v (.int .i64 r0), .v (.int .i64 r1), .v (.int .i64 r2), .v (.int .i64 r3), .own 2, .own 3]) [.box 145 [.rd ⟨false, 5, (.int .u8), r4⟩, .v (.int .i64 r5), .ifc 147 (.ptr 1 0)], .box 151 [.v (.int .i64 r6), .v (.int .i64 r7)], .row ⟨true, 3, (.int .i64), r8⟩, .row ⟨true, 3, (.int .i64), r9⟩]

abbrev k1_text_reader_read_none {R : Type} (K : AV → List O → Option R) : Int → Int → Int → Int → (List Int) → Int → (List Int) → (List Int) → Option R := fun r0 r1 r2 r3 r4 r5 r6 r7 => K (.agg [.v (.int .i64 r0), .v (.int .i64 r1), .v (.int .i64 r2), .v (.int .i64 r3), .own 1, .own 2]) [.box 145 [.rd ⟨false, 5, (.int .u8), r4⟩, .v (.int .i64 r5), .v (.nilIface)], .row ⟨true, 3, (.int .i64), r6⟩, .row ⟨true, 3, (.int .i64), r7⟩]

abbrev sta_text_reader_read_none_15a (s : Int) (o0 : List Int) (o0_1 o1 o1_1 o2 o2_1 o2_2 o2_3 : Int) (o3 o4 : List Int) (o5 o5_1 o5_2 o5_3 : Int) (o6 o7 : List Int) : St := ⟨fr0 151 [(0, .ptr 0 0), (2, .ptr 2 0), (3, .ptr 5 0), (4, .bnd 102 [.ptr 0 0]), (5, .bnd 103 [.ptr 0 0]), (6, .v (.int .i64 s))], [.box 145 [.rd ⟨false, 5, (.int .u8), o0⟩, .v (.int .i64 o0_1), .ifc 147 (.ptr 1 0)], .box 151 [.v (.int .i64 o1), .v (.int .i64 o1_1)], .box 47 [.v (.int .i64 o2), .v (.int .i64 o2_1), .v (.int .i64 o2_2), .v (.int .i64 o2_3), .own 3, .own 4], .row ⟨true, 3, (.int .i64), o3⟩, .row ⟨true, 3, (.int .i64), o4⟩, .box 47 [.v (.int .i64 o5), .v (.int .i64 o5_1), .v (.int .i64 o5_2), .v (.int .i64 o5_3), .own 6, .own 7], .row ⟨true, 3, (.int .i64), o6⟩, .row ⟨true, 3, (.int .i64), o7⟩]⟩

abbrev gt_text_reader_read_none_15a {R : Type} (g : List Item → St → Option R) : GT_text_reader_read_none_15a R := fun (s : Int) (o0 : List Int) (o0_1 o1 o1_1 o2 o2_1 o2_2 o2_3 : Int) (o3 o4 : List Int) (o5 o5_1 o5_2 o5_3 : Int) (o6 o7 : List Int) => g (at' Tryz.f88 15) (sta_text_reader_read_none_15a s o0 o0_1 o1 o1_1 o2 o2_1 o2_2 o2_3 o3 o4 o5 o5_1 o5_2 o5_3 o6 o7)

abbrev sta_text_reader_read_none_15b (s : Int) (o0 : List Int) (o0_1 o1 o1_1 o1_2 o1_3 : Int) (o2 o3 : List Int) (o4 o4_1 o4_2 o4_3 : Int) (o5 o6 : List Int) : St := ⟨fr0 151 [(0, .ptr 0 0), (2, .ptr 1 0), (3, .ptr 4 0), (4, .bnd 102 [.ptr 0 0]), (5, .bnd 103 [.ptr 0 0]), (6, .v (.int .i64 s))], [.box 145 [.rd ⟨false, 5, (.int .u8), o0⟩, .v (.int .i64 o0_1), .v (.nilIface)], .box 47 [.v (.int .i64 o1), .v (.int .i64 o1_1), .v (.int .i64 o1_2), .v (.int .i64 o1_3), .own 2, .own 3], .row ⟨true, 3, (.int .i64), o2⟩, .row ⟨true, 3, (.int .i64), o3⟩, .box 47 [.v (.int .i64 o4), .v (.int .i64 o4_1), .v (.int .i64 o4_2), .v (.int .i64 o4_3), .own 5, .own 6], .row ⟨true, 3, (.int .i64), o5⟩, .row ⟨true, 3, (.int .i64), o6⟩]⟩

abbrev gt_text_reader_read_none_15b {R : Type} (g : List Item → St → Option R) : GT_text_reader_read_none_15b R := fun (s : Int) (o0 : List Int) (o0_1 o1 o1_1 o1_2 o1_3 : Int) (o2 o3 : List Int) (o4 o4_1 o4_2 o4_3 : Int) (o5 o6 : List Int) => g (at' Tryz.f88 15) (sta_text_reader_read_none_15b s o0 o0_1 o1 o1_1 o1_2 o1_3 o2 o3 o4 o4_1 o4_2 o4_3 o5 o6)

abbrev sta_text_reader_read_none_19a (s : Int) (o0 : List Int) (o0_1 o1 o1_1 o2 o2_1 o2_2 o2_3 : Int) (o3 o4 : List Int) (o5 o5_1 o5_2 o5_3 : Int) (o6 o7 : List Int) : St := ⟨fr0 151 [(0, .ptr 0 0), (2, .ptr 2 0), (3, .ptr 5 0), (4, .bnd 102 [.ptr 0 0]), (5, .bnd 103 [.ptr 0 0]), (6, .v (.int .i64 s))], [.box 145 [.rd ⟨false, 5, (.int .u8), o0⟩, .v (.int .i64 o0_1), .ifc 147 (.ptr 1 0)], .box 151 [.v (.int .i64 o1), .v (.int .i64 o1_1)], .box 47 [.v (.int .i64 o2), .v (.int .i64 o2_1), .v (.int .i64 o2_2), .v (.int .i64 o2_3), .own 3, .own 4], .row ⟨true, 3, (.int .i64), o3⟩, .row ⟨true, 3, (.int .i64), o4⟩, .box 47 [.v (.int .i64 o5), .v (.int .i64 o5_1), .v (.int .i64 o5_2), .v (.int .i64 o5_3), .own 6, .own 7], .row ⟨true, 3, (.int .i64), o6⟩, .row ⟨true, 3, (.int .i64), o7⟩]⟩

abbrev gt_text_reader_read_none_19a {R : Type} (g : List Item → St → Option R) : GT_text_reader_read_none_19a R := fun (s : Int) (o0 : List Int) (o0_1 o1 o1_1 o2 o2_1 o2_2 o2_3 : Int) (o3 o4 : List Int) (o5 o5_1 o5_2 o5_3 : Int) (o6 o7 : List Int) => g (at' Tryz.f88 19) (sta_text_reader_read_none_19a s o0 o0_1 o1 o1_1 o2 o2_1 o2_2 o2_3 o3 o4 o5 o5_1 o5_2 o5_3 o6 o7)

abbrev sta_text_reader_read_none_19b (s : Int) (o0 : List Int) (o0_1 o1 o1_1 o1_2 o1_3 : Int) (o2 o3 : List Int) (o4 o4_1 o4_2 o4_3 : Int) (o5 o6 : List Int) : St := ⟨fr0 151 [(0, .ptr 0 0), (2, .ptr 1 0), (3, .ptr 4 0), (4, .bnd 102 [.ptr 0 0]), (5, .bnd 103 [.ptr 0 0]), (6, .v (.int .i64 s))], [.box 145 [.rd ⟨false, 5, (.int .u8), o0⟩, .v (.int .i64 o0_1), .v (.nilIface)], .box 47 [.v (.int .i64 o1), .v (.int .i64 o1_1), .v (.int .i64 o1_2), .v (.int .i64 o1_3), .own 2, .own 3], .row ⟨true, 3, (.int .i64), o2⟩, .row ⟨true, 3, (.int .i64), o3⟩, .box 47 [.v (.int .i64 o4), .v (.int .i64 o4_1), .v (.int .i64 o4_2), .v (.int .i64 o4_3), .own 5, .own 6], .row ⟨true, 3, (.int .i64), o5⟩, .row ⟨true, 3, (.int .i64), o6⟩]⟩

abbrev gt_text_reader_read_none_19b {R : Type} (g : List Item → St → Option R) : GT_text_reader_read_none_19b R := fun (s : Int) (o0 : List Int) (o0_1 o1 o1_1 o1_2 o1_3 : Int) (o2 o3 : List Int) (o4 o4_1 o4_2 o4_3 : Int) (o5 o6 : List Int) => g (at' Tryz.f88 19) (sta_text_reader_read_none_19b s o0 o0_1 o1 o1_1 o1_2 o1_3 o2 o3 o4 o4_1 o4_2 o4_3 o5 o6)

abbrev sta_text_reader_read_none_20a (s x : Int) (o0 : List Int) (o0_1 o1 o1_1 o2 o2_1 o2_2 o2_3 : Int) (o3 o4 : List Int) (o5 o5_1 o5_2 o5_3 : Int) (o6 o7 : List Int) : St := ⟨fr0 151 [(0, .ptr 0 0), (2, .ptr 2 0), (3, .ptr 5 0), (4, .bnd 102 [.ptr 0 0]), (5, .bnd 103 [.ptr 0 0]), (6, .v (.int .i64 s)), (7, .v (.int .i64 x))], [.box 145 [.rd ⟨false, 5, (.int .u8), o0⟩, .v (.int .i64 o0_1), .ifc 147 (.ptr 1 0)], .box 151 [.v (.int .i64 o1), .v (.int .i64 o1_1)], .box 47 [.v (.int .i64 o2), .v (.int .i64 o2_1), .v (.int .i64 o2_2), .v (.int .i64 o2_3), .own 3, .own 4], .row ⟨true, 3, (.int .i64), o3⟩, .row ⟨true, 3, (.int .i64), o4⟩, .box 47 [.v (.int .i64 o5), .v (.int .i64 o5_1), .v (.int .i64 o5_2), .v (.int .i64 o5_3), .own 6, .own 7], .row ⟨true, 3, (.int .i64), o6⟩, .row ⟨true, 3, (.int .i64), o7⟩]⟩

abbrev gt_text_reader_read_none_20a {R : Type} (g : List Item → St → Option R) : GT_text_reader_read_none_20a R := fun (s x : Int) (o0 : List Int) (o0_1 o1 o1_1 o2 o2_1 o2_2 o2_3 : Int) (o3 o4 : List Int) (o5 o5_1 o5_2 o5_3 : Int) (o6 o7 : List Int) => g (at' Tryz.f88 20) (sta_text_reader_read_none_20a s x o0 o0_1 o1 o1_1 o2 o2_1 o2_2 o2_3 o3 o4 o5 o5_1 o5_2 o5_3 o6 o7)

abbrev sta_text_reader_read_none_20b (s x : Int) (o0 : List Int) (o0_1 o1 o1_1 o1_2 o1_3 : Int) (o2 o3 : List Int) (o4 o4_1 o4_2 o4_3 : Int) (o5 o6 : List Int) : St := ⟨fr0 151 [(0, .ptr 0 0), (2, .ptr 1 0), (3, .ptr 4 0), (4, .bnd 102 [.ptr 0 0]), (5, .bnd 103 [.ptr 0 0]), (6, .v (.int .i64 s)), (7, .v (.int .i64 x))], [.box 145 [.rd ⟨false, 5, (.int .u8), o0⟩, .v (.int .i64 o0_1), .v (.nilIface)], .box 47 [.v (.int .i64 o1), .v (.int .i64 o1_1), .v (.int .i64 o1_2), .v (.int .i64 o1_3), .own 2, .own 3], .row ⟨true, 3, (.int .i64), o2⟩, .row ⟨true, 3, (.int .i64), o3⟩, .box 47 [.v (.int .i64 o4), .v (.int .i64 o4_1), .v (.int .i64 o4_2), .v (.int .i64 o4_3), .own 5, .own 6], .row ⟨true, 3, (.int .i64), o5⟩, .row ⟨true, 3, (.int .i64), o6⟩]⟩

abbrev gt_text_reader_read_none_20b {R : Type} (g : List Item → St → Option R) : GT_text_reader_read_none_20b R := fun (s x : Int) (o0 : List Int) (o0_1 o1 o1_1 o1_2 o1_3 : Int) (o2 o3 : List Int) (o4 o4_1 o4_2 o4_3 : Int) (o5 o6 : List Int) => g (at' Tryz.f88 20) (sta_text_reader_read_none_20b s x o0 o0_1 o1 o1_1 o1_2 o1_3 o2 o3 o4 o4_1 o4_2 o4_3 o5 o6)

abbrev sta_text_reader_read_none_25a (s x : Int) (o0 : List Int) (o0_1 o1 o1_1 o2 o2_1 o2_2 o2_3 : Int) (o3 o4 : List Int) (o5 o5_1 o5_2 o5_3 : Int) (o6 o7 : List Int) : St := ⟨fr0 151 [(0, .ptr 0 0), (2, .ptr 2 0), (3, .ptr 5 0), (4, .bnd 102 [.ptr 0 0]), (5, .bnd 103 [.ptr 0 0]), (6, .v (.int .i64 s)), (7, .v (.int .i64 x))], [.box 145 [.rd ⟨false, 5, (.int .u8), o0⟩, .v (.int .i64 o0_1), .ifc 147 (.ptr 1 0)], .box 151 [.v (.int .i64 o1), .v (.int .i64 o1_1)], .box 47 [.v (.int .i64 o2), .v (.int .i64 o2_1), .v (.int .i64 o2_2), .v (.int .i64 o2_3), .own 3, .own 4], .row ⟨true, 3, (.int .i64), o3⟩, .row ⟨true, 3, (.int .i64), o4⟩, .box 47 [.v (.int .i64 o5), .v (.int .i64 o5_1), .v (.int .i64 o5_2), .v (.int .i64 o5_3), .own 6, .own 7], .row ⟨true, 3, (.int .i64), o6⟩, .row ⟨true, 3, (.int .i64), o7⟩]⟩

abbrev gt_text_reader_read_none_25a {R : Type} (g : List Item → St → Option R) : GT_text_reader_read_none_25a R := fun (s x : Int) (o0 : List Int) (o0_1 o1 o1_1 o2 o2_1 o2_2 o2_3 : Int) (o3 o4 : List Int) (o5 o5_1 o5_2 o5_3 : Int) (o6 o7 : List Int) => g (at' Tryz.f88 25) (sta_text_reader_read_none_25a s x o0 o0_1 o1 o1_1 o2 o2_1 o2_2 o2_3 o3 o4 o5 o5_1 o5_2 o5_3 o6 o7)

abbrev sta_text_reader_read_none_25b (s x : Int) (o0 : List Int) (o0_1 o1 o1_1 o1_2 o1_3 : Int) (o2 o3 : List Int) (o4 o4_1 o4_2 o4_3 : Int) (o5 o6 : List Int) : St := ⟨fr0 151 [(0, .ptr 0 0), (2, .ptr 1 0), (3, .ptr 4 0), (4, .bnd 102 [.ptr 0 0]), (5, .bnd 103 [.ptr 0 0]), (6, .v (.int .i64 s)), (7, .v (.int .i64 x))], [.box 145 [.rd ⟨false, 5, (.int .u8), o0⟩, .v (.int .i64 o0_1), .v (.nilIface)], .box 47 [.v (.int .i64 o1), .v (.int .i64 o1_1), .v (.int .i64 o1_2), .v (.int .i64 o1_3), .own 2, .own 3], .row ⟨true, 3, (.int .i64), o2⟩, .row ⟨true, 3, (.int .i64), o3⟩, .box 47 [.v (.int .i64 o4), .v (.int .i64 o4_1), .v (.int .i64 o4_2), .v (.int .i64 o4_3), .own 5, .own 6], .row ⟨true, 3, (.int .i64), o5⟩, .row ⟨true, 3, (.int .i64), o6⟩]⟩

abbrev gt_text_reader_read_none_25b {R : Type} (g : List Item → St → Option R) : GT_text_reader_read_none_25b R := fun (s x : Int) (o0 : List Int) (o0_1 o1 o1_1 o1_2 o1_3 : Int) (o2 o3 : List Int) (o4 o4_1 o4_2 o4_3 : Int) (o5 o6 : List Int) => g (at' Tryz.f88 25) (sta_text_reader_read_none_25b s x o0 o0_1 o1 o1_1 o1_2 o1_3 o2 o3 o4 o4_1 o4_2 o4_3 o5 o6)

abbrev sta_text_reader_read_none_21a (s x : Int) (o0 : List Int) (o0_1 o1 o1_1 o2 o2_1 o2_2 o2_3 : Int) (o3 o4 : List Int) (o5 o5_1 o5_2 o5_3 : Int) (o6 o7 : List Int) : St := ⟨fr0 151 [(0, .ptr 0 0), (2, .ptr 2 0), (3, .ptr 5 0), (4, .bnd 102 [.ptr 0 0]), (5, .bnd 103 [.ptr 0 0]), (6, .v (.int .i64 s)), (7, .v (.int .i64 x))], [.box 145 [.rd ⟨false, 5, (.int .u8), o0⟩, .v (.int .i64 o0_1), .ifc 147 (.ptr 1 0)], .box 151 [.v (.int .i64 o1), .v (.int .i64 o1_1)], .box 47 [.v (.int .i64 o2), .v (.int .i64 o2_1), .v (.int .i64 o2_2), .v (.int .i64 o2_3), .own 3, .own 4], .row ⟨true, 3, (.int .i64), o3⟩, .row ⟨true, 3, (.int .i64), o4⟩, .box 47 [.v (.int .i64 o5), .v (.int .i64 o5_1), .v (.int .i64 o5_2), .v (.int .i64 o5_3), .own 6, .own 7], .row ⟨true, 3, (.int .i64), o6⟩, .row ⟨true, 3, (.int .i64), o7⟩]⟩

abbrev gt_text_reader_read_none_21a {R : Type} (g : List Item → St → Option R) : GT_text_reader_read_none_21a R := fun (s x : Int) (o0 : List Int) (o0_1 o1 o1_1 o2 o2_1 o2_2 o2_3 : Int) (o3 o4 : List Int) (o5 o5_1 o5_2 o5_3 : Int) (o6 o7 : List Int) => g (at' Tryz.f88 21) (sta_text_reader_read_none_21a s x o0 o0_1 o1 o1_1 o2 o2_1 o2_2 o2_3 o3 o4 o5 o5_1 o5_2 o5_3 o6 o7)

abbrev sta_text_reader_read_none_21b (s x : Int) (o0 : List Int) (o0_1 o1 o1_1 o1_2 o1_3 : Int) (o2 o3 : List Int) (o4 o4_1 o4_2 o4_3 : Int) (o5 o6 : List Int) : St := ⟨fr0 151 [(0, .ptr 0 0), (2, .ptr 1 0), (3, .ptr 4 0), (4, .bnd 102 [.ptr 0 0]), (5, .bnd 103 [.ptr 0 0]), (6, .v (.int .i64 s)), (7, .v (.int .i64 x))], [.box 145 [.rd ⟨false, 5, (.int .u8), o0⟩, .v (.int .i64 o0_1), .v (.nilIface)], .box 47 [.v (.int .i64 o1), .v (.int .i64 o1_1), .v (.int .i64 o1_2), .v (.int .i64 o1_3), .own 2, .own 3], .row ⟨true, 3, (.int .i64), o2⟩, .row ⟨true, 3, (.int .i64), o3⟩, .box 47 [.v (.int .i64 o4), .v (.int .i64 o4_1), .v (.int .i64 o4_2), .v (.int .i64 o4_3), .own 5, .own 6], .row ⟨true, 3, (.int .i64), o5⟩, .row ⟨true, 3, (.int .i64), o6⟩]⟩

abbrev gt_text_reader_read_none_21b {R : Type} (g : List Item → St → Option R) : GT_text_reader_read_none_21b R := fun (s x : Int) (o0 : List Int) (o0_1 o1 o1_1 o1_2 o1_3 : Int) (o2 o3 : List Int) (o4 o4_1 o4_2 o4_3 : Int) (o5 o6 : List Int) => g (at' Tryz.f88 21) (sta_text_reader_read_none_21b s x o0 o0_1 o1 o1_1 o1_2 o1_3 o2 o3 o4 o4_1 o4_2 o4_3 o5 o6)

theorem gstep_text_reader_read_none_15a {a0 : LT_text_reader_want_none} {a1 : LT_text_reader_want_fault} {a2 : LT_text_reader_number_fault} {a3 : LT_text_reader_number_none} {R : Type} (g : List Item → St → Option R) (K : AV → List O → Option R) (s : Int) (o0 : List Int) (o0_1 o1 o1_1 o2 o2_1 o2_2 o2_3 : Int) (o3 o4 : List Int) (o5 o5_1 o5_2 o5_3 : Int) (o6 o7 : List Int) :
    runSeg Tryz.prog (T_text_reader_read @a0 @a1 @a2 @a3) cuts_text_reader_read_none 1 g (finish Tryz.prog Tryz.f88 1 K) (at' Tryz.f88 15) (sta_text_reader_read_none_15a s o0 o0_1 o1 o1_1 o2 o2_1 o2_2 o2_3 o3 o4 o5 o5_1 o5_2 o5_3 o6 o7) =
    gs_text_reader_read_none_15a @a1 @a2 @a0 @a3 (gt_text_reader_read_none_15a g) (gt_text_reader_read_none_15b g) (gt_text_reader_read_none_19a g) (gt_text_reader_read_none_19b g) (gt_text_reader_read_none_20a g) (gt_text_reader_read_none_20b g) (gt_text_reader_read_none_25a g) (gt_text_reader_read_none_25b g) (gt_text_reader_read_none_21a g) (gt_text_reader_read_none_21b g) (k0_text_reader_read_none K) (k1_text_reader_read_none K) s o0 o0_1 o1 o1_1 o2 o2_1 o2_2 o2_3 o3 o4 o5 o5_1 o5_2 o5_3 o6 o7 := by kernel_rfl

theorem gstep_text_reader_read_none_15b {a0 : LT_text_reader_want_none} {a1 : LT_text_reader_want_fault} {a2 : LT_text_reader_number_fault} {a3 : LT_text_reader_number_none} {R : Type} (g : List Item → St → Option R) (K : AV → List O → Option R) (s : Int) (o0 : List Int) (o0_1 o1 o1_1 o1_2 o1_3 : Int) (o2 o3 : List Int) (o4 o4_1 o4_2 o4_3 : Int) (o5 o6 : List Int) :
    runSeg Tryz.prog (T_text_reader_read @a0 @a1 @a2 @a3) cuts_text_reader_read_none 1 g (finish Tryz.prog Tryz.f88 1 K) (at' Tryz.f88 15) (sta_text_reader_read_none_15b s o0 o0_1 o1 o1_1 o1_2 o1_3 o2 o3 o4 o4_1 o4_2 o4_3 o5 o6) =
    gs_text_reader_read_none_15b @a1 @a2 @a0 @a3 (gt_text_reader_read_none_15a g) (gt_text_reader_read_none_15b g) (gt_text_reader_read_none_19a g) (gt_text_reader_read_none_19b g) (gt_text_reader_read_none_20a g) (gt_text_reader_read_none_20b g) (gt_text_reader_read_none_25a g) (gt_text_reader_read_none_25b g) (gt_text_reader_read_none_21a g) (gt_text_reader_read_none_21b g) (k0_text_reader_read_none K) (k1_text_reader_read_none K) s o0 o0_1 o1 o1_1 o1_2 o1_3 o2 o3 o4 o4_1 o4_2 o4_3 o5 o6 := by kernel_rfl

theorem gstep_text_reader_read_none_19a {a0 : LT_text_reader_want_none} {a1 : LT_text_reader_want_fault} {a2 : LT_text_reader_number_fault} {a3 : LT_text_reader_number_none} {R : Type} (g : List Item → St → Option R) (K : AV → List O → Option R) (s : Int) (o0 : List Int) (o0_1 o1 o1_1 o2 o2_1 o2_2 o2_3 : Int) (o3 o4 : List Int) (o5 o5_1 o5_2 o5_3 : Int) (o6 o7 : List Int) :
    runSeg Tryz.prog (T_text_reader_read @a0 @a1 @a2 @a3) cuts_text_reader_read_none 1 g (finish Tryz.prog Tryz.f88 1 K) (at' Tryz.f88 19) (sta_text_reader_read_none_19a s o0 o0_1 o1 o1_1 o2 o2_1 o2_2 o2_3 o3 o4 o5 o5_1 o5_2 o5_3 o6 o7) =
    gs_text_reader_read_none_19a @a1 @a2 @a0 @a3 (gt_text_reader_read_none_15a g) (gt_text_reader_read_none_15b g) (gt_text_reader_read_none_19a g) (gt_text_reader_read_none_19b g) (gt_text_reader_read_none_20a g) (gt_text_reader_read_none_20b g) (gt_text_reader_read_none_25a g) (gt_text_reader_read_none_25b g) (gt_text_reader_read_none_21a g) (gt_text_reader_read_none_21b g) (k0_text_reader_read_none K) (k1_text_reader_read_none K) s o0 o0_1 o1 o1_1 o2 o2_1 o2_2 o2_3 o3 o4 o5 o5_1 o5_2 o5_3 o6 o7 := by kernel_rfl

theorem gstep_text_reader_read_none_19b {a0 : LT_text_reader_want_none} {a1 : LT_text_reader_want_fault} {a2 : LT_text_reader_number_fault} {a3 : LT_text_reader_number_none} {R : Type} (g : List Item → St → Option R) (K : AV → List O → Option R) (s : Int) (o0 : List Int) (o0_1 o1 o1_1 o1_2 o1_3 : Int) (o2 o3 : List Int) (o4 o4_1 o4_2 o4_3 : Int) (o5 o6 : List Int) :
    runSeg Tryz.prog (T_text_reader_read @a0 @a1 @a2 @a3) cuts_text_reader_read_none 1 g (finish Tryz.prog Tryz.f88 1 K) (at' Tryz.f88 19) (sta_text_reader_read_none_19b s o0 o0_1 o1 o1_1 o1_2 o1_3 o2 o3 o4 o4_1 o4_2 o4_3 o5 o6) =
    gs_text_reader_read_none_19b @a1 @a2 @a0 @a3 (gt_text_reader_read_none_15a g) (gt_text_reader_read_none_15b g) (gt_text_reader_read_none_19a g) (gt_text_reader_read_none_19b g) (gt_text_reader_read_none_20a g) (gt_text_reader_read_none_20b g) (gt_text_reader_read_none_25a g) (gt_text_reader_read_none_25b g) (gt_text_reader_read_none_21a g) (gt_text_reader_read_none_21b g) (k0_text_reader_read_none K) (k1_text_reader_read_none K) s o0 o0_1 o1 o1_1 o1_2 o1_3 o2 o3 o4 o4_1 o4_2 o4_3 o5 o6 := by kernel_rfl

theorem gstep_text_reader_read_none_20a {a0 : LT_text_reader_want_none} {a1 : LT_text_reader_want_fault} {a2 : LT_text_reader_number_fault} {a3 : LT_text_reader_number_none} {R : Type} (g : List Item → St → Option R) (K : AV → List O → Option R) (s x : Int) (o0 : List Int) (o0_1 o1 o1_1 o2 o2_1 o2_2 o2_3 : Int) (o3 o4 : List Int) (o5 o5_1 o5_2 o5_3 : Int) (o6 o7 : List Int) :
    runSeg Tryz.prog (T_text_reader_read @a0 @a1 @a2 @a3) cuts_text_reader_read_none 1 g (finish Tryz.prog Tryz.f88 1 K) (at' Tryz.f88 20) (sta_text_reader_read_none_20a s x o0 o0_1 o1 o1_1 o2 o2_1 o2_2 o2_3 o3 o4 o5 o5_1 o5_2 o5_3 o6 o7) =
    gs_text_reader_read_none_20a @a1 @a2 @a0 @a3 (gt_text_reader_read_none_15a g) (gt_text_reader_read_none_15b g) (gt_text_reader_read_none_19a g) (gt_text_reader_read_none_19b g) (gt_text_reader_read_none_20a g) (gt_text_reader_read_none_20b g) (gt_text_reader_read_none_25a g) (gt_text_reader_read_none_25b g) (gt_text_reader_read_none_21a g) (gt_text_reader_read_none_21b g) (k0_text_reader_read_none K) (k1_text_reader_read_none K) s x o0 o0_1 o1 o1_1 o2 o2_1 o2_2 o2_3 o3 o4 o5 o5_1 o5_2 o5_3 o6 o7 := by kernel_rfl

theorem gstep_text_reader_read_none_20b {a0 : LT_text_reader_want_none} {a1 : LT_text_reader_want_fault} {a2 : LT_text_reader_number_fault} {a3 : LT_text_reader_number_none} {R : Type} (g : List Item → St → Option R) (K : AV → List O → Option R) (s x : Int) (o0 : List Int) (o0_1 o1 o1_1 o1_2 o1_3 : Int) (o2 o3 : List Int) (o4 o4_1 o4_2 o4_3 : Int) (o5 o6 : List Int) :
    runSeg Tryz.prog (T_text_reader_read @a0 @a1 @a2 @a3) cuts_text_reader_read_none 1 g (finish Tryz.prog Tryz.f88 1 K) (at' Tryz.f88 20) (sta_text_reader_read_none_20b s x o0 o0_1 o1 o1_1 o1_2 o1_3 o2 o3 o4 o4_1 o4_2 o4_3 o5 o6) =
    gs_text_reader_read_none_20b @a1 @a2 @a0 @a3 (gt_text_reader_read_none_15a g) (gt_text_reader_read_none_15b g) (gt_text_reader_read_none_19a g) (gt_text_reader_read_none_19b g) (gt_text_reader_read_none_20a g) (gt_text_reader_read_none_20b g) (gt_text_reader_read_none_25a g) (gt_text_reader_read_none_25b g) (gt_text_reader_read_none_21a g) (gt_text_reader_read_none_21b g) (k0_text_reader_read_none K) (k1_text_reader_read_none K) s x o0 o0_1 o1 o1_1 o1_2 o1_3 o2 o3 o4 o4_1 o4_2 o4_3 o5 o6 := by kernel_rfl

theorem gstep_text_reader_read_none_25a {a0 : LT_text_reader_want_none} {a1 : LT_text_reader_want_fault} {a2 : LT_text_reader_number_fault} {a3 : LT_text_reader_number_none} {R : Type} (g : List Item → St → Option R) (K : AV → List O → Option R) (s x : Int) (o0 : List Int) (o0_1 o1 o1_1 o2 o2_1 o2_2 o2_3 : Int) (o3 o4 : List Int) (o5 o5_1 o5_2 o5_3 : Int) (o6 o7 : List Int) :
    runSeg Tryz.prog (T_text_reader_read @a0 @a1 @a2 @a3) cuts_text_reader_read_none 1 g (finish Tryz.prog Tryz.f88 1 K) (at' Tryz.f88 25) (sta_text_reader_read_none_25a s x o0 o0_1 o1 o1_1 o2 o2_1 o2_2 o2_3 o3 o4 o5 o5_1 o5_2 o5_3 o6 o7) =
    gs_text_reader_read_none_25a @a1 @a2 @a0 @a3 (gt_text_reader_read_none_15a g) (gt_text_reader_read_none_15b g) (gt_text_reader_read_none_19a g) (gt_text_reader_read_none_19b g) (gt_text_reader_read_none_20a g) (gt_text_reader_read_none_20b g) (gt_text_reader_read_none_25a g) (gt_text_reader_read_none_25b g) (gt_text_reader_read_none_21a g) (gt_text_reader_read_none_21b g) (k0_text_reader_read_none K) (k1_text_reader_read_none K) s x o0 o0_1 o1 o1_1 o2 o2_1 o2_2 o2_3 o3 o4 o5 o5_1 o5_2 o5_3 o6 o7 := by kernel_rfl

theorem gstep_text_reader_read_none_25b {a0 : LT_text_reader_want_none} {a1 : LT_text_reader_want_fault} {a2 : LT_text_reader_number_fault} {a3 : LT_text_reader_number_none} {R : Type} (g : List Item → St → Option R) (K : AV → List O → Option R) (s x : Int) (o0 : List Int) (o0_1 o1 o1_1 o1_2 o1_3 : Int) (o2 o3 : List Int) (o4 o4_1 o4_2 o4_3 : Int) (o5 o6 : List Int) :
    runSeg Tryz.prog (T_text_reader_read @a0 @a1 @a2 @a3) cuts_text_reader_read_none 1 g (finish Tryz.prog Tryz.f88 1 K) (at' Tryz.f88 25) (sta_text_reader_read_none_25b s x o0 o0_1 o1 o1_1 o1_2 o1_3 o2 o3 o4 o4_1 o4_2 o4_3 o5 o6) =
    gs_text_reader_read_none_25b @a1 @a2 @a0 @a3 (gt_text_reader_read_none_15a g) (gt_text_reader_read_none_15b g) (gt_text_reader_read_none_19a g) (gt_text_reader_read_none_19b g) (gt_text_reader_read_none_20a g) (gt_text_reader_read_none_20b g) (gt_text_reader_read_none_25a g) (gt_text_reader_read_none_25b g) (gt_text_reader_read_none_21a g) (gt_text_reader_read_none_21b g) (k0_text_reader_read_none K) (k1_text_reader_read_none K) s x o0 o0_1 o1 o1_1 o1_2 o1_3 o2 o3 o4 o4_1 o4_2 o4_3 o5 o6 := by kernel_rfl

theorem gstep_text_reader_read_none_21a {a0 : LT_text_reader_want_none} {a1 : LT_text_reader_want_fault} {a2 : LT_text_reader_number_fault} {a3 : LT_text_reader_number_none} {R : Type} (g : List Item → St → Option R) (K : AV → List O → Option R) (s x : Int) (o0 : List Int) (o0_1 o1 o1_1 o2 o2_1 o2_2 o2_3 : Int) (o3 o4 : List Int) (o5 o5_1 o5_2 o5_3 : Int) (o6 o7 : List Int) :
    runSeg Tryz.prog (T_text_reader_read @a0 @a1 @a2 @a3) cuts_text_reader_read_none 1 g (finish Tryz.prog Tryz.f88 1 K) (at' Tryz.f88 21) (sta_text_reader_read_none_21a s x o0 o0_1 o1 o1_1 o2 o2_1 o2_2 o2_3 o3 o4 o5 o5_1 o5_2 o5_3 o6 o7) =
    gs_text_reader_read_none_21a @a1 @a2 @a0 @a3 (gt_text_reader_read_none_15a g) (gt_text_reader_read_none_15b g) (gt_text_reader_read_none_19a g) (gt_text_reader_read_none_19b g) (gt_text_reader_read_none_20a g) (gt_text_reader_read_none_20b g) (gt_text_reader_read_none_25a g) (gt_text_reader_read_none_25b g) (gt_text_reader_read_none_21a g) (gt_text_reader_read_none_21b g) (k0_text_reader_read_none K) (k1_text_reader_read_none K) s x o0 o0_1 o1 o1_1 o2 o2_1 o2_2 o2_3 o3 o4 o5 o5_1 o5_2 o5_3 o6 o7 := by kernel_rfl

theorem gstep_text_reader_read_none_21b {a0 : LT_text_reader_want_none} {a1 : LT_text_reader_want_fault} {a2 : LT_text_reader_number_fault} {a3 : LT_text_reader_number_none} {R : Type} (g : List Item → St → Option R) (K : AV → List O → Option R) (s x : Int) (o0 : List Int) (o0_1 o1 o1_1 o1_2 o1_3 : Int) (o2 o3 : List Int) (o4 o4_1 o4_2 o4_3 : Int) (o5 o6 : List Int) :
    runSeg Tryz.prog (T_text_reader_read @a0 @a1 @a2 @a3) cuts_text_reader_read_none 1 g (finish Tryz.prog Tryz.f88 1 K) (at' Tryz.f88 21) (sta_text_reader_read_none_21b s x o0 o0_1 o1 o1_1 o1_2 o1_3 o2 o3 o4 o4_1 o4_2 o4_3 o5 o6) =
    gs_text_reader_read_none_21b @a1 @a2 @a0 @a3 (gt_text_reader_read_none_15a g) (gt_text_reader_read_none_15b g) (gt_text_reader_read_none_19a g) (gt_text_reader_read_none_19b g) (gt_text_reader_read_none_20a g) (gt_text_reader_read_none_20b g) (gt_text_reader_read_none_25a g) (gt_text_reader_read_none_25b g) (gt_text_reader_read_none_21a g) (gt_text_reader_read_none_21b g) (k0_text_reader_read_none K) (k1_text_reader_read_none K) s x o0 o0_1 o1 o1_1 o1_2 o1_3 o2 o3 o4 o4_1 o4_2 o4_3 o5 o6 := by kernel_rfl

theorem gentry_text_reader_read_none {a0 : LT_text_reader_want_none} {a1 : LT_text_reader_want_fault} {a2 : LT_text_reader_number_fault} {a3 : LT_text_reader_number_none} {R : Type} (fuel : Nat) (K : AV → List O → Option R) (o0 : List Int) (o0_1 : Int) :
    fnRun Tryz.prog (T_text_reader_read @a0 @a1 @a2 @a3) cuts_text_reader_read_none Tryz.f88 fuel [.ptr 0 0] [.box 145 [.rd ⟨false, 5, (.int .u8), o0⟩, .v (.int .i64 o0_1), .v (.nilIface)]] K =
    ge_text_reader_read_none @a1 @a2 @a0 @a3 (gt_text_reader_read_none_15a (runO Tryz.prog (T_text_reader_read @a0 @a1 @a2 @a3) cuts_text_reader_read_none 1 (finish Tryz.prog Tryz.f88 1 K) fuel)) (gt_text_reader_read_none_15b (runO Tryz.prog (T_text_reader_read @a0 @a1 @a2 @a3) cuts_text_reader_read_none 1 (finish Tryz.prog Tryz.f88 1 K) fuel)) (gt_text_reader_read_none_19a (runO Tryz.prog (T_text_reader_read @a0 @a1 @a2 @a3) cuts_text_reader_read_none 1 (finish Tryz.prog Tryz.f88 1 K) fuel)) (gt_text_reader_read_none_19b (runO Tryz.prog (T_text_reader_read @a0 @a1 @a2 @a3) cuts_text_reader_read_none 1 (finish Tryz.prog Tryz.f88 1 K) fuel)) (gt_text_reader_read_none_20a (runO Tryz.prog (T_text_reader_read @a0 @a1 @a2 @a3) cuts_text_reader_read_none 1 (finish Tryz.prog Tryz.f88 1 K) fuel)) (gt_text_reader_read_none_20b (runO Tryz.prog (T_text_reader_read @a0 @a1 @a2 @a3) cuts_text_reader_read_none 1 (finish Tryz.prog Tryz.f88 1 K) fuel)) (gt_text_reader_read_none_25a (runO Tryz.prog (T_text_reader_read @a0 @a1 @a2 @a3) cuts_text_reader_read_none 1 (finish Tryz.prog Tryz.f88 1 K) fuel)) (gt_text_reader_read_none_25b (runO Tryz.prog (T_text_reader_read @a0 @a1 @a2 @a3) cuts_text_reader_read_none 1 (finish Tryz.prog Tryz.f88 1 K) fuel)) (gt_text_reader_read_none_21a (runO Tryz.prog (T_text_reader_read @a0 @a1 @a2 @a3) cuts_text_reader_read_none 1 (finish Tryz.prog Tryz.f88 1 K) fuel)) (gt_text_reader_read_none_21b (runO Tryz.prog (T_text_reader_read @a0 @a1 @a2 @a3) cuts_text_reader_read_none 1 (finish Tryz.prog Tryz.f88 1 K) fuel)) (k0_text_reader_read_none K) (k1_text_reader_read_none K) o0 o0_1 := by kernel_rfl

theorem runs_text_reader_read_none {R : Type} (K : AV → List O → Option R) : ∀ fuel : Nat,
    (gt_text_reader_read_none_15a (runO Tryz.prog C_text_reader_read cuts_text_reader_read_none 1 (finish Tryz.prog Tryz.f88 1 K) fuel)) = (run_text_reader_read_none (k0_text_reader_read_none K) (k1_text_reader_read_none K) fuel).1 ∧
    (gt_text_reader_read_none_15b (runO Tryz.prog C_text_reader_read cuts_text_reader_read_none 1 (finish Tryz.prog Tryz.f88 1 K) fuel)) = (run_text_reader_read_none (k0_text_reader_read_none K) (k1_text_reader_read_none K) fuel).2.1 ∧
    (gt_text_reader_read_none_19a (runO Tryz.prog C_text_reader_read cuts_text_reader_read_none 1 (finish Tryz.prog Tryz.f88 1 K) fuel)) = (run_text_reader_read_none (k0_text_reader_read_none K) (k1_text_reader_read_none K) fuel).2.2.1 ∧
    (gt_text_reader_read_none_19b (runO Tryz.prog C_text_reader_read cuts_text_reader_read_none 1 (finish Tryz.prog Tryz.f88 1 K) fuel)) = (run_text_reader_read_none (k0_text_reader_read_none K) (k1_text_reader_read_none K) fuel).2.2.2.1 ∧
    (gt_text_reader_read_none_20a (runO Tryz.prog C_text_reader_read cuts_text_reader_read_none 1 (finish Tryz.prog Tryz.f88 1 K) fuel)) = (run_text_reader_read_none (k0_text_reader_read_none K) (k1_text_reader_read_none K) fuel).2.2.2.2.1 ∧
    (gt_text_reader_read_none_20b (runO Tryz.prog C_text_reader_read cuts_text_reader_read_none 1 (finish Tryz.prog Tryz.f88 1 K) fuel)) = (run_text_reader_read_none (k0_text_reader_read_none K) (k1_text_reader_read_none K) fuel).2.2.2.2.2.1 ∧
    (gt_text_reader_read_none_25a (runO Tryz.prog C_text_reader_read cuts_text_reader_read_none 1 (finish Tryz.prog Tryz.f88 1 K) fuel)) = (run_text_reader_read_none (k0_text_reader_read_none K) (k1_text_reader_read_none K) fuel).2.2.2.2.2.2.1 ∧
    (gt_text_reader_read_none_25b (runO Tryz.prog C_text_reader_read cuts_text_reader_read_none 1 (finish Tryz.prog Tryz.f88 1 K) fuel)) = (run_text_reader_read_none (k0_text_reader_read_none K) (k1_text_reader_read_none K) fuel).2.2.2.2.2.2.2.1 ∧
    (gt_text_reader_read_none_21a (runO Tryz.prog C_text_reader_read cuts_text_reader_read_none 1 (finish Tryz.prog Tryz.f88 1 K) fuel)) = (run_text_reader_read_none (k0_text_reader_read_none K) (k1_text_reader_read_none K) fuel).2.2.2.2.2.2.2.2.1 ∧
    (gt_text_reader_read_none_21b (runO Tryz.prog C_text_reader_read cuts_text_reader_read_none 1 (finish Tryz.prog Tryz.f88 1 K) fuel)) = (run_text_reader_read_none (k0_text_reader_read_none K) (k1_text_reader_read_none K) fuel).2.2.2.2.2.2.2.2.2
  | 0 => ⟨rfl, rfl, rfl, rfl, rfl, rfl, rfl, rfl, rfl, rfl⟩
  | fuel + 1 => by
    have ih := runs_text_reader_read_none K fuel
    refine ⟨?_, ?_, ?_, ?_, ?_, ?_, ?_, ?_, ?_, ?_⟩
    · funext s o0 o0_1 o1 o1_1 o2 o2_1 o2_2 o2_3 o3 o4 o5 o5_1 o5_2 o5_3 o6 o7
      refine (gstep_text_reader_read_none_15a _ K s o0 o0_1 o1 o1_1 o2 o2_1 o2_2 o2_3 o3 o4 o5 o5_1 o5_2 o5_3 o6 o7).trans ?_
      rw [ih.1, ih.2.1, ih.2.2.1, ih.2.2.2.1, ih.2.2.2.2.1, ih.2.2.2.2.2.1, ih.2.2.2.2.2.2.1, ih.2.2.2.2.2.2.2.1, ih.2.2.2.2.2.2.2.2.1, ih.2.2.2.2.2.2.2.2.2]
      rfl
    · funext s o0 o0_1 o1 o1_1 o1_2 o1_3 o2 o3 o4 o4_1 o4_2 o4_3 o5 o6
      refine (gstep_text_reader_read_none_15b _ K s o0 o0_1 o1 o1_1 o1_2 o1_3 o2 o3 o4 o4_1 o4_2 o4_3 o5 o6).trans ?_
      rw [ih.1, ih.2.1, ih.2.2.1, ih.2.2.2.1, ih.2.2.2.2.1, ih.2.2.2.2.2.1, ih.2.2.2.2.2.2.1, ih.2.2.2.2.2.2.2.1, ih.2.2.2.2.2.2.2.2.1, ih.2.2.2.2.2.2.2.2.2]
      rfl
    · funext s o0 o0_1 o1 o1_1 o2 o2_1 o2_2 o2_3 o3 o4 o5 o5_1 o5_2 o5_3 o6 o7
      refine (gstep_text_reader_read_none_19a _ K s o0 o0_1 o1 o1_1 o2 o2_1 o2_2 o2_3 o3 o4 o5 o5_1 o5_2 o5_3 o6 o7).trans ?_
      rw [ih.1, ih.2.1, ih.2.2.1, ih.2.2.2.1, ih.2.2.2.2.1, ih.2.2.2.2.2.1, ih.2.2.2.2.2.2.1, ih.2.2.2.2.2.2.2.1, ih.2.2.2.2.2.2.2.2.1, ih.2.2.2.2.2.2.2.2.2]
      rfl
    · funext s o0 o0_1 o1 o1_1 o1_2 o1_3 o2 o3 o4 o4_1 o4_2 o4_3 o5 o6
      refine (gstep_text_reader_read_none_19b _ K s o0 o0_1 o1 o1_1 o1_2 o1_3 o2 o3 o4 o4_1 o4_2 o4_3 o5 o6).trans ?_
      rw [ih.1, ih.2.1, ih.2.2.1, ih.2.2.2.1, ih.2.2.2.2.1, ih.2.2.2.2.2.1, ih.2.2.2.2.2.2.1, ih.2.2.2.2.2.2.2.1, ih.2.2.2.2.2.2.2.2.1, ih.2.2.2.2.2.2.2.2.2]
      rfl
    · funext s x o0 o0_1 o1 o1_1 o2 o2_1 o2_2 o2_3 o3 o4 o5 o5_1 o5_2 o5_3 o6 o7
      refine (gstep_text_reader_read_none_20a _ K s x o0 o0_1 o1 o1_1 o2 o2_1 o2_2 o2_3 o3 o4 o5 o5_1 o5_2 o5_3 o6 o7).trans ?_
      rw [ih.1, ih.2.1, ih.2.2.1, ih.2.2.2.1, ih.2.2.2.2.1, ih.2.2.2.2.2.1, ih.2.2.2.2.2.2.1, ih.2.2.2.2.2.2.2.1, ih.2.2.2.2.2.2.2.2.1, ih.2.2.2.2.2.2.2.2.2]
      rfl
    · funext s x o0 o0_1 o1 o1_1 o1_2 o1_3 o2 o3 o4 o4_1 o4_2 o4_3 o5 o6
      refine (gstep_text_reader_read_none_20b _ K s x o0 o0_1 o1 o1_1 o1_2 o1_3 o2 o3 o4 o4_1 o4_2 o4_3 o5 o6).trans ?_
      rw [ih.1, ih.2.1, ih.2.2.1, ih.2.2.2.1, ih.2.2.2.2.1, ih.2.2.2.2.2.1, ih.2.2.2.2.2.2.1, ih.2.2.2.2.2.2.2.1, ih.2.2.2.2.2.2.2.2.1, ih.2.2.2.2.2.2.2.2.2]
      rfl
    · funext s x o0 o0_1 o1 o1_1 o2 o2_1 o2_2 o2_3 o3 o4 o5 o5_1 o5_2 o5_3 o6 o7
      refine (gstep_text_reader_read_none_25a _ K s x o0 o0_1 o1 o1_1 o2 o2_1 o2_2 o2_3 o3 o4 o5 o5_1 o5_2 o5_3 o6 o7).trans ?_
      rw [ih.1, ih.2.1, ih.2.2.1, ih.2.2.2.1, ih.2.2.2.2.1, ih.2.2.2.2.2.1, ih.2.2.2.2.2.2.1, ih.2.2.2.2.2.2.2.1, ih.2.2.2.2.2.2.2.2.1, ih.2.2.2.2.2.2.2.2.2]
      rfl
    · funext s x o0 o0_1 o1 o1_1 o1_2 o1_3 o2 o3 o4 o4_1 o4_2 o4_3 o5 o6
      refine (gstep_text_reader_read_none_25b _ K s x o0 o0_1 o1 o1_1 o1_2 o1_3 o2 o3 o4 o4_1 o4_2 o4_3 o5 o6).trans ?_
      rw [ih.1, ih.2.1, ih.2.2.1, ih.2.2.2.1, ih.2.2.2.2.1, ih.2.2.2.2.2.1, ih.2.2.2.2.2.2.1, ih.2.2.2.2.2.2.2.1, ih.2.2.2.2.2.2.2.2.1, ih.2.2.2.2.2.2.2.2.2]
      rfl
    · funext s x o0 o0_1 o1 o1_1 o2 o2_1 o2_2 o2_3 o3 o4 o5 o5_1 o5_2 o5_3 o6 o7
      refine (gstep_text_reader_read_none_21a _ K s x o0 o0_1 o1 o1_1 o2 o2_1 o2_2 o2_3 o3 o4 o5 o5_1 o5_2 o5_3 o6 o7).trans ?_
      rw [ih.1, ih.2.1, ih.2.2.1, ih.2.2.2.1, ih.2.2.2.2.1, ih.2.2.2.2.2.1, ih.2.2.2.2.2.2.1, ih.2.2.2.2.2.2.2.1, ih.2.2.2.2.2.2.2.2.1, ih.2.2.2.2.2.2.2.2.2]
      rfl
    · funext s x o0 o0_1 o1 o1_1 o1_2 o1_3 o2 o3 o4 o4_1 o4_2 o4_3 o5 o6
      refine (gstep_text_reader_read_none_21b _ K s x o0 o0_1 o1 o1_1 o1_2 o1_3 o2 o3 o4 o4_1 o4_2 o4_3 o5 o6).trans ?_
      rw [ih.1, ih.2.1, ih.2.2.1, ih.2.2.2.1, ih.2.2.2.2.1, ih.2.2.2.2.2.1, ih.2.2.2.2.2.2.1, ih.2.2.2.2.2.2.2.1, ih.2.2.2.2.2.2.2.2.1, ih.2.2.2.2.2.2.2.2.2]
      rfl

def S_text_reader_read (l_text_reader_read_none : LT_text_reader_read_none) : Sum := ⟨[], fun {R} args ob K => match args, ob with
  | [.ptr 0 0], [.box 145 [.rd ⟨false, 5, (.int .u8), o0⟩, .v (.int .i64 o0_1), .v (.nilIface)]] => l_text_reader_read_none o0 o0_1 (k0_text_reader_read_none K) (k1_text_reader_read_none K)
  | _, _ => none⟩

theorem sound_text_reader_read : Sound Tryz.prog 88 (S_text_reader_read @l_text_reader_read_none) := by
  refine fn_sound (cuts := cuts_text_reader_read_none) (fn := Tryz.f88) (Γ := C_text_reader_read) wide right_T_text_reader_read Tryz.func88 fun {R} K r args ob h => ?_
  unfold S_text_reader_read at h
  dsimp only at h
  split at h
  · obtain ⟨n, hn⟩ := evl_ok h
    refine ⟨Nat.le_of_ble_eq_true (by kernel_rfl), n, (gentry_text_reader_read_none n K _ _).trans ?_⟩
    rw [(runs_text_reader_read_none K n).1, (runs_text_reader_read_none K n).2.1, (runs_text_reader_read_none K n).2.2.1, (runs_text_reader_read_none K n).2.2.2.1, (runs_text_reader_read_none K n).2.2.2.2.1, (runs_text_reader_read_none K n).2.2.2.2.2.1, (runs_text_reader_read_none K n).2.2.2.2.2.2.1, (runs_text_reader_read_none K n).2.2.2.2.2.2.2.1, (runs_text_reader_read_none K n).2.2.2.2.2.2.2.2.1, (runs_text_reader_read_none K n).2.2.2.2.2.2.2.2.2]
    exact hn
  · cases h

theorem call_text_reader_read : Callable Tryz.prog 88 := ⟨_, Tryz.func88, by kernel_rfl, by kernel_rfl⟩



def S_errors_As (l_errors_As_fault_nil : LT_errors_As_fault_nil) (l_errors_As_none_fault_nil : LT_errors_As_none_fault_nil) : Sum := ⟨[], fun {R} args ob K => match args, ob with
  | [.ifc 147 (.ptr 0 0), .ifc 149 (.ptr 1 0)], [.box 151 [.v (.int .i64 o0), .v (.int .i64 o0_1)], .box 147 [.v (.pointer none)]] => l_errors_As_fault_nil o0 o0_1 (fun r0 r1 => K (.v (.bool true)) [.box 151 [.v (.int .i64 r0), .v (.int .i64 r1)], .box 147 [.ptr 0 0]])
  | [.v (.nilIface), .ifc 149 (.ptr 0 0)], [.box 147 [.v (.pointer none)]] => l_errors_As_none_fault_nil  (K (.v (.bool false)) [.box 147 [.v (.pointer none)]])
  | _, _ => none⟩

theorem sound_errors_As : Sound Tryz.prog 89 (S_errors_As @l_errors_As_fault_nil @l_errors_As_none_fault_nil) := sound_errorsAs

theorem call_errors_As : Callable Tryz.prog 89 := ⟨_, Tryz.func89, by kernel_rfl, by kernel_rfl⟩

def T_text_Import (a0 : LT_errors_As_fault_nil) (a1 : LT_errors_As_none_fault_nil) (a2 : LT_text_reader_read_none) : FuncId → Option Sum := (addS (addS G0 89 (S_errors_As @a0 @a1)) 88 (S_text_reader_read @a2))

abbrev C_text_Import : FuncId → Option Sum := T_text_Import @l_errors_As_fault_nil @l_errors_As_none_fault_nil @l_text_reader_read_none

theorem right_T_text_Import : Right Tryz.prog C_text_Import := (right_add (right_add right_G0 call_errors_As sound_errors_As) call_text_reader_read sound_text_reader_read)

abbrev cuts_text_Import : Cuts := []

abbrev k0_text_Import {R : Type} (K : AV → List O → Option R) : Int → Int → Int → Int → Int → Int → (List Int) → (List Int) → Option R := fun r0 r1 r2 r3 r4 r5 r6 r7 => K (.tup [.agg [.v (.int .i64 r0), .v (.int .i64 r1), .v (.int .i64 r2), .v (.int .i64 r3), .own 0, .own 1], .v (.int .i64 r4), .v (.int .i64 r5)]) [.row ⟨true, 3, (.int .i64), r6⟩, .row ⟨true, 3, (.int .i64), r7⟩]

theorem gentry_text_Import {a0 : LT_errors_As_fault_nil} {a1 : LT_errors_As_none_fault_nil} {a2 : LT_text_reader_read_none} {R : Type} (K : AV → List O → Option R) (b : List Int) :
    fnRun Tryz.prog (T_text_Import @a0 @a1 @a2) cuts_text_Import Tryz.f69 0 [.rd ⟨false, 5, (.int .u8), b⟩] [] K =
    gl_text_Import @a0 @a1 @a2 b (k0_text_Import K) := by kernel_rfl

def S_text_Import (l_text_Import : LT_text_Import) : Sum := ⟨[], fun {R} args ob K => match args, ob with
  | [.rd ⟨false, 5, (.int .u8), b⟩], [] => l_text_Import b (k0_text_Import K)
  | _, _ => none⟩

theorem sound_text_Import : Sound Tryz.prog 69 (S_text_Import @l_text_Import) := by
  refine fn_sound (cuts := cuts_text_Import) (fn := Tryz.f69) (Γ := C_text_Import) wide right_T_text_Import Tryz.func69 fun {R} K r args ob h => ?_
  unfold S_text_Import at h
  dsimp only at h
  split at h
  · exact ⟨Nat.le_of_ble_eq_true (by kernel_rfl), 0, (gentry_text_Import K _).trans h⟩
  · cases h

theorem call_text_Import : Callable Tryz.prog 69 := ⟨_, Tryz.func69, by kernel_rfl, by kernel_rfl⟩

def T_log_reader_hypo (a0 : LT_log_reader_want) (a1 : LT_log_reader_row) (a2 : LT_log_reader_is) (a3 : LT_text_Import) (a4 : LT_bytes_Index) : FuncId → Option Sum := (addS (addS (addS (addS (addS G0 64 (S_log_reader_want @a0)) 68 (S_log_reader_row @a1)) 41 (S_log_reader_is @a2)) 69 (S_text_Import @a3)) 63 (S_bytes_Index @a4))

abbrev C_log_reader_hypo : FuncId → Option Sum := T_log_reader_hypo @l_log_reader_want @l_log_reader_row @l_log_reader_is @l_text_Import @l_bytes_Index

theorem right_T_log_reader_hypo : Right Tryz.prog C_log_reader_hypo := (right_add (right_add (right_add (right_add (right_add right_G0 call_log_reader_want sound_log_reader_want) call_log_reader_row sound_log_reader_row) call_log_reader_is sound_log_reader_is) call_text_Import sound_text_Import) call_bytes_Index sound_bytes_Index)

abbrev cuts_log_reader_hypo : Cuts := []

abbrev k0_log_reader_hypo {R : Type} (K : AV → List O → Option R) : Int → Int → Int → Int → Int → Int → (List Int) → Int → Int → (List Int) → (List Int) → (List Int) → (List Int) → (List Int) → Option R := fun r0 r1 r2 r3 r4 r5 r6 r7 r8 r9 r10 r11 r12 r13 => K (.agg [.v (.int .i64 r0), .own 1, .v (.int .i64 r1), .v (.int .i64 r2), .v (.int .i64 r3), .v (.int .i64 r4), .own 2, .own 3, .v (.int .i64 r5), .own 4, .own 5]) [.box 87 [.rd ⟨false, 5, (.int .u8), r6⟩, .v (.int .i64 r7), .v (.int .i64 r8)], .row ⟨true, 3, (.int .i64), r9⟩, .row ⟨true, 3, (.int .i64), r10⟩, .row ⟨true, 3, (.int .i64), r11⟩, .row ⟨true, 3, (.int .i64), r12⟩, .row ⟨true, 3, (.int .i64), r13⟩]

theorem gentry_log_reader_hypo {a0 : LT_log_reader_want} {a1 : LT_log_reader_row} {a2 : LT_log_reader_is} {a3 : LT_text_Import} {a4 : LT_bytes_Index} {R : Type} (K : AV → List O → Option R) (o0 : List Int) (o0_1 o0_2 : Int) :
    fnRun Tryz.prog (T_log_reader_hypo @a0 @a1 @a2 @a3 @a4) cuts_log_reader_hypo Tryz.f43 0 [.ptr 0 0] [.box 87 [.rd ⟨false, 5, (.int .u8), o0⟩, .v (.int .i64 o0_1), .v (.int .i64 o0_2)]] K =
    gl_log_reader_hypo @a0 @a1 @a2 @a3 @a4 o0 o0_1 o0_2 (k0_log_reader_hypo K) := by kernel_rfl

def S_log_reader_hypo (l_log_reader_hypo : LT_log_reader_hypo) : Sum := ⟨[], fun {R} args ob K => match args, ob with
  | [.ptr 0 0], [.box 87 [.rd ⟨false, 5, (.int .u8), o0⟩, .v (.int .i64 o0_1), .v (.int .i64 o0_2)]] => l_log_reader_hypo o0 o0_1 o0_2 (k0_log_reader_hypo K)
  | _, _ => none⟩

theorem sound_log_reader_hypo : Sound Tryz.prog 43 (S_log_reader_hypo @l_log_reader_hypo) := by
  refine fn_sound (cuts := cuts_log_reader_hypo) (fn := Tryz.f43) (Γ := C_log_reader_hypo) wide right_T_log_reader_hypo Tryz.func43 fun {R} K r args ob h => ?_
  unfold S_log_reader_hypo at h
  dsimp only at h
  split at h
  · exact ⟨Nat.le_of_ble_eq_true (by kernel_rfl), 0, (gentry_log_reader_hypo K _ _ _).trans h⟩
  · cases h

theorem call_log_reader_hypo : Callable Tryz.prog 43 := ⟨_, Tryz.func43, by kernel_rfl, by kernel_rfl⟩

def T_log_Parse (a0 : LT_log_reader_first) (a1 : LT_bytes_Count) (a2 : LT_log_asked_fault) (a3 : LT_log_tested_fault) (a4 : LT_log_of) (a5 : LT_log_reader_member) (a6 : LT_log_reader_hypo) (a7 : LT_log_reader_is) : FuncId → Option Sum := (addS (addS (addS (addS (addS (addS (addS (addS G0 40 (S_log_reader_first @a0)) 39 (S_bytes_Count @a1)) 44 (S_log_asked_fault @a2)) 45 (S_log_tested_fault @a3)) 34 (S_log_of @a4)) 42 (S_log_reader_member @a5)) 43 (S_log_reader_hypo @a6)) 41 (S_log_reader_is @a7))

abbrev C_log_Parse : FuncId → Option Sum := T_log_Parse @l_log_reader_first @l_bytes_Count @l_log_asked_fault @l_log_tested_fault @l_log_of @l_log_reader_member @l_log_reader_hypo @l_log_reader_is

theorem right_T_log_Parse : Right Tryz.prog C_log_Parse := (right_add (right_add (right_add (right_add (right_add (right_add (right_add (right_add right_G0 call_log_reader_first sound_log_reader_first) call_bytes_Count sound_bytes_Count) call_log_asked_fault sound_log_asked_fault) call_log_tested_fault sound_log_tested_fault) call_log_of sound_log_of) call_log_reader_member sound_log_reader_member) call_log_reader_hypo sound_log_reader_hypo) call_log_reader_is sound_log_reader_is)

abbrev cuts_log_Parse : Cuts := [(10, [0, 2, 6])]

abbrev k0_log_Parse {R : Type} (K : AV → List O → Option R) : Int → Int → Int → Int → Int → (List Ent) → Option R := fun r0 r1 r2 r3 r4 r5 => K (.tup [.agg [.v (.int .i64 r0), .v (.int .i64 r1), .v (.int .i64 r2), .own 0], .v (.int .i64 r3), .v (.int .i64 r4)]) [.row ⟨true, 53, (.pr (.pr (.int .i64) (.pr (.sl 3 (.int .i64)) (.pr (.int .i64) (.pr (.int .i64) (.pr (.int .i64) (.pr (.int .i64) (.pr (.sl 3 (.int .i64)) (.sl 3 (.int .i64))))))))) (.pr (.int .i64) (.pr (.sl 3 (.int .i64)) (.sl 3 (.int .i64))))), r5⟩]

abbrev sta_log_Parse_10 (b : List Int) (o0 o0_1 o0_2 : Int) (o1 : List Ent) (o2 : List Int) (o2_1 o2_2 : Int) : St := ⟨fr0 139 [(0, .rd ⟨false, 5, (.int .u8), b⟩), (2, .ptr 0 0), (6, .ptr 2 0)], [.box 24 [.v (.int .i64 o0), .v (.int .i64 o0_1), .v (.int .i64 o0_2), .own 1], .row ⟨true, 53, (.pr (.pr (.int .i64) (.pr (.sl 3 (.int .i64)) (.pr (.int .i64) (.pr (.int .i64) (.pr (.int .i64) (.pr (.int .i64) (.pr (.sl 3 (.int .i64)) (.sl 3 (.int .i64))))))))) (.pr (.int .i64) (.pr (.sl 3 (.int .i64)) (.sl 3 (.int .i64))))), o1⟩, .box 87 [.rd ⟨false, 5, (.int .u8), o2⟩, .v (.int .i64 o2_1), .v (.int .i64 o2_2)]]⟩

abbrev gt_log_Parse_10 {R : Type} (g : List Item → St → Option R) : GT_log_Parse_10 R := fun (b : List Int) (o0 o0_1 o0_2 : Int) (o1 : List Ent) (o2 : List Int) (o2_1 o2_2 : Int) => g (at' Tryz.f18 10) (sta_log_Parse_10 b o0 o0_1 o0_2 o1 o2 o2_1 o2_2)

theorem gstep_log_Parse_10 {a0 : LT_log_reader_first} {a1 : LT_bytes_Count} {a2 : LT_log_asked_fault} {a3 : LT_log_tested_fault} {a4 : LT_log_of} {a5 : LT_log_reader_member} {a6 : LT_log_reader_hypo} {a7 : LT_log_reader_is} {R : Type} (g : List Item → St → Option R) (K : AV → List O → Option R) (b : List Int) (o0 o0_1 o0_2 : Int) (o1 : List Ent) (o2 : List Int) (o2_1 o2_2 : Int) :
    runSeg Tryz.prog (T_log_Parse @a0 @a1 @a2 @a3 @a4 @a5 @a6 @a7) cuts_log_Parse 0 g (finish Tryz.prog Tryz.f18 0 K) (at' Tryz.f18 10) (sta_log_Parse_10 b o0 o0_1 o0_2 o1 o2 o2_1 o2_2) =
    gs_log_Parse_10 @a0 @a1 @a2 @a3 @a4 @a5 @a6 @a7 (gt_log_Parse_10 g) (k0_log_Parse K) b o0 o0_1 o0_2 o1 o2 o2_1 o2_2 := by kernel_rfl

theorem gentry_log_Parse {a0 : LT_log_reader_first} {a1 : LT_bytes_Count} {a2 : LT_log_asked_fault} {a3 : LT_log_tested_fault} {a4 : LT_log_of} {a5 : LT_log_reader_member} {a6 : LT_log_reader_hypo} {a7 : LT_log_reader_is} {R : Type} (fuel : Nat) (K : AV → List O → Option R) (b : List Int) :
    fnRun Tryz.prog (T_log_Parse @a0 @a1 @a2 @a3 @a4 @a5 @a6 @a7) cuts_log_Parse Tryz.f18 fuel [.rd ⟨false, 5, (.int .u8), b⟩] [] K =
    ge_log_Parse @a0 @a1 @a2 @a3 @a4 @a5 @a6 @a7 (gt_log_Parse_10 (runO Tryz.prog (T_log_Parse @a0 @a1 @a2 @a3 @a4 @a5 @a6 @a7) cuts_log_Parse 0 (finish Tryz.prog Tryz.f18 0 K) fuel)) (k0_log_Parse K) b := by kernel_rfl

theorem runs_log_Parse {R : Type} (K : AV → List O → Option R) : ∀ fuel : Nat,
    (gt_log_Parse_10 (runO Tryz.prog C_log_Parse cuts_log_Parse 0 (finish Tryz.prog Tryz.f18 0 K) fuel)) = (run_log_Parse (k0_log_Parse K) fuel)
  | 0 => rfl
  | fuel + 1 => by
    have ih := runs_log_Parse K fuel
    funext b o0 o0_1 o0_2 o1 o2 o2_1 o2_2
    refine (gstep_log_Parse_10 _ K b o0 o0_1 o0_2 o1 o2 o2_1 o2_2).trans ?_
    rw [ih]
    rfl

def S_log_Parse (l_log_Parse : LT_log_Parse) : Sum := ⟨[], fun {R} args ob K => match args, ob with
  | [.rd ⟨false, 5, (.int .u8), b⟩], [] => l_log_Parse b (k0_log_Parse K)
  | _, _ => none⟩

theorem sound_log_Parse : Sound Tryz.prog 18 (S_log_Parse @l_log_Parse) := by
  refine fn_sound (cuts := cuts_log_Parse) (fn := Tryz.f18) (Γ := C_log_Parse) wide right_T_log_Parse Tryz.func18 fun {R} K r args ob h => ?_
  unfold S_log_Parse at h
  dsimp only at h
  split at h
  · obtain ⟨n, hn⟩ := evl_ok h
    refine ⟨Nat.le_of_ble_eq_true (by kernel_rfl), n, (gentry_log_Parse n K _).trans ?_⟩
    rw [(runs_log_Parse K n)]
    exact hn
  · cases h

theorem call_log_Parse : Callable Tryz.prog 18 := ⟨_, Tryz.func18, by kernel_rfl, by kernel_rfl⟩

def T_log_head : FuncId → Option Sum := G0

theorem right_T_log_head : Right Tryz.prog T_log_head := right_G0

abbrev cuts_log_head : Cuts := []

abbrev k0_log_head {R : Type} (K : AV → List O → Option R) : Int → Option R := fun r0 => K (.v (.int .i64 r0)) []

theorem gentry_log_head {R : Type} (K : AV → List O → Option R) (l l_1 l_2 : Int) (l_3 : List Ent) :
    fnRun Tryz.prog T_log_head cuts_log_head Tryz.f33 0 [.agg [.v (.int .i64 l), .v (.int .i64 l_1), .v (.int .i64 l_2), .rd ⟨false, 53, (.pr (.pr (.int .i64) (.pr (.sl 3 (.int .i64)) (.pr (.int .i64) (.pr (.int .i64) (.pr (.int .i64) (.pr (.int .i64) (.pr (.sl 3 (.int .i64)) (.sl 3 (.int .i64))))))))) (.pr (.int .i64) (.pr (.sl 3 (.int .i64)) (.sl 3 (.int .i64))))), l_3⟩]] [] K =
    l_log_head l l_1 l_2 l_3 (k0_log_head K) := by kernel_rfl

def S_log_head (l_log_head : LT_log_head) : Sum := ⟨[], fun {R} args ob K => match args, ob with
  | [.agg [.v (.int .i64 l), .v (.int .i64 l_1), .v (.int .i64 l_2), .rd ⟨false, 53, (.pr (.pr (.int .i64) (.pr (.sl 3 (.int .i64)) (.pr (.int .i64) (.pr (.int .i64) (.pr (.int .i64) (.pr (.int .i64) (.pr (.sl 3 (.int .i64)) (.sl 3 (.int .i64))))))))) (.pr (.int .i64) (.pr (.sl 3 (.int .i64)) (.sl 3 (.int .i64))))), l_3⟩]], [] => l_log_head l l_1 l_2 l_3 (k0_log_head K)
  | _, _ => none⟩

theorem sound_log_head : Sound Tryz.prog 33 (S_log_head @l_log_head) := by
  refine fn_sound (cuts := cuts_log_head) (fn := Tryz.f33) (Γ := T_log_head) wide right_T_log_head Tryz.func33 fun {R} K r args ob h => ?_
  unfold S_log_head at h
  dsimp only at h
  split at h
  · exact ⟨Nat.le_of_ble_eq_true (by kernel_rfl), 0, (gentry_log_head K _ _ _ _).trans h⟩
  · cases h

theorem call_log_head : Callable Tryz.prog 33 := ⟨_, Tryz.func33, by kernel_rfl, by kernel_rfl⟩

def T_log_Check (a0 : LT_log_head) (a1 : LT_log_asked_fault) (a2 : LT_log_tested_fault) (a3 : LT_log_of) : FuncId → Option Sum := (addS (addS (addS (addS G0 33 (S_log_head @a0)) 44 (S_log_asked_fault @a1)) 45 (S_log_tested_fault @a2)) 34 (S_log_of @a3))

abbrev C_log_Check : FuncId → Option Sum := T_log_Check @l_log_head @l_log_asked_fault @l_log_tested_fault @l_log_of

theorem right_T_log_Check : Right Tryz.prog C_log_Check := (right_add (right_add (right_add (right_add right_G0 call_log_head sound_log_head) call_log_asked_fault sound_log_asked_fault) call_log_tested_fault sound_log_tested_fault) call_log_of sound_log_of)

abbrev cuts_log_Check : Cuts := [(5, [1, 15, 16, 17])]

abbrev k0_log_Check {R : Type} (K : AV → List O → Option R) : Int → Int → Option R := fun r0 r1 => K (.tup [.v (.int .i64 r0), .v (.int .i64 r1)]) []

abbrev sta_log_Check_5 (x15 : List Ent) (x16 x17 o0 o0_1 o0_2 : Int) (o0_3 : List Ent) : St := ⟨fr0 38 [(1, .ptr 0 0), (15, .rd ⟨false, 53, (.pr (.pr (.int .i64) (.pr (.sl 3 (.int .i64)) (.pr (.int .i64) (.pr (.int .i64) (.pr (.int .i64) (.pr (.int .i64) (.pr (.sl 3 (.int .i64)) (.sl 3 (.int .i64))))))))) (.pr (.int .i64) (.pr (.sl 3 (.int .i64)) (.sl 3 (.int .i64))))), x15⟩), (16, .v (.int .i64 x16)), (17, .v (.int .i64 x17))], [.box 24 [.v (.int .i64 o0), .v (.int .i64 o0_1), .v (.int .i64 o0_2), .rd ⟨false, 53, (.pr (.pr (.int .i64) (.pr (.sl 3 (.int .i64)) (.pr (.int .i64) (.pr (.int .i64) (.pr (.int .i64) (.pr (.int .i64) (.pr (.sl 3 (.int .i64)) (.sl 3 (.int .i64))))))))) (.pr (.int .i64) (.pr (.sl 3 (.int .i64)) (.sl 3 (.int .i64))))), o0_3⟩]]⟩

abbrev gt_log_Check_5 {R : Type} (g : List Item → St → Option R) : GT_log_Check_5 R := fun (x15 : List Ent) (x16 x17 o0 o0_1 o0_2 : Int) (o0_3 : List Ent) => g (at' Tryz.f12 5) (sta_log_Check_5 x15 x16 x17 o0 o0_1 o0_2 o0_3)

theorem gstep_log_Check_5 {a0 : LT_log_head} {a1 : LT_log_asked_fault} {a2 : LT_log_tested_fault} {a3 : LT_log_of} {R : Type} (g : List Item → St → Option R) (K : AV → List O → Option R) (x15 : List Ent) (x16 x17 o0 o0_1 o0_2 : Int) (o0_3 : List Ent) :
    runSeg Tryz.prog (T_log_Check @a0 @a1 @a2 @a3) cuts_log_Check 0 g (finish Tryz.prog Tryz.f12 0 K) (at' Tryz.f12 5) (sta_log_Check_5 x15 x16 x17 o0 o0_1 o0_2 o0_3) =
    gs_log_Check_5 @a0 @a1 @a2 @a3 (gt_log_Check_5 g) (k0_log_Check K) x15 x16 x17 o0 o0_1 o0_2 o0_3 := by kernel_rfl

theorem gentry_log_Check {a0 : LT_log_head} {a1 : LT_log_asked_fault} {a2 : LT_log_tested_fault} {a3 : LT_log_of} {R : Type} (fuel : Nat) (K : AV → List O → Option R) (l l_1 l_2 : Int) (l_3 : List Ent) :
    fnRun Tryz.prog (T_log_Check @a0 @a1 @a2 @a3) cuts_log_Check Tryz.f12 fuel [.agg [.v (.int .i64 l), .v (.int .i64 l_1), .v (.int .i64 l_2), .rd ⟨false, 53, (.pr (.pr (.int .i64) (.pr (.sl 3 (.int .i64)) (.pr (.int .i64) (.pr (.int .i64) (.pr (.int .i64) (.pr (.int .i64) (.pr (.sl 3 (.int .i64)) (.sl 3 (.int .i64))))))))) (.pr (.int .i64) (.pr (.sl 3 (.int .i64)) (.sl 3 (.int .i64))))), l_3⟩]] [] K =
    ge_log_Check @a0 @a1 @a2 @a3 (gt_log_Check_5 (runO Tryz.prog (T_log_Check @a0 @a1 @a2 @a3) cuts_log_Check 0 (finish Tryz.prog Tryz.f12 0 K) fuel)) (k0_log_Check K) l l_1 l_2 l_3 := by kernel_rfl

theorem runs_log_Check {R : Type} (K : AV → List O → Option R) : ∀ fuel : Nat,
    (gt_log_Check_5 (runO Tryz.prog C_log_Check cuts_log_Check 0 (finish Tryz.prog Tryz.f12 0 K) fuel)) = (run_log_Check (k0_log_Check K) fuel)
  | 0 => rfl
  | fuel + 1 => by
    have ih := runs_log_Check K fuel
    funext x15 x16 x17 o0 o0_1 o0_2 o0_3
    refine (gstep_log_Check_5 _ K x15 x16 x17 o0 o0_1 o0_2 o0_3).trans ?_
    rw [ih]
    rfl

def S_log_Check (l_log_Check : LT_log_Check) : Sum := ⟨[], fun {R} args ob K => match args, ob with
  | [.agg [.v (.int .i64 l), .v (.int .i64 l_1), .v (.int .i64 l_2), .rd ⟨false, 53, (.pr (.pr (.int .i64) (.pr (.sl 3 (.int .i64)) (.pr (.int .i64) (.pr (.int .i64) (.pr (.int .i64) (.pr (.int .i64) (.pr (.sl 3 (.int .i64)) (.sl 3 (.int .i64))))))))) (.pr (.int .i64) (.pr (.sl 3 (.int .i64)) (.sl 3 (.int .i64))))), l_3⟩]], [] => l_log_Check l l_1 l_2 l_3 (k0_log_Check K)
  | _, _ => none⟩

theorem sound_log_Check : Sound Tryz.prog 12 (S_log_Check @l_log_Check) := by
  refine fn_sound (cuts := cuts_log_Check) (fn := Tryz.f12) (Γ := C_log_Check) wide right_T_log_Check Tryz.func12 fun {R} K r args ob h => ?_
  unfold S_log_Check at h
  dsimp only at h
  split at h
  · obtain ⟨n, hn⟩ := evl_ok h
    refine ⟨Nat.le_of_ble_eq_true (by kernel_rfl), n, (gentry_log_Check n K _ _ _ _).trans ?_⟩
    rw [(runs_log_Check K n)]
    exact hn
  · cases h

theorem call_log_Check : Callable Tryz.prog 12 := ⟨_, Tryz.func12, by kernel_rfl, by kernel_rfl⟩


def S_strconv_AppendInt (l_strconv_AppendInt : LT_strconv_AppendInt) : Sum := ⟨[0], fun {R} args ob K => match args, ob with
  | [.v (.slice none 0 0), .v (.int .i64 n), .v (.int .i64 b)], [] => l_strconv_AppendInt n b (fun r0 => K (.own 0) [.row ⟨true, 5, (.int .u8), r0⟩])
  | _, _ => none⟩

theorem sound_strconv_AppendInt : Sound Tryz.prog 80 (S_strconv_AppendInt @l_strconv_AppendInt) := sound_AppendInt Tryz.lays176 TabsHold.pow10

theorem call_strconv_AppendInt : Callable Tryz.prog 80 := ⟨_, Tryz.func80, by kernel_rfl, by kernel_rfl⟩

def T_text_Put (a0 : LT_strconv_AppendInt) : FuncId → Option Sum := (addS G0 80 (S_strconv_AppendInt @a0))

abbrev C_text_Put : FuncId → Option Sum := T_text_Put @l_strconv_AppendInt

theorem right_T_text_Put : Right Tryz.prog C_text_Put := (right_add right_G0 call_strconv_AppendInt sound_strconv_AppendInt)

abbrev cuts_text_Put : Cuts := []

abbrev k0_text_Put {R : Type} (K : AV → List O → Option R) : (List Int) → Option R := fun r0 => K (.own 0) [.row ⟨true, 5, (.int .u8), r0⟩]

theorem gentry_text_Put {a0 : LT_strconv_AppendInt} {R : Type} (K : AV → List O → Option R) (n : Int) :
    fnRun Tryz.prog (T_text_Put @a0) cuts_text_Put Tryz.f59 0 [.v (.int .i64 n)] [] K =
    gl_text_Put @a0 n (k0_text_Put K) := by kernel_rfl

def S_text_Put (l_text_Put : LT_text_Put) : Sum := ⟨[], fun {R} args ob K => match args, ob with
  | [.v (.int .i64 n)], [] => l_text_Put n (k0_text_Put K)
  | _, _ => none⟩

theorem sound_text_Put : Sound Tryz.prog 59 (S_text_Put @l_text_Put) := by
  refine fn_sound (cuts := cuts_text_Put) (fn := Tryz.f59) (Γ := C_text_Put) wide right_T_text_Put Tryz.func59 fun {R} K r args ob h => ?_
  unfold S_text_Put at h
  dsimp only at h
  split at h
  · exact ⟨Nat.le_of_ble_eq_true (by kernel_rfl), 0, (gentry_text_Put K _).trans h⟩
  · cases h

theorem call_text_Put : Callable Tryz.prog 59 := ⟨_, Tryz.func59, by kernel_rfl, by kernel_rfl⟩

def T_log_numbers (a0 : LT_text_Put) : FuncId → Option Sum := (addS G0 59 (S_text_Put @a0))

abbrev C_log_numbers : FuncId → Option Sum := T_log_numbers @l_text_Put

theorem right_T_log_numbers : Right Tryz.prog C_log_numbers := (right_add right_G0 call_text_Put sound_text_Put)

abbrev cuts_log_numbers : Cuts := [(2, [0, 7, 8, 9])]

abbrev k0_log_numbers {R : Type} (K : AV → List O → Option R) : (List Int) → Option R := fun r0 => K (.own 0) [.row ⟨false, 5, (.int .u8), r0⟩]

abbrev k1_log_numbers {R : Type} (K : AV → List O → Option R) : (List Int) → Option R := fun r0 => K (.own 1) [.gone, .row ⟨false, 5, (.int .u8), r0⟩]

abbrev sta_log_numbers_2a (x7 : List Int) (x8 x9 : Int) (o0 : List Int) : St := ⟨fr0 21 [(0, .own 0), (7, .rd ⟨false, 3, (.int .i64), x7⟩), (8, .v (.int .i64 x8)), (9, .v (.int .i64 x9))], [.row ⟨false, 5, (.int .u8), o0⟩]⟩

abbrev gt_log_numbers_2a {R : Type} (g : List Item → St → Option R) : GT_log_numbers_2a R := fun (x7 : List Int) (x8 x9 : Int) (o0 : List Int) => g (at' Tryz.f36 2) (sta_log_numbers_2a x7 x8 x9 o0)

abbrev sta_log_numbers_2b (x7 : List Int) (x8 x9 : Int) (o1 : List Int) : St := ⟨fr0 21 [(0, .own 1), (7, .rd ⟨false, 3, (.int .i64), x7⟩), (8, .v (.int .i64 x8)), (9, .v (.int .i64 x9))], [.gone, .row ⟨false, 5, (.int .u8), o1⟩]⟩

abbrev gt_log_numbers_2b {R : Type} (g : List Item → St → Option R) : GT_log_numbers_2b R := fun (x7 : List Int) (x8 x9 : Int) (o1 : List Int) => g (at' Tryz.f36 2) (sta_log_numbers_2b x7 x8 x9 o1)

theorem gstep_log_numbers_2a {a0 : LT_text_Put} {R : Type} (g : List Item → St → Option R) (K : AV → List O → Option R) (x7 : List Int) (x8 x9 : Int) (o0 : List Int) :
    runSeg Tryz.prog (T_log_numbers @a0) cuts_log_numbers 1 g (finish Tryz.prog Tryz.f36 1 K) (at' Tryz.f36 2) (sta_log_numbers_2a x7 x8 x9 o0) =
    gs_log_numbers_2a @a0 (gt_log_numbers_2a g) (gt_log_numbers_2b g) (k0_log_numbers K) (k1_log_numbers K) x7 x8 x9 o0 := by kernel_rfl

theorem gstep_log_numbers_2b {a0 : LT_text_Put} {R : Type} (g : List Item → St → Option R) (K : AV → List O → Option R) (x7 : List Int) (x8 x9 : Int) (o1 : List Int) :
    runSeg Tryz.prog (T_log_numbers @a0) cuts_log_numbers 1 g (finish Tryz.prog Tryz.f36 1 K) (at' Tryz.f36 2) (sta_log_numbers_2b x7 x8 x9 o1) =
    gs_log_numbers_2b @a0 (gt_log_numbers_2a g) (gt_log_numbers_2b g) (k0_log_numbers K) (k1_log_numbers K) x7 x8 x9 o1 := by kernel_rfl

theorem gentry_log_numbers {a0 : LT_text_Put} {R : Type} (fuel : Nat) (K : AV → List O → Option R) (l o0 : List Int) :
    fnRun Tryz.prog (T_log_numbers @a0) cuts_log_numbers Tryz.f36 fuel [.own 0, .rd ⟨false, 3, (.int .i64), l⟩] [.row ⟨false, 5, (.int .u8), o0⟩] K =
    ge_log_numbers @a0 (gt_log_numbers_2a (runO Tryz.prog (T_log_numbers @a0) cuts_log_numbers 1 (finish Tryz.prog Tryz.f36 1 K) fuel)) (gt_log_numbers_2b (runO Tryz.prog (T_log_numbers @a0) cuts_log_numbers 1 (finish Tryz.prog Tryz.f36 1 K) fuel)) (k0_log_numbers K) (k1_log_numbers K) l o0 := by kernel_rfl

theorem runs_log_numbers {R : Type} (K : AV → List O → Option R) : ∀ fuel : Nat,
    (gt_log_numbers_2a (runO Tryz.prog C_log_numbers cuts_log_numbers 1 (finish Tryz.prog Tryz.f36 1 K) fuel)) = (run_log_numbers (k0_log_numbers K) (k1_log_numbers K) fuel).1 ∧
    (gt_log_numbers_2b (runO Tryz.prog C_log_numbers cuts_log_numbers 1 (finish Tryz.prog Tryz.f36 1 K) fuel)) = (run_log_numbers (k0_log_numbers K) (k1_log_numbers K) fuel).2
  | 0 => ⟨rfl, rfl⟩
  | fuel + 1 => by
    have ih := runs_log_numbers K fuel
    refine ⟨?_, ?_⟩
    · funext x7 x8 x9 o0
      refine (gstep_log_numbers_2a _ K x7 x8 x9 o0).trans ?_
      rw [ih.1, ih.2]
      rfl
    · funext x7 x8 x9 o1
      refine (gstep_log_numbers_2b _ K x7 x8 x9 o1).trans ?_
      rw [ih.1, ih.2]
      rfl

def S_log_numbers (l_log_numbers : LT_log_numbers) : Sum := ⟨[0], fun {R} args ob K => match args, ob with
  | [.own 0, .rd ⟨false, 3, (.int .i64), l⟩], [.row ⟨false, 5, (.int .u8), o0⟩] => l_log_numbers l o0 (k0_log_numbers K) (k1_log_numbers K)
  | _, _ => none⟩

theorem sound_log_numbers : Sound Tryz.prog 36 (S_log_numbers @l_log_numbers) := by
  refine fn_sound (cuts := cuts_log_numbers) (fn := Tryz.f36) (Γ := C_log_numbers) wide right_T_log_numbers Tryz.func36 fun {R} K r args ob h => ?_
  unfold S_log_numbers at h
  dsimp only at h
  split at h
  · obtain ⟨n, hn⟩ := evl_ok h
    refine ⟨Nat.le_of_ble_eq_true (by kernel_rfl), n, (gentry_log_numbers n K _ _).trans ?_⟩
    rw [(runs_log_numbers K n).1, (runs_log_numbers K n).2]
    exact hn
  · cases h

theorem call_log_numbers : Callable Tryz.prog 36 := ⟨_, Tryz.func36, by kernel_rfl, by kernel_rfl⟩

def T_log_asked_text (a0 : LT_log_numbers) : FuncId → Option Sum := (addS G0 36 (S_log_numbers @a0))

abbrev C_log_asked_text : FuncId → Option Sum := T_log_asked_text @l_log_numbers

theorem right_T_log_asked_text : Right Tryz.prog C_log_asked_text := (right_add right_G0 call_log_numbers sound_log_numbers)

abbrev cuts_log_asked_text : Cuts := []

abbrev k0_log_asked_text {R : Type} (K : AV → List O → Option R) : (List Int) → Option R := fun r0 => K (.own 0) [.row ⟨true, 5, (.int .u8), r0⟩]

abbrev k1_log_asked_text {R : Type} (K : AV → List O → Option R) : (List Int) → Option R := fun r0 => K (.own 0) [.row ⟨false, 5, (.int .u8), r0⟩]

theorem gentry_log_asked_text {a0 : LT_log_numbers} {R : Type} (K : AV → List O → Option R) (r : Int) (r_1 : List Int) (r_2 r_3 r_4 r_5 : Int) (r_6 r_7 : List Int) (r_8 : Int) (r_9 r_10 : List Int) :
    fnRun Tryz.prog (T_log_asked_text @a0) cuts_log_asked_text Tryz.f144 0 [.agg [.v (.int .i64 r), .rd ⟨false, 3, (.int .i64), r_1⟩, .v (.int .i64 r_2), .v (.int .i64 r_3), .v (.int .i64 r_4), .v (.int .i64 r_5), .rd ⟨false, 3, (.int .i64), r_6⟩, .rd ⟨false, 3, (.int .i64), r_7⟩, .v (.int .i64 r_8), .rd ⟨false, 3, (.int .i64), r_9⟩, .rd ⟨false, 3, (.int .i64), r_10⟩]] [] K =
    gl_log_asked_text @a0 r r_1 r_2 r_3 r_4 r_5 r_6 r_7 r_8 r_9 r_10 (k0_log_asked_text K) (k1_log_asked_text K) := by kernel_rfl

def S_log_asked_text (l_log_asked_text : LT_log_asked_text) : Sum := ⟨[], fun {R} args ob K => match args, ob with
  | [.agg [.v (.int .i64 r), .rd ⟨false, 3, (.int .i64), r_1⟩, .v (.int .i64 r_2), .v (.int .i64 r_3), .v (.int .i64 r_4), .v (.int .i64 r_5), .rd ⟨false, 3, (.int .i64), r_6⟩, .rd ⟨false, 3, (.int .i64), r_7⟩, .v (.int .i64 r_8), .rd ⟨false, 3, (.int .i64), r_9⟩, .rd ⟨false, 3, (.int .i64), r_10⟩]], [] => l_log_asked_text r r_1 r_2 r_3 r_4 r_5 r_6 r_7 r_8 r_9 r_10 (k0_log_asked_text K) (k1_log_asked_text K)
  | _, _ => none⟩

theorem sound_log_asked_text : Sound Tryz.prog 144 (S_log_asked_text @l_log_asked_text) := by
  refine fn_sound (cuts := cuts_log_asked_text) (fn := Tryz.f144) (Γ := C_log_asked_text) wide right_T_log_asked_text Tryz.func144 fun {R} K r args ob h => ?_
  unfold S_log_asked_text at h
  dsimp only at h
  split at h
  · exact ⟨Nat.le_of_ble_eq_true (by kernel_rfl), 0, (gentry_log_asked_text K _ _ _ _ _ _ _ _ _ _ _).trans h⟩
  · cases h

theorem call_log_asked_text : Callable Tryz.prog 144 := ⟨_, Tryz.func144, by kernel_rfl, by kernel_rfl⟩


def S_text_Export (l_text_Export : LT_text_Export) : Sum := ⟨[], fun {R} args ob K => match args, ob with
  | [.agg [.v (.int .i64 m), .v (.int .i64 m_1), .v (.int .i64 m_2), .v (.int .i64 m_3), .rd ⟨false, 3, (.int .i64), m_4⟩, .rd ⟨false, 3, (.int .i64), m_5⟩]], [] => l_text_Export m m_1 m_2 m_3 m_4 m_5 (fun r0 r1 => K (.tup [.own 0, .v (.int .i64 r0)]) [.row ⟨true, 5, (.int .u8), r1⟩])
  | _, _ => none⟩

theorem sound_text_Export : Sound Tryz.prog 151 (S_text_Export @l_text_Export) := sound_export sound_machine_Check (fun k K O N nx ou h1 h2 KK => check_eq k K O N nx ou h1 h2 (fun r0 r1 => KK (.tup [.v (.int .i64 r0), .v (.int .i64 r1)]) []))

theorem call_text_Export : Callable Tryz.prog 151 := ⟨_, Tryz.func151, by kernel_rfl, by kernel_rfl⟩

def T_slices_Grow_byte_byte : FuncId → Option Sum := G0

theorem right_T_slices_Grow_byte_byte : Right Tryz.prog T_slices_Grow_byte_byte := right_G0

abbrev cuts_slices_Grow_byte_byte : Cuts := []

abbrev k0_slices_Grow_byte_byte {R : Type} (K : AV → List O → Option R) : Nat → (List Int) → Option R := fun r0 r1 => K (.view 0 1 0 r0) [.row ⟨true, 5, (.int .u8), r1⟩]

abbrev k1_slices_Grow_byte_byte {R : Type} (K : AV → List O → Option R) : (List Int) → Option R := fun r0 => K (.own 0) [.row ⟨true, 5, (.int .u8), r0⟩]

theorem gentry_slices_Grow_byte_byte {R : Type} (K : AV → List O → Option R) (n : Int) :
    fnRun Tryz.prog T_slices_Grow_byte_byte cuts_slices_Grow_byte_byte Tryz.f160 0 [.v (.slice none 0 0), .v (.int .i64 n)] [] K =
    l_slices_Grow_byte_byte n (k0_slices_Grow_byte_byte K) (k1_slices_Grow_byte_byte K) := by kernel_rfl

def S_slices_Grow_byte_byte (l_slices_Grow_byte_byte : LT_slices_Grow_byte_byte) : Sum := ⟨[0], fun {R} args ob K => match args, ob with
  | [.v (.slice none 0 0), .v (.int .i64 n)], [] => l_slices_Grow_byte_byte n (k0_slices_Grow_byte_byte K) (k1_slices_Grow_byte_byte K)
  | _, _ => none⟩

theorem sound_slices_Grow_byte_byte : Sound Tryz.prog 160 (S_slices_Grow_byte_byte @l_slices_Grow_byte_byte) := by
  refine fn_sound (cuts := cuts_slices_Grow_byte_byte) (fn := Tryz.f160) (Γ := T_slices_Grow_byte_byte) wide right_T_slices_Grow_byte_byte Tryz.func160 fun {R} K r args ob h => ?_
  unfold S_slices_Grow_byte_byte at h
  dsimp only at h
  split at h
  · exact ⟨Nat.le_of_ble_eq_true (by kernel_rfl), 0, (gentry_slices_Grow_byte_byte K _).trans h⟩
  · cases h

theorem call_slices_Grow_byte_byte : Callable Tryz.prog 160 := ⟨_, Tryz.func160, by kernel_rfl, by kernel_rfl⟩

def T_slices_Concat_byte_byte (a0 : LT_slices_Grow_byte_byte) : FuncId → Option Sum := (addS G0 160 (S_slices_Grow_byte_byte @a0))

abbrev C_slices_Concat_byte_byte : FuncId → Option Sum := T_slices_Concat_byte_byte @l_slices_Grow_byte_byte

theorem right_T_slices_Concat_byte_byte : Right Tryz.prog C_slices_Concat_byte_byte := (right_add right_G0 call_slices_Grow_byte_byte sound_slices_Grow_byte_byte)

abbrev cuts_slices_Concat_byte_byte : Cuts := [(3, [0, 3, 9, 10, 11]), (11, [6, 25, 26, 27])]

abbrev k0_slices_Concat_byte_byte {R : Type} (K : AV → List O → Option R) : Nat → (List Int) → Option R := fun r0 r1 => K (.view 0 1 0 r0) [.row ⟨true, 5, (.int .u8), r1⟩]

abbrev k1_slices_Concat_byte_byte {R : Type} (K : AV → List O → Option R) : (List Int) → Option R := fun r0 => K (.own 0) [.row ⟨true, 5, (.int .u8), r0⟩]

abbrev sta_slices_Concat_byte_byte_3 (slices : List (List Int)) (size : Int) (x9 : List (List Int)) (x10 x11 : Int) : St := ⟨fr0 36 [(0, .rd ⟨false, 34, (.sl 5 (.int .u8)), slices⟩), (3, .v (.int .i64 size)), (9, .rd ⟨false, 34, (.sl 5 (.int .u8)), x9⟩), (10, .v (.int .i64 x10)), (11, .v (.int .i64 x11))], []⟩

abbrev gt_slices_Concat_byte_byte_3 {R : Type} (g : List Item → St → Option R) : GT_slices_Concat_byte_byte_3 R := fun (slices : List (List Int)) (size : Int) (x9 : List (List Int)) (x10 x11 : Int) => g (at' Tryz.f152 3) (sta_slices_Concat_byte_byte_3 slices size x9 x10 x11)

abbrev sta_slices_Concat_byte_byte_11a (newslice : Nat) (x25 : List (List Int)) (x26 x27 : Int) (o0 : List Int) : St := ⟨fr0 36 [(6, .view 0 1 0 newslice), (25, .rd ⟨false, 34, (.sl 5 (.int .u8)), x25⟩), (26, .v (.int .i64 x26)), (27, .v (.int .i64 x27))], [.row ⟨true, 5, (.int .u8), o0⟩]⟩

abbrev gt_slices_Concat_byte_byte_11a {R : Type} (g : List Item → St → Option R) : GT_slices_Concat_byte_byte_11a R := fun (newslice : Nat) (x25 : List (List Int)) (x26 x27 : Int) (o0 : List Int) => g (at' Tryz.f152 11) (sta_slices_Concat_byte_byte_11a newslice x25 x26 x27 o0)

abbrev sta_slices_Concat_byte_byte_11b (x25 : List (List Int)) (x26 x27 : Int) (o0 : List Int) : St := ⟨fr0 36 [(6, .own 0), (25, .rd ⟨false, 34, (.sl 5 (.int .u8)), x25⟩), (26, .v (.int .i64 x26)), (27, .v (.int .i64 x27))], [.row ⟨true, 5, (.int .u8), o0⟩]⟩

abbrev gt_slices_Concat_byte_byte_11b {R : Type} (g : List Item → St → Option R) : GT_slices_Concat_byte_byte_11b R := fun (x25 : List (List Int)) (x26 x27 : Int) (o0 : List Int) => g (at' Tryz.f152 11) (sta_slices_Concat_byte_byte_11b x25 x26 x27 o0)

theorem gstep_slices_Concat_byte_byte_3 {a0 : LT_slices_Grow_byte_byte} {R : Type} (g : List Item → St → Option R) (K : AV → List O → Option R) (slices : List (List Int)) (size : Int) (x9 : List (List Int)) (x10 x11 : Int) :
    runSeg Tryz.prog (T_slices_Concat_byte_byte @a0) cuts_slices_Concat_byte_byte 0 g (finish Tryz.prog Tryz.f152 0 K) (at' Tryz.f152 3) (sta_slices_Concat_byte_byte_3 slices size x9 x10 x11) =
    gs_slices_Concat_byte_byte_3 @a0 (gt_slices_Concat_byte_byte_3 g) (gt_slices_Concat_byte_byte_11a g) (gt_slices_Concat_byte_byte_11b g) (k0_slices_Concat_byte_byte K) (k1_slices_Concat_byte_byte K) slices size x9 x10 x11 := by kernel_rfl

theorem gstep_slices_Concat_byte_byte_11a {a0 : LT_slices_Grow_byte_byte} {R : Type} (g : List Item → St → Option R) (K : AV → List O → Option R) (newslice : Nat) (x25 : List (List Int)) (x26 x27 : Int) (o0 : List Int) :
    runSeg Tryz.prog (T_slices_Concat_byte_byte @a0) cuts_slices_Concat_byte_byte 0 g (finish Tryz.prog Tryz.f152 0 K) (at' Tryz.f152 11) (sta_slices_Concat_byte_byte_11a newslice x25 x26 x27 o0) =
    gs_slices_Concat_byte_byte_11a @a0 (gt_slices_Concat_byte_byte_3 g) (gt_slices_Concat_byte_byte_11a g) (gt_slices_Concat_byte_byte_11b g) (k0_slices_Concat_byte_byte K) (k1_slices_Concat_byte_byte K) newslice x25 x26 x27 o0 := by kernel_rfl

theorem gstep_slices_Concat_byte_byte_11b {a0 : LT_slices_Grow_byte_byte} {R : Type} (g : List Item → St → Option R) (K : AV → List O → Option R) (x25 : List (List Int)) (x26 x27 : Int) (o0 : List Int) :
    runSeg Tryz.prog (T_slices_Concat_byte_byte @a0) cuts_slices_Concat_byte_byte 0 g (finish Tryz.prog Tryz.f152 0 K) (at' Tryz.f152 11) (sta_slices_Concat_byte_byte_11b x25 x26 x27 o0) =
    gs_slices_Concat_byte_byte_11b @a0 (gt_slices_Concat_byte_byte_3 g) (gt_slices_Concat_byte_byte_11a g) (gt_slices_Concat_byte_byte_11b g) (k0_slices_Concat_byte_byte K) (k1_slices_Concat_byte_byte K) x25 x26 x27 o0 := by kernel_rfl

theorem gentry_slices_Concat_byte_byte {a0 : LT_slices_Grow_byte_byte} {R : Type} (fuel : Nat) (K : AV → List O → Option R) (slices : List (List Int)) :
    fnRun Tryz.prog (T_slices_Concat_byte_byte @a0) cuts_slices_Concat_byte_byte Tryz.f152 fuel [.rd ⟨false, 34, (.sl 5 (.int .u8)), slices⟩] [] K =
    ge_slices_Concat_byte_byte @a0 (gt_slices_Concat_byte_byte_3 (runO Tryz.prog (T_slices_Concat_byte_byte @a0) cuts_slices_Concat_byte_byte 0 (finish Tryz.prog Tryz.f152 0 K) fuel)) (gt_slices_Concat_byte_byte_11a (runO Tryz.prog (T_slices_Concat_byte_byte @a0) cuts_slices_Concat_byte_byte 0 (finish Tryz.prog Tryz.f152 0 K) fuel)) (gt_slices_Concat_byte_byte_11b (runO Tryz.prog (T_slices_Concat_byte_byte @a0) cuts_slices_Concat_byte_byte 0 (finish Tryz.prog Tryz.f152 0 K) fuel)) (k0_slices_Concat_byte_byte K) (k1_slices_Concat_byte_byte K) slices := by kernel_rfl

theorem runs_slices_Concat_byte_byte {R : Type} (K : AV → List O → Option R) : ∀ fuel : Nat,
    (gt_slices_Concat_byte_byte_3 (runO Tryz.prog C_slices_Concat_byte_byte cuts_slices_Concat_byte_byte 0 (finish Tryz.prog Tryz.f152 0 K) fuel)) = (run_slices_Concat_byte_byte (k0_slices_Concat_byte_byte K) (k1_slices_Concat_byte_byte K) fuel).1 ∧
    (gt_slices_Concat_byte_byte_11a (runO Tryz.prog C_slices_Concat_byte_byte cuts_slices_Concat_byte_byte 0 (finish Tryz.prog Tryz.f152 0 K) fuel)) = (run_slices_Concat_byte_byte (k0_slices_Concat_byte_byte K) (k1_slices_Concat_byte_byte K) fuel).2.1 ∧
    (gt_slices_Concat_byte_byte_11b (runO Tryz.prog C_slices_Concat_byte_byte cuts_slices_Concat_byte_byte 0 (finish Tryz.prog Tryz.f152 0 K) fuel)) = (run_slices_Concat_byte_byte (k0_slices_Concat_byte_byte K) (k1_slices_Concat_byte_byte K) fuel).2.2
  | 0 => ⟨rfl, rfl, rfl⟩
  | fuel + 1 => by
    have ih := runs_slices_Concat_byte_byte K fuel
    refine ⟨?_, ?_, ?_⟩
    · funext slices size x9 x10 x11
      refine (gstep_slices_Concat_byte_byte_3 _ K slices size x9 x10 x11).trans ?_
      rw [ih.1, ih.2.1, ih.2.2]
      rfl
    · funext newslice x25 x26 x27 o0
      refine (gstep_slices_Concat_byte_byte_11a _ K newslice x25 x26 x27 o0).trans ?_
      rw [ih.1, ih.2.1, ih.2.2]
      rfl
    · funext x25 x26 x27 o0
      refine (gstep_slices_Concat_byte_byte_11b _ K x25 x26 x27 o0).trans ?_
      rw [ih.1, ih.2.1, ih.2.2]
      rfl

def S_slices_Concat_byte_byte (l_slices_Concat_byte_byte : LT_slices_Concat_byte_byte) : Sum := ⟨[], fun {R} args ob K => match args, ob with
  | [.rd ⟨false, 34, (.sl 5 (.int .u8)), slices⟩], [] => l_slices_Concat_byte_byte slices (k0_slices_Concat_byte_byte K) (k1_slices_Concat_byte_byte K)
  | _, _ => none⟩

theorem sound_slices_Concat_byte_byte : Sound Tryz.prog 152 (S_slices_Concat_byte_byte @l_slices_Concat_byte_byte) := by
  refine fn_sound (cuts := cuts_slices_Concat_byte_byte) (fn := Tryz.f152) (Γ := C_slices_Concat_byte_byte) wide right_T_slices_Concat_byte_byte Tryz.func152 fun {R} K r args ob h => ?_
  unfold S_slices_Concat_byte_byte at h
  dsimp only at h
  split at h
  · obtain ⟨n, hn⟩ := evl_ok h
    refine ⟨Nat.le_of_ble_eq_true (by kernel_rfl), n, (gentry_slices_Concat_byte_byte n K _).trans ?_⟩
    rw [(runs_slices_Concat_byte_byte K n).1, (runs_slices_Concat_byte_byte K n).2.1, (runs_slices_Concat_byte_byte K n).2.2]
    exact hn
  · cases h

theorem call_slices_Concat_byte_byte : Callable Tryz.prog 152 := ⟨_, Tryz.func152, by kernel_rfl, by kernel_rfl⟩

def T_log_tested_text (a0 : LT_log_numbers) (a1 : LT_slices_Concat_byte_byte) (a2 : LT_text_Export) : FuncId → Option Sum := (addS (addS (addS G0 36 (S_log_numbers @a0)) 152 (S_slices_Concat_byte_byte @a1)) 151 (S_text_Export @a2))

abbrev C_log_tested_text : FuncId → Option Sum := T_log_tested_text @l_log_numbers @l_slices_Concat_byte_byte @l_text_Export

theorem right_T_log_tested_text : Right Tryz.prog C_log_tested_text := (right_add (right_add (right_add right_G0 call_log_numbers sound_log_numbers) call_slices_Concat_byte_byte sound_slices_Concat_byte_byte) call_text_Export sound_text_Export)

abbrev cuts_log_tested_text : Cuts := []

abbrev k0_log_tested_text {R : Type} (K : AV → List O → Option R) : (List Int) → Option R := fun r0 => K (.own 0) [.row ⟨true, 5, (.int .u8), r0⟩]

abbrev k1_log_tested_text {R : Type} (K : AV → List O → Option R) : (List Int) → Option R := fun r0 => K (.own 0) [.row ⟨false, 5, (.int .u8), r0⟩]

theorem gentry_log_tested_text {a0 : LT_log_numbers} {a1 : LT_slices_Concat_byte_byte} {a2 : LT_text_Export} {R : Type} (K : AV → List O → Option R) (r : Int) (r_1 : List Int) (r_2 r_3 r_4 r_5 : Int) (r_6 r_7 : List Int) (r_8 : Int) (r_9 r_10 : List Int) :
    fnRun Tryz.prog (T_log_tested_text @a0 @a1 @a2) cuts_log_tested_text Tryz.f149 0 [.agg [.v (.int .i64 r), .rd ⟨false, 3, (.int .i64), r_1⟩, .v (.int .i64 r_2), .v (.int .i64 r_3), .v (.int .i64 r_4), .v (.int .i64 r_5), .rd ⟨false, 3, (.int .i64), r_6⟩, .rd ⟨false, 3, (.int .i64), r_7⟩, .v (.int .i64 r_8), .rd ⟨false, 3, (.int .i64), r_9⟩, .rd ⟨false, 3, (.int .i64), r_10⟩]] [] K =
    gl_log_tested_text @a0 @a1 @a2 r r_1 r_2 r_3 r_4 r_5 r_6 r_7 r_8 r_9 r_10 (k0_log_tested_text K) (k1_log_tested_text K) := by kernel_rfl

def S_log_tested_text (l_log_tested_text : LT_log_tested_text) : Sum := ⟨[], fun {R} args ob K => match args, ob with
  | [.agg [.v (.int .i64 r), .rd ⟨false, 3, (.int .i64), r_1⟩, .v (.int .i64 r_2), .v (.int .i64 r_3), .v (.int .i64 r_4), .v (.int .i64 r_5), .rd ⟨false, 3, (.int .i64), r_6⟩, .rd ⟨false, 3, (.int .i64), r_7⟩, .v (.int .i64 r_8), .rd ⟨false, 3, (.int .i64), r_9⟩, .rd ⟨false, 3, (.int .i64), r_10⟩]], [] => l_log_tested_text r r_1 r_2 r_3 r_4 r_5 r_6 r_7 r_8 r_9 r_10 (k0_log_tested_text K) (k1_log_tested_text K)
  | _, _ => none⟩

theorem sound_log_tested_text : Sound Tryz.prog 149 (S_log_tested_text @l_log_tested_text) := by
  refine fn_sound (cuts := cuts_log_tested_text) (fn := Tryz.f149) (Γ := C_log_tested_text) wide right_T_log_tested_text Tryz.func149 fun {R} K r args ob h => ?_
  unfold S_log_tested_text at h
  dsimp only at h
  split at h
  · exact ⟨Nat.le_of_ble_eq_true (by kernel_rfl), 0, (gentry_log_tested_text K _ _ _ _ _ _ _ _ _ _ _).trans h⟩
  · cases h

theorem call_log_tested_text : Callable Tryz.prog 149 := ⟨_, Tryz.func149, by kernel_rfl, by kernel_rfl⟩

def T_log_Show (a0 : LT_log_numbers) (a1 : LT_log_Check) (a2 : LT_log_asked_text) (a3 : LT_log_tested_text) (a4 : LT_log_of) : FuncId → Option Sum := (addS (addS (addS (addS (addS G0 36 (S_log_numbers @a0)) 12 (S_log_Check @a1)) 144 (S_log_asked_text @a2)) 149 (S_log_tested_text @a3)) 34 (S_log_of @a4))

abbrev C_log_Show : FuncId → Option Sum := T_log_Show @l_log_numbers @l_log_Check @l_log_asked_text @l_log_tested_text @l_log_of

theorem right_T_log_Show : Right Tryz.prog C_log_Show := (right_add (right_add (right_add (right_add (right_add right_G0 call_log_numbers sound_log_numbers) call_log_Check sound_log_Check) call_log_asked_text sound_log_asked_text) call_log_tested_text sound_log_tested_text) call_log_of sound_log_of)

abbrev cuts_log_Show : Cuts := [(9, [6, 38, 39, 40])]

abbrev k0_log_Show {R : Type} (K : AV → List O → Option R) : Int → (List Int) → Option R := fun r0 r1 => K (.tup [.own 0, .v (.int .i64 r0)]) [.row ⟨true, 5, (.int .u8), r1⟩]

abbrev k1_log_Show {R : Type} (K : AV → List O → Option R) : Int → (List Int) → Option R := fun r0 r1 => K (.tup [.own 0, .v (.int .i64 r0)]) [.row ⟨false, 5, (.int .u8), r1⟩]

abbrev sta_log_Show_9a (x38 : List Ent) (x39 x40 : Int) (o0 : List Int) : St := ⟨fr0 51 [(6, .own 0), (38, .rd ⟨false, 53, (.pr (.pr (.int .i64) (.pr (.sl 3 (.int .i64)) (.pr (.int .i64) (.pr (.int .i64) (.pr (.int .i64) (.pr (.int .i64) (.pr (.sl 3 (.int .i64)) (.sl 3 (.int .i64))))))))) (.pr (.int .i64) (.pr (.sl 3 (.int .i64)) (.sl 3 (.int .i64))))), x38⟩), (39, .v (.int .i64 x39)), (40, .v (.int .i64 x40))], [.row ⟨true, 5, (.int .u8), o0⟩]⟩

abbrev gt_log_Show_9a {R : Type} (g : List Item → St → Option R) : GT_log_Show_9a R := fun (x38 : List Ent) (x39 x40 : Int) (o0 : List Int) => g (at' Tryz.f15 9) (sta_log_Show_9a x38 x39 x40 o0)

abbrev sta_log_Show_9b (x38 : List Ent) (x39 x40 : Int) (o0 : List Int) : St := ⟨fr0 51 [(6, .own 0), (38, .rd ⟨false, 53, (.pr (.pr (.int .i64) (.pr (.sl 3 (.int .i64)) (.pr (.int .i64) (.pr (.int .i64) (.pr (.int .i64) (.pr (.int .i64) (.pr (.sl 3 (.int .i64)) (.sl 3 (.int .i64))))))))) (.pr (.int .i64) (.pr (.sl 3 (.int .i64)) (.sl 3 (.int .i64))))), x38⟩), (39, .v (.int .i64 x39)), (40, .v (.int .i64 x40))], [.row ⟨false, 5, (.int .u8), o0⟩]⟩

abbrev gt_log_Show_9b {R : Type} (g : List Item → St → Option R) : GT_log_Show_9b R := fun (x38 : List Ent) (x39 x40 : Int) (o0 : List Int) => g (at' Tryz.f15 9) (sta_log_Show_9b x38 x39 x40 o0)

theorem gstep_log_Show_9a {a0 : LT_log_numbers} {a1 : LT_log_Check} {a2 : LT_log_asked_text} {a3 : LT_log_tested_text} {a4 : LT_log_of} {R : Type} (g : List Item → St → Option R) (K : AV → List O → Option R) (x38 : List Ent) (x39 x40 : Int) (o0 : List Int) :
    runSeg Tryz.prog (T_log_Show @a0 @a1 @a2 @a3 @a4) cuts_log_Show 0 g (finish Tryz.prog Tryz.f15 0 K) (at' Tryz.f15 9) (sta_log_Show_9a x38 x39 x40 o0) =
    gs_log_Show_9a @a0 @a1 @a2 @a3 @a4 (gt_log_Show_9a g) (gt_log_Show_9b g) (k0_log_Show K) (k1_log_Show K) x38 x39 x40 o0 := by kernel_rfl

theorem gstep_log_Show_9b {a0 : LT_log_numbers} {a1 : LT_log_Check} {a2 : LT_log_asked_text} {a3 : LT_log_tested_text} {a4 : LT_log_of} {R : Type} (g : List Item → St → Option R) (K : AV → List O → Option R) (x38 : List Ent) (x39 x40 : Int) (o0 : List Int) :
    runSeg Tryz.prog (T_log_Show @a0 @a1 @a2 @a3 @a4) cuts_log_Show 0 g (finish Tryz.prog Tryz.f15 0 K) (at' Tryz.f15 9) (sta_log_Show_9b x38 x39 x40 o0) =
    gs_log_Show_9b @a0 @a1 @a2 @a3 @a4 (gt_log_Show_9a g) (gt_log_Show_9b g) (k0_log_Show K) (k1_log_Show K) x38 x39 x40 o0 := by kernel_rfl

theorem gentry_log_Show {a0 : LT_log_numbers} {a1 : LT_log_Check} {a2 : LT_log_asked_text} {a3 : LT_log_tested_text} {a4 : LT_log_of} {R : Type} (fuel : Nat) (K : AV → List O → Option R) (l l_1 l_2 : Int) (l_3 : List Ent) :
    fnRun Tryz.prog (T_log_Show @a0 @a1 @a2 @a3 @a4) cuts_log_Show Tryz.f15 fuel [.agg [.v (.int .i64 l), .v (.int .i64 l_1), .v (.int .i64 l_2), .rd ⟨false, 53, (.pr (.pr (.int .i64) (.pr (.sl 3 (.int .i64)) (.pr (.int .i64) (.pr (.int .i64) (.pr (.int .i64) (.pr (.int .i64) (.pr (.sl 3 (.int .i64)) (.sl 3 (.int .i64))))))))) (.pr (.int .i64) (.pr (.sl 3 (.int .i64)) (.sl 3 (.int .i64))))), l_3⟩]] [] K =
    ge_log_Show @a0 @a1 @a2 @a3 @a4 (gt_log_Show_9a (runO Tryz.prog (T_log_Show @a0 @a1 @a2 @a3 @a4) cuts_log_Show 0 (finish Tryz.prog Tryz.f15 0 K) fuel)) (gt_log_Show_9b (runO Tryz.prog (T_log_Show @a0 @a1 @a2 @a3 @a4) cuts_log_Show 0 (finish Tryz.prog Tryz.f15 0 K) fuel)) (k0_log_Show K) (k1_log_Show K) l l_1 l_2 l_3 := by kernel_rfl

theorem runs_log_Show {R : Type} (K : AV → List O → Option R) : ∀ fuel : Nat,
    (gt_log_Show_9a (runO Tryz.prog C_log_Show cuts_log_Show 0 (finish Tryz.prog Tryz.f15 0 K) fuel)) = (run_log_Show (k0_log_Show K) (k1_log_Show K) fuel).1 ∧
    (gt_log_Show_9b (runO Tryz.prog C_log_Show cuts_log_Show 0 (finish Tryz.prog Tryz.f15 0 K) fuel)) = (run_log_Show (k0_log_Show K) (k1_log_Show K) fuel).2
  | 0 => ⟨rfl, rfl⟩
  | fuel + 1 => by
    have ih := runs_log_Show K fuel
    refine ⟨?_, ?_⟩
    · funext x38 x39 x40 o0
      refine (gstep_log_Show_9a _ K x38 x39 x40 o0).trans ?_
      rw [ih.1, ih.2]
      rfl
    · funext x38 x39 x40 o0
      refine (gstep_log_Show_9b _ K x38 x39 x40 o0).trans ?_
      rw [ih.1, ih.2]
      rfl

def S_log_Show (l_log_Show : LT_log_Show) : Sum := ⟨[], fun {R} args ob K => match args, ob with
  | [.agg [.v (.int .i64 l), .v (.int .i64 l_1), .v (.int .i64 l_2), .rd ⟨false, 53, (.pr (.pr (.int .i64) (.pr (.sl 3 (.int .i64)) (.pr (.int .i64) (.pr (.int .i64) (.pr (.int .i64) (.pr (.int .i64) (.pr (.sl 3 (.int .i64)) (.sl 3 (.int .i64))))))))) (.pr (.int .i64) (.pr (.sl 3 (.int .i64)) (.sl 3 (.int .i64))))), l_3⟩]], [] => l_log_Show l l_1 l_2 l_3 (k0_log_Show K) (k1_log_Show K)
  | _, _ => none⟩

theorem sound_log_Show : Sound Tryz.prog 15 (S_log_Show @l_log_Show) := by
  refine fn_sound (cuts := cuts_log_Show) (fn := Tryz.f15) (Γ := C_log_Show) wide right_T_log_Show Tryz.func15 fun {R} K r args ob h => ?_
  unfold S_log_Show at h
  dsimp only at h
  split at h
  · obtain ⟨n, hn⟩ := evl_ok h
    refine ⟨Nat.le_of_ble_eq_true (by kernel_rfl), n, (gentry_log_Show n K _ _ _ _).trans ?_⟩
    rw [(runs_log_Show K n).1, (runs_log_Show K n).2]
    exact hn
  · cases h

theorem call_log_Show : Callable Tryz.prog 15 := ⟨_, Tryz.func15, by kernel_rfl, by kernel_rfl⟩

def T_log_Counts : FuncId → Option Sum := G0

theorem right_T_log_Counts : Right Tryz.prog T_log_Counts := right_G0

abbrev cuts_log_Counts : Cuts := [(2, [2, 3, 4, 8, 9, 10])]

abbrev k0_log_Counts {R : Type} (K : AV → List O → Option R) : Int → Int → Int → Option R := fun r0 r1 r2 => K (.tup [.v (.int .i64 r0), .v (.int .i64 r1), .v (.int .i64 r2)]) []

abbrev sta_log_Counts_2 (members hypos symbols : Int) (x8 : List Ent) (x9 x10 : Int) : St := ⟨fr0 36 [(2, .v (.int .i64 members)), (3, .v (.int .i64 hypos)), (4, .v (.int .i64 symbols)), (8, .rd ⟨false, 53, (.pr (.pr (.int .i64) (.pr (.sl 3 (.int .i64)) (.pr (.int .i64) (.pr (.int .i64) (.pr (.int .i64) (.pr (.int .i64) (.pr (.sl 3 (.int .i64)) (.sl 3 (.int .i64))))))))) (.pr (.int .i64) (.pr (.sl 3 (.int .i64)) (.sl 3 (.int .i64))))), x8⟩), (9, .v (.int .i64 x9)), (10, .v (.int .i64 x10))], []⟩

abbrev gt_log_Counts_2 {R : Type} (g : List Item → St → Option R) : GT_log_Counts_2 R := fun (members hypos symbols : Int) (x8 : List Ent) (x9 x10 : Int) => g (at' Tryz.f28 2) (sta_log_Counts_2 members hypos symbols x8 x9 x10)

theorem gstep_log_Counts_2 {R : Type} (g : List Item → St → Option R) (K : AV → List O → Option R) (members hypos symbols : Int) (x8 : List Ent) (x9 x10 : Int) :
    runSeg Tryz.prog T_log_Counts cuts_log_Counts 0 g (finish Tryz.prog Tryz.f28 0 K) (at' Tryz.f28 2) (sta_log_Counts_2 members hypos symbols x8 x9 x10) =
    s_log_Counts_2 (gt_log_Counts_2 g) (k0_log_Counts K) members hypos symbols x8 x9 x10 := by kernel_rfl

theorem gentry_log_Counts {R : Type} (fuel : Nat) (K : AV → List O → Option R) (l l_1 l_2 : Int) (l_3 : List Ent) :
    fnRun Tryz.prog T_log_Counts cuts_log_Counts Tryz.f28 fuel [.agg [.v (.int .i64 l), .v (.int .i64 l_1), .v (.int .i64 l_2), .rd ⟨false, 53, (.pr (.pr (.int .i64) (.pr (.sl 3 (.int .i64)) (.pr (.int .i64) (.pr (.int .i64) (.pr (.int .i64) (.pr (.int .i64) (.pr (.sl 3 (.int .i64)) (.sl 3 (.int .i64))))))))) (.pr (.int .i64) (.pr (.sl 3 (.int .i64)) (.sl 3 (.int .i64))))), l_3⟩]] [] K =
    e_log_Counts (gt_log_Counts_2 (runO Tryz.prog T_log_Counts cuts_log_Counts 0 (finish Tryz.prog Tryz.f28 0 K) fuel)) (k0_log_Counts K) l l_1 l_2 l_3 := by kernel_rfl

theorem runs_log_Counts {R : Type} (K : AV → List O → Option R) : ∀ fuel : Nat,
    (gt_log_Counts_2 (runO Tryz.prog T_log_Counts cuts_log_Counts 0 (finish Tryz.prog Tryz.f28 0 K) fuel)) = (run_log_Counts (k0_log_Counts K) fuel)
  | 0 => rfl
  | fuel + 1 => by
    have ih := runs_log_Counts K fuel
    funext members hypos symbols x8 x9 x10
    refine (gstep_log_Counts_2 _ K members hypos symbols x8 x9 x10).trans ?_
    rw [ih]
    rfl

def S_log_Counts (l_log_Counts : LT_log_Counts) : Sum := ⟨[], fun {R} args ob K => match args, ob with
  | [.agg [.v (.int .i64 l), .v (.int .i64 l_1), .v (.int .i64 l_2), .rd ⟨false, 53, (.pr (.pr (.int .i64) (.pr (.sl 3 (.int .i64)) (.pr (.int .i64) (.pr (.int .i64) (.pr (.int .i64) (.pr (.int .i64) (.pr (.sl 3 (.int .i64)) (.sl 3 (.int .i64))))))))) (.pr (.int .i64) (.pr (.sl 3 (.int .i64)) (.sl 3 (.int .i64))))), l_3⟩]], [] => l_log_Counts l l_1 l_2 l_3 (k0_log_Counts K)
  | _, _ => none⟩

theorem sound_log_Counts : Sound Tryz.prog 28 (S_log_Counts @l_log_Counts) := by
  refine fn_sound (cuts := cuts_log_Counts) (fn := Tryz.f28) (Γ := T_log_Counts) wide right_T_log_Counts Tryz.func28 fun {R} K r args ob h => ?_
  unfold S_log_Counts at h
  dsimp only at h
  split at h
  · obtain ⟨n, hn⟩ := evl_ok h
    refine ⟨Nat.le_of_ble_eq_true (by kernel_rfl), n, (gentry_log_Counts n K _ _ _ _).trans ?_⟩
    rw [(runs_log_Counts K n)]
    exact hn
  · cases h

theorem call_log_Counts : Callable Tryz.prog 28 := ⟨_, Tryz.func28, by kernel_rfl, by kernel_rfl⟩

def T_tutorlaw27_num : FuncId → Option Sum := G0

theorem right_T_tutorlaw27_num : Right Tryz.prog T_tutorlaw27_num := right_G0

abbrev cuts_tutorlaw27_num : Cuts := []

abbrev k0_tutorlaw27_num {R : Type} (K : AV → List O → Option R) : Int → Option R := fun r0 => K (.v (.int .i64 r0)) []

theorem gentry_tutorlaw27_num {R : Type} (K : AV → List O → Option R) (e : Int) :
    fnRun Tryz.prog T_tutorlaw27_num cuts_tutorlaw27_num Tryz.f14 0 [.v (.int .i64 e)] [] K =
    l_tutorlaw27_num e (k0_tutorlaw27_num K) := by kernel_rfl

def S_tutorlaw27_num (l_tutorlaw27_num : LT_tutorlaw27_num) : Sum := ⟨[], fun {R} args ob K => match args, ob with
  | [.v (.int .i64 e)], [] => l_tutorlaw27_num e (k0_tutorlaw27_num K)
  | _, _ => none⟩

theorem sound_tutorlaw27_num : Sound Tryz.prog 14 (S_tutorlaw27_num @l_tutorlaw27_num) := by
  refine fn_sound (cuts := cuts_tutorlaw27_num) (fn := Tryz.f14) (Γ := T_tutorlaw27_num) wide right_T_tutorlaw27_num Tryz.func14 fun {R} K r args ob h => ?_
  unfold S_tutorlaw27_num at h
  dsimp only at h
  split at h
  · exact ⟨Nat.le_of_ble_eq_true (by kernel_rfl), 0, (gentry_tutorlaw27_num K _).trans h⟩
  · cases h

theorem call_tutorlaw27_num : Callable Tryz.prog 14 := ⟨_, Tryz.func14, by kernel_rfl, by kernel_rfl⟩

def T_tutorlaw27_live (a0 : LT_tutorlaw27_num) (a1 : LT_log_Parse) (a2 : LT_log_Counts) (a3 : LT_log_Show) : FuncId → Option Sum := (addS (addS (addS (addS G0 14 (S_tutorlaw27_num @a0)) 18 (S_log_Parse @a1)) 28 (S_log_Counts @a2)) 15 (S_log_Show @a3))

abbrev C_tutorlaw27_live : FuncId → Option Sum := T_tutorlaw27_live @l_tutorlaw27_num @l_log_Parse @l_log_Counts @l_log_Show

theorem right_T_tutorlaw27_live : Right Tryz.prog C_tutorlaw27_live := (right_add (right_add (right_add (right_add right_G0 call_tutorlaw27_num sound_tutorlaw27_num) call_log_Parse sound_log_Parse) call_log_Counts sound_log_Counts) call_log_Show sound_log_Show)

abbrev cuts_tutorlaw27_live : Cuts := []

abbrev k0_tutorlaw27_live {R : Type} (K : AV → List O → Option R) : Bool → Option R := fun r0 => K (.v (.bool r0)) []

theorem gentry_tutorlaw27_live {a0 : LT_tutorlaw27_num} {a1 : LT_log_Parse} {a2 : LT_log_Counts} {a3 : LT_log_Show} {R : Type} (K : AV → List O → Option R)  :
    fnRun Tryz.prog (T_tutorlaw27_live @a0 @a1 @a2 @a3) cuts_tutorlaw27_live Tryz.f11 0 [] [] K =
    gl_tutorlaw27_live @a0 @a1 @a2 @a3  (k0_tutorlaw27_live K) := by kernel_rfl

def S_tutorlaw27_live (l_tutorlaw27_live : LT_tutorlaw27_live) : Sum := ⟨[], fun {R} args ob K => match args, ob with
  | [], [] => l_tutorlaw27_live  (k0_tutorlaw27_live K)
  | _, _ => none⟩

theorem sound_tutorlaw27_live : Sound Tryz.prog 11 (S_tutorlaw27_live @l_tutorlaw27_live) := by
  refine fn_sound (cuts := cuts_tutorlaw27_live) (fn := Tryz.f11) (Γ := C_tutorlaw27_live) wide right_T_tutorlaw27_live Tryz.func11 fun {R} K r args ob h => ?_
  unfold S_tutorlaw27_live at h
  dsimp only at h
  split at h
  · exact ⟨Nat.le_of_ble_eq_true (by kernel_rfl), 0, (gentry_tutorlaw27_live K).trans h⟩
  · cases h

theorem call_tutorlaw27_live : Callable Tryz.prog 11 := ⟨_, Tryz.func11, by kernel_rfl, by kernel_rfl⟩

def T_tutorref01_Check : FuncId → Option Sum := G0

theorem right_T_tutorref01_Check : Right Tryz.prog T_tutorref01_Check := right_G0

abbrev cuts_tutorref01_Check : Cuts := [(6, [0, 1, 6])]

abbrev k0_tutorref01_Check {R : Type} (K : AV → List O → Option R) : Int → Int → Option R := fun r0 r1 => K (.tup [.v (.int .i64 r0), .v (.int .i64 r1)]) []

abbrev sta_tutorref01_Check_6 (w : List Int) (k i : Int) : St := ⟨fr0 36 [(0, .rd ⟨false, 3, (.int .i64), w⟩), (1, .v (.int .i64 k)), (6, .v (.int .i64 i))], []⟩

abbrev gt_tutorref01_Check_6 {R : Type} (g : List Item → St → Option R) : GT_tutorref01_Check_6 R := fun (w : List Int) (k i : Int) => g (at' Tryz.f57 6) (sta_tutorref01_Check_6 w k i)

theorem gstep_tutorref01_Check_6 {R : Type} (g : List Item → St → Option R) (K : AV → List O → Option R) (w : List Int) (k i : Int) :
    runSeg Tryz.prog T_tutorref01_Check cuts_tutorref01_Check 0 g (finish Tryz.prog Tryz.f57 0 K) (at' Tryz.f57 6) (sta_tutorref01_Check_6 w k i) =
    s_tutorref01_Check_6 (gt_tutorref01_Check_6 g) (k0_tutorref01_Check K) w k i := by kernel_rfl

theorem gentry_tutorref01_Check {R : Type} (fuel : Nat) (K : AV → List O → Option R) (w : List Int) (k : Int) :
    fnRun Tryz.prog T_tutorref01_Check cuts_tutorref01_Check Tryz.f57 fuel [.rd ⟨false, 3, (.int .i64), w⟩, .v (.int .i64 k)] [] K =
    e_tutorref01_Check (gt_tutorref01_Check_6 (runO Tryz.prog T_tutorref01_Check cuts_tutorref01_Check 0 (finish Tryz.prog Tryz.f57 0 K) fuel)) (k0_tutorref01_Check K) w k := by kernel_rfl

theorem runs_tutorref01_Check {R : Type} (K : AV → List O → Option R) : ∀ fuel : Nat,
    (gt_tutorref01_Check_6 (runO Tryz.prog T_tutorref01_Check cuts_tutorref01_Check 0 (finish Tryz.prog Tryz.f57 0 K) fuel)) = (run_tutorref01_Check (k0_tutorref01_Check K) fuel)
  | 0 => rfl
  | fuel + 1 => by
    have ih := runs_tutorref01_Check K fuel
    funext w k i
    refine (gstep_tutorref01_Check_6 _ K w k i).trans ?_
    rw [ih]
    rfl

def S_tutorref01_Check (l_tutorref01_Check : LT_tutorref01_Check) : Sum := ⟨[], fun {R} args ob K => match args, ob with
  | [.rd ⟨false, 3, (.int .i64), w⟩, .v (.int .i64 k)], [] => l_tutorref01_Check w k (k0_tutorref01_Check K)
  | _, _ => none⟩

theorem sound_tutorref01_Check : Sound Tryz.prog 57 (S_tutorref01_Check @l_tutorref01_Check) := by
  refine fn_sound (cuts := cuts_tutorref01_Check) (fn := Tryz.f57) (Γ := T_tutorref01_Check) wide right_T_tutorref01_Check Tryz.func57 fun {R} K r args ob h => ?_
  unfold S_tutorref01_Check at h
  dsimp only at h
  split at h
  · obtain ⟨n, hn⟩ := ok_tutorref01_Check _ _ _ h
    refine ⟨Nat.le_of_ble_eq_true (by kernel_rfl), n, (gentry_tutorref01_Check n K _ _).trans ?_⟩
    rw [(runs_tutorref01_Check K n)]
    exact hn
  · cases h

theorem call_tutorref01_Check : Callable Tryz.prog 57 := ⟨_, Tryz.func57, by kernel_rfl, by kernel_rfl⟩

def T_tutorref10_Check (a0 : LT_tutorref01_Check) : FuncId → Option Sum := (addS G0 57 (S_tutorref01_Check @a0))

abbrev C_tutorref10_Check : FuncId → Option Sum := T_tutorref10_Check @l_tutorref01_Check

theorem right_T_tutorref10_Check : Right Tryz.prog C_tutorref10_Check := (right_add right_G0 call_tutorref01_Check sound_tutorref01_Check)

abbrev cuts_tutorref10_Check : Cuts := [(14, [3, 8, 9])]

abbrev k0_tutorref10_Check {R : Type} (K : AV → List O → Option R) : Int → Option R := fun r0 => K (.v (.int .i64 r0)) []

abbrev sta_tutorref10_Check_14 (most i o0 : Int) (o0_1 o0_2 : List Int) : St := ⟨fr0 114 [(3, .ptr 0 0), (8, .v (.int .i64 most)), (9, .v (.int .i64 i))], [.box 51 [.v (.int .i64 o0), .rd ⟨false, 3, (.int .i64), o0_1⟩, .rd ⟨false, 3, (.int .i64), o0_2⟩]]⟩

abbrev gt_tutorref10_Check_14 {R : Type} (g : List Item → St → Option R) : GT_tutorref10_Check_14 R := fun (most i o0 : Int) (o0_1 o0_2 : List Int) => g (at' Tryz.f58 14) (sta_tutorref10_Check_14 most i o0 o0_1 o0_2)

theorem gstep_tutorref10_Check_14 {a0 : LT_tutorref01_Check} {R : Type} (g : List Item → St → Option R) (K : AV → List O → Option R) (most i o0 : Int) (o0_1 o0_2 : List Int) :
    runSeg Tryz.prog (T_tutorref10_Check @a0) cuts_tutorref10_Check 0 g (finish Tryz.prog Tryz.f58 0 K) (at' Tryz.f58 14) (sta_tutorref10_Check_14 most i o0 o0_1 o0_2) =
    gs_tutorref10_Check_14 @a0 (gt_tutorref10_Check_14 g) (k0_tutorref10_Check K) most i o0 o0_1 o0_2 := by kernel_rfl

theorem gentry_tutorref10_Check {a0 : LT_tutorref01_Check} {R : Type} (fuel : Nat) (K : AV → List O → Option R) (q : Int) (q_1 : List Int) (q_2 q_3 q_4 q_5 : Int) (q_6 q_7 : List Int) (a : Int) (a_1 a_2 : List Int) :
    fnRun Tryz.prog (T_tutorref10_Check @a0) cuts_tutorref10_Check Tryz.f58 fuel [.agg [.v (.int .i64 q), .rd ⟨false, 3, (.int .i64), q_1⟩, .v (.int .i64 q_2), .v (.int .i64 q_3), .v (.int .i64 q_4), .v (.int .i64 q_5), .rd ⟨false, 3, (.int .i64), q_6⟩, .rd ⟨false, 3, (.int .i64), q_7⟩], .agg [.v (.int .i64 a), .rd ⟨false, 3, (.int .i64), a_1⟩, .rd ⟨false, 3, (.int .i64), a_2⟩]] [] K =
    ge_tutorref10_Check @a0 (gt_tutorref10_Check_14 (runO Tryz.prog (T_tutorref10_Check @a0) cuts_tutorref10_Check 0 (finish Tryz.prog Tryz.f58 0 K) fuel)) (k0_tutorref10_Check K) q q_1 q_2 q_3 q_4 q_5 q_6 q_7 a a_1 a_2 := by kernel_rfl

theorem runs_tutorref10_Check {R : Type} (K : AV → List O → Option R) : ∀ fuel : Nat,
    (gt_tutorref10_Check_14 (runO Tryz.prog C_tutorref10_Check cuts_tutorref10_Check 0 (finish Tryz.prog Tryz.f58 0 K) fuel)) = (run_tutorref10_Check (k0_tutorref10_Check K) fuel)
  | 0 => rfl
  | fuel + 1 => by
    have ih := runs_tutorref10_Check K fuel
    funext most i o0 o0_1 o0_2
    refine (gstep_tutorref10_Check_14 _ K most i o0 o0_1 o0_2).trans ?_
    rw [ih]
    rfl

def S_tutorref10_Check (l_tutorref10_Check : LT_tutorref10_Check) : Sum := ⟨[], fun {R} args ob K => match args, ob with
  | [.agg [.v (.int .i64 q), .rd ⟨false, 3, (.int .i64), q_1⟩, .v (.int .i64 q_2), .v (.int .i64 q_3), .v (.int .i64 q_4), .v (.int .i64 q_5), .rd ⟨false, 3, (.int .i64), q_6⟩, .rd ⟨false, 3, (.int .i64), q_7⟩], .agg [.v (.int .i64 a), .rd ⟨false, 3, (.int .i64), a_1⟩, .rd ⟨false, 3, (.int .i64), a_2⟩]], [] => l_tutorref10_Check q q_1 q_2 q_3 q_4 q_5 q_6 q_7 a a_1 a_2 (k0_tutorref10_Check K)
  | _, _ => none⟩

theorem sound_tutorref10_Check : Sound Tryz.prog 58 (S_tutorref10_Check @l_tutorref10_Check) := by
  refine fn_sound (cuts := cuts_tutorref10_Check) (fn := Tryz.f58) (Γ := C_tutorref10_Check) wide right_T_tutorref10_Check Tryz.func58 fun {R} K r args ob h => ?_
  unfold S_tutorref10_Check at h
  dsimp only at h
  split at h
  · obtain ⟨n, hn⟩ := ok_tutorref10_Check _ _ _ _ _ _ _ _ _ _ _ _ h
    refine ⟨Nat.le_of_ble_eq_true (by kernel_rfl), n, (gentry_tutorref10_Check n K _ _ _ _ _ _ _ _ _ _ _).trans ?_⟩
    rw [(runs_tutorref10_Check K n)]
    exact hn
  · cases h

theorem call_tutorref10_Check : Callable Tryz.prog 58 := ⟨_, Tryz.func58, by kernel_rfl, by kernel_rfl⟩

def T_tutorref03_Check : FuncId → Option Sum := G0

theorem right_T_tutorref03_Check : Right Tryz.prog T_tutorref03_Check := right_G0

abbrev cuts_tutorref03_Check : Cuts := [(15, [1, 5]), (20, [1, 6])]

abbrev k0_tutorref03_Check {R : Type} (K : AV → List O → Option R) : Int → Int → Option R := fun r0 r1 => K (.tup [.v (.int .i64 r0), .v (.int .i64 r1)]) []

abbrev sta_tutorref03_Check_15 (i o0 o0_1 o0_2 o0_3 : Int) (o0_4 o0_5 : List Int) : St := ⟨fr0 123 [(1, .ptr 0 0), (5, .v (.int .i64 i))], [.box 47 [.v (.int .i64 o0), .v (.int .i64 o0_1), .v (.int .i64 o0_2), .v (.int .i64 o0_3), .rd ⟨false, 3, (.int .i64), o0_4⟩, .rd ⟨false, 3, (.int .i64), o0_5⟩]]⟩

abbrev gt_tutorref03_Check_15 {R : Type} (g : List Item → St → Option R) : GT_tutorref03_Check_15 R := fun (i o0 o0_1 o0_2 o0_3 : Int) (o0_4 o0_5 : List Int) => g (at' Tryz.f50 15) (sta_tutorref03_Check_15 i o0 o0_1 o0_2 o0_3 o0_4 o0_5)

abbrev sta_tutorref03_Check_20 (i o0 o0_1 o0_2 o0_3 : Int) (o0_4 o0_5 : List Int) : St := ⟨fr0 123 [(1, .ptr 0 0), (6, .v (.int .i64 i))], [.box 47 [.v (.int .i64 o0), .v (.int .i64 o0_1), .v (.int .i64 o0_2), .v (.int .i64 o0_3), .rd ⟨false, 3, (.int .i64), o0_4⟩, .rd ⟨false, 3, (.int .i64), o0_5⟩]]⟩

abbrev gt_tutorref03_Check_20 {R : Type} (g : List Item → St → Option R) : GT_tutorref03_Check_20 R := fun (i o0 o0_1 o0_2 o0_3 : Int) (o0_4 o0_5 : List Int) => g (at' Tryz.f50 20) (sta_tutorref03_Check_20 i o0 o0_1 o0_2 o0_3 o0_4 o0_5)

theorem gstep_tutorref03_Check_15 {R : Type} (g : List Item → St → Option R) (K : AV → List O → Option R) (i o0 o0_1 o0_2 o0_3 : Int) (o0_4 o0_5 : List Int) :
    runSeg Tryz.prog T_tutorref03_Check cuts_tutorref03_Check 0 g (finish Tryz.prog Tryz.f50 0 K) (at' Tryz.f50 15) (sta_tutorref03_Check_15 i o0 o0_1 o0_2 o0_3 o0_4 o0_5) =
    s_tutorref03_Check_15 (gt_tutorref03_Check_15 g) (gt_tutorref03_Check_20 g) (k0_tutorref03_Check K) i o0 o0_1 o0_2 o0_3 o0_4 o0_5 := by kernel_rfl

theorem gstep_tutorref03_Check_20 {R : Type} (g : List Item → St → Option R) (K : AV → List O → Option R) (i o0 o0_1 o0_2 o0_3 : Int) (o0_4 o0_5 : List Int) :
    runSeg Tryz.prog T_tutorref03_Check cuts_tutorref03_Check 0 g (finish Tryz.prog Tryz.f50 0 K) (at' Tryz.f50 20) (sta_tutorref03_Check_20 i o0 o0_1 o0_2 o0_3 o0_4 o0_5) =
    s_tutorref03_Check_20 (gt_tutorref03_Check_15 g) (gt_tutorref03_Check_20 g) (k0_tutorref03_Check K) i o0 o0_1 o0_2 o0_3 o0_4 o0_5 := by kernel_rfl

theorem gentry_tutorref03_Check {R : Type} (fuel : Nat) (K : AV → List O → Option R) (m m_1 m_2 m_3 : Int) (m_4 m_5 : List Int) :
    fnRun Tryz.prog T_tutorref03_Check cuts_tutorref03_Check Tryz.f50 fuel [.agg [.v (.int .i64 m), .v (.int .i64 m_1), .v (.int .i64 m_2), .v (.int .i64 m_3), .rd ⟨false, 3, (.int .i64), m_4⟩, .rd ⟨false, 3, (.int .i64), m_5⟩]] [] K =
    e_tutorref03_Check (gt_tutorref03_Check_15 (runO Tryz.prog T_tutorref03_Check cuts_tutorref03_Check 0 (finish Tryz.prog Tryz.f50 0 K) fuel)) (gt_tutorref03_Check_20 (runO Tryz.prog T_tutorref03_Check cuts_tutorref03_Check 0 (finish Tryz.prog Tryz.f50 0 K) fuel)) (k0_tutorref03_Check K) m m_1 m_2 m_3 m_4 m_5 := by kernel_rfl

theorem runs_tutorref03_Check {R : Type} (K : AV → List O → Option R) : ∀ fuel : Nat,
    (gt_tutorref03_Check_15 (runO Tryz.prog T_tutorref03_Check cuts_tutorref03_Check 0 (finish Tryz.prog Tryz.f50 0 K) fuel)) = (run_tutorref03_Check (k0_tutorref03_Check K) fuel).1 ∧
    (gt_tutorref03_Check_20 (runO Tryz.prog T_tutorref03_Check cuts_tutorref03_Check 0 (finish Tryz.prog Tryz.f50 0 K) fuel)) = (run_tutorref03_Check (k0_tutorref03_Check K) fuel).2
  | 0 => ⟨rfl, rfl⟩
  | fuel + 1 => by
    have ih := runs_tutorref03_Check K fuel
    refine ⟨?_, ?_⟩
    · funext i o0 o0_1 o0_2 o0_3 o0_4 o0_5
      refine (gstep_tutorref03_Check_15 _ K i o0 o0_1 o0_2 o0_3 o0_4 o0_5).trans ?_
      rw [ih.1, ih.2]
      rfl
    · funext i o0 o0_1 o0_2 o0_3 o0_4 o0_5
      refine (gstep_tutorref03_Check_20 _ K i o0 o0_1 o0_2 o0_3 o0_4 o0_5).trans ?_
      rw [ih.1, ih.2]
      rfl

def S_tutorref03_Check (l_tutorref03_Check : LT_tutorref03_Check) : Sum := ⟨[], fun {R} args ob K => match args, ob with
  | [.agg [.v (.int .i64 m), .v (.int .i64 m_1), .v (.int .i64 m_2), .v (.int .i64 m_3), .rd ⟨false, 3, (.int .i64), m_4⟩, .rd ⟨false, 3, (.int .i64), m_5⟩]], [] => l_tutorref03_Check m m_1 m_2 m_3 m_4 m_5 (k0_tutorref03_Check K)
  | _, _ => none⟩

theorem sound_tutorref03_Check : Sound Tryz.prog 50 (S_tutorref03_Check @l_tutorref03_Check) := by
  refine fn_sound (cuts := cuts_tutorref03_Check) (fn := Tryz.f50) (Γ := T_tutorref03_Check) wide right_T_tutorref03_Check Tryz.func50 fun {R} K r args ob h => ?_
  unfold S_tutorref03_Check at h
  dsimp only at h
  split at h
  · obtain ⟨n, hn⟩ := ok_tutorref03_Check _ _ _ _ _ _ _ h
    refine ⟨Nat.le_of_ble_eq_true (by kernel_rfl), n, (gentry_tutorref03_Check n K _ _ _ _ _ _).trans ?_⟩
    rw [(runs_tutorref03_Check K n).1, (runs_tutorref03_Check K n).2]
    exact hn
  · cases h

theorem call_tutorref03_Check : Callable Tryz.prog 50 := ⟨_, Tryz.func50, by kernel_rfl, by kernel_rfl⟩

def T_tutorref27_alike : FuncId → Option Sum := G0

theorem right_T_tutorref27_alike : Right Tryz.prog T_tutorref27_alike := right_G0

abbrev cuts_tutorref27_alike : Cuts := []

abbrev k0_tutorref27_alike {R : Type} (K : AV → List O → Option R) : Int → Option R := fun r0 => K (.v (.int .i64 r0)) []

theorem gentry_tutorref27_alike {R : Type} (K : AV → List O → Option R) (l l_1 l_2 : Int) (l_3 : List Ent) (m m_1 m_2 m_3 : Int) (m_4 m_5 : List Int) :
    fnRun Tryz.prog T_tutorref27_alike cuts_tutorref27_alike Tryz.f55 0 [.agg [.v (.int .i64 l), .v (.int .i64 l_1), .v (.int .i64 l_2), .rd ⟨false, 53, (.pr (.pr (.int .i64) (.pr (.sl 3 (.int .i64)) (.pr (.int .i64) (.pr (.int .i64) (.pr (.int .i64) (.pr (.int .i64) (.pr (.sl 3 (.int .i64)) (.sl 3 (.int .i64))))))))) (.pr (.int .i64) (.pr (.sl 3 (.int .i64)) (.sl 3 (.int .i64))))), l_3⟩], .agg [.v (.int .i64 m), .v (.int .i64 m_1), .v (.int .i64 m_2), .v (.int .i64 m_3), .rd ⟨false, 3, (.int .i64), m_4⟩, .rd ⟨false, 3, (.int .i64), m_5⟩]] [] K =
    l_tutorref27_alike l l_1 l_2 l_3 m m_1 m_2 m_3 m_4 m_5 (k0_tutorref27_alike K) := by kernel_rfl

def S_tutorref27_alike (l_tutorref27_alike : LT_tutorref27_alike) : Sum := ⟨[], fun {R} args ob K => match args, ob with
  | [.agg [.v (.int .i64 l), .v (.int .i64 l_1), .v (.int .i64 l_2), .rd ⟨false, 53, (.pr (.pr (.int .i64) (.pr (.sl 3 (.int .i64)) (.pr (.int .i64) (.pr (.int .i64) (.pr (.int .i64) (.pr (.int .i64) (.pr (.sl 3 (.int .i64)) (.sl 3 (.int .i64))))))))) (.pr (.int .i64) (.pr (.sl 3 (.int .i64)) (.sl 3 (.int .i64))))), l_3⟩], .agg [.v (.int .i64 m), .v (.int .i64 m_1), .v (.int .i64 m_2), .v (.int .i64 m_3), .rd ⟨false, 3, (.int .i64), m_4⟩, .rd ⟨false, 3, (.int .i64), m_5⟩]], [] => l_tutorref27_alike l l_1 l_2 l_3 m m_1 m_2 m_3 m_4 m_5 (k0_tutorref27_alike K)
  | _, _ => none⟩

theorem sound_tutorref27_alike : Sound Tryz.prog 55 (S_tutorref27_alike @l_tutorref27_alike) := by
  refine fn_sound (cuts := cuts_tutorref27_alike) (fn := Tryz.f55) (Γ := T_tutorref27_alike) wide right_T_tutorref27_alike Tryz.func55 fun {R} K r args ob h => ?_
  unfold S_tutorref27_alike at h
  dsimp only at h
  split at h
  · exact ⟨Nat.le_of_ble_eq_true (by kernel_rfl), 0, (gentry_tutorref27_alike K _ _ _ _ _ _ _ _ _ _).trans h⟩
  · cases h

theorem call_tutorref27_alike : Callable Tryz.prog 55 := ⟨_, Tryz.func55, by kernel_rfl, by kernel_rfl⟩

def T_tutorref27_fault (a0 : LT_tutorref10_Check) (a1 : LT_tutorref01_Check) (a2 : LT_tutorref27_alike) (a3 : LT_tutorref03_Check) : FuncId → Option Sum := (addS (addS (addS (addS G0 58 (S_tutorref10_Check @a0)) 57 (S_tutorref01_Check @a1)) 55 (S_tutorref27_alike @a2)) 50 (S_tutorref03_Check @a3))

abbrev C_tutorref27_fault : FuncId → Option Sum := T_tutorref27_fault @l_tutorref10_Check @l_tutorref01_Check @l_tutorref27_alike @l_tutorref03_Check

theorem right_T_tutorref27_fault : Right Tryz.prog C_tutorref27_fault := (right_add (right_add (right_add (right_add right_G0 call_tutorref10_Check sound_tutorref10_Check) call_tutorref01_Check sound_tutorref01_Check) call_tutorref27_alike sound_tutorref27_alike) call_tutorref03_Check sound_tutorref03_Check)

abbrev cuts_tutorref27_fault : Cuts := []

abbrev k0_tutorref27_fault {R : Type} (K : AV → List O → Option R) : Int → Option R := fun r0 => K (.v (.int .i64 r0)) []

theorem gentry_tutorref27_fault {a0 : LT_tutorref10_Check} {a1 : LT_tutorref01_Check} {a2 : LT_tutorref27_alike} {a3 : LT_tutorref03_Check} {R : Type} (K : AV → List O → Option R) (l l_1 l_2 : Int) (l_3 : List Ent) (x : Int) (x_1 : List Int) (x_2 x_3 x_4 x_5 : Int) (x_6 x_7 : List Int) (x_8 : Int) (x_9 x_10 : List Int) :
    fnRun Tryz.prog (T_tutorref27_fault @a0 @a1 @a2 @a3) cuts_tutorref27_fault Tryz.f35 0 [.agg [.v (.int .i64 l), .v (.int .i64 l_1), .v (.int .i64 l_2), .rd ⟨false, 53, (.pr (.pr (.int .i64) (.pr (.sl 3 (.int .i64)) (.pr (.int .i64) (.pr (.int .i64) (.pr (.int .i64) (.pr (.int .i64) (.pr (.sl 3 (.int .i64)) (.sl 3 (.int .i64))))))))) (.pr (.int .i64) (.pr (.sl 3 (.int .i64)) (.sl 3 (.int .i64))))), l_3⟩], .agg [.v (.int .i64 x), .rd ⟨false, 3, (.int .i64), x_1⟩, .v (.int .i64 x_2), .v (.int .i64 x_3), .v (.int .i64 x_4), .v (.int .i64 x_5), .rd ⟨false, 3, (.int .i64), x_6⟩, .rd ⟨false, 3, (.int .i64), x_7⟩, .v (.int .i64 x_8), .rd ⟨false, 3, (.int .i64), x_9⟩, .rd ⟨false, 3, (.int .i64), x_10⟩]] [] K =
    gl_tutorref27_fault @a0 @a1 @a2 @a3 l l_1 l_2 l_3 x x_1 x_2 x_3 x_4 x_5 x_6 x_7 x_8 x_9 x_10 (k0_tutorref27_fault K) := by kernel_rfl

def S_tutorref27_fault (l_tutorref27_fault : LT_tutorref27_fault) : Sum := ⟨[], fun {R} args ob K => match args, ob with
  | [.agg [.v (.int .i64 l), .v (.int .i64 l_1), .v (.int .i64 l_2), .rd ⟨false, 53, (.pr (.pr (.int .i64) (.pr (.sl 3 (.int .i64)) (.pr (.int .i64) (.pr (.int .i64) (.pr (.int .i64) (.pr (.int .i64) (.pr (.sl 3 (.int .i64)) (.sl 3 (.int .i64))))))))) (.pr (.int .i64) (.pr (.sl 3 (.int .i64)) (.sl 3 (.int .i64))))), l_3⟩], .agg [.v (.int .i64 x), .rd ⟨false, 3, (.int .i64), x_1⟩, .v (.int .i64 x_2), .v (.int .i64 x_3), .v (.int .i64 x_4), .v (.int .i64 x_5), .rd ⟨false, 3, (.int .i64), x_6⟩, .rd ⟨false, 3, (.int .i64), x_7⟩, .v (.int .i64 x_8), .rd ⟨false, 3, (.int .i64), x_9⟩, .rd ⟨false, 3, (.int .i64), x_10⟩]], [] => l_tutorref27_fault l l_1 l_2 l_3 x x_1 x_2 x_3 x_4 x_5 x_6 x_7 x_8 x_9 x_10 (k0_tutorref27_fault K)
  | _, _ => none⟩

theorem sound_tutorref27_fault : Sound Tryz.prog 35 (S_tutorref27_fault @l_tutorref27_fault) := by
  refine fn_sound (cuts := cuts_tutorref27_fault) (fn := Tryz.f35) (Γ := C_tutorref27_fault) wide right_T_tutorref27_fault Tryz.func35 fun {R} K r args ob h => ?_
  unfold S_tutorref27_fault at h
  dsimp only at h
  split at h
  · exact ⟨Nat.le_of_ble_eq_true (by kernel_rfl), 0, (gentry_tutorref27_fault K _ _ _ _ _ _ _ _ _ _ _ _ _ _ _).trans h⟩
  · cases h

theorem call_tutorref27_fault : Callable Tryz.prog 35 := ⟨_, Tryz.func35, by kernel_rfl, by kernel_rfl⟩

def T_tutorref27_Check (a0 : LT_tutorref27_fault) : FuncId → Option Sum := (addS G0 35 (S_tutorref27_fault @a0))

abbrev C_tutorref27_Check : FuncId → Option Sum := T_tutorref27_Check @l_tutorref27_fault

theorem right_T_tutorref27_Check : Right Tryz.prog C_tutorref27_Check := (right_add right_G0 call_tutorref27_fault sound_tutorref27_fault)

abbrev cuts_tutorref27_Check : Cuts := [(10, [1, 4])]

abbrev k0_tutorref27_Check {R : Type} (K : AV → List O → Option R) : Int → Int → Option R := fun r0 r1 => K (.tup [.v (.int .i64 r0), .v (.int .i64 r1)]) []

abbrev sta_tutorref27_Check_10 (i o0 o0_1 o0_2 : Int) (o0_3 : List Ent) : St := ⟨fr0 65 [(1, .ptr 0 0), (4, .v (.int .i64 i))], [.box 24 [.v (.int .i64 o0), .v (.int .i64 o0_1), .v (.int .i64 o0_2), .rd ⟨false, 53, (.pr (.pr (.int .i64) (.pr (.sl 3 (.int .i64)) (.pr (.int .i64) (.pr (.int .i64) (.pr (.int .i64) (.pr (.int .i64) (.pr (.sl 3 (.int .i64)) (.sl 3 (.int .i64))))))))) (.pr (.int .i64) (.pr (.sl 3 (.int .i64)) (.sl 3 (.int .i64))))), o0_3⟩]]⟩

abbrev gt_tutorref27_Check_10 {R : Type} (g : List Item → St → Option R) : GT_tutorref27_Check_10 R := fun (i o0 o0_1 o0_2 : Int) (o0_3 : List Ent) => g (at' Tryz.f13 10) (sta_tutorref27_Check_10 i o0 o0_1 o0_2 o0_3)

theorem gstep_tutorref27_Check_10 {a0 : LT_tutorref27_fault} {R : Type} (g : List Item → St → Option R) (K : AV → List O → Option R) (i o0 o0_1 o0_2 : Int) (o0_3 : List Ent) :
    runSeg Tryz.prog (T_tutorref27_Check @a0) cuts_tutorref27_Check 0 g (finish Tryz.prog Tryz.f13 0 K) (at' Tryz.f13 10) (sta_tutorref27_Check_10 i o0 o0_1 o0_2 o0_3) =
    gs_tutorref27_Check_10 @a0 (gt_tutorref27_Check_10 g) (k0_tutorref27_Check K) i o0 o0_1 o0_2 o0_3 := by kernel_rfl

theorem gentry_tutorref27_Check {a0 : LT_tutorref27_fault} {R : Type} (fuel : Nat) (K : AV → List O → Option R) (l l_1 l_2 : Int) (l_3 : List Ent) :
    fnRun Tryz.prog (T_tutorref27_Check @a0) cuts_tutorref27_Check Tryz.f13 fuel [.agg [.v (.int .i64 l), .v (.int .i64 l_1), .v (.int .i64 l_2), .rd ⟨false, 53, (.pr (.pr (.int .i64) (.pr (.sl 3 (.int .i64)) (.pr (.int .i64) (.pr (.int .i64) (.pr (.int .i64) (.pr (.int .i64) (.pr (.sl 3 (.int .i64)) (.sl 3 (.int .i64))))))))) (.pr (.int .i64) (.pr (.sl 3 (.int .i64)) (.sl 3 (.int .i64))))), l_3⟩]] [] K =
    ge_tutorref27_Check @a0 (gt_tutorref27_Check_10 (runO Tryz.prog (T_tutorref27_Check @a0) cuts_tutorref27_Check 0 (finish Tryz.prog Tryz.f13 0 K) fuel)) (k0_tutorref27_Check K) l l_1 l_2 l_3 := by kernel_rfl

theorem runs_tutorref27_Check {R : Type} (K : AV → List O → Option R) : ∀ fuel : Nat,
    (gt_tutorref27_Check_10 (runO Tryz.prog C_tutorref27_Check cuts_tutorref27_Check 0 (finish Tryz.prog Tryz.f13 0 K) fuel)) = (run_tutorref27_Check (k0_tutorref27_Check K) fuel)
  | 0 => rfl
  | fuel + 1 => by
    have ih := runs_tutorref27_Check K fuel
    funext i o0 o0_1 o0_2 o0_3
    refine (gstep_tutorref27_Check_10 _ K i o0 o0_1 o0_2 o0_3).trans ?_
    rw [ih]
    rfl

def S_tutorref27_Check (l_tutorref27_Check : LT_tutorref27_Check) : Sum := ⟨[], fun {R} args ob K => match args, ob with
  | [.agg [.v (.int .i64 l), .v (.int .i64 l_1), .v (.int .i64 l_2), .rd ⟨false, 53, (.pr (.pr (.int .i64) (.pr (.sl 3 (.int .i64)) (.pr (.int .i64) (.pr (.int .i64) (.pr (.int .i64) (.pr (.int .i64) (.pr (.sl 3 (.int .i64)) (.sl 3 (.int .i64))))))))) (.pr (.int .i64) (.pr (.sl 3 (.int .i64)) (.sl 3 (.int .i64))))), l_3⟩]], [] => l_tutorref27_Check l l_1 l_2 l_3 (k0_tutorref27_Check K)
  | _, _ => none⟩

theorem sound_tutorref27_Check : Sound Tryz.prog 13 (S_tutorref27_Check @l_tutorref27_Check) := by
  refine fn_sound (cuts := cuts_tutorref27_Check) (fn := Tryz.f13) (Γ := C_tutorref27_Check) wide right_T_tutorref27_Check Tryz.func13 fun {R} K r args ob h => ?_
  unfold S_tutorref27_Check at h
  dsimp only at h
  split at h
  · obtain ⟨n, hn⟩ := evl_ok h
    refine ⟨Nat.le_of_ble_eq_true (by kernel_rfl), n, (gentry_tutorref27_Check n K _ _ _ _).trans ?_⟩
    rw [(runs_tutorref27_Check K n)]
    exact hn
  · cases h

theorem call_tutorref27_Check : Callable Tryz.prog 13 := ⟨_, Tryz.func13, by kernel_rfl, by kernel_rfl⟩

def T_tutorlaw27_LogChecks (a0 : LT_tutorlaw27_live) (a1 : LT_tutorlaw27_num) (a2 : LT_tutorref27_Check) (a3 : LT_log_Check) (a4 : LT_tutorref27_Big) : FuncId → Option Sum := (addS (addS (addS (addS (addS G0 11 (S_tutorlaw27_live @a0)) 14 (S_tutorlaw27_num @a1)) 13 (S_tutorref27_Check @a2)) 12 (S_log_Check @a3)) 10 (S_tutorref27_Big @a4))

abbrev C_tutorlaw27_LogChecks : FuncId → Option Sum := T_tutorlaw27_LogChecks @l_tutorlaw27_live @l_tutorlaw27_num @l_tutorref27_Check @l_log_Check @l_tutorref27_Big

theorem right_T_tutorlaw27_LogChecks : Right Tryz.prog C_tutorlaw27_LogChecks := (right_add (right_add (right_add (right_add (right_add right_G0 call_tutorlaw27_live sound_tutorlaw27_live) call_tutorlaw27_num sound_tutorlaw27_num) call_tutorref27_Check sound_tutorref27_Check) call_log_Check sound_log_Check) call_tutorref27_Big sound_tutorref27_Big)

abbrev cuts_tutorlaw27_LogChecks : Cuts := []

abbrev k0_tutorlaw27_LogChecks {R : Type} (K : AV → List O → Option R) : Bool → Option R := fun r0 => K (.v (.bool r0)) []

theorem gentry_tutorlaw27_LogChecks {a0 : LT_tutorlaw27_live} {a1 : LT_tutorlaw27_num} {a2 : LT_tutorref27_Check} {a3 : LT_log_Check} {a4 : LT_tutorref27_Big} {R : Type} (K : AV → List O → Option R) (l l_1 l_2 : Int) (l_3 : List Ent) :
    fnRun Tryz.prog (T_tutorlaw27_LogChecks @a0 @a1 @a2 @a3 @a4) cuts_tutorlaw27_LogChecks Tryz.f3 0 [.agg [.v (.int .i64 l), .v (.int .i64 l_1), .v (.int .i64 l_2), .rd ⟨false, 53, (.pr (.pr (.int .i64) (.pr (.sl 3 (.int .i64)) (.pr (.int .i64) (.pr (.int .i64) (.pr (.int .i64) (.pr (.int .i64) (.pr (.sl 3 (.int .i64)) (.sl 3 (.int .i64))))))))) (.pr (.int .i64) (.pr (.sl 3 (.int .i64)) (.sl 3 (.int .i64))))), l_3⟩]] [] K =
    gl_tutorlaw27_LogChecks @a0 @a1 @a2 @a3 @a4 l l_1 l_2 l_3 (k0_tutorlaw27_LogChecks K) := by kernel_rfl

def S_tutorlaw27_LogChecks (l_tutorlaw27_LogChecks : LT_tutorlaw27_LogChecks) : Sum := ⟨[], fun {R} args ob K => match args, ob with
  | [.agg [.v (.int .i64 l), .v (.int .i64 l_1), .v (.int .i64 l_2), .rd ⟨false, 53, (.pr (.pr (.int .i64) (.pr (.sl 3 (.int .i64)) (.pr (.int .i64) (.pr (.int .i64) (.pr (.int .i64) (.pr (.int .i64) (.pr (.sl 3 (.int .i64)) (.sl 3 (.int .i64))))))))) (.pr (.int .i64) (.pr (.sl 3 (.int .i64)) (.sl 3 (.int .i64))))), l_3⟩]], [] => l_tutorlaw27_LogChecks l l_1 l_2 l_3 (k0_tutorlaw27_LogChecks K)
  | _, _ => none⟩

theorem sound_tutorlaw27_LogChecks : Sound Tryz.prog 3 (S_tutorlaw27_LogChecks @l_tutorlaw27_LogChecks) := by
  refine fn_sound (cuts := cuts_tutorlaw27_LogChecks) (fn := Tryz.f3) (Γ := C_tutorlaw27_LogChecks) wide right_T_tutorlaw27_LogChecks Tryz.func3 fun {R} K r args ob h => ?_
  unfold S_tutorlaw27_LogChecks at h
  dsimp only at h
  split at h
  · exact ⟨Nat.le_of_ble_eq_true (by kernel_rfl), 0, (gentry_tutorlaw27_LogChecks K _ _ _ _).trans h⟩
  · cases h

theorem call_tutorlaw27_LogChecks : Callable Tryz.prog 3 := ⟨_, Tryz.func3, by kernel_rfl, by kernel_rfl⟩

end
end Go.Ev
