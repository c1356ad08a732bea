/- Each function of the program is its tree. -/
import Derived.Test.YtbgggblbkknaoaaDoorProg
import Derived.Test.YtbgggblbkknaoaaDoorEvFn
import Derived.Test.YtbgggblbkknaoaaDoorEvTabs
import Derived.Test.YtbgggblbkknaoaaDoorEvLay8
import Derived.Test.YtbgggblbkknaoaaDoorEvExpA
import Derived.Test.YtbgggblbkknaoaaDoorEvExpB
import Derived.Test.YtbgggblbkknaoaaDoorEvExpC
import Derived.Test.YtbgggblbkknaoaaDoorEvExpD
import Derived.Test.YtbgggblbkknaoaaDoorEvExpE
import Derived.Test.YtbgggblbkknaoaaDoorEvAs8
import Derived.Test.YtbgggblbkknaoaaDoorEvAsE
import Derived.Test.YtbgggblbkknaoaaDoorTextThereWalkA
namespace Go.Ev
open Go.Proofs
noncomputable section
set_option linter.unusedVariables false
set_option linter.unusedSimpArgs false
set_option maxRecDepth 100000
set_option maxHeartbeats 4000000

variable [TabG] [TabsHold Tryd.prog] [CellHold ⟨0, 0, none⟩ (.iface 130 (.agg #[.pointer (some ⟨5, 63, none⟩)]))]
set_option linter.unusedSectionVars false


theorem gstep_text_reader_read_none_25a (l_text_reader_want_none : {R : Type} → ByteArray → (List Int) → Int → ((List Int) → Int → Int → Int → Option R) → ((List Int) → Int → Option R) → Option R) (l_text_reader_want_fault : {R : Type} → ByteArray → (List Int) → Int → Int → Int → ((List Int) → Int → Int → Int → Option R) → Option R) (l_text_reader_number_fault : {R : Type} → Int → Int → Int → (List Int) → Int → Int → Int → (Int → (List Int) → Int → Int → Int → Option R) → Option R) (l_text_reader_number_none : {R : Type} → Int → Int → Int → (List Int) → Int → (Int → (List Int) → Int → Int → Int → Option R) → (Int → (List Int) → Int → Option R) → Option R) {R : Type} (g : List Item → St → Option R) (K : AV → List O → Option R) (s : Int) (x : Int) (o0 : List Int) (o0_1 : Int) (o1 : Int) (o1_1 : Int) (o2 : Int) (o2_1 : Int) (o2_2 : Int) (o2_3 : Int) (o3 : List Int) (o4 : List Int) (o5 : Int) (o5_1 : Int) (o5_2 : Int) (o5_3 : Int) (o6 : List Int) (o7 : List Int) :
    runSeg Tryd.prog (T_text_reader_read @l_text_reader_want_none @l_text_reader_want_fault @l_text_reader_number_fault @l_text_reader_number_none) cuts_text_reader_read_none 1 g (finish Tryd.prog Tryd.f38 1 K) (at' Tryd.f38 25) ⟨fr0 151 [(0, .ptr 0 0), (2, .ptr 2 0), (3, .ptr 5 0), (4, .bnd 49 [.ptr 0 0]), (5, .bnd 50 [.ptr 0 0]), (6, .v (.int .i64 s)), (7, .v (.int .i64 x))], [.box 77 [.rd ⟨false, 5, (.int .u8), o0⟩, .v (.int .i64 o0_1), .ifc 79 (.ptr 1 0)], .box 83 [.v (.int .i64 o1), .v (.int .i64 o1_1)], .box 24 [.v (.int .i64 o2), .v (.int .i64 o2_1), .v (.int .i64 o2_2), .v (.int .i64 o2_3), .own 3, .own 4], .row ⟨true, 3, (.int .i64), o3⟩, .row ⟨true, 3, (.int .i64), o4⟩, .box 24 [.v (.int .i64 o5), .v (.int .i64 o5_1), .v (.int .i64 o5_2), .v (.int .i64 o5_3), .own 6, .own 7], .row ⟨true, 3, (.int .i64), o6⟩, .row ⟨true, 3, (.int .i64), o7⟩]⟩ =
    (fun (g38_15 : Int → (List Int) → Int → Int → Int → Int → Int → Int → Int → (List Int) → (List Int) → Int → Int → Int → Int → (List Int) → (List Int) → Option R) (g38_15b : Int → (List Int) → Int → Int → Int → Int → Int → (List Int) → (List Int) → Int → Int → Int → Int → (List Int) → (List Int) → Option R) (g38_19 : Int → (List Int) → Int → Int → Int → Int → Int → Int → Int → (List Int) → (List Int) → Int → Int → Int → Int → (List Int) → (List Int) → Option R) (g38_19b : Int → (List Int) → Int → Int → Int → Int → Int → (List Int) → (List Int) → Int → Int → Int → Int → (List Int) → (List Int) → Option R) (g38_20 : Int → Int → (List Int) → Int → Int → Int → Int → Int → Int → Int → (List Int) → (List Int) → Int → Int → Int → Int → (List Int) → (List Int) → Option R) (g38_20b : Int → Int → (List Int) → Int → Int → Int → Int → Int → (List Int) → (List Int) → Int → Int → Int → Int → (List Int) → (List Int) → Option R) (g38_25 : Int → Int → (List Int) → Int → Int → Int → Int → Int → Int → Int → (List Int) → (List Int) → Int → Int → Int → Int → (List Int) → (List Int) → Option R) (g38_25b : Int → Int → (List Int) → Int → Int → Int → Int → Int → (List Int) → (List Int) → Int → Int → Int → Int → (List Int) → (List Int) → Option R) (g38_21 : Int → Int → (List Int) → Int → Int → Int → Int → Int → Int → Int → (List Int) → (List Int) → Int → Int → Int → Int → (List Int) → (List Int) → Option R) (g38_21b : Int → Int → (List Int) → Int → Int → Int → Int → Int → (List Int) → (List Int) → Int → Int → Int → Int → (List Int) → (List Int) → Option R) (K0 : Int → Int → Int → Int → (List Int) → Int → Int → Int → (List Int) → (List Int) → Option R) (K1 : Int → Int → Int → Int → (List Int) → Int → (List Int) → (List Int) → Option R) (s : Int) (x : Int) (o0 : List Int) (o0_1 : Int) (o1 : Int) (o1_1 : Int) (o2 : Int) (o2_1 : Int) (o2_2 : Int) (o2_3 : Int) (o3 : List Int) (o4 : List Int) (o5 : Int) (o5_1 : Int) (o5_2 : Int) (o5_3 : Int) (o6 : List Int) (o7 : List Int) =>
    bi (o5 == 2)
     (l_text_reader_want_fault (ByteArray.mk #[47]) o0 o0_1 o1 o1_1
      (fun r366 r367 r368 r369 =>
       both
        (l_text_reader_number_fault 0 (IntKind.i64.wrap (o5_2 - 1)) 33 r366 r367 r368 r369
         (fun r370 r371 r372 r373 r374 =>
          bi (decide ((o7.length + [r370].length) * 8 ≤ lim))
           (g38_21 s x r371 r372 r373 r374 o2 o2_1 o2_2 o2_3 o3 o4 o5 o5_1 o5_2 o5_3 o6 (o7 ++ [r370]))
           none))
        (l_text_reader_number_fault 0 (IntKind.i64.wrap (o5_2 - 1)) 33 r366 r367 r368 r369
         (fun r370 r371 r372 r373 r374 =>
          twice
           (bi (decide ((o7.length + [r370].length) * 8 ≤ lim))
            (g38_21 s x r371 r372 r373 r374 o2 o2_1 o2_2 o2_3 o3 o4 o5 o5_1 o5_2 o5_3 o6 (o7 ++ [r370]))
            none)))))
     (g38_21 s x o0 o0_1 o1 o1_1 o2 o2_1 o2_2 o2_3 o3 o4 o5 o5_1 o5_2 o5_3 o6 o7)) (fun s o0 o0_1 o1 o1_1 o2 o2_1 o2_2 o2_3 o3 o4 o5 o5_1 o5_2 o5_3 o6 o7 => g (at' Tryd.f38 15) ⟨fr0 151 [(0, .ptr 0 0), (2, .ptr 2 0), (3, .ptr 5 0), (4, .bnd 49 [.ptr 0 0]), (5, .bnd 50 [.ptr 0 0]), (6, .v (.int .i64 s))], [.box 77 [.rd ⟨false, 5, (.int .u8), o0⟩, .v (.int .i64 o0_1), .ifc 79 (.ptr 1 0)], .box 83 [.v (.int .i64 o1), .v (.int .i64 o1_1)], .box 24 [.v (.int .i64 o2), .v (.int .i64 o2_1), .v (.int .i64 o2_2), .v (.int .i64 o2_3), .own 3, .own 4], .row ⟨true, 3, (.int .i64), o3⟩, .row ⟨true, 3, (.int .i64), o4⟩, .box 24 [.v (.int .i64 o5), .v (.int .i64 o5_1), .v (.int .i64 o5_2), .v (.int .i64 o5_3), .own 6, .own 7], .row ⟨true, 3, (.int .i64), o6⟩, .row ⟨true, 3, (.int .i64), o7⟩]⟩) (fun s o0 o0_1 o1 o1_1 o1_2 o1_3 o2 o3 o4 o4_1 o4_2 o4_3 o5 o6 => g (at' Tryd.f38 15) ⟨fr0 151 [(0, .ptr 0 0), (2, .ptr 1 0), (3, .ptr 4 0), (4, .bnd 49 [.ptr 0 0]), (5, .bnd 50 [.ptr 0 0]), (6, .v (.int .i64 s))], [.box 77 [.rd ⟨false, 5, (.int .u8), o0⟩, .v (.int .i64 o0_1), .v (.nilIface)], .box 24 [.v (.int .i64 o1), .v (.int .i64 o1_1), .v (.int .i64 o1_2), .v (.int .i64 o1_3), .own 2, .own 3], .row ⟨true, 3, (.int .i64), o2⟩, .row ⟨true, 3, (.int .i64), o3⟩, .box 24 [.v (.int .i64 o4), .v (.int .i64 o4_1), .v (.int .i64 o4_2), .v (.int .i64 o4_3), .own 5, .own 6], .row ⟨true, 3, (.int .i64), o5⟩, .row ⟨true, 3, (.int .i64), o6⟩]⟩) (fun s o0 o0_1 o1 o1_1 o2 o2_1 o2_2 o2_3 o3 o4 o5 o5_1 o5_2 o5_3 o6 o7 => g (at' Tryd.f38 19) ⟨fr0 151 [(0, .ptr 0 0), (2, .ptr 2 0), (3, .ptr 5 0), (4, .bnd 49 [.ptr 0 0]), (5, .bnd 50 [.ptr 0 0]), (6, .v (.int .i64 s))], [.box 77 [.rd ⟨false, 5, (.int .u8), o0⟩, .v (.int .i64 o0_1), .ifc 79 (.ptr 1 0)], .box 83 [.v (.int .i64 o1), .v (.int .i64 o1_1)], .box 24 [.v (.int .i64 o2), .v (.int .i64 o2_1), .v (.int .i64 o2_2), .v (.int .i64 o2_3), .own 3, .own 4], .row ⟨true, 3, (.int .i64), o3⟩, .row ⟨true, 3, (.int .i64), o4⟩, .box 24 [.v (.int .i64 o5), .v (.int .i64 o5_1), .v (.int .i64 o5_2), .v (.int .i64 o5_3), .own 6, .own 7], .row ⟨true, 3, (.int .i64), o6⟩, .row ⟨true, 3, (.int .i64), o7⟩]⟩) (fun s o0 o0_1 o1 o1_1 o1_2 o1_3 o2 o3 o4 o4_1 o4_2 o4_3 o5 o6 => g (at' Tryd.f38 19) ⟨fr0 151 [(0, .ptr 0 0), (2, .ptr 1 0), (3, .ptr 4 0), (4, .bnd 49 [.ptr 0 0]), (5, .bnd 50 [.ptr 0 0]), (6, .v (.int .i64 s))], [.box 77 [.rd ⟨false, 5, (.int .u8), o0⟩, .v (.int .i64 o0_1), .v (.nilIface)], .box 24 [.v (.int .i64 o1), .v (.int .i64 o1_1), .v (.int .i64 o1_2), .v (.int .i64 o1_3), .own 2, .own 3], .row ⟨true, 3, (.int .i64), o2⟩, .row ⟨true, 3, (.int .i64), o3⟩, .box 24 [.v (.int .i64 o4), .v (.int .i64 o4_1), .v (.int .i64 o4_2), .v (.int .i64 o4_3), .own 5, .own 6], .row ⟨true, 3, (.int .i64), o5⟩, .row ⟨true, 3, (.int .i64), o6⟩]⟩) (fun s x o0 o0_1 o1 o1_1 o2 o2_1 o2_2 o2_3 o3 o4 o5 o5_1 o5_2 o5_3 o6 o7 => g (at' Tryd.f38 20) ⟨fr0 151 [(0, .ptr 0 0), (2, .ptr 2 0), (3, .ptr 5 0), (4, .bnd 49 [.ptr 0 0]), (5, .bnd 50 [.ptr 0 0]), (6, .v (.int .i64 s)), (7, .v (.int .i64 x))], [.box 77 [.rd ⟨false, 5, (.int .u8), o0⟩, .v (.int .i64 o0_1), .ifc 79 (.ptr 1 0)], .box 83 [.v (.int .i64 o1), .v (.int .i64 o1_1)], .box 24 [.v (.int .i64 o2), .v (.int .i64 o2_1), .v (.int .i64 o2_2), .v (.int .i64 o2_3), .own 3, .own 4], .row ⟨true, 3, (.int .i64), o3⟩, .row ⟨true, 3, (.int .i64), o4⟩, .box 24 [.v (.int .i64 o5), .v (.int .i64 o5_1), .v (.int .i64 o5_2), .v (.int .i64 o5_3), .own 6, .own 7], .row ⟨true, 3, (.int .i64), o6⟩, .row ⟨true, 3, (.int .i64), o7⟩]⟩) (fun s x o0 o0_1 o1 o1_1 o1_2 o1_3 o2 o3 o4 o4_1 o4_2 o4_3 o5 o6 => g (at' Tryd.f38 20) ⟨fr0 151 [(0, .ptr 0 0), (2, .ptr 1 0), (3, .ptr 4 0), (4, .bnd 49 [.ptr 0 0]), (5, .bnd 50 [.ptr 0 0]), (6, .v (.int .i64 s)), (7, .v (.int .i64 x))], [.box 77 [.rd ⟨false, 5, (.int .u8), o0⟩, .v (.int .i64 o0_1), .v (.nilIface)], .box 24 [.v (.int .i64 o1), .v (.int .i64 o1_1), .v (.int .i64 o1_2), .v (.int .i64 o1_3), .own 2, .own 3], .row ⟨true, 3, (.int .i64), o2⟩, .row ⟨true, 3, (.int .i64), o3⟩, .box 24 [.v (.int .i64 o4), .v (.int .i64 o4_1), .v (.int .i64 o4_2), .v (.int .i64 o4_3), .own 5, .own 6], .row ⟨true, 3, (.int .i64), o5⟩, .row ⟨true, 3, (.int .i64), o6⟩]⟩) (fun s x o0 o0_1 o1 o1_1 o2 o2_1 o2_2 o2_3 o3 o4 o5 o5_1 o5_2 o5_3 o6 o7 => g (at' Tryd.f38 25) ⟨fr0 151 [(0, .ptr 0 0), (2, .ptr 2 0), (3, .ptr 5 0), (4, .bnd 49 [.ptr 0 0]), (5, .bnd 50 [.ptr 0 0]), (6, .v (.int .i64 s)), (7, .v (.int .i64 x))], [.box 77 [.rd ⟨false, 5, (.int .u8), o0⟩, .v (.int .i64 o0_1), .ifc 79 (.ptr 1 0)], .box 83 [.v (.int .i64 o1), .v (.int .i64 o1_1)], .box 24 [.v (.int .i64 o2), .v (.int .i64 o2_1), .v (.int .i64 o2_2), .v (.int .i64 o2_3), .own 3, .own 4], .row ⟨true, 3, (.int .i64), o3⟩, .row ⟨true, 3, (.int .i64), o4⟩, .box 24 [.v (.int .i64 o5), .v (.int .i64 o5_1), .v (.int .i64 o5_2), .v (.int .i64 o5_3), .own 6, .own 7], .row ⟨true, 3, (.int .i64), o6⟩, .row ⟨true, 3, (.int .i64), o7⟩]⟩) (fun s x o0 o0_1 o1 o1_1 o1_2 o1_3 o2 o3 o4 o4_1 o4_2 o4_3 o5 o6 => g (at' Tryd.f38 25) ⟨fr0 151 [(0, .ptr 0 0), (2, .ptr 1 0), (3, .ptr 4 0), (4, .bnd 49 [.ptr 0 0]), (5, .bnd 50 [.ptr 0 0]), (6, .v (.int .i64 s)), (7, .v (.int .i64 x))], [.box 77 [.rd ⟨false, 5, (.int .u8), o0⟩, .v (.int .i64 o0_1), .v (.nilIface)], .box 24 [.v (.int .i64 o1), .v (.int .i64 o1_1), .v (.int .i64 o1_2), .v (.int .i64 o1_3), .own 2, .own 3], .row ⟨true, 3, (.int .i64), o2⟩, .row ⟨true, 3, (.int .i64), o3⟩, .box 24 [.v (.int .i64 o4), .v (.int .i64 o4_1), .v (.int .i64 o4_2), .v (.int .i64 o4_3), .own 5, .own 6], .row ⟨true, 3, (.int .i64), o5⟩, .row ⟨true, 3, (.int .i64), o6⟩]⟩) (fun s x o0 o0_1 o1 o1_1 o2 o2_1 o2_2 o2_3 o3 o4 o5 o5_1 o5_2 o5_3 o6 o7 => g (at' Tryd.f38 21) ⟨fr0 151 [(0, .ptr 0 0), (2, .ptr 2 0), (3, .ptr 5 0), (4, .bnd 49 [.ptr 0 0]), (5, .bnd 50 [.ptr 0 0]), (6, .v (.int .i64 s)), (7, .v (.int .i64 x))], [.box 77 [.rd ⟨false, 5, (.int .u8), o0⟩, .v (.int .i64 o0_1), .ifc 79 (.ptr 1 0)], .box 83 [.v (.int .i64 o1), .v (.int .i64 o1_1)], .box 24 [.v (.int .i64 o2), .v (.int .i64 o2_1), .v (.int .i64 o2_2), .v (.int .i64 o2_3), .own 3, .own 4], .row ⟨true, 3, (.int .i64), o3⟩, .row ⟨true, 3, (.int .i64), o4⟩, .box 24 [.v (.int .i64 o5), .v (.int .i64 o5_1), .v (.int .i64 o5_2), .v (.int .i64 o5_3), .own 6, .own 7], .row ⟨true, 3, (.int .i64), o6⟩, .row ⟨true, 3, (.int .i64), o7⟩]⟩) (fun s x o0 o0_1 o1 o1_1 o1_2 o1_3 o2 o3 o4 o4_1 o4_2 o4_3 o5 o6 => g (at' Tryd.f38 21) ⟨fr0 151 [(0, .ptr 0 0), (2, .ptr 1 0), (3, .ptr 4 0), (4, .bnd 49 [.ptr 0 0]), (5, .bnd 50 [.ptr 0 0]), (6, .v (.int .i64 s)), (7, .v (.int .i64 x))], [.box 77 [.rd ⟨false, 5, (.int .u8), o0⟩, .v (.int .i64 o0_1), .v (.nilIface)], .box 24 [.v (.int .i64 o1), .v (.int .i64 o1_1), .v (.int .i64 o1_2), .v (.int .i64 o1_3), .own 2, .own 3], .row ⟨true, 3, (.int .i64), o2⟩, .row ⟨true, 3, (.int .i64), o3⟩, .box 24 [.v (.int .i64 o4), .v (.int .i64 o4_1), .v (.int .i64 o4_2), .v (.int .i64 o4_3), .own 5, .own 6], .row ⟨true, 3, (.int .i64), o5⟩, .row ⟨true, 3, (.int .i64), o6⟩]⟩) (fun r0 r1 r2 r3 r4 r5 r6 r7 r8 r9 => K (.agg [.v (.int .i64 r0), .v (.int .i64 r1), .v (.int .i64 r2), .v (.int .i64 r3), .own 2, .own 3]) [.box 77 [.rd ⟨false, 5, (.int .u8), r4⟩, .v (.int .i64 r5), .ifc 79 (.ptr 1 0)], .box 83 [.v (.int .i64 r6), .v (.int .i64 r7)], .row ⟨true, 3, (.int .i64), r8⟩, .row ⟨true, 3, (.int .i64), r9⟩]) (fun r0 r1 r2 r3 r4 r5 r6 r7 => K (.agg [.v (.int .i64 r0), .v (.int .i64 r1), .v (.int .i64 r2), .v (.int .i64 r3), .own 1, .own 2]) [.box 77 [.rd ⟨false, 5, (.int .u8), r4⟩, .v (.int .i64 r5), .v (.nilIface)], .row ⟨true, 3, (.int .i64), r6⟩, .row ⟨true, 3, (.int .i64), r7⟩]) s x o0 o0_1 o1 o1_1 o2 o2_1 o2_2 o2_3 o3 o4 o5 o5_1 o5_2 o5_3 o6 o7 := by kernel_rfl

theorem step_text_reader_read_none_25a {R : Type} (g : List Item → St → Option R) (K : AV → List O → Option R) (s : Int) (x : Int) (o0 : List Int) (o0_1 : Int) (o1 : Int) (o1_1 : Int) (o2 : Int) (o2_1 : Int) (o2_2 : Int) (o2_3 : Int) (o3 : List Int) (o4 : List Int) (o5 : Int) (o5_1 : Int) (o5_2 : Int) (o5_3 : Int) (o6 : List Int) (o7 : List Int) :
    runSeg Tryd.prog (T_text_reader_read @l_text_reader_want_none @l_text_reader_want_fault @l_text_reader_number_fault @l_text_reader_number_none) cuts_text_reader_read_none 1 g (finish Tryd.prog Tryd.f38 1 K) (at' Tryd.f38 25) ⟨fr0 151 [(0, .ptr 0 0), (2, .ptr 2 0), (3, .ptr 5 0), (4, .bnd 49 [.ptr 0 0]), (5, .bnd 50 [.ptr 0 0]), (6, .v (.int .i64 s)), (7, .v (.int .i64 x))], [.box 77 [.rd ⟨false, 5, (.int .u8), o0⟩, .v (.int .i64 o0_1), .ifc 79 (.ptr 1 0)], .box 83 [.v (.int .i64 o1), .v (.int .i64 o1_1)], .box 24 [.v (.int .i64 o2), .v (.int .i64 o2_1), .v (.int .i64 o2_2), .v (.int .i64 o2_3), .own 3, .own 4], .row ⟨true, 3, (.int .i64), o3⟩, .row ⟨true, 3, (.int .i64), o4⟩, .box 24 [.v (.int .i64 o5), .v (.int .i64 o5_1), .v (.int .i64 o5_2), .v (.int .i64 o5_3), .own 6, .own 7], .row ⟨true, 3, (.int .i64), o6⟩, .row ⟨true, 3, (.int .i64), o7⟩]⟩ =
    s_text_reader_read_none_25a (fun s o0 o0_1 o1 o1_1 o2 o2_1 o2_2 o2_3 o3 o4 o5 o5_1 o5_2 o5_3 o6 o7 => g (at' Tryd.f38 15) ⟨fr0 151 [(0, .ptr 0 0), (2, .ptr 2 0), (3, .ptr 5 0), (4, .bnd 49 [.ptr 0 0]), (5, .bnd 50 [.ptr 0 0]), (6, .v (.int .i64 s))], [.box 77 [.rd ⟨false, 5, (.int .u8), o0⟩, .v (.int .i64 o0_1), .ifc 79 (.ptr 1 0)], .box 83 [.v (.int .i64 o1), .v (.int .i64 o1_1)], .box 24 [.v (.int .i64 o2), .v (.int .i64 o2_1), .v (.int .i64 o2_2), .v (.int .i64 o2_3), .own 3, .own 4], .row ⟨true, 3, (.int .i64), o3⟩, .row ⟨true, 3, (.int .i64), o4⟩, .box 24 [.v (.int .i64 o5), .v (.int .i64 o5_1), .v (.int .i64 o5_2), .v (.int .i64 o5_3), .own 6, .own 7], .row ⟨true, 3, (.int .i64), o6⟩, .row ⟨true, 3, (.int .i64), o7⟩]⟩) (fun s o0 o0_1 o1 o1_1 o1_2 o1_3 o2 o3 o4 o4_1 o4_2 o4_3 o5 o6 => g (at' Tryd.f38 15) ⟨fr0 151 [(0, .ptr 0 0), (2, .ptr 1 0), (3, .ptr 4 0), (4, .bnd 49 [.ptr 0 0]), (5, .bnd 50 [.ptr 0 0]), (6, .v (.int .i64 s))], [.box 77 [.rd ⟨false, 5, (.int .u8), o0⟩, .v (.int .i64 o0_1), .v (.nilIface)], .box 24 [.v (.int .i64 o1), .v (.int .i64 o1_1), .v (.int .i64 o1_2), .v (.int .i64 o1_3), .own 2, .own 3], .row ⟨true, 3, (.int .i64), o2⟩, .row ⟨true, 3, (.int .i64), o3⟩, .box 24 [.v (.int .i64 o4), .v (.int .i64 o4_1), .v (.int .i64 o4_2), .v (.int .i64 o4_3), .own 5, .own 6], .row ⟨true, 3, (.int .i64), o5⟩, .row ⟨true, 3, (.int .i64), o6⟩]⟩) (fun s o0 o0_1 o1 o1_1 o2 o2_1 o2_2 o2_3 o3 o4 o5 o5_1 o5_2 o5_3 o6 o7 => g (at' Tryd.f38 19) ⟨fr0 151 [(0, .ptr 0 0), (2, .ptr 2 0), (3, .ptr 5 0), (4, .bnd 49 [.ptr 0 0]), (5, .bnd 50 [.ptr 0 0]), (6, .v (.int .i64 s))], [.box 77 [.rd ⟨false, 5, (.int .u8), o0⟩, .v (.int .i64 o0_1), .ifc 79 (.ptr 1 0)], .box 83 [.v (.int .i64 o1), .v (.int .i64 o1_1)], .box 24 [.v (.int .i64 o2), .v (.int .i64 o2_1), .v (.int .i64 o2_2), .v (.int .i64 o2_3), .own 3, .own 4], .row ⟨true, 3, (.int .i64), o3⟩, .row ⟨true, 3, (.int .i64), o4⟩, .box 24 [.v (.int .i64 o5), .v (.int .i64 o5_1), .v (.int .i64 o5_2), .v (.int .i64 o5_3), .own 6, .own 7], .row ⟨true, 3, (.int .i64), o6⟩, .row ⟨true, 3, (.int .i64), o7⟩]⟩) (fun s o0 o0_1 o1 o1_1 o1_2 o1_3 o2 o3 o4 o4_1 o4_2 o4_3 o5 o6 => g (at' Tryd.f38 19) ⟨fr0 151 [(0, .ptr 0 0), (2, .ptr 1 0), (3, .ptr 4 0), (4, .bnd 49 [.ptr 0 0]), (5, .bnd 50 [.ptr 0 0]), (6, .v (.int .i64 s))], [.box 77 [.rd ⟨false, 5, (.int .u8), o0⟩, .v (.int .i64 o0_1), .v (.nilIface)], .box 24 [.v (.int .i64 o1), .v (.int .i64 o1_1), .v (.int .i64 o1_2), .v (.int .i64 o1_3), .own 2, .own 3], .row ⟨true, 3, (.int .i64), o2⟩, .row ⟨true, 3, (.int .i64), o3⟩, .box 24 [.v (.int .i64 o4), .v (.int .i64 o4_1), .v (.int .i64 o4_2), .v (.int .i64 o4_3), .own 5, .own 6], .row ⟨true, 3, (.int .i64), o5⟩, .row ⟨true, 3, (.int .i64), o6⟩]⟩) (fun s x o0 o0_1 o1 o1_1 o2 o2_1 o2_2 o2_3 o3 o4 o5 o5_1 o5_2 o5_3 o6 o7 => g (at' Tryd.f38 20) ⟨fr0 151 [(0, .ptr 0 0), (2, .ptr 2 0), (3, .ptr 5 0), (4, .bnd 49 [.ptr 0 0]), (5, .bnd 50 [.ptr 0 0]), (6, .v (.int .i64 s)), (7, .v (.int .i64 x))], [.box 77 [.rd ⟨false, 5, (.int .u8), o0⟩, .v (.int .i64 o0_1), .ifc 79 (.ptr 1 0)], .box 83 [.v (.int .i64 o1), .v (.int .i64 o1_1)], .box 24 [.v (.int .i64 o2), .v (.int .i64 o2_1), .v (.int .i64 o2_2), .v (.int .i64 o2_3), .own 3, .own 4], .row ⟨true, 3, (.int .i64), o3⟩, .row ⟨true, 3, (.int .i64), o4⟩, .box 24 [.v (.int .i64 o5), .v (.int .i64 o5_1), .v (.int .i64 o5_2), .v (.int .i64 o5_3), .own 6, .own 7], .row ⟨true, 3, (.int .i64), o6⟩, .row ⟨true, 3, (.int .i64), o7⟩]⟩) (fun s x o0 o0_1 o1 o1_1 o1_2 o1_3 o2 o3 o4 o4_1 o4_2 o4_3 o5 o6 => g (at' Tryd.f38 20) ⟨fr0 151 [(0, .ptr 0 0), (2, .ptr 1 0), (3, .ptr 4 0), (4, .bnd 49 [.ptr 0 0]), (5, .bnd 50 [.ptr 0 0]), (6, .v (.int .i64 s)), (7, .v (.int .i64 x))], [.box 77 [.rd ⟨false, 5, (.int .u8), o0⟩, .v (.int .i64 o0_1), .v (.nilIface)], .box 24 [.v (.int .i64 o1), .v (.int .i64 o1_1), .v (.int .i64 o1_2), .v (.int .i64 o1_3), .own 2, .own 3], .row ⟨true, 3, (.int .i64), o2⟩, .row ⟨true, 3, (.int .i64), o3⟩, .box 24 [.v (.int .i64 o4), .v (.int .i64 o4_1), .v (.int .i64 o4_2), .v (.int .i64 o4_3), .own 5, .own 6], .row ⟨true, 3, (.int .i64), o5⟩, .row ⟨true, 3, (.int .i64), o6⟩]⟩) (fun s x o0 o0_1 o1 o1_1 o2 o2_1 o2_2 o2_3 o3 o4 o5 o5_1 o5_2 o5_3 o6 o7 => g (at' Tryd.f38 25) ⟨fr0 151 [(0, .ptr 0 0), (2, .ptr 2 0), (3, .ptr 5 0), (4, .bnd 49 [.ptr 0 0]), (5, .bnd 50 [.ptr 0 0]), (6, .v (.int .i64 s)), (7, .v (.int .i64 x))], [.box 77 [.rd ⟨false, 5, (.int .u8), o0⟩, .v (.int .i64 o0_1), .ifc 79 (.ptr 1 0)], .box 83 [.v (.int .i64 o1), .v (.int .i64 o1_1)], .box 24 [.v (.int .i64 o2), .v (.int .i64 o2_1), .v (.int .i64 o2_2), .v (.int .i64 o2_3), .own 3, .own 4], .row ⟨true, 3, (.int .i64), o3⟩, .row ⟨true, 3, (.int .i64), o4⟩, .box 24 [.v (.int .i64 o5), .v (.int .i64 o5_1), .v (.int .i64 o5_2), .v (.int .i64 o5_3), .own 6, .own 7], .row ⟨true, 3, (.int .i64), o6⟩, .row ⟨true, 3, (.int .i64), o7⟩]⟩) (fun s x o0 o0_1 o1 o1_1 o1_2 o1_3 o2 o3 o4 o4_1 o4_2 o4_3 o5 o6 => g (at' Tryd.f38 25) ⟨fr0 151 [(0, .ptr 0 0), (2, .ptr 1 0), (3, .ptr 4 0), (4, .bnd 49 [.ptr 0 0]), (5, .bnd 50 [.ptr 0 0]), (6, .v (.int .i64 s)), (7, .v (.int .i64 x))], [.box 77 [.rd ⟨false, 5, (.int .u8), o0⟩, .v (.int .i64 o0_1), .v (.nilIface)], .box 24 [.v (.int .i64 o1), .v (.int .i64 o1_1), .v (.int .i64 o1_2), .v (.int .i64 o1_3), .own 2, .own 3], .row ⟨true, 3, (.int .i64), o2⟩, .row ⟨true, 3, (.int .i64), o3⟩, .box 24 [.v (.int .i64 o4), .v (.int .i64 o4_1), .v (.int .i64 o4_2), .v (.int .i64 o4_3), .own 5, .own 6], .row ⟨true, 3, (.int .i64), o5⟩, .row ⟨true, 3, (.int .i64), o6⟩]⟩) (fun s x o0 o0_1 o1 o1_1 o2 o2_1 o2_2 o2_3 o3 o4 o5 o5_1 o5_2 o5_3 o6 o7 => g (at' Tryd.f38 21) ⟨fr0 151 [(0, .ptr 0 0), (2, .ptr 2 0), (3, .ptr 5 0), (4, .bnd 49 [.ptr 0 0]), (5, .bnd 50 [.ptr 0 0]), (6, .v (.int .i64 s)), (7, .v (.int .i64 x))], [.box 77 [.rd ⟨false, 5, (.int .u8), o0⟩, .v (.int .i64 o0_1), .ifc 79 (.ptr 1 0)], .box 83 [.v (.int .i64 o1), .v (.int .i64 o1_1)], .box 24 [.v (.int .i64 o2), .v (.int .i64 o2_1), .v (.int .i64 o2_2), .v (.int .i64 o2_3), .own 3, .own 4], .row ⟨true, 3, (.int .i64), o3⟩, .row ⟨true, 3, (.int .i64), o4⟩, .box 24 [.v (.int .i64 o5), .v (.int .i64 o5_1), .v (.int .i64 o5_2), .v (.int .i64 o5_3), .own 6, .own 7], .row ⟨true, 3, (.int .i64), o6⟩, .row ⟨true, 3, (.int .i64), o7⟩]⟩) (fun s x o0 o0_1 o1 o1_1 o1_2 o1_3 o2 o3 o4 o4_1 o4_2 o4_3 o5 o6 => g (at' Tryd.f38 21) ⟨fr0 151 [(0, .ptr 0 0), (2, .ptr 1 0), (3, .ptr 4 0), (4, .bnd 49 [.ptr 0 0]), (5, .bnd 50 [.ptr 0 0]), (6, .v (.int .i64 s)), (7, .v (.int .i64 x))], [.box 77 [.rd ⟨false, 5, (.int .u8), o0⟩, .v (.int .i64 o0_1), .v (.nilIface)], .box 24 [.v (.int .i64 o1), .v (.int .i64 o1_1), .v (.int .i64 o1_2), .v (.int .i64 o1_3), .own 2, .own 3], .row ⟨true, 3, (.int .i64), o2⟩, .row ⟨true, 3, (.int .i64), o3⟩, .box 24 [.v (.int .i64 o4), .v (.int .i64 o4_1), .v (.int .i64 o4_2), .v (.int .i64 o4_3), .own 5, .own 6], .row ⟨true, 3, (.int .i64), o5⟩, .row ⟨true, 3, (.int .i64), o6⟩]⟩) (fun r0 r1 r2 r3 r4 r5 r6 r7 r8 r9 => K (.agg [.v (.int .i64 r0), .v (.int .i64 r1), .v (.int .i64 r2), .v (.int .i64 r3), .own 2, .own 3]) [.box 77 [.rd ⟨false, 5, (.int .u8), r4⟩, .v (.int .i64 r5), .ifc 79 (.ptr 1 0)], .box 83 [.v (.int .i64 r6), .v (.int .i64 r7)], .row ⟨true, 3, (.int .i64), r8⟩, .row ⟨true, 3, (.int .i64), r9⟩]) (fun r0 r1 r2 r3 r4 r5 r6 r7 => K (.agg [.v (.int .i64 r0), .v (.int .i64 r1), .v (.int .i64 r2), .v (.int .i64 r3), .own 1, .own 2]) [.box 77 [.rd ⟨false, 5, (.int .u8), r4⟩, .v (.int .i64 r5), .v (.nilIface)], .row ⟨true, 3, (.int .i64), r6⟩, .row ⟨true, 3, (.int .i64), r7⟩]) s x o0 o0_1 o1 o1_1 o2 o2_1 o2_2 o2_3 o3 o4 o5 o5_1 o5_2 o5_3 o6 o7 := gstep_text_reader_read_none_25a @l_text_reader_want_none @l_text_reader_want_fault @l_text_reader_number_fault @l_text_reader_number_none g K s x o0 o0_1 o1 o1_1 o2 o2_1 o2_2 o2_3 o3 o4 o5 o5_1 o5_2 o5_3 o6 o7

theorem gstep_text_reader_read_none_25b (l_text_reader_want_none : {R : Type} → ByteArray → (List Int) → Int → ((List Int) → Int → Int → Int → Option R) → ((List Int) → Int → Option R) → Option R) (l_text_reader_want_fault : {R : Type} → ByteArray → (List Int) → Int → Int → Int → ((List Int) → Int → Int → Int → Option R) → Option R) (l_text_reader_number_fault : {R : Type} → Int → Int → Int → (List Int) → Int → Int → Int → (Int → (List Int) → Int → Int → Int → Option R) → Option R) (l_text_reader_number_none : {R : Type} → Int → Int → Int → (List Int) → Int → (Int → (List Int) → Int → Int → Int → Option R) → (Int → (List Int) → Int → Option R) → Option R) {R : Type} (g : List Item → St → Option R) (K : AV → List O → Option R) (s : Int) (x : Int) (o0 : List Int) (o0_1 : Int) (o1 : Int) (o1_1 : Int) (o1_2 : Int) (o1_3 : Int) (o2 : List Int) (o3 : List Int) (o4 : Int) (o4_1 : Int) (o4_2 : Int) (o4_3 : Int) (o5 : List Int) (o6 : List Int) :
    runSeg Tryd.prog (T_text_reader_read @l_text_reader_want_none @l_text_reader_want_fault @l_text_reader_number_fault @l_text_reader_number_none) cuts_text_reader_read_none 1 g (finish Tryd.prog Tryd.f38 1 K) (at' Tryd.f38 25) ⟨fr0 151 [(0, .ptr 0 0), (2, .ptr 1 0), (3, .ptr 4 0), (4, .bnd 49 [.ptr 0 0]), (5, .bnd 50 [.ptr 0 0]), (6, .v (.int .i64 s)), (7, .v (.int .i64 x))], [.box 77 [.rd ⟨false, 5, (.int .u8), o0⟩, .v (.int .i64 o0_1), .v (.nilIface)], .box 24 [.v (.int .i64 o1), .v (.int .i64 o1_1), .v (.int .i64 o1_2), .v (.int .i64 o1_3), .own 2, .own 3], .row ⟨true, 3, (.int .i64), o2⟩, .row ⟨true, 3, (.int .i64), o3⟩, .box 24 [.v (.int .i64 o4), .v (.int .i64 o4_1), .v (.int .i64 o4_2), .v (.int .i64 o4_3), .own 5, .own 6], .row ⟨true, 3, (.int .i64), o5⟩, .row ⟨true, 3, (.int .i64), o6⟩]⟩ =
    (fun (g38_15 : Int → (List Int) → Int → Int → Int → Int → Int → Int → Int → (List Int) → (List Int) → Int → Int → Int → Int → (List Int) → (List Int) → Option R) (g38_15b : Int → (List Int) → Int → Int → Int → Int → Int → (List Int) → (List Int) → Int → Int → Int → Int → (List Int) → (List Int) → Option R) (g38_19 : Int → (List Int) → Int → Int → Int → Int → Int → Int → Int → (List Int) → (List Int) → Int → Int → Int → Int → (List Int) → (List Int) → Option R) (g38_19b : Int → (List Int) → Int → Int → Int → Int → Int → (List Int) → (List Int) → Int → Int → Int → Int → (List Int) → (List Int) → Option R) (g38_20 : Int → Int → (List Int) → Int → Int → Int → Int → Int → Int → Int → (List Int) → (List Int) → Int → Int → Int → Int → (List Int) → (List Int) → Option R) (g38_20b : Int → Int → (List Int) → Int → Int → Int → Int → Int → (List Int) → (List Int) → Int → Int → Int → Int → (List Int) → (List Int) → Option R) (g38_25 : Int → Int → (List Int) → Int → Int → Int → Int → Int → Int → Int → (List Int) → (List Int) → Int → Int → Int → Int → (List Int) → (List Int) → Option R) (g38_25b : Int → Int → (List Int) → Int → Int → Int → Int → Int → (List Int) → (List Int) → Int → Int → Int → Int → (List Int) → (List Int) → Option R) (g38_21 : Int → Int → (List Int) → Int → Int → Int → Int → Int → Int → Int → (List Int) → (List Int) → Int → Int → Int → Int → (List Int) → (List Int) → Option R) (g38_21b : Int → Int → (List Int) → Int → Int → Int → Int → Int → (List Int) → (List Int) → Int → Int → Int → Int → (List Int) → (List Int) → Option R) (K0 : Int → Int → Int → Int → (List Int) → Int → Int → Int → (List Int) → (List Int) → Option R) (K1 : Int → Int → Int → Int → (List Int) → Int → (List Int) → (List Int) → Option R) (s : Int) (x : Int) (o0 : List Int) (o0_1 : Int) (o1 : Int) (o1_1 : Int) (o1_2 : Int) (o1_3 : Int) (o2 : List Int) (o3 : List Int) (o4 : Int) (o4_1 : Int) (o4_2 : Int) (o4_3 : Int) (o5 : List Int) (o6 : List Int) =>
    bi (o4 == 2)
     (l_text_reader_want_none (ByteArray.mk #[47]) o0 o0_1
      (fun r375 r376 r377 r378 =>
       both
        (l_text_reader_number_fault 0 (IntKind.i64.wrap (o4_2 - 1)) 33 r375 r376 r377 r378
         (fun r379 r380 r381 r382 r383 =>
          bi (decide ((o6.length + [r379].length) * 8 ≤ lim))
           (g38_21 s x r380 r381 r382 r383 o1 o1_1 o1_2 o1_3 o2 o3 o4 o4_1 o4_2 o4_3 o5 (o6 ++ [r379]))
           none))
        (l_text_reader_number_fault 0 (IntKind.i64.wrap (o4_2 - 1)) 33 r375 r376 r377 r378
         (fun r379 r380 r381 r382 r383 =>
          twice
           (bi (decide ((o6.length + [r379].length) * 8 ≤ lim))
            (g38_21 s x r380 r381 r382 r383 o1 o1_1 o1_2 o1_3 o2 o3 o4 o4_1 o4_2 o4_3 o5 (o6 ++ [r379]))
            none))))
      (fun r384 r385 =>
       both
        (l_text_reader_number_none 0 (IntKind.i64.wrap (o4_2 - 1)) 33 r384 r385
         (fun r386 r387 r388 r389 r390 =>
          bi (decide ((o6.length + [r386].length) * 8 ≤ lim))
           (g38_21 s x r387 r388 r389 r390 o1 o1_1 o1_2 o1_3 o2 o3 o4 o4_1 o4_2 o4_3 o5 (o6 ++ [r386]))
           none)
         (fun r391 r392 r393 =>
          bi (decide ((o6.length + [r391].length) * 8 ≤ lim))
           (g38_21b s x r392 r393 o1 o1_1 o1_2 o1_3 o2 o3 o4 o4_1 o4_2 o4_3 o5 (o6 ++ [r391]))
           none))
        (l_text_reader_number_none 0 (IntKind.i64.wrap (o4_2 - 1)) 33 r384 r385
         (fun r386 r387 r388 r389 r390 =>
          twice
           (bi (decide ((o6.length + [r386].length) * 8 ≤ lim))
            (g38_21 s x r387 r388 r389 r390 o1 o1_1 o1_2 o1_3 o2 o3 o4 o4_1 o4_2 o4_3 o5 (o6 ++ [r386]))
            none))
         (fun r391 r392 r393 =>
          twice
           (bi (decide ((o6.length + [r391].length) * 8 ≤ lim))
            (g38_21b s x r392 r393 o1 o1_1 o1_2 o1_3 o2 o3 o4 o4_1 o4_2 o4_3 o5 (o6 ++ [r391]))
            none)))))
     (g38_21b s x o0 o0_1 o1 o1_1 o1_2 o1_3 o2 o3 o4 o4_1 o4_2 o4_3 o5 o6)) (fun s o0 o0_1 o1 o1_1 o2 o2_1 o2_2 o2_3 o3 o4 o5 o5_1 o5_2 o5_3 o6 o7 => g (at' Tryd.f38 15) ⟨fr0 151 [(0, .ptr 0 0), (2, .ptr 2 0), (3, .ptr 5 0), (4, .bnd 49 [.ptr 0 0]), (5, .bnd 50 [.ptr 0 0]), (6, .v (.int .i64 s))], [.box 77 [.rd ⟨false, 5, (.int .u8), o0⟩, .v (.int .i64 o0_1), .ifc 79 (.ptr 1 0)], .box 83 [.v (.int .i64 o1), .v (.int .i64 o1_1)], .box 24 [.v (.int .i64 o2), .v (.int .i64 o2_1), .v (.int .i64 o2_2), .v (.int .i64 o2_3), .own 3, .own 4], .row ⟨true, 3, (.int .i64), o3⟩, .row ⟨true, 3, (.int .i64), o4⟩, .box 24 [.v (.int .i64 o5), .v (.int .i64 o5_1), .v (.int .i64 o5_2), .v (.int .i64 o5_3), .own 6, .own 7], .row ⟨true, 3, (.int .i64), o6⟩, .row ⟨true, 3, (.int .i64), o7⟩]⟩) (fun s o0 o0_1 o1 o1_1 o1_2 o1_3 o2 o3 o4 o4_1 o4_2 o4_3 o5 o6 => g (at' Tryd.f38 15) ⟨fr0 151 [(0, .ptr 0 0), (2, .ptr 1 0), (3, .ptr 4 0), (4, .bnd 49 [.ptr 0 0]), (5, .bnd 50 [.ptr 0 0]), (6, .v (.int .i64 s))], [.box 77 [.rd ⟨false, 5, (.int .u8), o0⟩, .v (.int .i64 o0_1), .v (.nilIface)], .box 24 [.v (.int .i64 o1), .v (.int .i64 o1_1), .v (.int .i64 o1_2), .v (.int .i64 o1_3), .own 2, .own 3], .row ⟨true, 3, (.int .i64), o2⟩, .row ⟨true, 3, (.int .i64), o3⟩, .box 24 [.v (.int .i64 o4), .v (.int .i64 o4_1), .v (.int .i64 o4_2), .v (.int .i64 o4_3), .own 5, .own 6], .row ⟨true, 3, (.int .i64), o5⟩, .row ⟨true, 3, (.int .i64), o6⟩]⟩) (fun s o0 o0_1 o1 o1_1 o2 o2_1 o2_2 o2_3 o3 o4 o5 o5_1 o5_2 o5_3 o6 o7 => g (at' Tryd.f38 19) ⟨fr0 151 [(0, .ptr 0 0), (2, .ptr 2 0), (3, .ptr 5 0), (4, .bnd 49 [.ptr 0 0]), (5, .bnd 50 [.ptr 0 0]), (6, .v (.int .i64 s))], [.box 77 [.rd ⟨false, 5, (.int .u8), o0⟩, .v (.int .i64 o0_1), .ifc 79 (.ptr 1 0)], .box 83 [.v (.int .i64 o1), .v (.int .i64 o1_1)], .box 24 [.v (.int .i64 o2), .v (.int .i64 o2_1), .v (.int .i64 o2_2), .v (.int .i64 o2_3), .own 3, .own 4], .row ⟨true, 3, (.int .i64), o3⟩, .row ⟨true, 3, (.int .i64), o4⟩, .box 24 [.v (.int .i64 o5), .v (.int .i64 o5_1), .v (.int .i64 o5_2), .v (.int .i64 o5_3), .own 6, .own 7], .row ⟨true, 3, (.int .i64), o6⟩, .row ⟨true, 3, (.int .i64), o7⟩]⟩) (fun s o0 o0_1 o1 o1_1 o1_2 o1_3 o2 o3 o4 o4_1 o4_2 o4_3 o5 o6 => g (at' Tryd.f38 19) ⟨fr0 151 [(0, .ptr 0 0), (2, .ptr 1 0), (3, .ptr 4 0), (4, .bnd 49 [.ptr 0 0]), (5, .bnd 50 [.ptr 0 0]), (6, .v (.int .i64 s))], [.box 77 [.rd ⟨false, 5, (.int .u8), o0⟩, .v (.int .i64 o0_1), .v (.nilIface)], .box 24 [.v (.int .i64 o1), .v (.int .i64 o1_1), .v (.int .i64 o1_2), .v (.int .i64 o1_3), .own 2, .own 3], .row ⟨true, 3, (.int .i64), o2⟩, .row ⟨true, 3, (.int .i64), o3⟩, .box 24 [.v (.int .i64 o4), .v (.int .i64 o4_1), .v (.int .i64 o4_2), .v (.int .i64 o4_3), .own 5, .own 6], .row ⟨true, 3, (.int .i64), o5⟩, .row ⟨true, 3, (.int .i64), o6⟩]⟩) (fun s x o0 o0_1 o1 o1_1 o2 o2_1 o2_2 o2_3 o3 o4 o5 o5_1 o5_2 o5_3 o6 o7 => g (at' Tryd.f38 20) ⟨fr0 151 [(0, .ptr 0 0), (2, .ptr 2 0), (3, .ptr 5 0), (4, .bnd 49 [.ptr 0 0]), (5, .bnd 50 [.ptr 0 0]), (6, .v (.int .i64 s)), (7, .v (.int .i64 x))], [.box 77 [.rd ⟨false, 5, (.int .u8), o0⟩, .v (.int .i64 o0_1), .ifc 79 (.ptr 1 0)], .box 83 [.v (.int .i64 o1), .v (.int .i64 o1_1)], .box 24 [.v (.int .i64 o2), .v (.int .i64 o2_1), .v (.int .i64 o2_2), .v (.int .i64 o2_3), .own 3, .own 4], .row ⟨true, 3, (.int .i64), o3⟩, .row ⟨true, 3, (.int .i64), o4⟩, .box 24 [.v (.int .i64 o5), .v (.int .i64 o5_1), .v (.int .i64 o5_2), .v (.int .i64 o5_3), .own 6, .own 7], .row ⟨true, 3, (.int .i64), o6⟩, .row ⟨true, 3, (.int .i64), o7⟩]⟩) (fun s x o0 o0_1 o1 o1_1 o1_2 o1_3 o2 o3 o4 o4_1 o4_2 o4_3 o5 o6 => g (at' Tryd.f38 20) ⟨fr0 151 [(0, .ptr 0 0), (2, .ptr 1 0), (3, .ptr 4 0), (4, .bnd 49 [.ptr 0 0]), (5, .bnd 50 [.ptr 0 0]), (6, .v (.int .i64 s)), (7, .v (.int .i64 x))], [.box 77 [.rd ⟨false, 5, (.int .u8), o0⟩, .v (.int .i64 o0_1), .v (.nilIface)], .box 24 [.v (.int .i64 o1), .v (.int .i64 o1_1), .v (.int .i64 o1_2), .v (.int .i64 o1_3), .own 2, .own 3], .row ⟨true, 3, (.int .i64), o2⟩, .row ⟨true, 3, (.int .i64), o3⟩, .box 24 [.v (.int .i64 o4), .v (.int .i64 o4_1), .v (.int .i64 o4_2), .v (.int .i64 o4_3), .own 5, .own 6], .row ⟨true, 3, (.int .i64), o5⟩, .row ⟨true, 3, (.int .i64), o6⟩]⟩) (fun s x o0 o0_1 o1 o1_1 o2 o2_1 o2_2 o2_3 o3 o4 o5 o5_1 o5_2 o5_3 o6 o7 => g (at' Tryd.f38 25) ⟨fr0 151 [(0, .ptr 0 0), (2, .ptr 2 0), (3, .ptr 5 0), (4, .bnd 49 [.ptr 0 0]), (5, .bnd 50 [.ptr 0 0]), (6, .v (.int .i64 s)), (7, .v (.int .i64 x))], [.box 77 [.rd ⟨false, 5, (.int .u8), o0⟩, .v (.int .i64 o0_1), .ifc 79 (.ptr 1 0)], .box 83 [.v (.int .i64 o1), .v (.int .i64 o1_1)], .box 24 [.v (.int .i64 o2), .v (.int .i64 o2_1), .v (.int .i64 o2_2), .v (.int .i64 o2_3), .own 3, .own 4], .row ⟨true, 3, (.int .i64), o3⟩, .row ⟨true, 3, (.int .i64), o4⟩, .box 24 [.v (.int .i64 o5), .v (.int .i64 o5_1), .v (.int .i64 o5_2), .v (.int .i64 o5_3), .own 6, .own 7], .row ⟨true, 3, (.int .i64), o6⟩, .row ⟨true, 3, (.int .i64), o7⟩]⟩) (fun s x o0 o0_1 o1 o1_1 o1_2 o1_3 o2 o3 o4 o4_1 o4_2 o4_3 o5 o6 => g (at' Tryd.f38 25) ⟨fr0 151 [(0, .ptr 0 0), (2, .ptr 1 0), (3, .ptr 4 0), (4, .bnd 49 [.ptr 0 0]), (5, .bnd 50 [.ptr 0 0]), (6, .v (.int .i64 s)), (7, .v (.int .i64 x))], [.box 77 [.rd ⟨false, 5, (.int .u8), o0⟩, .v (.int .i64 o0_1), .v (.nilIface)], .box 24 [.v (.int .i64 o1), .v (.int .i64 o1_1), .v (.int .i64 o1_2), .v (.int .i64 o1_3), .own 2, .own 3], .row ⟨true, 3, (.int .i64), o2⟩, .row ⟨true, 3, (.int .i64), o3⟩, .box 24 [.v (.int .i64 o4), .v (.int .i64 o4_1), .v (.int .i64 o4_2), .v (.int .i64 o4_3), .own 5, .own 6], .row ⟨true, 3, (.int .i64), o5⟩, .row ⟨true, 3, (.int .i64), o6⟩]⟩) (fun s x o0 o0_1 o1 o1_1 o2 o2_1 o2_2 o2_3 o3 o4 o5 o5_1 o5_2 o5_3 o6 o7 => g (at' Tryd.f38 21) ⟨fr0 151 [(0, .ptr 0 0), (2, .ptr 2 0), (3, .ptr 5 0), (4, .bnd 49 [.ptr 0 0]), (5, .bnd 50 [.ptr 0 0]), (6, .v (.int .i64 s)), (7, .v (.int .i64 x))], [.box 77 [.rd ⟨false, 5, (.int .u8), o0⟩, .v (.int .i64 o0_1), .ifc 79 (.ptr 1 0)], .box 83 [.v (.int .i64 o1), .v (.int .i64 o1_1)], .box 24 [.v (.int .i64 o2), .v (.int .i64 o2_1), .v (.int .i64 o2_2), .v (.int .i64 o2_3), .own 3, .own 4], .row ⟨true, 3, (.int .i64), o3⟩, .row ⟨true, 3, (.int .i64), o4⟩, .box 24 [.v (.int .i64 o5), .v (.int .i64 o5_1), .v (.int .i64 o5_2), .v (.int .i64 o5_3), .own 6, .own 7], .row ⟨true, 3, (.int .i64), o6⟩, .row ⟨true, 3, (.int .i64), o7⟩]⟩) (fun s x o0 o0_1 o1 o1_1 o1_2 o1_3 o2 o3 o4 o4_1 o4_2 o4_3 o5 o6 => g (at' Tryd.f38 21) ⟨fr0 151 [(0, .ptr 0 0), (2, .ptr 1 0), (3, .ptr 4 0), (4, .bnd 49 [.ptr 0 0]), (5, .bnd 50 [.ptr 0 0]), (6, .v (.int .i64 s)), (7, .v (.int .i64 x))], [.box 77 [.rd ⟨false, 5, (.int .u8), o0⟩, .v (.int .i64 o0_1), .v (.nilIface)], .box 24 [.v (.int .i64 o1), .v (.int .i64 o1_1), .v (.int .i64 o1_2), .v (.int .i64 o1_3), .own 2, .own 3], .row ⟨true, 3, (.int .i64), o2⟩, .row ⟨true, 3, (.int .i64), o3⟩, .box 24 [.v (.int .i64 o4), .v (.int .i64 o4_1), .v (.int .i64 o4_2), .v (.int .i64 o4_3), .own 5, .own 6], .row ⟨true, 3, (.int .i64), o5⟩, .row ⟨true, 3, (.int .i64), o6⟩]⟩) (fun r0 r1 r2 r3 r4 r5 r6 r7 r8 r9 => K (.agg [.v (.int .i64 r0), .v (.int .i64 r1), .v (.int .i64 r2), .v (.int .i64 r3), .own 2, .own 3]) [.box 77 [.rd ⟨false, 5, (.int .u8), r4⟩, .v (.int .i64 r5), .ifc 79 (.ptr 1 0)], .box 83 [.v (.int .i64 r6), .v (.int .i64 r7)], .row ⟨true, 3, (.int .i64), r8⟩, .row ⟨true, 3, (.int .i64), r9⟩]) (fun r0 r1 r2 r3 r4 r5 r6 r7 => K (.agg [.v (.int .i64 r0), .v (.int .i64 r1), .v (.int .i64 r2), .v (.int .i64 r3), .own 1, .own 2]) [.box 77 [.rd ⟨false, 5, (.int .u8), r4⟩, .v (.int .i64 r5), .v (.nilIface)], .row ⟨true, 3, (.int .i64), r6⟩, .row ⟨true, 3, (.int .i64), r7⟩]) s x o0 o0_1 o1 o1_1 o1_2 o1_3 o2 o3 o4 o4_1 o4_2 o4_3 o5 o6 := by kernel_rfl

theorem step_text_reader_read_none_25b {R : Type} (g : List Item → St → Option R) (K : AV → List O → Option R) (s : Int) (x : Int) (o0 : List Int) (o0_1 : Int) (o1 : Int) (o1_1 : Int) (o1_2 : Int) (o1_3 : Int) (o2 : List Int) (o3 : List Int) (o4 : Int) (o4_1 : Int) (o4_2 : Int) (o4_3 : Int) (o5 : List Int) (o6 : List Int) :
    runSeg Tryd.prog (T_text_reader_read @l_text_reader_want_none @l_text_reader_want_fault @l_text_reader_number_fault @l_text_reader_number_none) cuts_text_reader_read_none 1 g (finish Tryd.prog Tryd.f38 1 K) (at' Tryd.f38 25) ⟨fr0 151 [(0, .ptr 0 0), (2, .ptr 1 0), (3, .ptr 4 0), (4, .bnd 49 [.ptr 0 0]), (5, .bnd 50 [.ptr 0 0]), (6, .v (.int .i64 s)), (7, .v (.int .i64 x))], [.box 77 [.rd ⟨false, 5, (.int .u8), o0⟩, .v (.int .i64 o0_1), .v (.nilIface)], .box 24 [.v (.int .i64 o1), .v (.int .i64 o1_1), .v (.int .i64 o1_2), .v (.int .i64 o1_3), .own 2, .own 3], .row ⟨true, 3, (.int .i64), o2⟩, .row ⟨true, 3, (.int .i64), o3⟩, .box 24 [.v (.int .i64 o4), .v (.int .i64 o4_1), .v (.int .i64 o4_2), .v (.int .i64 o4_3), .own 5, .own 6], .row ⟨true, 3, (.int .i64), o5⟩, .row ⟨true, 3, (.int .i64), o6⟩]⟩ =
    s_text_reader_read_none_25b (fun s o0 o0_1 o1 o1_1 o2 o2_1 o2_2 o2_3 o3 o4 o5 o5_1 o5_2 o5_3 o6 o7 => g (at' Tryd.f38 15) ⟨fr0 151 [(0, .ptr 0 0), (2, .ptr 2 0), (3, .ptr 5 0), (4, .bnd 49 [.ptr 0 0]), (5, .bnd 50 [.ptr 0 0]), (6, .v (.int .i64 s))], [.box 77 [.rd ⟨false, 5, (.int .u8), o0⟩, .v (.int .i64 o0_1), .ifc 79 (.ptr 1 0)], .box 83 [.v (.int .i64 o1), .v (.int .i64 o1_1)], .box 24 [.v (.int .i64 o2), .v (.int .i64 o2_1), .v (.int .i64 o2_2), .v (.int .i64 o2_3), .own 3, .own 4], .row ⟨true, 3, (.int .i64), o3⟩, .row ⟨true, 3, (.int .i64), o4⟩, .box 24 [.v (.int .i64 o5), .v (.int .i64 o5_1), .v (.int .i64 o5_2), .v (.int .i64 o5_3), .own 6, .own 7], .row ⟨true, 3, (.int .i64), o6⟩, .row ⟨true, 3, (.int .i64), o7⟩]⟩) (fun s o0 o0_1 o1 o1_1 o1_2 o1_3 o2 o3 o4 o4_1 o4_2 o4_3 o5 o6 => g (at' Tryd.f38 15) ⟨fr0 151 [(0, .ptr 0 0), (2, .ptr 1 0), (3, .ptr 4 0), (4, .bnd 49 [.ptr 0 0]), (5, .bnd 50 [.ptr 0 0]), (6, .v (.int .i64 s))], [.box 77 [.rd ⟨false, 5, (.int .u8), o0⟩, .v (.int .i64 o0_1), .v (.nilIface)], .box 24 [.v (.int .i64 o1), .v (.int .i64 o1_1), .v (.int .i64 o1_2), .v (.int .i64 o1_3), .own 2, .own 3], .row ⟨true, 3, (.int .i64), o2⟩, .row ⟨true, 3, (.int .i64), o3⟩, .box 24 [.v (.int .i64 o4), .v (.int .i64 o4_1), .v (.int .i64 o4_2), .v (.int .i64 o4_3), .own 5, .own 6], .row ⟨true, 3, (.int .i64), o5⟩, .row ⟨true, 3, (.int .i64), o6⟩]⟩) (fun s o0 o0_1 o1 o1_1 o2 o2_1 o2_2 o2_3 o3 o4 o5 o5_1 o5_2 o5_3 o6 o7 => g (at' Tryd.f38 19) ⟨fr0 151 [(0, .ptr 0 0), (2, .ptr 2 0), (3, .ptr 5 0), (4, .bnd 49 [.ptr 0 0]), (5, .bnd 50 [.ptr 0 0]), (6, .v (.int .i64 s))], [.box 77 [.rd ⟨false, 5, (.int .u8), o0⟩, .v (.int .i64 o0_1), .ifc 79 (.ptr 1 0)], .box 83 [.v (.int .i64 o1), .v (.int .i64 o1_1)], .box 24 [.v (.int .i64 o2), .v (.int .i64 o2_1), .v (.int .i64 o2_2), .v (.int .i64 o2_3), .own 3, .own 4], .row ⟨true, 3, (.int .i64), o3⟩, .row ⟨true, 3, (.int .i64), o4⟩, .box 24 [.v (.int .i64 o5), .v (.int .i64 o5_1), .v (.int .i64 o5_2), .v (.int .i64 o5_3), .own 6, .own 7], .row ⟨true, 3, (.int .i64), o6⟩, .row ⟨true, 3, (.int .i64), o7⟩]⟩) (fun s o0 o0_1 o1 o1_1 o1_2 o1_3 o2 o3 o4 o4_1 o4_2 o4_3 o5 o6 => g (at' Tryd.f38 19) ⟨fr0 151 [(0, .ptr 0 0), (2, .ptr 1 0), (3, .ptr 4 0), (4, .bnd 49 [.ptr 0 0]), (5, .bnd 50 [.ptr 0 0]), (6, .v (.int .i64 s))], [.box 77 [.rd ⟨false, 5, (.int .u8), o0⟩, .v (.int .i64 o0_1), .v (.nilIface)], .box 24 [.v (.int .i64 o1), .v (.int .i64 o1_1), .v (.int .i64 o1_2), .v (.int .i64 o1_3), .own 2, .own 3], .row ⟨true, 3, (.int .i64), o2⟩, .row ⟨true, 3, (.int .i64), o3⟩, .box 24 [.v (.int .i64 o4), .v (.int .i64 o4_1), .v (.int .i64 o4_2), .v (.int .i64 o4_3), .own 5, .own 6], .row ⟨true, 3, (.int .i64), o5⟩, .row ⟨true, 3, (.int .i64), o6⟩]⟩) (fun s x o0 o0_1 o1 o1_1 o2 o2_1 o2_2 o2_3 o3 o4 o5 o5_1 o5_2 o5_3 o6 o7 => g (at' Tryd.f38 20) ⟨fr0 151 [(0, .ptr 0 0), (2, .ptr 2 0), (3, .ptr 5 0), (4, .bnd 49 [.ptr 0 0]), (5, .bnd 50 [.ptr 0 0]), (6, .v (.int .i64 s)), (7, .v (.int .i64 x))], [.box 77 [.rd ⟨false, 5, (.int .u8), o0⟩, .v (.int .i64 o0_1), .ifc 79 (.ptr 1 0)], .box 83 [.v (.int .i64 o1), .v (.int .i64 o1_1)], .box 24 [.v (.int .i64 o2), .v (.int .i64 o2_1), .v (.int .i64 o2_2), .v (.int .i64 o2_3), .own 3, .own 4], .row ⟨true, 3, (.int .i64), o3⟩, .row ⟨true, 3, (.int .i64), o4⟩, .box 24 [.v (.int .i64 o5), .v (.int .i64 o5_1), .v (.int .i64 o5_2), .v (.int .i64 o5_3), .own 6, .own 7], .row ⟨true, 3, (.int .i64), o6⟩, .row ⟨true, 3, (.int .i64), o7⟩]⟩) (fun s x o0 o0_1 o1 o1_1 o1_2 o1_3 o2 o3 o4 o4_1 o4_2 o4_3 o5 o6 => g (at' Tryd.f38 20) ⟨fr0 151 [(0, .ptr 0 0), (2, .ptr 1 0), (3, .ptr 4 0), (4, .bnd 49 [.ptr 0 0]), (5, .bnd 50 [.ptr 0 0]), (6, .v (.int .i64 s)), (7, .v (.int .i64 x))], [.box 77 [.rd ⟨false, 5, (.int .u8), o0⟩, .v (.int .i64 o0_1), .v (.nilIface)], .box 24 [.v (.int .i64 o1), .v (.int .i64 o1_1), .v (.int .i64 o1_2), .v (.int .i64 o1_3), .own 2, .own 3], .row ⟨true, 3, (.int .i64), o2⟩, .row ⟨true, 3, (.int .i64), o3⟩, .box 24 [.v (.int .i64 o4), .v (.int .i64 o4_1), .v (.int .i64 o4_2), .v (.int .i64 o4_3), .own 5, .own 6], .row ⟨true, 3, (.int .i64), o5⟩, .row ⟨true, 3, (.int .i64), o6⟩]⟩) (fun s x o0 o0_1 o1 o1_1 o2 o2_1 o2_2 o2_3 o3 o4 o5 o5_1 o5_2 o5_3 o6 o7 => g (at' Tryd.f38 25) ⟨fr0 151 [(0, .ptr 0 0), (2, .ptr 2 0), (3, .ptr 5 0), (4, .bnd 49 [.ptr 0 0]), (5, .bnd 50 [.ptr 0 0]), (6, .v (.int .i64 s)), (7, .v (.int .i64 x))], [.box 77 [.rd ⟨false, 5, (.int .u8), o0⟩, .v (.int .i64 o0_1), .ifc 79 (.ptr 1 0)], .box 83 [.v (.int .i64 o1), .v (.int .i64 o1_1)], .box 24 [.v (.int .i64 o2), .v (.int .i64 o2_1), .v (.int .i64 o2_2), .v (.int .i64 o2_3), .own 3, .own 4], .row ⟨true, 3, (.int .i64), o3⟩, .row ⟨true, 3, (.int .i64), o4⟩, .box 24 [.v (.int .i64 o5), .v (.int .i64 o5_1), .v (.int .i64 o5_2), .v (.int .i64 o5_3), .own 6, .own 7], .row ⟨true, 3, (.int .i64), o6⟩, .row ⟨true, 3, (.int .i64), o7⟩]⟩) (fun s x o0 o0_1 o1 o1_1 o1_2 o1_3 o2 o3 o4 o4_1 o4_2 o4_3 o5 o6 => g (at' Tryd.f38 25) ⟨fr0 151 [(0, .ptr 0 0), (2, .ptr 1 0), (3, .ptr 4 0), (4, .bnd 49 [.ptr 0 0]), (5, .bnd 50 [.ptr 0 0]), (6, .v (.int .i64 s)), (7, .v (.int .i64 x))], [.box 77 [.rd ⟨false, 5, (.int .u8), o0⟩, .v (.int .i64 o0_1), .v (.nilIface)], .box 24 [.v (.int .i64 o1), .v (.int .i64 o1_1), .v (.int .i64 o1_2), .v (.int .i64 o1_3), .own 2, .own 3], .row ⟨true, 3, (.int .i64), o2⟩, .row ⟨true, 3, (.int .i64), o3⟩, .box 24 [.v (.int .i64 o4), .v (.int .i64 o4_1), .v (.int .i64 o4_2), .v (.int .i64 o4_3), .own 5, .own 6], .row ⟨true, 3, (.int .i64), o5⟩, .row ⟨true, 3, (.int .i64), o6⟩]⟩) (fun s x o0 o0_1 o1 o1_1 o2 o2_1 o2_2 o2_3 o3 o4 o5 o5_1 o5_2 o5_3 o6 o7 => g (at' Tryd.f38 21) ⟨fr0 151 [(0, .ptr 0 0), (2, .ptr 2 0), (3, .ptr 5 0), (4, .bnd 49 [.ptr 0 0]), (5, .bnd 50 [.ptr 0 0]), (6, .v (.int .i64 s)), (7, .v (.int .i64 x))], [.box 77 [.rd ⟨false, 5, (.int .u8), o0⟩, .v (.int .i64 o0_1), .ifc 79 (.ptr 1 0)], .box 83 [.v (.int .i64 o1), .v (.int .i64 o1_1)], .box 24 [.v (.int .i64 o2), .v (.int .i64 o2_1), .v (.int .i64 o2_2), .v (.int .i64 o2_3), .own 3, .own 4], .row ⟨true, 3, (.int .i64), o3⟩, .row ⟨true, 3, (.int .i64), o4⟩, .box 24 [.v (.int .i64 o5), .v (.int .i64 o5_1), .v (.int .i64 o5_2), .v (.int .i64 o5_3), .own 6, .own 7], .row ⟨true, 3, (.int .i64), o6⟩, .row ⟨true, 3, (.int .i64), o7⟩]⟩) (fun s x o0 o0_1 o1 o1_1 o1_2 o1_3 o2 o3 o4 o4_1 o4_2 o4_3 o5 o6 => g (at' Tryd.f38 21) ⟨fr0 151 [(0, .ptr 0 0), (2, .ptr 1 0), (3, .ptr 4 0), (4, .bnd 49 [.ptr 0 0]), (5, .bnd 50 [.ptr 0 0]), (6, .v (.int .i64 s)), (7, .v (.int .i64 x))], [.box 77 [.rd ⟨false, 5, (.int .u8), o0⟩, .v (.int .i64 o0_1), .v (.nilIface)], .box 24 [.v (.int .i64 o1), .v (.int .i64 o1_1), .v (.int .i64 o1_2), .v (.int .i64 o1_3), .own 2, .own 3], .row ⟨true, 3, (.int .i64), o2⟩, .row ⟨true, 3, (.int .i64), o3⟩, .box 24 [.v (.int .i64 o4), .v (.int .i64 o4_1), .v (.int .i64 o4_2), .v (.int .i64 o4_3), .own 5, .own 6], .row ⟨true, 3, (.int .i64), o5⟩, .row ⟨true, 3, (.int .i64), o6⟩]⟩) (fun r0 r1 r2 r3 r4 r5 r6 r7 r8 r9 => K (.agg [.v (.int .i64 r0), .v (.int .i64 r1), .v (.int .i64 r2), .v (.int .i64 r3), .own 2, .own 3]) [.box 77 [.rd ⟨false, 5, (.int .u8), r4⟩, .v (.int .i64 r5), .ifc 79 (.ptr 1 0)], .box 83 [.v (.int .i64 r6), .v (.int .i64 r7)], .row ⟨true, 3, (.int .i64), r8⟩, .row ⟨true, 3, (.int .i64), r9⟩]) (fun r0 r1 r2 r3 r4 r5 r6 r7 => K (.agg [.v (.int .i64 r0), .v (.int .i64 r1), .v (.int .i64 r2), .v (.int .i64 r3), .own 1, .own 2]) [.box 77 [.rd ⟨false, 5, (.int .u8), r4⟩, .v (.int .i64 r5), .v (.nilIface)], .row ⟨true, 3, (.int .i64), r6⟩, .row ⟨true, 3, (.int .i64), r7⟩]) s x o0 o0_1 o1 o1_1 o1_2 o1_3 o2 o3 o4 o4_1 o4_2 o4_3 o5 o6 := gstep_text_reader_read_none_25b @l_text_reader_want_none @l_text_reader_want_fault @l_text_reader_number_fault @l_text_reader_number_none g K s x o0 o0_1 o1 o1_1 o1_2 o1_3 o2 o3 o4 o4_1 o4_2 o4_3 o5 o6

theorem gstep_text_reader_read_none_21a (l_text_reader_want_none : {R : Type} → ByteArray → (List Int) → Int → ((List Int) → Int → Int → Int → Option R) → ((List Int) → Int → Option R) → Option R) (l_text_reader_want_fault : {R : Type} → ByteArray → (List Int) → Int → Int → Int → ((List Int) → Int → Int → Int → Option R) → Option R) (l_text_reader_number_fault : {R : Type} → Int → Int → Int → (List Int) → Int → Int → Int → (Int → (List Int) → Int → Int → Int → Option R) → Option R) (l_text_reader_number_none : {R : Type} → Int → Int → Int → (List Int) → Int → (Int → (List Int) → Int → Int → Int → Option R) → (Int → (List Int) → Int → Option R) → Option R) {R : Type} (g : List Item → St → Option R) (K : AV → List O → Option R) (s : Int) (x : Int) (o0 : List Int) (o0_1 : Int) (o1 : Int) (o1_1 : Int) (o2 : Int) (o2_1 : Int) (o2_2 : Int) (o2_3 : Int) (o3 : List Int) (o4 : List Int) (o5 : Int) (o5_1 : Int) (o5_2 : Int) (o5_3 : Int) (o6 : List Int) (o7 : List Int) :
    runSeg Tryd.prog (T_text_reader_read @l_text_reader_want_none @l_text_reader_want_fault @l_text_reader_number_fault @l_text_reader_number_none) cuts_text_reader_read_none 1 g (finish Tryd.prog Tryd.f38 1 K) (at' Tryd.f38 21) ⟨fr0 151 [(0, .ptr 0 0), (2, .ptr 2 0), (3, .ptr 5 0), (4, .bnd 49 [.ptr 0 0]), (5, .bnd 50 [.ptr 0 0]), (6, .v (.int .i64 s)), (7, .v (.int .i64 x))], [.box 77 [.rd ⟨false, 5, (.int .u8), o0⟩, .v (.int .i64 o0_1), .ifc 79 (.ptr 1 0)], .box 83 [.v (.int .i64 o1), .v (.int .i64 o1_1)], .box 24 [.v (.int .i64 o2), .v (.int .i64 o2_1), .v (.int .i64 o2_2), .v (.int .i64 o2_3), .own 3, .own 4], .row ⟨true, 3, (.int .i64), o3⟩, .row ⟨true, 3, (.int .i64), o4⟩, .box 24 [.v (.int .i64 o5), .v (.int .i64 o5_1), .v (.int .i64 o5_2), .v (.int .i64 o5_3), .own 6, .own 7], .row ⟨true, 3, (.int .i64), o6⟩, .row ⟨true, 3, (.int .i64), o7⟩]⟩ =
    (fun (g38_15 : Int → (List Int) → Int → Int → Int → Int → Int → Int → Int → (List Int) → (List Int) → Int → Int → Int → Int → (List Int) → (List Int) → Option R) (g38_15b : Int → (List Int) → Int → Int → Int → Int → Int → (List Int) → (List Int) → Int → Int → Int → Int → (List Int) → (List Int) → Option R) (g38_19 : Int → (List Int) → Int → Int → Int → Int → Int → Int → Int → (List Int) → (List Int) → Int → Int → Int → Int → (List Int) → (List Int) → Option R) (g38_19b : Int → (List Int) → Int → Int → Int → Int → Int → (List Int) → (List Int) → Int → Int → Int → Int → (List Int) → (List Int) → Option R) (g38_20 : Int → Int → (List Int) → Int → Int → Int → Int → Int → Int → Int → (List Int) → (List Int) → Int → Int → Int → Int → (List Int) → (List Int) → Option R) (g38_20b : Int → Int → (List Int) → Int → Int → Int → Int → Int → (List Int) → (List Int) → Int → Int → Int → Int → (List Int) → (List Int) → Option R) (g38_25 : Int → Int → (List Int) → Int → Int → Int → Int → Int → Int → Int → (List Int) → (List Int) → Int → Int → Int → Int → (List Int) → (List Int) → Option R) (g38_25b : Int → Int → (List Int) → Int → Int → Int → Int → Int → (List Int) → (List Int) → Int → Int → Int → Int → (List Int) → (List Int) → Option R) (g38_21 : Int → Int → (List Int) → Int → Int → Int → Int → Int → Int → Int → (List Int) → (List Int) → Int → Int → Int → Int → (List Int) → (List Int) → Option R) (g38_21b : Int → Int → (List Int) → Int → Int → Int → Int → Int → (List Int) → (List Int) → Int → Int → Int → Int → (List Int) → (List Int) → Option R) (K0 : Int → Int → Int → Int → (List Int) → Int → Int → Int → (List Int) → (List Int) → Option R) (K1 : Int → Int → Int → Int → (List Int) → Int → (List Int) → (List Int) → Option R) (s : Int) (x : Int) (o0 : List Int) (o0_1 : Int) (o1 : Int) (o1_1 : Int) (o2 : Int) (o2_1 : Int) (o2_2 : Int) (o2_3 : Int) (o3 : List Int) (o4 : List Int) (o5 : Int) (o5_1 : Int) (o5_2 : Int) (o5_3 : Int) (o6 : List Int) (o7 : List Int) =>
    g38_20 s (IntKind.i64.wrap (x + 1)) o0 o0_1 o1 o1_1 o2 o2_1 o2_2 o2_3 o3 o4 o5 o5_1 o5_2 o5_3 o6 o7) (fun s o0 o0_1 o1 o1_1 o2 o2_1 o2_2 o2_3 o3 o4 o5 o5_1 o5_2 o5_3 o6 o7 => g (at' Tryd.f38 15) ⟨fr0 151 [(0, .ptr 0 0), (2, .ptr 2 0), (3, .ptr 5 0), (4, .bnd 49 [.ptr 0 0]), (5, .bnd 50 [.ptr 0 0]), (6, .v (.int .i64 s))], [.box 77 [.rd ⟨false, 5, (.int .u8), o0⟩, .v (.int .i64 o0_1), .ifc 79 (.ptr 1 0)], .box 83 [.v (.int .i64 o1), .v (.int .i64 o1_1)], .box 24 [.v (.int .i64 o2), .v (.int .i64 o2_1), .v (.int .i64 o2_2), .v (.int .i64 o2_3), .own 3, .own 4], .row ⟨true, 3, (.int .i64), o3⟩, .row ⟨true, 3, (.int .i64), o4⟩, .box 24 [.v (.int .i64 o5), .v (.int .i64 o5_1), .v (.int .i64 o5_2), .v (.int .i64 o5_3), .own 6, .own 7], .row ⟨true, 3, (.int .i64), o6⟩, .row ⟨true, 3, (.int .i64), o7⟩]⟩) (fun s o0 o0_1 o1 o1_1 o1_2 o1_3 o2 o3 o4 o4_1 o4_2 o4_3 o5 o6 => g (at' Tryd.f38 15) ⟨fr0 151 [(0, .ptr 0 0), (2, .ptr 1 0), (3, .ptr 4 0), (4, .bnd 49 [.ptr 0 0]), (5, .bnd 50 [.ptr 0 0]), (6, .v (.int .i64 s))], [.box 77 [.rd ⟨false, 5, (.int .u8), o0⟩, .v (.int .i64 o0_1), .v (.nilIface)], .box 24 [.v (.int .i64 o1), .v (.int .i64 o1_1), .v (.int .i64 o1_2), .v (.int .i64 o1_3), .own 2, .own 3], .row ⟨true, 3, (.int .i64), o2⟩, .row ⟨true, 3, (.int .i64), o3⟩, .box 24 [.v (.int .i64 o4), .v (.int .i64 o4_1), .v (.int .i64 o4_2), .v (.int .i64 o4_3), .own 5, .own 6], .row ⟨true, 3, (.int .i64), o5⟩, .row ⟨true, 3, (.int .i64), o6⟩]⟩) (fun s o0 o0_1 o1 o1_1 o2 o2_1 o2_2 o2_3 o3 o4 o5 o5_1 o5_2 o5_3 o6 o7 => g (at' Tryd.f38 19) ⟨fr0 151 [(0, .ptr 0 0), (2, .ptr 2 0), (3, .ptr 5 0), (4, .bnd 49 [.ptr 0 0]), (5, .bnd 50 [.ptr 0 0]), (6, .v (.int .i64 s))], [.box 77 [.rd ⟨false, 5, (.int .u8), o0⟩, .v (.int .i64 o0_1), .ifc 79 (.ptr 1 0)], .box 83 [.v (.int .i64 o1), .v (.int .i64 o1_1)], .box 24 [.v (.int .i64 o2), .v (.int .i64 o2_1), .v (.int .i64 o2_2), .v (.int .i64 o2_3), .own 3, .own 4], .row ⟨true, 3, (.int .i64), o3⟩, .row ⟨true, 3, (.int .i64), o4⟩, .box 24 [.v (.int .i64 o5), .v (.int .i64 o5_1), .v (.int .i64 o5_2), .v (.int .i64 o5_3), .own 6, .own 7], .row ⟨true, 3, (.int .i64), o6⟩, .row ⟨true, 3, (.int .i64), o7⟩]⟩) (fun s o0 o0_1 o1 o1_1 o1_2 o1_3 o2 o3 o4 o4_1 o4_2 o4_3 o5 o6 => g (at' Tryd.f38 19) ⟨fr0 151 [(0, .ptr 0 0), (2, .ptr 1 0), (3, .ptr 4 0), (4, .bnd 49 [.ptr 0 0]), (5, .bnd 50 [.ptr 0 0]), (6, .v (.int .i64 s))], [.box 77 [.rd ⟨false, 5, (.int .u8), o0⟩, .v (.int .i64 o0_1), .v (.nilIface)], .box 24 [.v (.int .i64 o1), .v (.int .i64 o1_1), .v (.int .i64 o1_2), .v (.int .i64 o1_3), .own 2, .own 3], .row ⟨true, 3, (.int .i64), o2⟩, .row ⟨true, 3, (.int .i64), o3⟩, .box 24 [.v (.int .i64 o4), .v (.int .i64 o4_1), .v (.int .i64 o4_2), .v (.int .i64 o4_3), .own 5, .own 6], .row ⟨true, 3, (.int .i64), o5⟩, .row ⟨true, 3, (.int .i64), o6⟩]⟩) (fun s x o0 o0_1 o1 o1_1 o2 o2_1 o2_2 o2_3 o3 o4 o5 o5_1 o5_2 o5_3 o6 o7 => g (at' Tryd.f38 20) ⟨fr0 151 [(0, .ptr 0 0), (2, .ptr 2 0), (3, .ptr 5 0), (4, .bnd 49 [.ptr 0 0]), (5, .bnd 50 [.ptr 0 0]), (6, .v (.int .i64 s)), (7, .v (.int .i64 x))], [.box 77 [.rd ⟨false, 5, (.int .u8), o0⟩, .v (.int .i64 o0_1), .ifc 79 (.ptr 1 0)], .box 83 [.v (.int .i64 o1), .v (.int .i64 o1_1)], .box 24 [.v (.int .i64 o2), .v (.int .i64 o2_1), .v (.int .i64 o2_2), .v (.int .i64 o2_3), .own 3, .own 4], .row ⟨true, 3, (.int .i64), o3⟩, .row ⟨true, 3, (.int .i64), o4⟩, .box 24 [.v (.int .i64 o5), .v (.int .i64 o5_1), .v (.int .i64 o5_2), .v (.int .i64 o5_3), .own 6, .own 7], .row ⟨true, 3, (.int .i64), o6⟩, .row ⟨true, 3, (.int .i64), o7⟩]⟩) (fun s x o0 o0_1 o1 o1_1 o1_2 o1_3 o2 o3 o4 o4_1 o4_2 o4_3 o5 o6 => g (at' Tryd.f38 20) ⟨fr0 151 [(0, .ptr 0 0), (2, .ptr 1 0), (3, .ptr 4 0), (4, .bnd 49 [.ptr 0 0]), (5, .bnd 50 [.ptr 0 0]), (6, .v (.int .i64 s)), (7, .v (.int .i64 x))], [.box 77 [.rd ⟨false, 5, (.int .u8), o0⟩, .v (.int .i64 o0_1), .v (.nilIface)], .box 24 [.v (.int .i64 o1), .v (.int .i64 o1_1), .v (.int .i64 o1_2), .v (.int .i64 o1_3), .own 2, .own 3], .row ⟨true, 3, (.int .i64), o2⟩, .row ⟨true, 3, (.int .i64), o3⟩, .box 24 [.v (.int .i64 o4), .v (.int .i64 o4_1), .v (.int .i64 o4_2), .v (.int .i64 o4_3), .own 5, .own 6], .row ⟨true, 3, (.int .i64), o5⟩, .row ⟨true, 3, (.int .i64), o6⟩]⟩) (fun s x o0 o0_1 o1 o1_1 o2 o2_1 o2_2 o2_3 o3 o4 o5 o5_1 o5_2 o5_3 o6 o7 => g (at' Tryd.f38 25) ⟨fr0 151 [(0, .ptr 0 0), (2, .ptr 2 0), (3, .ptr 5 0), (4, .bnd 49 [.ptr 0 0]), (5, .bnd 50 [.ptr 0 0]), (6, .v (.int .i64 s)), (7, .v (.int .i64 x))], [.box 77 [.rd ⟨false, 5, (.int .u8), o0⟩, .v (.int .i64 o0_1), .ifc 79 (.ptr 1 0)], .box 83 [.v (.int .i64 o1), .v (.int .i64 o1_1)], .box 24 [.v (.int .i64 o2), .v (.int .i64 o2_1), .v (.int .i64 o2_2), .v (.int .i64 o2_3), .own 3, .own 4], .row ⟨true, 3, (.int .i64), o3⟩, .row ⟨true, 3, (.int .i64), o4⟩, .box 24 [.v (.int .i64 o5), .v (.int .i64 o5_1), .v (.int .i64 o5_2), .v (.int .i64 o5_3), .own 6, .own 7], .row ⟨true, 3, (.int .i64), o6⟩, .row ⟨true, 3, (.int .i64), o7⟩]⟩) (fun s x o0 o0_1 o1 o1_1 o1_2 o1_3 o2 o3 o4 o4_1 o4_2 o4_3 o5 o6 => g (at' Tryd.f38 25) ⟨fr0 151 [(0, .ptr 0 0), (2, .ptr 1 0), (3, .ptr 4 0), (4, .bnd 49 [.ptr 0 0]), (5, .bnd 50 [.ptr 0 0]), (6, .v (.int .i64 s)), (7, .v (.int .i64 x))], [.box 77 [.rd ⟨false, 5, (.int .u8), o0⟩, .v (.int .i64 o0_1), .v (.nilIface)], .box 24 [.v (.int .i64 o1), .v (.int .i64 o1_1), .v (.int .i64 o1_2), .v (.int .i64 o1_3), .own 2, .own 3], .row ⟨true, 3, (.int .i64), o2⟩, .row ⟨true, 3, (.int .i64), o3⟩, .box 24 [.v (.int .i64 o4), .v (.int .i64 o4_1), .v (.int .i64 o4_2), .v (.int .i64 o4_3), .own 5, .own 6], .row ⟨true, 3, (.int .i64), o5⟩, .row ⟨true, 3, (.int .i64), o6⟩]⟩) (fun s x o0 o0_1 o1 o1_1 o2 o2_1 o2_2 o2_3 o3 o4 o5 o5_1 o5_2 o5_3 o6 o7 => g (at' Tryd.f38 21) ⟨fr0 151 [(0, .ptr 0 0), (2, .ptr 2 0), (3, .ptr 5 0), (4, .bnd 49 [.ptr 0 0]), (5, .bnd 50 [.ptr 0 0]), (6, .v (.int .i64 s)), (7, .v (.int .i64 x))], [.box 77 [.rd ⟨false, 5, (.int .u8), o0⟩, .v (.int .i64 o0_1), .ifc 79 (.ptr 1 0)], .box 83 [.v (.int .i64 o1), .v (.int .i64 o1_1)], .box 24 [.v (.int .i64 o2), .v (.int .i64 o2_1), .v (.int .i64 o2_2), .v (.int .i64 o2_3), .own 3, .own 4], .row ⟨true, 3, (.int .i64), o3⟩, .row ⟨true, 3, (.int .i64), o4⟩, .box 24 [.v (.int .i64 o5), .v (.int .i64 o5_1), .v (.int .i64 o5_2), .v (.int .i64 o5_3), .own 6, .own 7], .row ⟨true, 3, (.int .i64), o6⟩, .row ⟨true, 3, (.int .i64), o7⟩]⟩) (fun s x o0 o0_1 o1 o1_1 o1_2 o1_3 o2 o3 o4 o4_1 o4_2 o4_3 o5 o6 => g (at' Tryd.f38 21) ⟨fr0 151 [(0, .ptr 0 0), (2, .ptr 1 0), (3, .ptr 4 0), (4, .bnd 49 [.ptr 0 0]), (5, .bnd 50 [.ptr 0 0]), (6, .v (.int .i64 s)), (7, .v (.int .i64 x))], [.box 77 [.rd ⟨false, 5, (.int .u8), o0⟩, .v (.int .i64 o0_1), .v (.nilIface)], .box 24 [.v (.int .i64 o1), .v (.int .i64 o1_1), .v (.int .i64 o1_2), .v (.int .i64 o1_3), .own 2, .own 3], .row ⟨true, 3, (.int .i64), o2⟩, .row ⟨true, 3, (.int .i64), o3⟩, .box 24 [.v (.int .i64 o4), .v (.int .i64 o4_1), .v (.int .i64 o4_2), .v (.int .i64 o4_3), .own 5, .own 6], .row ⟨true, 3, (.int .i64), o5⟩, .row ⟨true, 3, (.int .i64), o6⟩]⟩) (fun r0 r1 r2 r3 r4 r5 r6 r7 r8 r9 => K (.agg [.v (.int .i64 r0), .v (.int .i64 r1), .v (.int .i64 r2), .v (.int .i64 r3), .own 2, .own 3]) [.box 77 [.rd ⟨false, 5, (.int .u8), r4⟩, .v (.int .i64 r5), .ifc 79 (.ptr 1 0)], .box 83 [.v (.int .i64 r6), .v (.int .i64 r7)], .row ⟨true, 3, (.int .i64), r8⟩, .row ⟨true, 3, (.int .i64), r9⟩]) (fun r0 r1 r2 r3 r4 r5 r6 r7 => K (.agg [.v (.int .i64 r0), .v (.int .i64 r1), .v (.int .i64 r2), .v (.int .i64 r3), .own 1, .own 2]) [.box 77 [.rd ⟨false, 5, (.int .u8), r4⟩, .v (.int .i64 r5), .v (.nilIface)], .row ⟨true, 3, (.int .i64), r6⟩, .row ⟨true, 3, (.int .i64), r7⟩]) s x o0 o0_1 o1 o1_1 o2 o2_1 o2_2 o2_3 o3 o4 o5 o5_1 o5_2 o5_3 o6 o7 := by kernel_rfl

theorem step_text_reader_read_none_21a {R : Type} (g : List Item → St → Option R) (K : AV → List O → Option R) (s : Int) (x : Int) (o0 : List Int) (o0_1 : Int) (o1 : Int) (o1_1 : Int) (o2 : Int) (o2_1 : Int) (o2_2 : Int) (o2_3 : Int) (o3 : List Int) (o4 : List Int) (o5 : Int) (o5_1 : Int) (o5_2 : Int) (o5_3 : Int) (o6 : List Int) (o7 : List Int) :
    runSeg Tryd.prog (T_text_reader_read @l_text_reader_want_none @l_text_reader_want_fault @l_text_reader_number_fault @l_text_reader_number_none) cuts_text_reader_read_none 1 g (finish Tryd.prog Tryd.f38 1 K) (at' Tryd.f38 21) ⟨fr0 151 [(0, .ptr 0 0), (2, .ptr 2 0), (3, .ptr 5 0), (4, .bnd 49 [.ptr 0 0]), (5, .bnd 50 [.ptr 0 0]), (6, .v (.int .i64 s)), (7, .v (.int .i64 x))], [.box 77 [.rd ⟨false, 5, (.int .u8), o0⟩, .v (.int .i64 o0_1), .ifc 79 (.ptr 1 0)], .box 83 [.v (.int .i64 o1), .v (.int .i64 o1_1)], .box 24 [.v (.int .i64 o2), .v (.int .i64 o2_1), .v (.int .i64 o2_2), .v (.int .i64 o2_3), .own 3, .own 4], .row ⟨true, 3, (.int .i64), o3⟩, .row ⟨true, 3, (.int .i64), o4⟩, .box 24 [.v (.int .i64 o5), .v (.int .i64 o5_1), .v (.int .i64 o5_2), .v (.int .i64 o5_3), .own 6, .own 7], .row ⟨true, 3, (.int .i64), o6⟩, .row ⟨true, 3, (.int .i64), o7⟩]⟩ =
    s_text_reader_read_none_21a (fun s o0 o0_1 o1 o1_1 o2 o2_1 o2_2 o2_3 o3 o4 o5 o5_1 o5_2 o5_3 o6 o7 => g (at' Tryd.f38 15) ⟨fr0 151 [(0, .ptr 0 0), (2, .ptr 2 0), (3, .ptr 5 0), (4, .bnd 49 [.ptr 0 0]), (5, .bnd 50 [.ptr 0 0]), (6, .v (.int .i64 s))], [.box 77 [.rd ⟨false, 5, (.int .u8), o0⟩, .v (.int .i64 o0_1), .ifc 79 (.ptr 1 0)], .box 83 [.v (.int .i64 o1), .v (.int .i64 o1_1)], .box 24 [.v (.int .i64 o2), .v (.int .i64 o2_1), .v (.int .i64 o2_2), .v (.int .i64 o2_3), .own 3, .own 4], .row ⟨true, 3, (.int .i64), o3⟩, .row ⟨true, 3, (.int .i64), o4⟩, .box 24 [.v (.int .i64 o5), .v (.int .i64 o5_1), .v (.int .i64 o5_2), .v (.int .i64 o5_3), .own 6, .own 7], .row ⟨true, 3, (.int .i64), o6⟩, .row ⟨true, 3, (.int .i64), o7⟩]⟩) (fun s o0 o0_1 o1 o1_1 o1_2 o1_3 o2 o3 o4 o4_1 o4_2 o4_3 o5 o6 => g (at' Tryd.f38 15) ⟨fr0 151 [(0, .ptr 0 0), (2, .ptr 1 0), (3, .ptr 4 0), (4, .bnd 49 [.ptr 0 0]), (5, .bnd 50 [.ptr 0 0]), (6, .v (.int .i64 s))], [.box 77 [.rd ⟨false, 5, (.int .u8), o0⟩, .v (.int .i64 o0_1), .v (.nilIface)], .box 24 [.v (.int .i64 o1), .v (.int .i64 o1_1), .v (.int .i64 o1_2), .v (.int .i64 o1_3), .own 2, .own 3], .row ⟨true, 3, (.int .i64), o2⟩, .row ⟨true, 3, (.int .i64), o3⟩, .box 24 [.v (.int .i64 o4), .v (.int .i64 o4_1), .v (.int .i64 o4_2), .v (.int .i64 o4_3), .own 5, .own 6], .row ⟨true, 3, (.int .i64), o5⟩, .row ⟨true, 3, (.int .i64), o6⟩]⟩) (fun s o0 o0_1 o1 o1_1 o2 o2_1 o2_2 o2_3 o3 o4 o5 o5_1 o5_2 o5_3 o6 o7 => g (at' Tryd.f38 19) ⟨fr0 151 [(0, .ptr 0 0), (2, .ptr 2 0), (3, .ptr 5 0), (4, .bnd 49 [.ptr 0 0]), (5, .bnd 50 [.ptr 0 0]), (6, .v (.int .i64 s))], [.box 77 [.rd ⟨false, 5, (.int .u8), o0⟩, .v (.int .i64 o0_1), .ifc 79 (.ptr 1 0)], .box 83 [.v (.int .i64 o1), .v (.int .i64 o1_1)], .box 24 [.v (.int .i64 o2), .v (.int .i64 o2_1), .v (.int .i64 o2_2), .v (.int .i64 o2_3), .own 3, .own 4], .row ⟨true, 3, (.int .i64), o3⟩, .row ⟨true, 3, (.int .i64), o4⟩, .box 24 [.v (.int .i64 o5), .v (.int .i64 o5_1), .v (.int .i64 o5_2), .v (.int .i64 o5_3), .own 6, .own 7], .row ⟨true, 3, (.int .i64), o6⟩, .row ⟨true, 3, (.int .i64), o7⟩]⟩) (fun s o0 o0_1 o1 o1_1 o1_2 o1_3 o2 o3 o4 o4_1 o4_2 o4_3 o5 o6 => g (at' Tryd.f38 19) ⟨fr0 151 [(0, .ptr 0 0), (2, .ptr 1 0), (3, .ptr 4 0), (4, .bnd 49 [.ptr 0 0]), (5, .bnd 50 [.ptr 0 0]), (6, .v (.int .i64 s))], [.box 77 [.rd ⟨false, 5, (.int .u8), o0⟩, .v (.int .i64 o0_1), .v (.nilIface)], .box 24 [.v (.int .i64 o1), .v (.int .i64 o1_1), .v (.int .i64 o1_2), .v (.int .i64 o1_3), .own 2, .own 3], .row ⟨true, 3, (.int .i64), o2⟩, .row ⟨true, 3, (.int .i64), o3⟩, .box 24 [.v (.int .i64 o4), .v (.int .i64 o4_1), .v (.int .i64 o4_2), .v (.int .i64 o4_3), .own 5, .own 6], .row ⟨true, 3, (.int .i64), o5⟩, .row ⟨true, 3, (.int .i64), o6⟩]⟩) (fun s x o0 o0_1 o1 o1_1 o2 o2_1 o2_2 o2_3 o3 o4 o5 o5_1 o5_2 o5_3 o6 o7 => g (at' Tryd.f38 20) ⟨fr0 151 [(0, .ptr 0 0), (2, .ptr 2 0), (3, .ptr 5 0), (4, .bnd 49 [.ptr 0 0]), (5, .bnd 50 [.ptr 0 0]), (6, .v (.int .i64 s)), (7, .v (.int .i64 x))], [.box 77 [.rd ⟨false, 5, (.int .u8), o0⟩, .v (.int .i64 o0_1), .ifc 79 (.ptr 1 0)], .box 83 [.v (.int .i64 o1), .v (.int .i64 o1_1)], .box 24 [.v (.int .i64 o2), .v (.int .i64 o2_1), .v (.int .i64 o2_2), .v (.int .i64 o2_3), .own 3, .own 4], .row ⟨true, 3, (.int .i64), o3⟩, .row ⟨true, 3, (.int .i64), o4⟩, .box 24 [.v (.int .i64 o5), .v (.int .i64 o5_1), .v (.int .i64 o5_2), .v (.int .i64 o5_3), .own 6, .own 7], .row ⟨true, 3, (.int .i64), o6⟩, .row ⟨true, 3, (.int .i64), o7⟩]⟩) (fun s x o0 o0_1 o1 o1_1 o1_2 o1_3 o2 o3 o4 o4_1 o4_2 o4_3 o5 o6 => g (at' Tryd.f38 20) ⟨fr0 151 [(0, .ptr 0 0), (2, .ptr 1 0), (3, .ptr 4 0), (4, .bnd 49 [.ptr 0 0]), (5, .bnd 50 [.ptr 0 0]), (6, .v (.int .i64 s)), (7, .v (.int .i64 x))], [.box 77 [.rd ⟨false, 5, (.int .u8), o0⟩, .v (.int .i64 o0_1), .v (.nilIface)], .box 24 [.v (.int .i64 o1), .v (.int .i64 o1_1), .v (.int .i64 o1_2), .v (.int .i64 o1_3), .own 2, .own 3], .row ⟨true, 3, (.int .i64), o2⟩, .row ⟨true, 3, (.int .i64), o3⟩, .box 24 [.v (.int .i64 o4), .v (.int .i64 o4_1), .v (.int .i64 o4_2), .v (.int .i64 o4_3), .own 5, .own 6], .row ⟨true, 3, (.int .i64), o5⟩, .row ⟨true, 3, (.int .i64), o6⟩]⟩) (fun s x o0 o0_1 o1 o1_1 o2 o2_1 o2_2 o2_3 o3 o4 o5 o5_1 o5_2 o5_3 o6 o7 => g (at' Tryd.f38 25) ⟨fr0 151 [(0, .ptr 0 0), (2, .ptr 2 0), (3, .ptr 5 0), (4, .bnd 49 [.ptr 0 0]), (5, .bnd 50 [.ptr 0 0]), (6, .v (.int .i64 s)), (7, .v (.int .i64 x))], [.box 77 [.rd ⟨false, 5, (.int .u8), o0⟩, .v (.int .i64 o0_1), .ifc 79 (.ptr 1 0)], .box 83 [.v (.int .i64 o1), .v (.int .i64 o1_1)], .box 24 [.v (.int .i64 o2), .v (.int .i64 o2_1), .v (.int .i64 o2_2), .v (.int .i64 o2_3), .own 3, .own 4], .row ⟨true, 3, (.int .i64), o3⟩, .row ⟨true, 3, (.int .i64), o4⟩, .box 24 [.v (.int .i64 o5), .v (.int .i64 o5_1), .v (.int .i64 o5_2), .v (.int .i64 o5_3), .own 6, .own 7], .row ⟨true, 3, (.int .i64), o6⟩, .row ⟨true, 3, (.int .i64), o7⟩]⟩) (fun s x o0 o0_1 o1 o1_1 o1_2 o1_3 o2 o3 o4 o4_1 o4_2 o4_3 o5 o6 => g (at' Tryd.f38 25) ⟨fr0 151 [(0, .ptr 0 0), (2, .ptr 1 0), (3, .ptr 4 0), (4, .bnd 49 [.ptr 0 0]), (5, .bnd 50 [.ptr 0 0]), (6, .v (.int .i64 s)), (7, .v (.int .i64 x))], [.box 77 [.rd ⟨false, 5, (.int .u8), o0⟩, .v (.int .i64 o0_1), .v (.nilIface)], .box 24 [.v (.int .i64 o1), .v (.int .i64 o1_1), .v (.int .i64 o1_2), .v (.int .i64 o1_3), .own 2, .own 3], .row ⟨true, 3, (.int .i64), o2⟩, .row ⟨true, 3, (.int .i64), o3⟩, .box 24 [.v (.int .i64 o4), .v (.int .i64 o4_1), .v (.int .i64 o4_2), .v (.int .i64 o4_3), .own 5, .own 6], .row ⟨true, 3, (.int .i64), o5⟩, .row ⟨true, 3, (.int .i64), o6⟩]⟩) (fun s x o0 o0_1 o1 o1_1 o2 o2_1 o2_2 o2_3 o3 o4 o5 o5_1 o5_2 o5_3 o6 o7 => g (at' Tryd.f38 21) ⟨fr0 151 [(0, .ptr 0 0), (2, .ptr 2 0), (3, .ptr 5 0), (4, .bnd 49 [.ptr 0 0]), (5, .bnd 50 [.ptr 0 0]), (6, .v (.int .i64 s)), (7, .v (.int .i64 x))], [.box 77 [.rd ⟨false, 5, (.int .u8), o0⟩, .v (.int .i64 o0_1), .ifc 79 (.ptr 1 0)], .box 83 [.v (.int .i64 o1), .v (.int .i64 o1_1)], .box 24 [.v (.int .i64 o2), .v (.int .i64 o2_1), .v (.int .i64 o2_2), .v (.int .i64 o2_3), .own 3, .own 4], .row ⟨true, 3, (.int .i64), o3⟩, .row ⟨true, 3, (.int .i64), o4⟩, .box 24 [.v (.int .i64 o5), .v (.int .i64 o5_1), .v (.int .i64 o5_2), .v (.int .i64 o5_3), .own 6, .own 7], .row ⟨true, 3, (.int .i64), o6⟩, .row ⟨true, 3, (.int .i64), o7⟩]⟩) (fun s x o0 o0_1 o1 o1_1 o1_2 o1_3 o2 o3 o4 o4_1 o4_2 o4_3 o5 o6 => g (at' Tryd.f38 21) ⟨fr0 151 [(0, .ptr 0 0), (2, .ptr 1 0), (3, .ptr 4 0), (4, .bnd 49 [.ptr 0 0]), (5, .bnd 50 [.ptr 0 0]), (6, .v (.int .i64 s)), (7, .v (.int .i64 x))], [.box 77 [.rd ⟨false, 5, (.int .u8), o0⟩, .v (.int .i64 o0_1), .v (.nilIface)], .box 24 [.v (.int .i64 o1), .v (.int .i64 o1_1), .v (.int .i64 o1_2), .v (.int .i64 o1_3), .own 2, .own 3], .row ⟨true, 3, (.int .i64), o2⟩, .row ⟨true, 3, (.int .i64), o3⟩, .box 24 [.v (.int .i64 o4), .v (.int .i64 o4_1), .v (.int .i64 o4_2), .v (.int .i64 o4_3), .own 5, .own 6], .row ⟨true, 3, (.int .i64), o5⟩, .row ⟨true, 3, (.int .i64), o6⟩]⟩) (fun r0 r1 r2 r3 r4 r5 r6 r7 r8 r9 => K (.agg [.v (.int .i64 r0), .v (.int .i64 r1), .v (.int .i64 r2), .v (.int .i64 r3), .own 2, .own 3]) [.box 77 [.rd ⟨false, 5, (.int .u8), r4⟩, .v (.int .i64 r5), .ifc 79 (.ptr 1 0)], .box 83 [.v (.int .i64 r6), .v (.int .i64 r7)], .row ⟨true, 3, (.int .i64), r8⟩, .row ⟨true, 3, (.int .i64), r9⟩]) (fun r0 r1 r2 r3 r4 r5 r6 r7 => K (.agg [.v (.int .i64 r0), .v (.int .i64 r1), .v (.int .i64 r2), .v (.int .i64 r3), .own 1, .own 2]) [.box 77 [.rd ⟨false, 5, (.int .u8), r4⟩, .v (.int .i64 r5), .v (.nilIface)], .row ⟨true, 3, (.int .i64), r6⟩, .row ⟨true, 3, (.int .i64), r7⟩]) s x o0 o0_1 o1 o1_1 o2 o2_1 o2_2 o2_3 o3 o4 o5 o5_1 o5_2 o5_3 o6 o7 := gstep_text_reader_read_none_21a @l_text_reader_want_none @l_text_reader_want_fault @l_text_reader_number_fault @l_text_reader_number_none g K s x o0 o0_1 o1 o1_1 o2 o2_1 o2_2 o2_3 o3 o4 o5 o5_1 o5_2 o5_3 o6 o7

theorem gstep_text_reader_read_none_21b (l_text_reader_want_none : {R : Type} → ByteArray → (List Int) → Int → ((List Int) → Int → Int → Int → Option R) → ((List Int) → Int → Option R) → Option R) (l_text_reader_want_fault : {R : Type} → ByteArray → (List Int) → Int → Int → Int → ((List Int) → Int → Int → Int → Option R) → Option R) (l_text_reader_number_fault : {R : Type} → Int → Int → Int → (List Int) → Int → Int → Int → (Int → (List Int) → Int → Int → Int → Option R) → Option R) (l_text_reader_number_none : {R : Type} → Int → Int → Int → (List Int) → Int → (Int → (List Int) → Int → Int → Int → Option R) → (Int → (List Int) → Int → Option R) → Option R) {R : Type} (g : List Item → St → Option R) (K : AV → List O → Option R) (s : Int) (x : Int) (o0 : List Int) (o0_1 : Int) (o1 : Int) (o1_1 : Int) (o1_2 : Int) (o1_3 : Int) (o2 : List Int) (o3 : List Int) (o4 : Int) (o4_1 : Int) (o4_2 : Int) (o4_3 : Int) (o5 : List Int) (o6 : List Int) :
    runSeg Tryd.prog (T_text_reader_read @l_text_reader_want_none @l_text_reader_want_fault @l_text_reader_number_fault @l_text_reader_number_none) cuts_text_reader_read_none 1 g (finish Tryd.prog Tryd.f38 1 K) (at' Tryd.f38 21) ⟨fr0 151 [(0, .ptr 0 0), (2, .ptr 1 0), (3, .ptr 4 0), (4, .bnd 49 [.ptr 0 0]), (5, .bnd 50 [.ptr 0 0]), (6, .v (.int .i64 s)), (7, .v (.int .i64 x))], [.box 77 [.rd ⟨false, 5, (.int .u8), o0⟩, .v (.int .i64 o0_1), .v (.nilIface)], .box 24 [.v (.int .i64 o1), .v (.int .i64 o1_1), .v (.int .i64 o1_2), .v (.int .i64 o1_3), .own 2, .own 3], .row ⟨true, 3, (.int .i64), o2⟩, .row ⟨true, 3, (.int .i64), o3⟩, .box 24 [.v (.int .i64 o4), .v (.int .i64 o4_1), .v (.int .i64 o4_2), .v (.int .i64 o4_3), .own 5, .own 6], .row ⟨true, 3, (.int .i64), o5⟩, .row ⟨true, 3, (.int .i64), o6⟩]⟩ =
    (fun (g38_15 : Int → (List Int) → Int → Int → Int → Int → Int → Int → Int → (List Int) → (List Int) → Int → Int → Int → Int → (List Int) → (List Int) → Option R) (g38_15b : Int → (List Int) → Int → Int → Int → Int → Int → (List Int) → (List Int) → Int → Int → Int → Int → (List Int) → (List Int) → Option R) (g38_19 : Int → (List Int) → Int → Int → Int → Int → Int → Int → Int → (List Int) → (List Int) → Int → Int → Int → Int → (List Int) → (List Int) → Option R) (g38_19b : Int → (List Int) → Int → Int → Int → Int → Int → (List Int) → (List Int) → Int → Int → Int → Int → (List Int) → (List Int) → Option R) (g38_20 : Int → Int → (List Int) → Int → Int → Int → Int → Int → Int → Int → (List Int) → (List Int) → Int → Int → Int → Int → (List Int) → (List Int) → Option R) (g38_20b : Int → Int → (List Int) → Int → Int → Int → Int → Int → (List Int) → (List Int) → Int → Int → Int → Int → (List Int) → (List Int) → Option R) (g38_25 : Int → Int → (List Int) → Int → Int → Int → Int → Int → Int → Int → (List Int) → (List Int) → Int → Int → Int → Int → (List Int) → (List Int) → Option R) (g38_25b : Int → Int → (List Int) → Int → Int → Int → Int → Int → (List Int) → (List Int) → Int → Int → Int → Int → (List Int) → (List Int) → Option R) (g38_21 : Int → Int → (List Int) → Int → Int → Int → Int → Int → Int → Int → (List Int) → (List Int) → Int → Int → Int → Int → (List Int) → (List Int) → Option R) (g38_21b : Int → Int → (List Int) → Int → Int → Int → Int → Int → (List Int) → (List Int) → Int → Int → Int → Int → (List Int) → (List Int) → Option R) (K0 : Int → Int → Int → Int → (List Int) → Int → Int → Int → (List Int) → (List Int) → Option R) (K1 : Int → Int → Int → Int → (List Int) → Int → (List Int) → (List Int) → Option R) (s : Int) (x : Int) (o0 : List Int) (o0_1 : Int) (o1 : Int) (o1_1 : Int) (o1_2 : Int) (o1_3 : Int) (o2 : List Int) (o3 : List Int) (o4 : Int) (o4_1 : Int) (o4_2 : Int) (o4_3 : Int) (o5 : List Int) (o6 : List Int) =>
    g38_20b s (IntKind.i64.wrap (x + 1)) o0 o0_1 o1 o1_1 o1_2 o1_3 o2 o3 o4 o4_1 o4_2 o4_3 o5 o6) (fun s o0 o0_1 o1 o1_1 o2 o2_1 o2_2 o2_3 o3 o4 o5 o5_1 o5_2 o5_3 o6 o7 => g (at' Tryd.f38 15) ⟨fr0 151 [(0, .ptr 0 0), (2, .ptr 2 0), (3, .ptr 5 0), (4, .bnd 49 [.ptr 0 0]), (5, .bnd 50 [.ptr 0 0]), (6, .v (.int .i64 s))], [.box 77 [.rd ⟨false, 5, (.int .u8), o0⟩, .v (.int .i64 o0_1), .ifc 79 (.ptr 1 0)], .box 83 [.v (.int .i64 o1), .v (.int .i64 o1_1)], .box 24 [.v (.int .i64 o2), .v (.int .i64 o2_1), .v (.int .i64 o2_2), .v (.int .i64 o2_3), .own 3, .own 4], .row ⟨true, 3, (.int .i64), o3⟩, .row ⟨true, 3, (.int .i64), o4⟩, .box 24 [.v (.int .i64 o5), .v (.int .i64 o5_1), .v (.int .i64 o5_2), .v (.int .i64 o5_3), .own 6, .own 7], .row ⟨true, 3, (.int .i64), o6⟩, .row ⟨true, 3, (.int .i64), o7⟩]⟩) (fun s o0 o0_1 o1 o1_1 o1_2 o1_3 o2 o3 o4 o4_1 o4_2 o4_3 o5 o6 => g (at' Tryd.f38 15) ⟨fr0 151 [(0, .ptr 0 0), (2, .ptr 1 0), (3, .ptr 4 0), (4, .bnd 49 [.ptr 0 0]), (5, .bnd 50 [.ptr 0 0]), (6, .v (.int .i64 s))], [.box 77 [.rd ⟨false, 5, (.int .u8), o0⟩, .v (.int .i64 o0_1), .v (.nilIface)], .box 24 [.v (.int .i64 o1), .v (.int .i64 o1_1), .v (.int .i64 o1_2), .v (.int .i64 o1_3), .own 2, .own 3], .row ⟨true, 3, (.int .i64), o2⟩, .row ⟨true, 3, (.int .i64), o3⟩, .box 24 [.v (.int .i64 o4), .v (.int .i64 o4_1), .v (.int .i64 o4_2), .v (.int .i64 o4_3), .own 5, .own 6], .row ⟨true, 3, (.int .i64), o5⟩, .row ⟨true, 3, (.int .i64), o6⟩]⟩) (fun s o0 o0_1 o1 o1_1 o2 o2_1 o2_2 o2_3 o3 o4 o5 o5_1 o5_2 o5_3 o6 o7 => g (at' Tryd.f38 19) ⟨fr0 151 [(0, .ptr 0 0), (2, .ptr 2 0), (3, .ptr 5 0), (4, .bnd 49 [.ptr 0 0]), (5, .bnd 50 [.ptr 0 0]), (6, .v (.int .i64 s))], [.box 77 [.rd ⟨false, 5, (.int .u8), o0⟩, .v (.int .i64 o0_1), .ifc 79 (.ptr 1 0)], .box 83 [.v (.int .i64 o1), .v (.int .i64 o1_1)], .box 24 [.v (.int .i64 o2), .v (.int .i64 o2_1), .v (.int .i64 o2_2), .v (.int .i64 o2_3), .own 3, .own 4], .row ⟨true, 3, (.int .i64), o3⟩, .row ⟨true, 3, (.int .i64), o4⟩, .box 24 [.v (.int .i64 o5), .v (.int .i64 o5_1), .v (.int .i64 o5_2), .v (.int .i64 o5_3), .own 6, .own 7], .row ⟨true, 3, (.int .i64), o6⟩, .row ⟨true, 3, (.int .i64), o7⟩]⟩) (fun s o0 o0_1 o1 o1_1 o1_2 o1_3 o2 o3 o4 o4_1 o4_2 o4_3 o5 o6 => g (at' Tryd.f38 19) ⟨fr0 151 [(0, .ptr 0 0), (2, .ptr 1 0), (3, .ptr 4 0), (4, .bnd 49 [.ptr 0 0]), (5, .bnd 50 [.ptr 0 0]), (6, .v (.int .i64 s))], [.box 77 [.rd ⟨false, 5, (.int .u8), o0⟩, .v (.int .i64 o0_1), .v (.nilIface)], .box 24 [.v (.int .i64 o1), .v (.int .i64 o1_1), .v (.int .i64 o1_2), .v (.int .i64 o1_3), .own 2, .own 3], .row ⟨true, 3, (.int .i64), o2⟩, .row ⟨true, 3, (.int .i64), o3⟩, .box 24 [.v (.int .i64 o4), .v (.int .i64 o4_1), .v (.int .i64 o4_2), .v (.int .i64 o4_3), .own 5, .own 6], .row ⟨true, 3, (.int .i64), o5⟩, .row ⟨true, 3, (.int .i64), o6⟩]⟩) (fun s x o0 o0_1 o1 o1_1 o2 o2_1 o2_2 o2_3 o3 o4 o5 o5_1 o5_2 o5_3 o6 o7 => g (at' Tryd.f38 20) ⟨fr0 151 [(0, .ptr 0 0), (2, .ptr 2 0), (3, .ptr 5 0), (4, .bnd 49 [.ptr 0 0]), (5, .bnd 50 [.ptr 0 0]), (6, .v (.int .i64 s)), (7, .v (.int .i64 x))], [.box 77 [.rd ⟨false, 5, (.int .u8), o0⟩, .v (.int .i64 o0_1), .ifc 79 (.ptr 1 0)], .box 83 [.v (.int .i64 o1), .v (.int .i64 o1_1)], .box 24 [.v (.int .i64 o2), .v (.int .i64 o2_1), .v (.int .i64 o2_2), .v (.int .i64 o2_3), .own 3, .own 4], .row ⟨true, 3, (.int .i64), o3⟩, .row ⟨true, 3, (.int .i64), o4⟩, .box 24 [.v (.int .i64 o5), .v (.int .i64 o5_1), .v (.int .i64 o5_2), .v (.int .i64 o5_3), .own 6, .own 7], .row ⟨true, 3, (.int .i64), o6⟩, .row ⟨true, 3, (.int .i64), o7⟩]⟩) (fun s x o0 o0_1 o1 o1_1 o1_2 o1_3 o2 o3 o4 o4_1 o4_2 o4_3 o5 o6 => g (at' Tryd.f38 20) ⟨fr0 151 [(0, .ptr 0 0), (2, .ptr 1 0), (3, .ptr 4 0), (4, .bnd 49 [.ptr 0 0]), (5, .bnd 50 [.ptr 0 0]), (6, .v (.int .i64 s)), (7, .v (.int .i64 x))], [.box 77 [.rd ⟨false, 5, (.int .u8), o0⟩, .v (.int .i64 o0_1), .v (.nilIface)], .box 24 [.v (.int .i64 o1), .v (.int .i64 o1_1), .v (.int .i64 o1_2), .v (.int .i64 o1_3), .own 2, .own 3], .row ⟨true, 3, (.int .i64), o2⟩, .row ⟨true, 3, (.int .i64), o3⟩, .box 24 [.v (.int .i64 o4), .v (.int .i64 o4_1), .v (.int .i64 o4_2), .v (.int .i64 o4_3), .own 5, .own 6], .row ⟨true, 3, (.int .i64), o5⟩, .row ⟨true, 3, (.int .i64), o6⟩]⟩) (fun s x o0 o0_1 o1 o1_1 o2 o2_1 o2_2 o2_3 o3 o4 o5 o5_1 o5_2 o5_3 o6 o7 => g (at' Tryd.f38 25) ⟨fr0 151 [(0, .ptr 0 0), (2, .ptr 2 0), (3, .ptr 5 0), (4, .bnd 49 [.ptr 0 0]), (5, .bnd 50 [.ptr 0 0]), (6, .v (.int .i64 s)), (7, .v (.int .i64 x))], [.box 77 [.rd ⟨false, 5, (.int .u8), o0⟩, .v (.int .i64 o0_1), .ifc 79 (.ptr 1 0)], .box 83 [.v (.int .i64 o1), .v (.int .i64 o1_1)], .box 24 [.v (.int .i64 o2), .v (.int .i64 o2_1), .v (.int .i64 o2_2), .v (.int .i64 o2_3), .own 3, .own 4], .row ⟨true, 3, (.int .i64), o3⟩, .row ⟨true, 3, (.int .i64), o4⟩, .box 24 [.v (.int .i64 o5), .v (.int .i64 o5_1), .v (.int .i64 o5_2), .v (.int .i64 o5_3), .own 6, .own 7], .row ⟨true, 3, (.int .i64), o6⟩, .row ⟨true, 3, (.int .i64), o7⟩]⟩) (fun s x o0 o0_1 o1 o1_1 o1_2 o1_3 o2 o3 o4 o4_1 o4_2 o4_3 o5 o6 => g (at' Tryd.f38 25) ⟨fr0 151 [(0, .ptr 0 0), (2, .ptr 1 0), (3, .ptr 4 0), (4, .bnd 49 [.ptr 0 0]), (5, .bnd 50 [.ptr 0 0]), (6, .v (.int .i64 s)), (7, .v (.int .i64 x))], [.box 77 [.rd ⟨false, 5, (.int .u8), o0⟩, .v (.int .i64 o0_1), .v (.nilIface)], .box 24 [.v (.int .i64 o1), .v (.int .i64 o1_1), .v (.int .i64 o1_2), .v (.int .i64 o1_3), .own 2, .own 3], .row ⟨true, 3, (.int .i64), o2⟩, .row ⟨true, 3, (.int .i64), o3⟩, .box 24 [.v (.int .i64 o4), .v (.int .i64 o4_1), .v (.int .i64 o4_2), .v (.int .i64 o4_3), .own 5, .own 6], .row ⟨true, 3, (.int .i64), o5⟩, .row ⟨true, 3, (.int .i64), o6⟩]⟩) (fun s x o0 o0_1 o1 o1_1 o2 o2_1 o2_2 o2_3 o3 o4 o5 o5_1 o5_2 o5_3 o6 o7 => g (at' Tryd.f38 21) ⟨fr0 151 [(0, .ptr 0 0), (2, .ptr 2 0), (3, .ptr 5 0), (4, .bnd 49 [.ptr 0 0]), (5, .bnd 50 [.ptr 0 0]), (6, .v (.int .i64 s)), (7, .v (.int .i64 x))], [.box 77 [.rd ⟨false, 5, (.int .u8), o0⟩, .v (.int .i64 o0_1), .ifc 79 (.ptr 1 0)], .box 83 [.v (.int .i64 o1), .v (.int .i64 o1_1)], .box 24 [.v (.int .i64 o2), .v (.int .i64 o2_1), .v (.int .i64 o2_2), .v (.int .i64 o2_3), .own 3, .own 4], .row ⟨true, 3, (.int .i64), o3⟩, .row ⟨true, 3, (.int .i64), o4⟩, .box 24 [.v (.int .i64 o5), .v (.int .i64 o5_1), .v (.int .i64 o5_2), .v (.int .i64 o5_3), .own 6, .own 7], .row ⟨true, 3, (.int .i64), o6⟩, .row ⟨true, 3, (.int .i64), o7⟩]⟩) (fun s x o0 o0_1 o1 o1_1 o1_2 o1_3 o2 o3 o4 o4_1 o4_2 o4_3 o5 o6 => g (at' Tryd.f38 21) ⟨fr0 151 [(0, .ptr 0 0), (2, .ptr 1 0), (3, .ptr 4 0), (4, .bnd 49 [.ptr 0 0]), (5, .bnd 50 [.ptr 0 0]), (6, .v (.int .i64 s)), (7, .v (.int .i64 x))], [.box 77 [.rd ⟨false, 5, (.int .u8), o0⟩, .v (.int .i64 o0_1), .v (.nilIface)], .box 24 [.v (.int .i64 o1), .v (.int .i64 o1_1), .v (.int .i64 o1_2), .v (.int .i64 o1_3), .own 2, .own 3], .row ⟨true, 3, (.int .i64), o2⟩, .row ⟨true, 3, (.int .i64), o3⟩, .box 24 [.v (.int .i64 o4), .v (.int .i64 o4_1), .v (.int .i64 o4_2), .v (.int .i64 o4_3), .own 5, .own 6], .row ⟨true, 3, (.int .i64), o5⟩, .row ⟨true, 3, (.int .i64), o6⟩]⟩) (fun r0 r1 r2 r3 r4 r5 r6 r7 r8 r9 => K (.agg [.v (.int .i64 r0), .v (.int .i64 r1), .v (.int .i64 r2), .v (.int .i64 r3), .own 2, .own 3]) [.box 77 [.rd ⟨false, 5, (.int .u8), r4⟩, .v (.int .i64 r5), .ifc 79 (.ptr 1 0)], .box 83 [.v (.int .i64 r6), .v (.int .i64 r7)], .row ⟨true, 3, (.int .i64), r8⟩, .row ⟨true, 3, (.int .i64), r9⟩]) (fun r0 r1 r2 r3 r4 r5 r6 r7 => K (.agg [.v (.int .i64 r0), .v (.int .i64 r1), .v (.int .i64 r2), .v (.int .i64 r3), .own 1, .own 2]) [.box 77 [.rd ⟨false, 5, (.int .u8), r4⟩, .v (.int .i64 r5), .v (.nilIface)], .row ⟨true, 3, (.int .i64), r6⟩, .row ⟨true, 3, (.int .i64), r7⟩]) s x o0 o0_1 o1 o1_1 o1_2 o1_3 o2 o3 o4 o4_1 o4_2 o4_3 o5 o6 := by kernel_rfl

theorem step_text_reader_read_none_21b {R : Type} (g : List Item → St → Option R) (K : AV → List O → Option R) (s : Int) (x : Int) (o0 : List Int) (o0_1 : Int) (o1 : Int) (o1_1 : Int) (o1_2 : Int) (o1_3 : Int) (o2 : List Int) (o3 : List Int) (o4 : Int) (o4_1 : Int) (o4_2 : Int) (o4_3 : Int) (o5 : List Int) (o6 : List Int) :
    runSeg Tryd.prog (T_text_reader_read @l_text_reader_want_none @l_text_reader_want_fault @l_text_reader_number_fault @l_text_reader_number_none) cuts_text_reader_read_none 1 g (finish Tryd.prog Tryd.f38 1 K) (at' Tryd.f38 21) ⟨fr0 151 [(0, .ptr 0 0), (2, .ptr 1 0), (3, .ptr 4 0), (4, .bnd 49 [.ptr 0 0]), (5, .bnd 50 [.ptr 0 0]), (6, .v (.int .i64 s)), (7, .v (.int .i64 x))], [.box 77 [.rd ⟨false, 5, (.int .u8), o0⟩, .v (.int .i64 o0_1), .v (.nilIface)], .box 24 [.v (.int .i64 o1), .v (.int .i64 o1_1), .v (.int .i64 o1_2), .v (.int .i64 o1_3), .own 2, .own 3], .row ⟨true, 3, (.int .i64), o2⟩, .row ⟨true, 3, (.int .i64), o3⟩, .box 24 [.v (.int .i64 o4), .v (.int .i64 o4_1), .v (.int .i64 o4_2), .v (.int .i64 o4_3), .own 5, .own 6], .row ⟨true, 3, (.int .i64), o5⟩, .row ⟨true, 3, (.int .i64), o6⟩]⟩ =
    s_text_reader_read_none_21b (fun s o0 o0_1 o1 o1_1 o2 o2_1 o2_2 o2_3 o3 o4 o5 o5_1 o5_2 o5_3 o6 o7 => g (at' Tryd.f38 15) ⟨fr0 151 [(0, .ptr 0 0), (2, .ptr 2 0), (3, .ptr 5 0), (4, .bnd 49 [.ptr 0 0]), (5, .bnd 50 [.ptr 0 0]), (6, .v (.int .i64 s))], [.box 77 [.rd ⟨false, 5, (.int .u8), o0⟩, .v (.int .i64 o0_1), .ifc 79 (.ptr 1 0)], .box 83 [.v (.int .i64 o1), .v (.int .i64 o1_1)], .box 24 [.v (.int .i64 o2), .v (.int .i64 o2_1), .v (.int .i64 o2_2), .v (.int .i64 o2_3), .own 3, .own 4], .row ⟨true, 3, (.int .i64), o3⟩, .row ⟨true, 3, (.int .i64), o4⟩, .box 24 [.v (.int .i64 o5), .v (.int .i64 o5_1), .v (.int .i64 o5_2), .v (.int .i64 o5_3), .own 6, .own 7], .row ⟨true, 3, (.int .i64), o6⟩, .row ⟨true, 3, (.int .i64), o7⟩]⟩) (fun s o0 o0_1 o1 o1_1 o1_2 o1_3 o2 o3 o4 o4_1 o4_2 o4_3 o5 o6 => g (at' Tryd.f38 15) ⟨fr0 151 [(0, .ptr 0 0), (2, .ptr 1 0), (3, .ptr 4 0), (4, .bnd 49 [.ptr 0 0]), (5, .bnd 50 [.ptr 0 0]), (6, .v (.int .i64 s))], [.box 77 [.rd ⟨false, 5, (.int .u8), o0⟩, .v (.int .i64 o0_1), .v (.nilIface)], .box 24 [.v (.int .i64 o1), .v (.int .i64 o1_1), .v (.int .i64 o1_2), .v (.int .i64 o1_3), .own 2, .own 3], .row ⟨true, 3, (.int .i64), o2⟩, .row ⟨true, 3, (.int .i64), o3⟩, .box 24 [.v (.int .i64 o4), .v (.int .i64 o4_1), .v (.int .i64 o4_2), .v (.int .i64 o4_3), .own 5, .own 6], .row ⟨true, 3, (.int .i64), o5⟩, .row ⟨true, 3, (.int .i64), o6⟩]⟩) (fun s o0 o0_1 o1 o1_1 o2 o2_1 o2_2 o2_3 o3 o4 o5 o5_1 o5_2 o5_3 o6 o7 => g (at' Tryd.f38 19) ⟨fr0 151 [(0, .ptr 0 0), (2, .ptr 2 0), (3, .ptr 5 0), (4, .bnd 49 [.ptr 0 0]), (5, .bnd 50 [.ptr 0 0]), (6, .v (.int .i64 s))], [.box 77 [.rd ⟨false, 5, (.int .u8), o0⟩, .v (.int .i64 o0_1), .ifc 79 (.ptr 1 0)], .box 83 [.v (.int .i64 o1), .v (.int .i64 o1_1)], .box 24 [.v (.int .i64 o2), .v (.int .i64 o2_1), .v (.int .i64 o2_2), .v (.int .i64 o2_3), .own 3, .own 4], .row ⟨true, 3, (.int .i64), o3⟩, .row ⟨true, 3, (.int .i64), o4⟩, .box 24 [.v (.int .i64 o5), .v (.int .i64 o5_1), .v (.int .i64 o5_2), .v (.int .i64 o5_3), .own 6, .own 7], .row ⟨true, 3, (.int .i64), o6⟩, .row ⟨true, 3, (.int .i64), o7⟩]⟩) (fun s o0 o0_1 o1 o1_1 o1_2 o1_3 o2 o3 o4 o4_1 o4_2 o4_3 o5 o6 => g (at' Tryd.f38 19) ⟨fr0 151 [(0, .ptr 0 0), (2, .ptr 1 0), (3, .ptr 4 0), (4, .bnd 49 [.ptr 0 0]), (5, .bnd 50 [.ptr 0 0]), (6, .v (.int .i64 s))], [.box 77 [.rd ⟨false, 5, (.int .u8), o0⟩, .v (.int .i64 o0_1), .v (.nilIface)], .box 24 [.v (.int .i64 o1), .v (.int .i64 o1_1), .v (.int .i64 o1_2), .v (.int .i64 o1_3), .own 2, .own 3], .row ⟨true, 3, (.int .i64), o2⟩, .row ⟨true, 3, (.int .i64), o3⟩, .box 24 [.v (.int .i64 o4), .v (.int .i64 o4_1), .v (.int .i64 o4_2), .v (.int .i64 o4_3), .own 5, .own 6], .row ⟨true, 3, (.int .i64), o5⟩, .row ⟨true, 3, (.int .i64), o6⟩]⟩) (fun s x o0 o0_1 o1 o1_1 o2 o2_1 o2_2 o2_3 o3 o4 o5 o5_1 o5_2 o5_3 o6 o7 => g (at' Tryd.f38 20) ⟨fr0 151 [(0, .ptr 0 0), (2, .ptr 2 0), (3, .ptr 5 0), (4, .bnd 49 [.ptr 0 0]), (5, .bnd 50 [.ptr 0 0]), (6, .v (.int .i64 s)), (7, .v (.int .i64 x))], [.box 77 [.rd ⟨false, 5, (.int .u8), o0⟩, .v (.int .i64 o0_1), .ifc 79 (.ptr 1 0)], .box 83 [.v (.int .i64 o1), .v (.int .i64 o1_1)], .box 24 [.v (.int .i64 o2), .v (.int .i64 o2_1), .v (.int .i64 o2_2), .v (.int .i64 o2_3), .own 3, .own 4], .row ⟨true, 3, (.int .i64), o3⟩, .row ⟨true, 3, (.int .i64), o4⟩, .box 24 [.v (.int .i64 o5), .v (.int .i64 o5_1), .v (.int .i64 o5_2), .v (.int .i64 o5_3), .own 6, .own 7], .row ⟨true, 3, (.int .i64), o6⟩, .row ⟨true, 3, (.int .i64), o7⟩]⟩) (fun s x o0 o0_1 o1 o1_1 o1_2 o1_3 o2 o3 o4 o4_1 o4_2 o4_3 o5 o6 => g (at' Tryd.f38 20) ⟨fr0 151 [(0, .ptr 0 0), (2, .ptr 1 0), (3, .ptr 4 0), (4, .bnd 49 [.ptr 0 0]), (5, .bnd 50 [.ptr 0 0]), (6, .v (.int .i64 s)), (7, .v (.int .i64 x))], [.box 77 [.rd ⟨false, 5, (.int .u8), o0⟩, .v (.int .i64 o0_1), .v (.nilIface)], .box 24 [.v (.int .i64 o1), .v (.int .i64 o1_1), .v (.int .i64 o1_2), .v (.int .i64 o1_3), .own 2, .own 3], .row ⟨true, 3, (.int .i64), o2⟩, .row ⟨true, 3, (.int .i64), o3⟩, .box 24 [.v (.int .i64 o4), .v (.int .i64 o4_1), .v (.int .i64 o4_2), .v (.int .i64 o4_3), .own 5, .own 6], .row ⟨true, 3, (.int .i64), o5⟩, .row ⟨true, 3, (.int .i64), o6⟩]⟩) (fun s x o0 o0_1 o1 o1_1 o2 o2_1 o2_2 o2_3 o3 o4 o5 o5_1 o5_2 o5_3 o6 o7 => g (at' Tryd.f38 25) ⟨fr0 151 [(0, .ptr 0 0), (2, .ptr 2 0), (3, .ptr 5 0), (4, .bnd 49 [.ptr 0 0]), (5, .bnd 50 [.ptr 0 0]), (6, .v (.int .i64 s)), (7, .v (.int .i64 x))], [.box 77 [.rd ⟨false, 5, (.int .u8), o0⟩, .v (.int .i64 o0_1), .ifc 79 (.ptr 1 0)], .box 83 [.v (.int .i64 o1), .v (.int .i64 o1_1)], .box 24 [.v (.int .i64 o2), .v (.int .i64 o2_1), .v (.int .i64 o2_2), .v (.int .i64 o2_3), .own 3, .own 4], .row ⟨true, 3, (.int .i64), o3⟩, .row ⟨true, 3, (.int .i64), o4⟩, .box 24 [.v (.int .i64 o5), .v (.int .i64 o5_1), .v (.int .i64 o5_2), .v (.int .i64 o5_3), .own 6, .own 7], .row ⟨true, 3, (.int .i64), o6⟩, .row ⟨true, 3, (.int .i64), o7⟩]⟩) (fun s x o0 o0_1 o1 o1_1 o1_2 o1_3 o2 o3 o4 o4_1 o4_2 o4_3 o5 o6 => g (at' Tryd.f38 25) ⟨fr0 151 [(0, .ptr 0 0), (2, .ptr 1 0), (3, .ptr 4 0), (4, .bnd 49 [.ptr 0 0]), (5, .bnd 50 [.ptr 0 0]), (6, .v (.int .i64 s)), (7, .v (.int .i64 x))], [.box 77 [.rd ⟨false, 5, (.int .u8), o0⟩, .v (.int .i64 o0_1), .v (.nilIface)], .box 24 [.v (.int .i64 o1), .v (.int .i64 o1_1), .v (.int .i64 o1_2), .v (.int .i64 o1_3), .own 2, .own 3], .row ⟨true, 3, (.int .i64), o2⟩, .row ⟨true, 3, (.int .i64), o3⟩, .box 24 [.v (.int .i64 o4), .v (.int .i64 o4_1), .v (.int .i64 o4_2), .v (.int .i64 o4_3), .own 5, .own 6], .row ⟨true, 3, (.int .i64), o5⟩, .row ⟨true, 3, (.int .i64), o6⟩]⟩) (fun s x o0 o0_1 o1 o1_1 o2 o2_1 o2_2 o2_3 o3 o4 o5 o5_1 o5_2 o5_3 o6 o7 => g (at' Tryd.f38 21) ⟨fr0 151 [(0, .ptr 0 0), (2, .ptr 2 0), (3, .ptr 5 0), (4, .bnd 49 [.ptr 0 0]), (5, .bnd 50 [.ptr 0 0]), (6, .v (.int .i64 s)), (7, .v (.int .i64 x))], [.box 77 [.rd ⟨false, 5, (.int .u8), o0⟩, .v (.int .i64 o0_1), .ifc 79 (.ptr 1 0)], .box 83 [.v (.int .i64 o1), .v (.int .i64 o1_1)], .box 24 [.v (.int .i64 o2), .v (.int .i64 o2_1), .v (.int .i64 o2_2), .v (.int .i64 o2_3), .own 3, .own 4], .row ⟨true, 3, (.int .i64), o3⟩, .row ⟨true, 3, (.int .i64), o4⟩, .box 24 [.v (.int .i64 o5), .v (.int .i64 o5_1), .v (.int .i64 o5_2), .v (.int .i64 o5_3), .own 6, .own 7], .row ⟨true, 3, (.int .i64), o6⟩, .row ⟨true, 3, (.int .i64), o7⟩]⟩) (fun s x o0 o0_1 o1 o1_1 o1_2 o1_3 o2 o3 o4 o4_1 o4_2 o4_3 o5 o6 => g (at' Tryd.f38 21) ⟨fr0 151 [(0, .ptr 0 0), (2, .ptr 1 0), (3, .ptr 4 0), (4, .bnd 49 [.ptr 0 0]), (5, .bnd 50 [.ptr 0 0]), (6, .v (.int .i64 s)), (7, .v (.int .i64 x))], [.box 77 [.rd ⟨false, 5, (.int .u8), o0⟩, .v (.int .i64 o0_1), .v (.nilIface)], .box 24 [.v (.int .i64 o1), .v (.int .i64 o1_1), .v (.int .i64 o1_2), .v (.int .i64 o1_3), .own 2, .own 3], .row ⟨true, 3, (.int .i64), o2⟩, .row ⟨true, 3, (.int .i64), o3⟩, .box 24 [.v (.int .i64 o4), .v (.int .i64 o4_1), .v (.int .i64 o4_2), .v (.int .i64 o4_3), .own 5, .own 6], .row ⟨true, 3, (.int .i64), o5⟩, .row ⟨true, 3, (.int .i64), o6⟩]⟩) (fun r0 r1 r2 r3 r4 r5 r6 r7 r8 r9 => K (.agg [.v (.int .i64 r0), .v (.int .i64 r1), .v (.int .i64 r2), .v (.int .i64 r3), .own 2, .own 3]) [.box 77 [.rd ⟨false, 5, (.int .u8), r4⟩, .v (.int .i64 r5), .ifc 79 (.ptr 1 0)], .box 83 [.v (.int .i64 r6), .v (.int .i64 r7)], .row ⟨true, 3, (.int .i64), r8⟩, .row ⟨true, 3, (.int .i64), r9⟩]) (fun r0 r1 r2 r3 r4 r5 r6 r7 => K (.agg [.v (.int .i64 r0), .v (.int .i64 r1), .v (.int .i64 r2), .v (.int .i64 r3), .own 1, .own 2]) [.box 77 [.rd ⟨false, 5, (.int .u8), r4⟩, .v (.int .i64 r5), .v (.nilIface)], .row ⟨true, 3, (.int .i64), r6⟩, .row ⟨true, 3, (.int .i64), r7⟩]) s x o0 o0_1 o1 o1_1 o1_2 o1_3 o2 o3 o4 o4_1 o4_2 o4_3 o5 o6 := gstep_text_reader_read_none_21b @l_text_reader_want_none @l_text_reader_want_fault @l_text_reader_number_fault @l_text_reader_number_none g K s x o0 o0_1 o1 o1_1 o1_2 o1_3 o2 o3 o4 o4_1 o4_2 o4_3 o5 o6

theorem gentry_text_reader_read_none (l_text_reader_want_none : {R : Type} → ByteArray → (List Int) → Int → ((List Int) → Int → Int → Int → Option R) → ((List Int) → Int → Option R) → Option R) (l_text_reader_want_fault : {R : Type} → ByteArray → (List Int) → Int → Int → Int → ((List Int) → Int → Int → Int → Option R) → Option R) (l_text_reader_number_fault : {R : Type} → Int → Int → Int → (List Int) → Int → Int → Int → (Int → (List Int) → Int → Int → Int → Option R) → Option R) (l_text_reader_number_none : {R : Type} → Int → Int → Int → (List Int) → Int → (Int → (List Int) → Int → Int → Int → Option R) → (Int → (List Int) → Int → Option R) → Option R) {R : Type} (fuel : Nat) (K : AV → List O → Option R) (o0 : List Int) (o0_1 : Int) :
    fnRun Tryd.prog (T_text_reader_read @l_text_reader_want_none @l_text_reader_want_fault @l_text_reader_number_fault @l_text_reader_number_none) cuts_text_reader_read_none Tryd.f38 fuel [.ptr 0 0] [.box 77 [.rd ⟨false, 5, (.int .u8), o0⟩, .v (.int .i64 o0_1), .v (.nilIface)]] K =
    (fun (g38_15 : Int → (List Int) → Int → Int → Int → Int → Int → Int → Int → (List Int) → (List Int) → Int → Int → Int → Int → (List Int) → (List Int) → Option R) (g38_15b : Int → (List Int) → Int → Int → Int → Int → Int → (List Int) → (List Int) → Int → Int → Int → Int → (List Int) → (List Int) → Option R) (g38_19 : Int → (List Int) → Int → Int → Int → Int → Int → Int → Int → (List Int) → (List Int) → Int → Int → Int → Int → (List Int) → (List Int) → Option R) (g38_19b : Int → (List Int) → Int → Int → Int → Int → Int → (List Int) → (List Int) → Int → Int → Int → Int → (List Int) → (List Int) → Option R) (g38_20 : Int → Int → (List Int) → Int → Int → Int → Int → Int → Int → Int → (List Int) → (List Int) → Int → Int → Int → Int → (List Int) → (List Int) → Option R) (g38_20b : Int → Int → (List Int) → Int → Int → Int → Int → Int → (List Int) → (List Int) → Int → Int → Int → Int → (List Int) → (List Int) → Option R) (g38_25 : Int → Int → (List Int) → Int → Int → Int → Int → Int → Int → Int → (List Int) → (List Int) → Int → Int → Int → Int → (List Int) → (List Int) → Option R) (g38_25b : Int → Int → (List Int) → Int → Int → Int → Int → Int → (List Int) → (List Int) → Int → Int → Int → Int → (List Int) → (List Int) → Option R) (g38_21 : Int → Int → (List Int) → Int → Int → Int → Int → Int → Int → Int → (List Int) → (List Int) → Int → Int → Int → Int → (List Int) → (List Int) → Option R) (g38_21b : Int → Int → (List Int) → Int → Int → Int → Int → Int → (List Int) → (List Int) → Int → Int → Int → Int → (List Int) → (List Int) → Option R) (K0 : Int → Int → Int → Int → (List Int) → Int → Int → Int → (List Int) → (List Int) → Option R) (K1 : Int → Int → Int → Int → (List Int) → Int → (List Int) → (List Int) → Option R) (o0 : List Int) (o0_1 : Int) =>
    bi (decide ((o0.length : Int) > 0))
     (bi (decide (0 ≤ (0 : Int) ∧ (0 : Int) < ((o0.length : Nat) : Int)))
      (bi ((o0.getD 0 0) == 109)
       (l_text_reader_want_none (ByteArray.mk #[109, 101, 97, 108, 121, 32]) o0 o0_1
        (fun r1 r2 r3 r4 =>
         l_text_reader_number_fault 1 64 1 r1 r2 r3 r4
          (fun r5 r6 r7 r8 r9 =>
           l_text_reader_want_fault (ByteArray.mk #[32]) r6 r7 r8 r9
            (fun r10 r11 r12 r13 =>
             l_text_reader_number_fault 1 64 33 r10 r11 r12 r13
              (fun r14 r15 r16 r17 r18 =>
               l_text_reader_want_fault (ByteArray.mk #[32]) r15 r16 r17 r18
                (fun r19 r20 r21 r22 =>
                 l_text_reader_number_fault 1 1024 3 r19 r20 r21 r22
                  (fun r23 r24 r25 r26 r27 =>
                   l_text_reader_want_fault (ByteArray.mk #[10]) r24 r25 r26 r27
                    (fun r28 r29 r30 r31 =>
                     g38_15 0 r28 r29 r30 r31 0 0 0 0 ([] : List Int) ([] : List Int) 2 r5 r14 r23 ([] : List Int) ([] : List Int))))))))
        (fun r32 r33 =>
         l_text_reader_number_none 1 64 1 r32 r33
          (fun r34 r35 r36 r37 r38 =>
           l_text_reader_want_fault (ByteArray.mk #[32]) r35 r36 r37 r38
            (fun r39 r40 r41 r42 =>
             l_text_reader_number_fault 1 64 33 r39 r40 r41 r42
              (fun r43 r44 r45 r46 r47 =>
               l_text_reader_want_fault (ByteArray.mk #[32]) r44 r45 r46 r47
                (fun r48 r49 r50 r51 =>
                 l_text_reader_number_fault 1 1024 3 r48 r49 r50 r51
                  (fun r52 r53 r54 r55 r56 =>
                   l_text_reader_want_fault (ByteArray.mk #[10]) r53 r54 r55 r56
                    (fun r57 r58 r59 r60 =>
                     g38_15 0 r57 r58 r59 r60 0 0 0 0 ([] : List Int) ([] : List Int) 2 r34 r43 r52 ([] : List Int) ([] : List Int)))))))
          (fun r61 r62 r63 =>
           l_text_reader_want_none (ByteArray.mk #[32]) r62 r63
            (fun r64 r65 r66 r67 =>
             l_text_reader_number_fault 1 64 33 r64 r65 r66 r67
              (fun r68 r69 r70 r71 r72 =>
               l_text_reader_want_fault (ByteArray.mk #[32]) r69 r70 r71 r72
                (fun r73 r74 r75 r76 =>
                 l_text_reader_number_fault 1 1024 3 r73 r74 r75 r76
                  (fun r77 r78 r79 r80 r81 =>
                   l_text_reader_want_fault (ByteArray.mk #[10]) r78 r79 r80 r81
                    (fun r82 r83 r84 r85 =>
                     g38_15 0 r82 r83 r84 r85 0 0 0 0 ([] : List Int) ([] : List Int) 2 r61 r68 r77 ([] : List Int) ([] : List Int))))))
            (fun r86 r87 =>
             l_text_reader_number_none 1 64 33 r86 r87
              (fun r88 r89 r90 r91 r92 =>
               l_text_reader_want_fault (ByteArray.mk #[32]) r89 r90 r91 r92
                (fun r93 r94 r95 r96 =>
                 l_text_reader_number_fault 1 1024 3 r93 r94 r95 r96
                  (fun r97 r98 r99 r100 r101 =>
                   l_text_reader_want_fault (ByteArray.mk #[10]) r98 r99 r100 r101
                    (fun r102 r103 r104 r105 =>
                     g38_15 0 r102 r103 r104 r105 0 0 0 0 ([] : List Int) ([] : List Int) 2 r61 r88 r97 ([] : List Int) ([] : List Int)))))
              (fun r106 r107 r108 =>
               l_text_reader_want_none (ByteArray.mk #[32]) r107 r108
                (fun r109 r110 r111 r112 =>
                 l_text_reader_number_fault 1 1024 3 r109 r110 r111 r112
                  (fun r113 r114 r115 r116 r117 =>
                   l_text_reader_want_fault (ByteArray.mk #[10]) r114 r115 r116 r117
                    (fun r118 r119 r120 r121 =>
                     g38_15 0 r118 r119 r120 r121 0 0 0 0 ([] : List Int) ([] : List Int) 2 r61 r106 r113 ([] : List Int) ([] : List Int))))
                (fun r122 r123 =>
                 l_text_reader_number_none 1 1024 3 r122 r123
                  (fun r124 r125 r126 r127 r128 =>
                   l_text_reader_want_fault (ByteArray.mk #[10]) r125 r126 r127 r128
                    (fun r129 r130 r131 r132 =>
                     g38_15 0 r129 r130 r131 r132 0 0 0 0 ([] : List Int) ([] : List Int) 2 r61 r106 r124 ([] : List Int) ([] : List Int)))
                  (fun r133 r134 r135 =>
                   l_text_reader_want_none (ByteArray.mk #[10]) r134 r135
                    (fun r136 r137 r138 r139 =>
                     g38_15 0 r136 r137 r138 r139 0 0 0 0 ([] : List Int) ([] : List Int) 2 r61 r106 r133 ([] : List Int) ([] : List Int))
                    (fun r140 r141 =>
                     g38_15b 0 r140 r141 0 0 0 0 ([] : List Int) ([] : List Int) 2 r61 r106 r133 ([] : List Int) ([] : List Int)))))))))
       (l_text_reader_want_none (ByteArray.mk #[100, 102, 97, 32]) o0 o0_1
        (fun r142 r143 r144 r145 =>
         l_text_reader_number_fault 1 64 1 r142 r143 r144 r145
          (fun r146 r147 r148 r149 r150 =>
           l_text_reader_want_fault (ByteArray.mk #[32]) r147 r148 r149 r150
            (fun r151 r152 r153 r154 =>
             l_text_reader_number_fault 1 1024 3 r151 r152 r153 r154
              (fun r155 r156 r157 r158 r159 =>
               l_text_reader_want_fault (ByteArray.mk #[10]) r156 r157 r158 r159
                (fun r160 r161 r162 r163 =>
                 g38_15 0 r160 r161 r162 r163 0 0 0 0 ([] : List Int) ([] : List Int) 1 r146 2 r155 ([] : List Int) ([] : List Int))))))
        (fun r164 r165 =>
         l_text_reader_number_none 1 64 1 r164 r165
          (fun r166 r167 r168 r169 r170 =>
           l_text_reader_want_fault (ByteArray.mk #[32]) r167 r168 r169 r170
            (fun r171 r172 r173 r174 =>
             l_text_reader_number_fault 1 1024 3 r171 r172 r173 r174
              (fun r175 r176 r177 r178 r179 =>
               l_text_reader_want_fault (ByteArray.mk #[10]) r176 r177 r178 r179
                (fun r180 r181 r182 r183 =>
                 g38_15 0 r180 r181 r182 r183 0 0 0 0 ([] : List Int) ([] : List Int) 1 r166 2 r175 ([] : List Int) ([] : List Int)))))
          (fun r184 r185 r186 =>
           l_text_reader_want_none (ByteArray.mk #[32]) r185 r186
            (fun r187 r188 r189 r190 =>
             l_text_reader_number_fault 1 1024 3 r187 r188 r189 r190
              (fun r191 r192 r193 r194 r195 =>
               l_text_reader_want_fault (ByteArray.mk #[10]) r192 r193 r194 r195
                (fun r196 r197 r198 r199 =>
                 g38_15 0 r196 r197 r198 r199 0 0 0 0 ([] : List Int) ([] : List Int) 1 r184 2 r191 ([] : List Int) ([] : List Int))))
            (fun r200 r201 =>
             l_text_reader_number_none 1 1024 3 r200 r201
              (fun r202 r203 r204 r205 r206 =>
               l_text_reader_want_fault (ByteArray.mk #[10]) r203 r204 r205 r206
                (fun r207 r208 r209 r210 =>
                 g38_15 0 r207 r208 r209 r210 0 0 0 0 ([] : List Int) ([] : List Int) 1 r184 2 r202 ([] : List Int) ([] : List Int)))
              (fun r211 r212 r213 =>
               l_text_reader_want_none (ByteArray.mk #[10]) r212 r213
                (fun r214 r215 r216 r217 =>
                 g38_15 0 r214 r215 r216 r217 0 0 0 0 ([] : List Int) ([] : List Int) 1 r184 2 r211 ([] : List Int) ([] : List Int))
                (fun r218 r219 =>
                 g38_15b 0 r218 r219 0 0 0 0 ([] : List Int) ([] : List Int) 1 r184 2 r211 ([] : List Int) ([] : List Int))))))))
      none)
     (l_text_reader_want_none (ByteArray.mk #[100, 102, 97, 32]) o0 o0_1
      (fun r220 r221 r222 r223 =>
       l_text_reader_number_fault 1 64 1 r220 r221 r222 r223
        (fun r224 r225 r226 r227 r228 =>
         l_text_reader_want_fault (ByteArray.mk #[32]) r225 r226 r227 r228
          (fun r229 r230 r231 r232 =>
           l_text_reader_number_fault 1 1024 3 r229 r230 r231 r232
            (fun r233 r234 r235 r236 r237 =>
             l_text_reader_want_fault (ByteArray.mk #[10]) r234 r235 r236 r237
              (fun r238 r239 r240 r241 =>
               g38_15 0 r238 r239 r240 r241 0 0 0 0 ([] : List Int) ([] : List Int) 1 r224 2 r233 ([] : List Int) ([] : List Int))))))
      (fun r242 r243 =>
       l_text_reader_number_none 1 64 1 r242 r243
        (fun r244 r245 r246 r247 r248 =>
         l_text_reader_want_fault (ByteArray.mk #[32]) r245 r246 r247 r248
          (fun r249 r250 r251 r252 =>
           l_text_reader_number_fault 1 1024 3 r249 r250 r251 r252
            (fun r253 r254 r255 r256 r257 =>
             l_text_reader_want_fault (ByteArray.mk #[10]) r254 r255 r256 r257
              (fun r258 r259 r260 r261 =>
               g38_15 0 r258 r259 r260 r261 0 0 0 0 ([] : List Int) ([] : List Int) 1 r244 2 r253 ([] : List Int) ([] : List Int)))))
        (fun r262 r263 r264 =>
         l_text_reader_want_none (ByteArray.mk #[32]) r263 r264
          (fun r265 r266 r267 r268 =>
           l_text_reader_number_fault 1 1024 3 r265 r266 r267 r268
            (fun r269 r270 r271 r272 r273 =>
             l_text_reader_want_fault (ByteArray.mk #[10]) r270 r271 r272 r273
              (fun r274 r275 r276 r277 =>
               g38_15 0 r274 r275 r276 r277 0 0 0 0 ([] : List Int) ([] : List Int) 1 r262 2 r269 ([] : List Int) ([] : List Int))))
          (fun r278 r279 =>
           l_text_reader_number_none 1 1024 3 r278 r279
            (fun r280 r281 r282 r283 r284 =>
             l_text_reader_want_fault (ByteArray.mk #[10]) r281 r282 r283 r284
              (fun r285 r286 r287 r288 =>
               g38_15 0 r285 r286 r287 r288 0 0 0 0 ([] : List Int) ([] : List Int) 1 r262 2 r280 ([] : List Int) ([] : List Int)))
            (fun r289 r290 r291 =>
             l_text_reader_want_none (ByteArray.mk #[10]) r290 r291
              (fun r292 r293 r294 r295 =>
               g38_15 0 r292 r293 r294 r295 0 0 0 0 ([] : List Int) ([] : List Int) 1 r262 2 r289 ([] : List Int) ([] : List Int))
              (fun r296 r297 =>
               g38_15b 0 r296 r297 0 0 0 0 ([] : List Int) ([] : List Int) 1 r262 2 r289 ([] : List Int) ([] : List Int)))))))) (fun s o0 o0_1 o1 o1_1 o2 o2_1 o2_2 o2_3 o3 o4 o5 o5_1 o5_2 o5_3 o6 o7 => (runO Tryd.prog (T_text_reader_read @l_text_reader_want_none @l_text_reader_want_fault @l_text_reader_number_fault @l_text_reader_number_none) cuts_text_reader_read_none 1 (finish Tryd.prog Tryd.f38 1 K) fuel) (at' Tryd.f38 15) ⟨fr0 151 [(0, .ptr 0 0), (2, .ptr 2 0), (3, .ptr 5 0), (4, .bnd 49 [.ptr 0 0]), (5, .bnd 50 [.ptr 0 0]), (6, .v (.int .i64 s))], [.box 77 [.rd ⟨false, 5, (.int .u8), o0⟩, .v (.int .i64 o0_1), .ifc 79 (.ptr 1 0)], .box 83 [.v (.int .i64 o1), .v (.int .i64 o1_1)], .box 24 [.v (.int .i64 o2), .v (.int .i64 o2_1), .v (.int .i64 o2_2), .v (.int .i64 o2_3), .own 3, .own 4], .row ⟨true, 3, (.int .i64), o3⟩, .row ⟨true, 3, (.int .i64), o4⟩, .box 24 [.v (.int .i64 o5), .v (.int .i64 o5_1), .v (.int .i64 o5_2), .v (.int .i64 o5_3), .own 6, .own 7], .row ⟨true, 3, (.int .i64), o6⟩, .row ⟨true, 3, (.int .i64), o7⟩]⟩) (fun s o0 o0_1 o1 o1_1 o1_2 o1_3 o2 o3 o4 o4_1 o4_2 o4_3 o5 o6 => (runO Tryd.prog (T_text_reader_read @l_text_reader_want_none @l_text_reader_want_fault @l_text_reader_number_fault @l_text_reader_number_none) cuts_text_reader_read_none 1 (finish Tryd.prog Tryd.f38 1 K) fuel) (at' Tryd.f38 15) ⟨fr0 151 [(0, .ptr 0 0), (2, .ptr 1 0), (3, .ptr 4 0), (4, .bnd 49 [.ptr 0 0]), (5, .bnd 50 [.ptr 0 0]), (6, .v (.int .i64 s))], [.box 77 [.rd ⟨false, 5, (.int .u8), o0⟩, .v (.int .i64 o0_1), .v (.nilIface)], .box 24 [.v (.int .i64 o1), .v (.int .i64 o1_1), .v (.int .i64 o1_2), .v (.int .i64 o1_3), .own 2, .own 3], .row ⟨true, 3, (.int .i64), o2⟩, .row ⟨true, 3, (.int .i64), o3⟩, .box 24 [.v (.int .i64 o4), .v (.int .i64 o4_1), .v (.int .i64 o4_2), .v (.int .i64 o4_3), .own 5, .own 6], .row ⟨true, 3, (.int .i64), o5⟩, .row ⟨true, 3, (.int .i64), o6⟩]⟩) (fun s o0 o0_1 o1 o1_1 o2 o2_1 o2_2 o2_3 o3 o4 o5 o5_1 o5_2 o5_3 o6 o7 => (runO Tryd.prog (T_text_reader_read @l_text_reader_want_none @l_text_reader_want_fault @l_text_reader_number_fault @l_text_reader_number_none) cuts_text_reader_read_none 1 (finish Tryd.prog Tryd.f38 1 K) fuel) (at' Tryd.f38 19) ⟨fr0 151 [(0, .ptr 0 0), (2, .ptr 2 0), (3, .ptr 5 0), (4, .bnd 49 [.ptr 0 0]), (5, .bnd 50 [.ptr 0 0]), (6, .v (.int .i64 s))], [.box 77 [.rd ⟨false, 5, (.int .u8), o0⟩, .v (.int .i64 o0_1), .ifc 79 (.ptr 1 0)], .box 83 [.v (.int .i64 o1), .v (.int .i64 o1_1)], .box 24 [.v (.int .i64 o2), .v (.int .i64 o2_1), .v (.int .i64 o2_2), .v (.int .i64 o2_3), .own 3, .own 4], .row ⟨true, 3, (.int .i64), o3⟩, .row ⟨true, 3, (.int .i64), o4⟩, .box 24 [.v (.int .i64 o5), .v (.int .i64 o5_1), .v (.int .i64 o5_2), .v (.int .i64 o5_3), .own 6, .own 7], .row ⟨true, 3, (.int .i64), o6⟩, .row ⟨true, 3, (.int .i64), o7⟩]⟩) (fun s o0 o0_1 o1 o1_1 o1_2 o1_3 o2 o3 o4 o4_1 o4_2 o4_3 o5 o6 => (runO Tryd.prog (T_text_reader_read @l_text_reader_want_none @l_text_reader_want_fault @l_text_reader_number_fault @l_text_reader_number_none) cuts_text_reader_read_none 1 (finish Tryd.prog Tryd.f38 1 K) fuel) (at' Tryd.f38 19) ⟨fr0 151 [(0, .ptr 0 0), (2, .ptr 1 0), (3, .ptr 4 0), (4, .bnd 49 [.ptr 0 0]), (5, .bnd 50 [.ptr 0 0]), (6, .v (.int .i64 s))], [.box 77 [.rd ⟨false, 5, (.int .u8), o0⟩, .v (.int .i64 o0_1), .v (.nilIface)], .box 24 [.v (.int .i64 o1), .v (.int .i64 o1_1), .v (.int .i64 o1_2), .v (.int .i64 o1_3), .own 2, .own 3], .row ⟨true, 3, (.int .i64), o2⟩, .row ⟨true, 3, (.int .i64), o3⟩, .box 24 [.v (.int .i64 o4), .v (.int .i64 o4_1), .v (.int .i64 o4_2), .v (.int .i64 o4_3), .own 5, .own 6], .row ⟨true, 3, (.int .i64), o5⟩, .row ⟨true, 3, (.int .i64), o6⟩]⟩) (fun s x o0 o0_1 o1 o1_1 o2 o2_1 o2_2 o2_3 o3 o4 o5 o5_1 o5_2 o5_3 o6 o7 => (runO Tryd.prog (T_text_reader_read @l_text_reader_want_none @l_text_reader_want_fault @l_text_reader_number_fault @l_text_reader_number_none) cuts_text_reader_read_none 1 (finish Tryd.prog Tryd.f38 1 K) fuel) (at' Tryd.f38 20) ⟨fr0 151 [(0, .ptr 0 0), (2, .ptr 2 0), (3, .ptr 5 0), (4, .bnd 49 [.ptr 0 0]), (5, .bnd 50 [.ptr 0 0]), (6, .v (.int .i64 s)), (7, .v (.int .i64 x))], [.box 77 [.rd ⟨false, 5, (.int .u8), o0⟩, .v (.int .i64 o0_1), .ifc 79 (.ptr 1 0)], .box 83 [.v (.int .i64 o1), .v (.int .i64 o1_1)], .box 24 [.v (.int .i64 o2), .v (.int .i64 o2_1), .v (.int .i64 o2_2), .v (.int .i64 o2_3), .own 3, .own 4], .row ⟨true, 3, (.int .i64), o3⟩, .row ⟨true, 3, (.int .i64), o4⟩, .box 24 [.v (.int .i64 o5), .v (.int .i64 o5_1), .v (.int .i64 o5_2), .v (.int .i64 o5_3), .own 6, .own 7], .row ⟨true, 3, (.int .i64), o6⟩, .row ⟨true, 3, (.int .i64), o7⟩]⟩) (fun s x o0 o0_1 o1 o1_1 o1_2 o1_3 o2 o3 o4 o4_1 o4_2 o4_3 o5 o6 => (runO Tryd.prog (T_text_reader_read @l_text_reader_want_none @l_text_reader_want_fault @l_text_reader_number_fault @l_text_reader_number_none) cuts_text_reader_read_none 1 (finish Tryd.prog Tryd.f38 1 K) fuel) (at' Tryd.f38 20) ⟨fr0 151 [(0, .ptr 0 0), (2, .ptr 1 0), (3, .ptr 4 0), (4, .bnd 49 [.ptr 0 0]), (5, .bnd 50 [.ptr 0 0]), (6, .v (.int .i64 s)), (7, .v (.int .i64 x))], [.box 77 [.rd ⟨false, 5, (.int .u8), o0⟩, .v (.int .i64 o0_1), .v (.nilIface)], .box 24 [.v (.int .i64 o1), .v (.int .i64 o1_1), .v (.int .i64 o1_2), .v (.int .i64 o1_3), .own 2, .own 3], .row ⟨true, 3, (.int .i64), o2⟩, .row ⟨true, 3, (.int .i64), o3⟩, .box 24 [.v (.int .i64 o4), .v (.int .i64 o4_1), .v (.int .i64 o4_2), .v (.int .i64 o4_3), .own 5, .own 6], .row ⟨true, 3, (.int .i64), o5⟩, .row ⟨true, 3, (.int .i64), o6⟩]⟩) (fun s x o0 o0_1 o1 o1_1 o2 o2_1 o2_2 o2_3 o3 o4 o5 o5_1 o5_2 o5_3 o6 o7 => (runO Tryd.prog (T_text_reader_read @l_text_reader_want_none @l_text_reader_want_fault @l_text_reader_number_fault @l_text_reader_number_none) cuts_text_reader_read_none 1 (finish Tryd.prog Tryd.f38 1 K) fuel) (at' Tryd.f38 25) ⟨fr0 151 [(0, .ptr 0 0), (2, .ptr 2 0), (3, .ptr 5 0), (4, .bnd 49 [.ptr 0 0]), (5, .bnd 50 [.ptr 0 0]), (6, .v (.int .i64 s)), (7, .v (.int .i64 x))], [.box 77 [.rd ⟨false, 5, (.int .u8), o0⟩, .v (.int .i64 o0_1), .ifc 79 (.ptr 1 0)], .box 83 [.v (.int .i64 o1), .v (.int .i64 o1_1)], .box 24 [.v (.int .i64 o2), .v (.int .i64 o2_1), .v (.int .i64 o2_2), .v (.int .i64 o2_3), .own 3, .own 4], .row ⟨true, 3, (.int .i64), o3⟩, .row ⟨true, 3, (.int .i64), o4⟩, .box 24 [.v (.int .i64 o5), .v (.int .i64 o5_1), .v (.int .i64 o5_2), .v (.int .i64 o5_3), .own 6, .own 7], .row ⟨true, 3, (.int .i64), o6⟩, .row ⟨true, 3, (.int .i64), o7⟩]⟩) (fun s x o0 o0_1 o1 o1_1 o1_2 o1_3 o2 o3 o4 o4_1 o4_2 o4_3 o5 o6 => (runO Tryd.prog (T_text_reader_read @l_text_reader_want_none @l_text_reader_want_fault @l_text_reader_number_fault @l_text_reader_number_none) cuts_text_reader_read_none 1 (finish Tryd.prog Tryd.f38 1 K) fuel) (at' Tryd.f38 25) ⟨fr0 151 [(0, .ptr 0 0), (2, .ptr 1 0), (3, .ptr 4 0), (4, .bnd 49 [.ptr 0 0]), (5, .bnd 50 [.ptr 0 0]), (6, .v (.int .i64 s)), (7, .v (.int .i64 x))], [.box 77 [.rd ⟨false, 5, (.int .u8), o0⟩, .v (.int .i64 o0_1), .v (.nilIface)], .box 24 [.v (.int .i64 o1), .v (.int .i64 o1_1), .v (.int .i64 o1_2), .v (.int .i64 o1_3), .own 2, .own 3], .row ⟨true, 3, (.int .i64), o2⟩, .row ⟨true, 3, (.int .i64), o3⟩, .box 24 [.v (.int .i64 o4), .v (.int .i64 o4_1), .v (.int .i64 o4_2), .v (.int .i64 o4_3), .own 5, .own 6], .row ⟨true, 3, (.int .i64), o5⟩, .row ⟨true, 3, (.int .i64), o6⟩]⟩) (fun s x o0 o0_1 o1 o1_1 o2 o2_1 o2_2 o2_3 o3 o4 o5 o5_1 o5_2 o5_3 o6 o7 => (runO Tryd.prog (T_text_reader_read @l_text_reader_want_none @l_text_reader_want_fault @l_text_reader_number_fault @l_text_reader_number_none) cuts_text_reader_read_none 1 (finish Tryd.prog Tryd.f38 1 K) fuel) (at' Tryd.f38 21) ⟨fr0 151 [(0, .ptr 0 0), (2, .ptr 2 0), (3, .ptr 5 0), (4, .bnd 49 [.ptr 0 0]), (5, .bnd 50 [.ptr 0 0]), (6, .v (.int .i64 s)), (7, .v (.int .i64 x))], [.box 77 [.rd ⟨false, 5, (.int .u8), o0⟩, .v (.int .i64 o0_1), .ifc 79 (.ptr 1 0)], .box 83 [.v (.int .i64 o1), .v (.int .i64 o1_1)], .box 24 [.v (.int .i64 o2), .v (.int .i64 o2_1), .v (.int .i64 o2_2), .v (.int .i64 o2_3), .own 3, .own 4], .row ⟨true, 3, (.int .i64), o3⟩, .row ⟨true, 3, (.int .i64), o4⟩, .box 24 [.v (.int .i64 o5), .v (.int .i64 o5_1), .v (.int .i64 o5_2), .v (.int .i64 o5_3), .own 6, .own 7], .row ⟨true, 3, (.int .i64), o6⟩, .row ⟨true, 3, (.int .i64), o7⟩]⟩) (fun s x o0 o0_1 o1 o1_1 o1_2 o1_3 o2 o3 o4 o4_1 o4_2 o4_3 o5 o6 => (runO Tryd.prog (T_text_reader_read @l_text_reader_want_none @l_text_reader_want_fault @l_text_reader_number_fault @l_text_reader_number_none) cuts_text_reader_read_none 1 (finish Tryd.prog Tryd.f38 1 K) fuel) (at' Tryd.f38 21) ⟨fr0 151 [(0, .ptr 0 0), (2, .ptr 1 0), (3, .ptr 4 0), (4, .bnd 49 [.ptr 0 0]), (5, .bnd 50 [.ptr 0 0]), (6, .v (.int .i64 s)), (7, .v (.int .i64 x))], [.box 77 [.rd ⟨false, 5, (.int .u8), o0⟩, .v (.int .i64 o0_1), .v (.nilIface)], .box 24 [.v (.int .i64 o1), .v (.int .i64 o1_1), .v (.int .i64 o1_2), .v (.int .i64 o1_3), .own 2, .own 3], .row ⟨true, 3, (.int .i64), o2⟩, .row ⟨true, 3, (.int .i64), o3⟩, .box 24 [.v (.int .i64 o4), .v (.int .i64 o4_1), .v (.int .i64 o4_2), .v (.int .i64 o4_3), .own 5, .own 6], .row ⟨true, 3, (.int .i64), o5⟩, .row ⟨true, 3, (.int .i64), o6⟩]⟩) (fun r0 r1 r2 r3 r4 r5 r6 r7 r8 r9 => K (.agg [.v (.int .i64 r0), .v (.int .i64 r1), .v (.int .i64 r2), .v (.int .i64 r3), .own 2, .own 3]) [.box 77 [.rd ⟨false, 5, (.int .u8), r4⟩, .v (.int .i64 r5), .ifc 79 (.ptr 1 0)], .box 83 [.v (.int .i64 r6), .v (.int .i64 r7)], .row ⟨true, 3, (.int .i64), r8⟩, .row ⟨true, 3, (.int .i64), r9⟩]) (fun r0 r1 r2 r3 r4 r5 r6 r7 => K (.agg [.v (.int .i64 r0), .v (.int .i64 r1), .v (.int .i64 r2), .v (.int .i64 r3), .own 1, .own 2]) [.box 77 [.rd ⟨false, 5, (.int .u8), r4⟩, .v (.int .i64 r5), .v (.nilIface)], .row ⟨true, 3, (.int .i64), r6⟩, .row ⟨true, 3, (.int .i64), r7⟩]) o0 o0_1 := by kernel_rfl

theorem entry_text_reader_read_none {R : Type} (fuel : Nat) (K : AV → List O → Option R) (o0 : List Int) (o0_1 : Int) :
    fnRun Tryd.prog (T_text_reader_read @l_text_reader_want_none @l_text_reader_want_fault @l_text_reader_number_fault @l_text_reader_number_none) cuts_text_reader_read_none Tryd.f38 fuel [.ptr 0 0] [.box 77 [.rd ⟨false, 5, (.int .u8), o0⟩, .v (.int .i64 o0_1), .v (.nilIface)]] K =
    e_text_reader_read_none (fun s o0 o0_1 o1 o1_1 o2 o2_1 o2_2 o2_3 o3 o4 o5 o5_1 o5_2 o5_3 o6 o7 => (runO Tryd.prog (T_text_reader_read @l_text_reader_want_none @l_text_reader_want_fault @l_text_reader_number_fault @l_text_reader_number_none) cuts_text_reader_read_none 1 (finish Tryd.prog Tryd.f38 1 K) fuel) (at' Tryd.f38 15) ⟨fr0 151 [(0, .ptr 0 0), (2, .ptr 2 0), (3, .ptr 5 0), (4, .bnd 49 [.ptr 0 0]), (5, .bnd 50 [.ptr 0 0]), (6, .v (.int .i64 s))], [.box 77 [.rd ⟨false, 5, (.int .u8), o0⟩, .v (.int .i64 o0_1), .ifc 79 (.ptr 1 0)], .box 83 [.v (.int .i64 o1), .v (.int .i64 o1_1)], .box 24 [.v (.int .i64 o2), .v (.int .i64 o2_1), .v (.int .i64 o2_2), .v (.int .i64 o2_3), .own 3, .own 4], .row ⟨true, 3, (.int .i64), o3⟩, .row ⟨true, 3, (.int .i64), o4⟩, .box 24 [.v (.int .i64 o5), .v (.int .i64 o5_1), .v (.int .i64 o5_2), .v (.int .i64 o5_3), .own 6, .own 7], .row ⟨true, 3, (.int .i64), o6⟩, .row ⟨true, 3, (.int .i64), o7⟩]⟩) (fun s o0 o0_1 o1 o1_1 o1_2 o1_3 o2 o3 o4 o4_1 o4_2 o4_3 o5 o6 => (runO Tryd.prog (T_text_reader_read @l_text_reader_want_none @l_text_reader_want_fault @l_text_reader_number_fault @l_text_reader_number_none) cuts_text_reader_read_none 1 (finish Tryd.prog Tryd.f38 1 K) fuel) (at' Tryd.f38 15) ⟨fr0 151 [(0, .ptr 0 0), (2, .ptr 1 0), (3, .ptr 4 0), (4, .bnd 49 [.ptr 0 0]), (5, .bnd 50 [.ptr 0 0]), (6, .v (.int .i64 s))], [.box 77 [.rd ⟨false, 5, (.int .u8), o0⟩, .v (.int .i64 o0_1), .v (.nilIface)], .box 24 [.v (.int .i64 o1), .v (.int .i64 o1_1), .v (.int .i64 o1_2), .v (.int .i64 o1_3), .own 2, .own 3], .row ⟨true, 3, (.int .i64), o2⟩, .row ⟨true, 3, (.int .i64), o3⟩, .box 24 [.v (.int .i64 o4), .v (.int .i64 o4_1), .v (.int .i64 o4_2), .v (.int .i64 o4_3), .own 5, .own 6], .row ⟨true, 3, (.int .i64), o5⟩, .row ⟨true, 3, (.int .i64), o6⟩]⟩) (fun s o0 o0_1 o1 o1_1 o2 o2_1 o2_2 o2_3 o3 o4 o5 o5_1 o5_2 o5_3 o6 o7 => (runO Tryd.prog (T_text_reader_read @l_text_reader_want_none @l_text_reader_want_fault @l_text_reader_number_fault @l_text_reader_number_none) cuts_text_reader_read_none 1 (finish Tryd.prog Tryd.f38 1 K) fuel) (at' Tryd.f38 19) ⟨fr0 151 [(0, .ptr 0 0), (2, .ptr 2 0), (3, .ptr 5 0), (4, .bnd 49 [.ptr 0 0]), (5, .bnd 50 [.ptr 0 0]), (6, .v (.int .i64 s))], [.box 77 [.rd ⟨false, 5, (.int .u8), o0⟩, .v (.int .i64 o0_1), .ifc 79 (.ptr 1 0)], .box 83 [.v (.int .i64 o1), .v (.int .i64 o1_1)], .box 24 [.v (.int .i64 o2), .v (.int .i64 o2_1), .v (.int .i64 o2_2), .v (.int .i64 o2_3), .own 3, .own 4], .row ⟨true, 3, (.int .i64), o3⟩, .row ⟨true, 3, (.int .i64), o4⟩, .box 24 [.v (.int .i64 o5), .v (.int .i64 o5_1), .v (.int .i64 o5_2), .v (.int .i64 o5_3), .own 6, .own 7], .row ⟨true, 3, (.int .i64), o6⟩, .row ⟨true, 3, (.int .i64), o7⟩]⟩) (fun s o0 o0_1 o1 o1_1 o1_2 o1_3 o2 o3 o4 o4_1 o4_2 o4_3 o5 o6 => (runO Tryd.prog (T_text_reader_read @l_text_reader_want_none @l_text_reader_want_fault @l_text_reader_number_fault @l_text_reader_number_none) cuts_text_reader_read_none 1 (finish Tryd.prog Tryd.f38 1 K) fuel) (at' Tryd.f38 19) ⟨fr0 151 [(0, .ptr 0 0), (2, .ptr 1 0), (3, .ptr 4 0), (4, .bnd 49 [.ptr 0 0]), (5, .bnd 50 [.ptr 0 0]), (6, .v (.int .i64 s))], [.box 77 [.rd ⟨false, 5, (.int .u8), o0⟩, .v (.int .i64 o0_1), .v (.nilIface)], .box 24 [.v (.int .i64 o1), .v (.int .i64 o1_1), .v (.int .i64 o1_2), .v (.int .i64 o1_3), .own 2, .own 3], .row ⟨true, 3, (.int .i64), o2⟩, .row ⟨true, 3, (.int .i64), o3⟩, .box 24 [.v (.int .i64 o4), .v (.int .i64 o4_1), .v (.int .i64 o4_2), .v (.int .i64 o4_3), .own 5, .own 6], .row ⟨true, 3, (.int .i64), o5⟩, .row ⟨true, 3, (.int .i64), o6⟩]⟩) (fun s x o0 o0_1 o1 o1_1 o2 o2_1 o2_2 o2_3 o3 o4 o5 o5_1 o5_2 o5_3 o6 o7 => (runO Tryd.prog (T_text_reader_read @l_text_reader_want_none @l_text_reader_want_fault @l_text_reader_number_fault @l_text_reader_number_none) cuts_text_reader_read_none 1 (finish Tryd.prog Tryd.f38 1 K) fuel) (at' Tryd.f38 20) ⟨fr0 151 [(0, .ptr 0 0), (2, .ptr 2 0), (3, .ptr 5 0), (4, .bnd 49 [.ptr 0 0]), (5, .bnd 50 [.ptr 0 0]), (6, .v (.int .i64 s)), (7, .v (.int .i64 x))], [.box 77 [.rd ⟨false, 5, (.int .u8), o0⟩, .v (.int .i64 o0_1), .ifc 79 (.ptr 1 0)], .box 83 [.v (.int .i64 o1), .v (.int .i64 o1_1)], .box 24 [.v (.int .i64 o2), .v (.int .i64 o2_1), .v (.int .i64 o2_2), .v (.int .i64 o2_3), .own 3, .own 4], .row ⟨true, 3, (.int .i64), o3⟩, .row ⟨true, 3, (.int .i64), o4⟩, .box 24 [.v (.int .i64 o5), .v (.int .i64 o5_1), .v (.int .i64 o5_2), .v (.int .i64 o5_3), .own 6, .own 7], .row ⟨true, 3, (.int .i64), o6⟩, .row ⟨true, 3, (.int .i64), o7⟩]⟩) (fun s x o0 o0_1 o1 o1_1 o1_2 o1_3 o2 o3 o4 o4_1 o4_2 o4_3 o5 o6 => (runO Tryd.prog (T_text_reader_read @l_text_reader_want_none @l_text_reader_want_fault @l_text_reader_number_fault @l_text_reader_number_none) cuts_text_reader_read_none 1 (finish Tryd.prog Tryd.f38 1 K) fuel) (at' Tryd.f38 20) ⟨fr0 151 [(0, .ptr 0 0), (2, .ptr 1 0), (3, .ptr 4 0), (4, .bnd 49 [.ptr 0 0]), (5, .bnd 50 [.ptr 0 0]), (6, .v (.int .i64 s)), (7, .v (.int .i64 x))], [.box 77 [.rd ⟨false, 5, (.int .u8), o0⟩, .v (.int .i64 o0_1), .v (.nilIface)], .box 24 [.v (.int .i64 o1), .v (.int .i64 o1_1), .v (.int .i64 o1_2), .v (.int .i64 o1_3), .own 2, .own 3], .row ⟨true, 3, (.int .i64), o2⟩, .row ⟨true, 3, (.int .i64), o3⟩, .box 24 [.v (.int .i64 o4), .v (.int .i64 o4_1), .v (.int .i64 o4_2), .v (.int .i64 o4_3), .own 5, .own 6], .row ⟨true, 3, (.int .i64), o5⟩, .row ⟨true, 3, (.int .i64), o6⟩]⟩) (fun s x o0 o0_1 o1 o1_1 o2 o2_1 o2_2 o2_3 o3 o4 o5 o5_1 o5_2 o5_3 o6 o7 => (runO Tryd.prog (T_text_reader_read @l_text_reader_want_none @l_text_reader_want_fault @l_text_reader_number_fault @l_text_reader_number_none) cuts_text_reader_read_none 1 (finish Tryd.prog Tryd.f38 1 K) fuel) (at' Tryd.f38 25) ⟨fr0 151 [(0, .ptr 0 0), (2, .ptr 2 0), (3, .ptr 5 0), (4, .bnd 49 [.ptr 0 0]), (5, .bnd 50 [.ptr 0 0]), (6, .v (.int .i64 s)), (7, .v (.int .i64 x))], [.box 77 [.rd ⟨false, 5, (.int .u8), o0⟩, .v (.int .i64 o0_1), .ifc 79 (.ptr 1 0)], .box 83 [.v (.int .i64 o1), .v (.int .i64 o1_1)], .box 24 [.v (.int .i64 o2), .v (.int .i64 o2_1), .v (.int .i64 o2_2), .v (.int .i64 o2_3), .own 3, .own 4], .row ⟨true, 3, (.int .i64), o3⟩, .row ⟨true, 3, (.int .i64), o4⟩, .box 24 [.v (.int .i64 o5), .v (.int .i64 o5_1), .v (.int .i64 o5_2), .v (.int .i64 o5_3), .own 6, .own 7], .row ⟨true, 3, (.int .i64), o6⟩, .row ⟨true, 3, (.int .i64), o7⟩]⟩) (fun s x o0 o0_1 o1 o1_1 o1_2 o1_3 o2 o3 o4 o4_1 o4_2 o4_3 o5 o6 => (runO Tryd.prog (T_text_reader_read @l_text_reader_want_none @l_text_reader_want_fault @l_text_reader_number_fault @l_text_reader_number_none) cuts_text_reader_read_none 1 (finish Tryd.prog Tryd.f38 1 K) fuel) (at' Tryd.f38 25) ⟨fr0 151 [(0, .ptr 0 0), (2, .ptr 1 0), (3, .ptr 4 0), (4, .bnd 49 [.ptr 0 0]), (5, .bnd 50 [.ptr 0 0]), (6, .v (.int .i64 s)), (7, .v (.int .i64 x))], [.box 77 [.rd ⟨false, 5, (.int .u8), o0⟩, .v (.int .i64 o0_1), .v (.nilIface)], .box 24 [.v (.int .i64 o1), .v (.int .i64 o1_1), .v (.int .i64 o1_2), .v (.int .i64 o1_3), .own 2, .own 3], .row ⟨true, 3, (.int .i64), o2⟩, .row ⟨true, 3, (.int .i64), o3⟩, .box 24 [.v (.int .i64 o4), .v (.int .i64 o4_1), .v (.int .i64 o4_2), .v (.int .i64 o4_3), .own 5, .own 6], .row ⟨true, 3, (.int .i64), o5⟩, .row ⟨true, 3, (.int .i64), o6⟩]⟩) (fun s x o0 o0_1 o1 o1_1 o2 o2_1 o2_2 o2_3 o3 o4 o5 o5_1 o5_2 o5_3 o6 o7 => (runO Tryd.prog (T_text_reader_read @l_text_reader_want_none @l_text_reader_want_fault @l_text_reader_number_fault @l_text_reader_number_none) cuts_text_reader_read_none 1 (finish Tryd.prog Tryd.f38 1 K) fuel) (at' Tryd.f38 21) ⟨fr0 151 [(0, .ptr 0 0), (2, .ptr 2 0), (3, .ptr 5 0), (4, .bnd 49 [.ptr 0 0]), (5, .bnd 50 [.ptr 0 0]), (6, .v (.int .i64 s)), (7, .v (.int .i64 x))], [.box 77 [.rd ⟨false, 5, (.int .u8), o0⟩, .v (.int .i64 o0_1), .ifc 79 (.ptr 1 0)], .box 83 [.v (.int .i64 o1), .v (.int .i64 o1_1)], .box 24 [.v (.int .i64 o2), .v (.int .i64 o2_1), .v (.int .i64 o2_2), .v (.int .i64 o2_3), .own 3, .own 4], .row ⟨true, 3, (.int .i64), o3⟩, .row ⟨true, 3, (.int .i64), o4⟩, .box 24 [.v (.int .i64 o5), .v (.int .i64 o5_1), .v (.int .i64 o5_2), .v (.int .i64 o5_3), .own 6, .own 7], .row ⟨true, 3, (.int .i64), o6⟩, .row ⟨true, 3, (.int .i64), o7⟩]⟩) (fun s x o0 o0_1 o1 o1_1 o1_2 o1_3 o2 o3 o4 o4_1 o4_2 o4_3 o5 o6 => (runO Tryd.prog (T_text_reader_read @l_text_reader_want_none @l_text_reader_want_fault @l_text_reader_number_fault @l_text_reader_number_none) cuts_text_reader_read_none 1 (finish Tryd.prog Tryd.f38 1 K) fuel) (at' Tryd.f38 21) ⟨fr0 151 [(0, .ptr 0 0), (2, .ptr 1 0), (3, .ptr 4 0), (4, .bnd 49 [.ptr 0 0]), (5, .bnd 50 [.ptr 0 0]), (6, .v (.int .i64 s)), (7, .v (.int .i64 x))], [.box 77 [.rd ⟨false, 5, (.int .u8), o0⟩, .v (.int .i64 o0_1), .v (.nilIface)], .box 24 [.v (.int .i64 o1), .v (.int .i64 o1_1), .v (.int .i64 o1_2), .v (.int .i64 o1_3), .own 2, .own 3], .row ⟨true, 3, (.int .i64), o2⟩, .row ⟨true, 3, (.int .i64), o3⟩, .box 24 [.v (.int .i64 o4), .v (.int .i64 o4_1), .v (.int .i64 o4_2), .v (.int .i64 o4_3), .own 5, .own 6], .row ⟨true, 3, (.int .i64), o5⟩, .row ⟨true, 3, (.int .i64), o6⟩]⟩) (fun r0 r1 r2 r3 r4 r5 r6 r7 r8 r9 => K (.agg [.v (.int .i64 r0), .v (.int .i64 r1), .v (.int .i64 r2), .v (.int .i64 r3), .own 2, .own 3]) [.box 77 [.rd ⟨false, 5, (.int .u8), r4⟩, .v (.int .i64 r5), .ifc 79 (.ptr 1 0)], .box 83 [.v (.int .i64 r6), .v (.int .i64 r7)], .row ⟨true, 3, (.int .i64), r8⟩, .row ⟨true, 3, (.int .i64), r9⟩]) (fun r0 r1 r2 r3 r4 r5 r6 r7 => K (.agg [.v (.int .i64 r0), .v (.int .i64 r1), .v (.int .i64 r2), .v (.int .i64 r3), .own 1, .own 2]) [.box 77 [.rd ⟨false, 5, (.int .u8), r4⟩, .v (.int .i64 r5), .v (.nilIface)], .row ⟨true, 3, (.int .i64), r6⟩, .row ⟨true, 3, (.int .i64), r7⟩]) o0 o0_1 := gentry_text_reader_read_none @l_text_reader_want_none @l_text_reader_want_fault @l_text_reader_number_fault @l_text_reader_number_none fuel K o0 o0_1

theorem runs_text_reader_read_none {R : Type} (K : AV → List O → Option R) : ∀ fuel : Nat,
    (fun s o0 o0_1 o1 o1_1 o2 o2_1 o2_2 o2_3 o3 o4 o5 o5_1 o5_2 o5_3 o6 o7 => (runO Tryd.prog (T_text_reader_read @l_text_reader_want_none @l_text_reader_want_fault @l_text_reader_number_fault @l_text_reader_number_none) cuts_text_reader_read_none 1 (finish Tryd.prog Tryd.f38 1 K) fuel) (at' Tryd.f38 15) ⟨fr0 151 [(0, .ptr 0 0), (2, .ptr 2 0), (3, .ptr 5 0), (4, .bnd 49 [.ptr 0 0]), (5, .bnd 50 [.ptr 0 0]), (6, .v (.int .i64 s))], [.box 77 [.rd ⟨false, 5, (.int .u8), o0⟩, .v (.int .i64 o0_1), .ifc 79 (.ptr 1 0)], .box 83 [.v (.int .i64 o1), .v (.int .i64 o1_1)], .box 24 [.v (.int .i64 o2), .v (.int .i64 o2_1), .v (.int .i64 o2_2), .v (.int .i64 o2_3), .own 3, .own 4], .row ⟨true, 3, (.int .i64), o3⟩, .row ⟨true, 3, (.int .i64), o4⟩, .box 24 [.v (.int .i64 o5), .v (.int .i64 o5_1), .v (.int .i64 o5_2), .v (.int .i64 o5_3), .own 6, .own 7], .row ⟨true, 3, (.int .i64), o6⟩, .row ⟨true, 3, (.int .i64), o7⟩]⟩) = (run_text_reader_read_none (fun r0 r1 r2 r3 r4 r5 r6 r7 r8 r9 => K (.agg [.v (.int .i64 r0), .v (.int .i64 r1), .v (.int .i64 r2), .v (.int .i64 r3), .own 2, .own 3]) [.box 77 [.rd ⟨false, 5, (.int .u8), r4⟩, .v (.int .i64 r5), .ifc 79 (.ptr 1 0)], .box 83 [.v (.int .i64 r6), .v (.int .i64 r7)], .row ⟨true, 3, (.int .i64), r8⟩, .row ⟨true, 3, (.int .i64), r9⟩]) (fun r0 r1 r2 r3 r4 r5 r6 r7 => K (.agg [.v (.int .i64 r0), .v (.int .i64 r1), .v (.int .i64 r2), .v (.int .i64 r3), .own 1, .own 2]) [.box 77 [.rd ⟨false, 5, (.int .u8), r4⟩, .v (.int .i64 r5), .v (.nilIface)], .row ⟨true, 3, (.int .i64), r6⟩, .row ⟨true, 3, (.int .i64), r7⟩]) fuel).1 ∧
    (fun s o0 o0_1 o1 o1_1 o1_2 o1_3 o2 o3 o4 o4_1 o4_2 o4_3 o5 o6 => (runO Tryd.prog (T_text_reader_read @l_text_reader_want_none @l_text_reader_want_fault @l_text_reader_number_fault @l_text_reader_number_none) cuts_text_reader_read_none 1 (finish Tryd.prog Tryd.f38 1 K) fuel) (at' Tryd.f38 15) ⟨fr0 151 [(0, .ptr 0 0), (2, .ptr 1 0), (3, .ptr 4 0), (4, .bnd 49 [.ptr 0 0]), (5, .bnd 50 [.ptr 0 0]), (6, .v (.int .i64 s))], [.box 77 [.rd ⟨false, 5, (.int .u8), o0⟩, .v (.int .i64 o0_1), .v (.nilIface)], .box 24 [.v (.int .i64 o1), .v (.int .i64 o1_1), .v (.int .i64 o1_2), .v (.int .i64 o1_3), .own 2, .own 3], .row ⟨true, 3, (.int .i64), o2⟩, .row ⟨true, 3, (.int .i64), o3⟩, .box 24 [.v (.int .i64 o4), .v (.int .i64 o4_1), .v (.int .i64 o4_2), .v (.int .i64 o4_3), .own 5, .own 6], .row ⟨true, 3, (.int .i64), o5⟩, .row ⟨true, 3, (.int .i64), o6⟩]⟩) = (run_text_reader_read_none (fun r0 r1 r2 r3 r4 r5 r6 r7 r8 r9 => K (.agg [.v (.int .i64 r0), .v (.int .i64 r1), .v (.int .i64 r2), .v (.int .i64 r3), .own 2, .own 3]) [.box 77 [.rd ⟨false, 5, (.int .u8), r4⟩, .v (.int .i64 r5), .ifc 79 (.ptr 1 0)], .box 83 [.v (.int .i64 r6), .v (.int .i64 r7)], .row ⟨true, 3, (.int .i64), r8⟩, .row ⟨true, 3, (.int .i64), r9⟩]) (fun r0 r1 r2 r3 r4 r5 r6 r7 => K (.agg [.v (.int .i64 r0), .v (.int .i64 r1), .v (.int .i64 r2), .v (.int .i64 r3), .own 1, .own 2]) [.box 77 [.rd ⟨false, 5, (.int .u8), r4⟩, .v (.int .i64 r5), .v (.nilIface)], .row ⟨true, 3, (.int .i64), r6⟩, .row ⟨true, 3, (.int .i64), r7⟩]) fuel).2.1 ∧
    (fun s o0 o0_1 o1 o1_1 o2 o2_1 o2_2 o2_3 o3 o4 o5 o5_1 o5_2 o5_3 o6 o7 => (runO Tryd.prog (T_text_reader_read @l_text_reader_want_none @l_text_reader_want_fault @l_text_reader_number_fault @l_text_reader_number_none) cuts_text_reader_read_none 1 (finish Tryd.prog Tryd.f38 1 K) fuel) (at' Tryd.f38 19) ⟨fr0 151 [(0, .ptr 0 0), (2, .ptr 2 0), (3, .ptr 5 0), (4, .bnd 49 [.ptr 0 0]), (5, .bnd 50 [.ptr 0 0]), (6, .v (.int .i64 s))], [.box 77 [.rd ⟨false, 5, (.int .u8), o0⟩, .v (.int .i64 o0_1), .ifc 79 (.ptr 1 0)], .box 83 [.v (.int .i64 o1), .v (.int .i64 o1_1)], .box 24 [.v (.int .i64 o2), .v (.int .i64 o2_1), .v (.int .i64 o2_2), .v (.int .i64 o2_3), .own 3, .own 4], .row ⟨true, 3, (.int .i64), o3⟩, .row ⟨true, 3, (.int .i64), o4⟩, .box 24 [.v (.int .i64 o5), .v (.int .i64 o5_1), .v (.int .i64 o5_2), .v (.int .i64 o5_3), .own 6, .own 7], .row ⟨true, 3, (.int .i64), o6⟩, .row ⟨true, 3, (.int .i64), o7⟩]⟩) = (run_text_reader_read_none (fun r0 r1 r2 r3 r4 r5 r6 r7 r8 r9 => K (.agg [.v (.int .i64 r0), .v (.int .i64 r1), .v (.int .i64 r2), .v (.int .i64 r3), .own 2, .own 3]) [.box 77 [.rd ⟨false, 5, (.int .u8), r4⟩, .v (.int .i64 r5), .ifc 79 (.ptr 1 0)], .box 83 [.v (.int .i64 r6), .v (.int .i64 r7)], .row ⟨true, 3, (.int .i64), r8⟩, .row ⟨true, 3, (.int .i64), r9⟩]) (fun r0 r1 r2 r3 r4 r5 r6 r7 => K (.agg [.v (.int .i64 r0), .v (.int .i64 r1), .v (.int .i64 r2), .v (.int .i64 r3), .own 1, .own 2]) [.box 77 [.rd ⟨false, 5, (.int .u8), r4⟩, .v (.int .i64 r5), .v (.nilIface)], .row ⟨true, 3, (.int .i64), r6⟩, .row ⟨true, 3, (.int .i64), r7⟩]) fuel).2.2.1 ∧
    (fun s o0 o0_1 o1 o1_1 o1_2 o1_3 o2 o3 o4 o4_1 o4_2 o4_3 o5 o6 => (runO Tryd.prog (T_text_reader_read @l_text_reader_want_none @l_text_reader_want_fault @l_text_reader_number_fault @l_text_reader_number_none) cuts_text_reader_read_none 1 (finish Tryd.prog Tryd.f38 1 K) fuel) (at' Tryd.f38 19) ⟨fr0 151 [(0, .ptr 0 0), (2, .ptr 1 0), (3, .ptr 4 0), (4, .bnd 49 [.ptr 0 0]), (5, .bnd 50 [.ptr 0 0]), (6, .v (.int .i64 s))], [.box 77 [.rd ⟨false, 5, (.int .u8), o0⟩, .v (.int .i64 o0_1), .v (.nilIface)], .box 24 [.v (.int .i64 o1), .v (.int .i64 o1_1), .v (.int .i64 o1_2), .v (.int .i64 o1_3), .own 2, .own 3], .row ⟨true, 3, (.int .i64), o2⟩, .row ⟨true, 3, (.int .i64), o3⟩, .box 24 [.v (.int .i64 o4), .v (.int .i64 o4_1), .v (.int .i64 o4_2), .v (.int .i64 o4_3), .own 5, .own 6], .row ⟨true, 3, (.int .i64), o5⟩, .row ⟨true, 3, (.int .i64), o6⟩]⟩) = (run_text_reader_read_none (fun r0 r1 r2 r3 r4 r5 r6 r7 r8 r9 => K (.agg [.v (.int .i64 r0), .v (.int .i64 r1), .v (.int .i64 r2), .v (.int .i64 r3), .own 2, .own 3]) [.box 77 [.rd ⟨false, 5, (.int .u8), r4⟩, .v (.int .i64 r5), .ifc 79 (.ptr 1 0)], .box 83 [.v (.int .i64 r6), .v (.int .i64 r7)], .row ⟨true, 3, (.int .i64), r8⟩, .row ⟨true, 3, (.int .i64), r9⟩]) (fun r0 r1 r2 r3 r4 r5 r6 r7 => K (.agg [.v (.int .i64 r0), .v (.int .i64 r1), .v (.int .i64 r2), .v (.int .i64 r3), .own 1, .own 2]) [.box 77 [.rd ⟨false, 5, (.int .u8), r4⟩, .v (.int .i64 r5), .v (.nilIface)], .row ⟨true, 3, (.int .i64), r6⟩, .row ⟨true, 3, (.int .i64), r7⟩]) fuel).2.2.2.1 ∧
    (fun s x o0 o0_1 o1 o1_1 o2 o2_1 o2_2 o2_3 o3 o4 o5 o5_1 o5_2 o5_3 o6 o7 => (runO Tryd.prog (T_text_reader_read @l_text_reader_want_none @l_text_reader_want_fault @l_text_reader_number_fault @l_text_reader_number_none) cuts_text_reader_read_none 1 (finish Tryd.prog Tryd.f38 1 K) fuel) (at' Tryd.f38 20) ⟨fr0 151 [(0, .ptr 0 0), (2, .ptr 2 0), (3, .ptr 5 0), (4, .bnd 49 [.ptr 0 0]), (5, .bnd 50 [.ptr 0 0]), (6, .v (.int .i64 s)), (7, .v (.int .i64 x))], [.box 77 [.rd ⟨false, 5, (.int .u8), o0⟩, .v (.int .i64 o0_1), .ifc 79 (.ptr 1 0)], .box 83 [.v (.int .i64 o1), .v (.int .i64 o1_1)], .box 24 [.v (.int .i64 o2), .v (.int .i64 o2_1), .v (.int .i64 o2_2), .v (.int .i64 o2_3), .own 3, .own 4], .row ⟨true, 3, (.int .i64), o3⟩, .row ⟨true, 3, (.int .i64), o4⟩, .box 24 [.v (.int .i64 o5), .v (.int .i64 o5_1), .v (.int .i64 o5_2), .v (.int .i64 o5_3), .own 6, .own 7], .row ⟨true, 3, (.int .i64), o6⟩, .row ⟨true, 3, (.int .i64), o7⟩]⟩) = (run_text_reader_read_none (fun r0 r1 r2 r3 r4 r5 r6 r7 r8 r9 => K (.agg [.v (.int .i64 r0), .v (.int .i64 r1), .v (.int .i64 r2), .v (.int .i64 r3), .own 2, .own 3]) [.box 77 [.rd ⟨false, 5, (.int .u8), r4⟩, .v (.int .i64 r5), .ifc 79 (.ptr 1 0)], .box 83 [.v (.int .i64 r6), .v (.int .i64 r7)], .row ⟨true, 3, (.int .i64), r8⟩, .row ⟨true, 3, (.int .i64), r9⟩]) (fun r0 r1 r2 r3 r4 r5 r6 r7 => K (.agg [.v (.int .i64 r0), .v (.int .i64 r1), .v (.int .i64 r2), .v (.int .i64 r3), .own 1, .own 2]) [.box 77 [.rd ⟨false, 5, (.int .u8), r4⟩, .v (.int .i64 r5), .v (.nilIface)], .row ⟨true, 3, (.int .i64), r6⟩, .row ⟨true, 3, (.int .i64), r7⟩]) fuel).2.2.2.2.1 ∧
    (fun s x o0 o0_1 o1 o1_1 o1_2 o1_3 o2 o3 o4 o4_1 o4_2 o4_3 o5 o6 => (runO Tryd.prog (T_text_reader_read @l_text_reader_want_none @l_text_reader_want_fault @l_text_reader_number_fault @l_text_reader_number_none) cuts_text_reader_read_none 1 (finish Tryd.prog Tryd.f38 1 K) fuel) (at' Tryd.f38 20) ⟨fr0 151 [(0, .ptr 0 0), (2, .ptr 1 0), (3, .ptr 4 0), (4, .bnd 49 [.ptr 0 0]), (5, .bnd 50 [.ptr 0 0]), (6, .v (.int .i64 s)), (7, .v (.int .i64 x))], [.box 77 [.rd ⟨false, 5, (.int .u8), o0⟩, .v (.int .i64 o0_1), .v (.nilIface)], .box 24 [.v (.int .i64 o1), .v (.int .i64 o1_1), .v (.int .i64 o1_2), .v (.int .i64 o1_3), .own 2, .own 3], .row ⟨true, 3, (.int .i64), o2⟩, .row ⟨true, 3, (.int .i64), o3⟩, .box 24 [.v (.int .i64 o4), .v (.int .i64 o4_1), .v (.int .i64 o4_2), .v (.int .i64 o4_3), .own 5, .own 6], .row ⟨true, 3, (.int .i64), o5⟩, .row ⟨true, 3, (.int .i64), o6⟩]⟩) = (run_text_reader_read_none (fun r0 r1 r2 r3 r4 r5 r6 r7 r8 r9 => K (.agg [.v (.int .i64 r0), .v (.int .i64 r1), .v (.int .i64 r2), .v (.int .i64 r3), .own 2, .own 3]) [.box 77 [.rd ⟨false, 5, (.int .u8), r4⟩, .v (.int .i64 r5), .ifc 79 (.ptr 1 0)], .box 83 [.v (.int .i64 r6), .v (.int .i64 r7)], .row ⟨true, 3, (.int .i64), r8⟩, .row ⟨true, 3, (.int .i64), r9⟩]) (fun r0 r1 r2 r3 r4 r5 r6 r7 => K (.agg [.v (.int .i64 r0), .v (.int .i64 r1), .v (.int .i64 r2), .v (.int .i64 r3), .own 1, .own 2]) [.box 77 [.rd ⟨false, 5, (.int .u8), r4⟩, .v (.int .i64 r5), .v (.nilIface)], .row ⟨true, 3, (.int .i64), r6⟩, .row ⟨true, 3, (.int .i64), r7⟩]) fuel).2.2.2.2.2.1 ∧
    (fun s x o0 o0_1 o1 o1_1 o2 o2_1 o2_2 o2_3 o3 o4 o5 o5_1 o5_2 o5_3 o6 o7 => (runO Tryd.prog (T_text_reader_read @l_text_reader_want_none @l_text_reader_want_fault @l_text_reader_number_fault @l_text_reader_number_none) cuts_text_reader_read_none 1 (finish Tryd.prog Tryd.f38 1 K) fuel) (at' Tryd.f38 25) ⟨fr0 151 [(0, .ptr 0 0), (2, .ptr 2 0), (3, .ptr 5 0), (4, .bnd 49 [.ptr 0 0]), (5, .bnd 50 [.ptr 0 0]), (6, .v (.int .i64 s)), (7, .v (.int .i64 x))], [.box 77 [.rd ⟨false, 5, (.int .u8), o0⟩, .v (.int .i64 o0_1), .ifc 79 (.ptr 1 0)], .box 83 [.v (.int .i64 o1), .v (.int .i64 o1_1)], .box 24 [.v (.int .i64 o2), .v (.int .i64 o2_1), .v (.int .i64 o2_2), .v (.int .i64 o2_3), .own 3, .own 4], .row ⟨true, 3, (.int .i64), o3⟩, .row ⟨true, 3, (.int .i64), o4⟩, .box 24 [.v (.int .i64 o5), .v (.int .i64 o5_1), .v (.int .i64 o5_2), .v (.int .i64 o5_3), .own 6, .own 7], .row ⟨true, 3, (.int .i64), o6⟩, .row ⟨true, 3, (.int .i64), o7⟩]⟩) = (run_text_reader_read_none (fun r0 r1 r2 r3 r4 r5 r6 r7 r8 r9 => K (.agg [.v (.int .i64 r0), .v (.int .i64 r1), .v (.int .i64 r2), .v (.int .i64 r3), .own 2, .own 3]) [.box 77 [.rd ⟨false, 5, (.int .u8), r4⟩, .v (.int .i64 r5), .ifc 79 (.ptr 1 0)], .box 83 [.v (.int .i64 r6), .v (.int .i64 r7)], .row ⟨true, 3, (.int .i64), r8⟩, .row ⟨true, 3, (.int .i64), r9⟩]) (fun r0 r1 r2 r3 r4 r5 r6 r7 => K (.agg [.v (.int .i64 r0), .v (.int .i64 r1), .v (.int .i64 r2), .v (.int .i64 r3), .own 1, .own 2]) [.box 77 [.rd ⟨false, 5, (.int .u8), r4⟩, .v (.int .i64 r5), .v (.nilIface)], .row ⟨true, 3, (.int .i64), r6⟩, .row ⟨true, 3, (.int .i64), r7⟩]) fuel).2.2.2.2.2.2.1 ∧
    (fun s x o0 o0_1 o1 o1_1 o1_2 o1_3 o2 o3 o4 o4_1 o4_2 o4_3 o5 o6 => (runO Tryd.prog (T_text_reader_read @l_text_reader_want_none @l_text_reader_want_fault @l_text_reader_number_fault @l_text_reader_number_none) cuts_text_reader_read_none 1 (finish Tryd.prog Tryd.f38 1 K) fuel) (at' Tryd.f38 25) ⟨fr0 151 [(0, .ptr 0 0), (2, .ptr 1 0), (3, .ptr 4 0), (4, .bnd 49 [.ptr 0 0]), (5, .bnd 50 [.ptr 0 0]), (6, .v (.int .i64 s)), (7, .v (.int .i64 x))], [.box 77 [.rd ⟨false, 5, (.int .u8), o0⟩, .v (.int .i64 o0_1), .v (.nilIface)], .box 24 [.v (.int .i64 o1), .v (.int .i64 o1_1), .v (.int .i64 o1_2), .v (.int .i64 o1_3), .own 2, .own 3], .row ⟨true, 3, (.int .i64), o2⟩, .row ⟨true, 3, (.int .i64), o3⟩, .box 24 [.v (.int .i64 o4), .v (.int .i64 o4_1), .v (.int .i64 o4_2), .v (.int .i64 o4_3), .own 5, .own 6], .row ⟨true, 3, (.int .i64), o5⟩, .row ⟨true, 3, (.int .i64), o6⟩]⟩) = (run_text_reader_read_none (fun r0 r1 r2 r3 r4 r5 r6 r7 r8 r9 => K (.agg [.v (.int .i64 r0), .v (.int .i64 r1), .v (.int .i64 r2), .v (.int .i64 r3), .own 2, .own 3]) [.box 77 [.rd ⟨false, 5, (.int .u8), r4⟩, .v (.int .i64 r5), .ifc 79 (.ptr 1 0)], .box 83 [.v (.int .i64 r6), .v (.int .i64 r7)], .row ⟨true, 3, (.int .i64), r8⟩, .row ⟨true, 3, (.int .i64), r9⟩]) (fun r0 r1 r2 r3 r4 r5 r6 r7 => K (.agg [.v (.int .i64 r0), .v (.int .i64 r1), .v (.int .i64 r2), .v (.int .i64 r3), .own 1, .own 2]) [.box 77 [.rd ⟨false, 5, (.int .u8), r4⟩, .v (.int .i64 r5), .v (.nilIface)], .row ⟨true, 3, (.int .i64), r6⟩, .row ⟨true, 3, (.int .i64), r7⟩]) fuel).2.2.2.2.2.2.2.1 ∧
    (fun s x o0 o0_1 o1 o1_1 o2 o2_1 o2_2 o2_3 o3 o4 o5 o5_1 o5_2 o5_3 o6 o7 => (runO Tryd.prog (T_text_reader_read @l_text_reader_want_none @l_text_reader_want_fault @l_text_reader_number_fault @l_text_reader_number_none) cuts_text_reader_read_none 1 (finish Tryd.prog Tryd.f38 1 K) fuel) (at' Tryd.f38 21) ⟨fr0 151 [(0, .ptr 0 0), (2, .ptr 2 0), (3, .ptr 5 0), (4, .bnd 49 [.ptr 0 0]), (5, .bnd 50 [.ptr 0 0]), (6, .v (.int .i64 s)), (7, .v (.int .i64 x))], [.box 77 [.rd ⟨false, 5, (.int .u8), o0⟩, .v (.int .i64 o0_1), .ifc 79 (.ptr 1 0)], .box 83 [.v (.int .i64 o1), .v (.int .i64 o1_1)], .box 24 [.v (.int .i64 o2), .v (.int .i64 o2_1), .v (.int .i64 o2_2), .v (.int .i64 o2_3), .own 3, .own 4], .row ⟨true, 3, (.int .i64), o3⟩, .row ⟨true, 3, (.int .i64), o4⟩, .box 24 [.v (.int .i64 o5), .v (.int .i64 o5_1), .v (.int .i64 o5_2), .v (.int .i64 o5_3), .own 6, .own 7], .row ⟨true, 3, (.int .i64), o6⟩, .row ⟨true, 3, (.int .i64), o7⟩]⟩) = (run_text_reader_read_none (fun r0 r1 r2 r3 r4 r5 r6 r7 r8 r9 => K (.agg [.v (.int .i64 r0), .v (.int .i64 r1), .v (.int .i64 r2), .v (.int .i64 r3), .own 2, .own 3]) [.box 77 [.rd ⟨false, 5, (.int .u8), r4⟩, .v (.int .i64 r5), .ifc 79 (.ptr 1 0)], .box 83 [.v (.int .i64 r6), .v (.int .i64 r7)], .row ⟨true, 3, (.int .i64), r8⟩, .row ⟨true, 3, (.int .i64), r9⟩]) (fun r0 r1 r2 r3 r4 r5 r6 r7 => K (.agg [.v (.int .i64 r0), .v (.int .i64 r1), .v (.int .i64 r2), .v (.int .i64 r3), .own 1, .own 2]) [.box 77 [.rd ⟨false, 5, (.int .u8), r4⟩, .v (.int .i64 r5), .v (.nilIface)], .row ⟨true, 3, (.int .i64), r6⟩, .row ⟨true, 3, (.int .i64), r7⟩]) fuel).2.2.2.2.2.2.2.2.1 ∧
    (fun s x o0 o0_1 o1 o1_1 o1_2 o1_3 o2 o3 o4 o4_1 o4_2 o4_3 o5 o6 => (runO Tryd.prog (T_text_reader_read @l_text_reader_want_none @l_text_reader_want_fault @l_text_reader_number_fault @l_text_reader_number_none) cuts_text_reader_read_none 1 (finish Tryd.prog Tryd.f38 1 K) fuel) (at' Tryd.f38 21) ⟨fr0 151 [(0, .ptr 0 0), (2, .ptr 1 0), (3, .ptr 4 0), (4, .bnd 49 [.ptr 0 0]), (5, .bnd 50 [.ptr 0 0]), (6, .v (.int .i64 s)), (7, .v (.int .i64 x))], [.box 77 [.rd ⟨false, 5, (.int .u8), o0⟩, .v (.int .i64 o0_1), .v (.nilIface)], .box 24 [.v (.int .i64 o1), .v (.int .i64 o1_1), .v (.int .i64 o1_2), .v (.int .i64 o1_3), .own 2, .own 3], .row ⟨true, 3, (.int .i64), o2⟩, .row ⟨true, 3, (.int .i64), o3⟩, .box 24 [.v (.int .i64 o4), .v (.int .i64 o4_1), .v (.int .i64 o4_2), .v (.int .i64 o4_3), .own 5, .own 6], .row ⟨true, 3, (.int .i64), o5⟩, .row ⟨true, 3, (.int .i64), o6⟩]⟩) = (run_text_reader_read_none (fun r0 r1 r2 r3 r4 r5 r6 r7 r8 r9 => K (.agg [.v (.int .i64 r0), .v (.int .i64 r1), .v (.int .i64 r2), .v (.int .i64 r3), .own 2, .own 3]) [.box 77 [.rd ⟨false, 5, (.int .u8), r4⟩, .v (.int .i64 r5), .ifc 79 (.ptr 1 0)], .box 83 [.v (.int .i64 r6), .v (.int .i64 r7)], .row ⟨true, 3, (.int .i64), r8⟩, .row ⟨true, 3, (.int .i64), r9⟩]) (fun r0 r1 r2 r3 r4 r5 r6 r7 => K (.agg [.v (.int .i64 r0), .v (.int .i64 r1), .v (.int .i64 r2), .v (.int .i64 r3), .own 1, .own 2]) [.box 77 [.rd ⟨false, 5, (.int .u8), r4⟩, .v (.int .i64 r5), .v (.nilIface)], .row ⟨true, 3, (.int .i64), r6⟩, .row ⟨true, 3, (.int .i64), r7⟩]) fuel).2.2.2.2.2.2.2.2.2
  | 0 => ⟨rfl, rfl, rfl, rfl, rfl, rfl, rfl, rfl, rfl, rfl⟩
  | fuel + 1 => by
    have ih := runs_text_reader_read_none K fuel
    refine ⟨?_, ?_, ?_, ?_, ?_, ?_, ?_, ?_, ?_, ?_⟩
    · funext s o0 o0_1 o1 o1_1 o2 o2_1 o2_2 o2_3 o3 o4 o5 o5_1 o5_2 o5_3 o6 o7
      refine (step_text_reader_read_none_15a _ K s o0 o0_1 o1 o1_1 o2 o2_1 o2_2 o2_3 o3 o4 o5 o5_1 o5_2 o5_3 o6 o7).trans ?_
      rw [ih.1, ih.2.1, ih.2.2.1, ih.2.2.2.1, ih.2.2.2.2.1, ih.2.2.2.2.2.1, ih.2.2.2.2.2.2.1, ih.2.2.2.2.2.2.2.1, ih.2.2.2.2.2.2.2.2.1, ih.2.2.2.2.2.2.2.2.2]
      rfl
    · funext s o0 o0_1 o1 o1_1 o1_2 o1_3 o2 o3 o4 o4_1 o4_2 o4_3 o5 o6
      refine (step_text_reader_read_none_15b _ K s o0 o0_1 o1 o1_1 o1_2 o1_3 o2 o3 o4 o4_1 o4_2 o4_3 o5 o6).trans ?_
      rw [ih.1, ih.2.1, ih.2.2.1, ih.2.2.2.1, ih.2.2.2.2.1, ih.2.2.2.2.2.1, ih.2.2.2.2.2.2.1, ih.2.2.2.2.2.2.2.1, ih.2.2.2.2.2.2.2.2.1, ih.2.2.2.2.2.2.2.2.2]
      rfl
    · funext s o0 o0_1 o1 o1_1 o2 o2_1 o2_2 o2_3 o3 o4 o5 o5_1 o5_2 o5_3 o6 o7
      refine (step_text_reader_read_none_19a _ K s o0 o0_1 o1 o1_1 o2 o2_1 o2_2 o2_3 o3 o4 o5 o5_1 o5_2 o5_3 o6 o7).trans ?_
      rw [ih.1, ih.2.1, ih.2.2.1, ih.2.2.2.1, ih.2.2.2.2.1, ih.2.2.2.2.2.1, ih.2.2.2.2.2.2.1, ih.2.2.2.2.2.2.2.1, ih.2.2.2.2.2.2.2.2.1, ih.2.2.2.2.2.2.2.2.2]
      rfl
    · funext s o0 o0_1 o1 o1_1 o1_2 o1_3 o2 o3 o4 o4_1 o4_2 o4_3 o5 o6
      refine (step_text_reader_read_none_19b _ K s o0 o0_1 o1 o1_1 o1_2 o1_3 o2 o3 o4 o4_1 o4_2 o4_3 o5 o6).trans ?_
      rw [ih.1, ih.2.1, ih.2.2.1, ih.2.2.2.1, ih.2.2.2.2.1, ih.2.2.2.2.2.1, ih.2.2.2.2.2.2.1, ih.2.2.2.2.2.2.2.1, ih.2.2.2.2.2.2.2.2.1, ih.2.2.2.2.2.2.2.2.2]
      rfl
    · funext s x o0 o0_1 o1 o1_1 o2 o2_1 o2_2 o2_3 o3 o4 o5 o5_1 o5_2 o5_3 o6 o7
      refine (step_text_reader_read_none_20a _ K s x o0 o0_1 o1 o1_1 o2 o2_1 o2_2 o2_3 o3 o4 o5 o5_1 o5_2 o5_3 o6 o7).trans ?_
      rw [ih.1, ih.2.1, ih.2.2.1, ih.2.2.2.1, ih.2.2.2.2.1, ih.2.2.2.2.2.1, ih.2.2.2.2.2.2.1, ih.2.2.2.2.2.2.2.1, ih.2.2.2.2.2.2.2.2.1, ih.2.2.2.2.2.2.2.2.2]
      rfl
    · funext s x o0 o0_1 o1 o1_1 o1_2 o1_3 o2 o3 o4 o4_1 o4_2 o4_3 o5 o6
      refine (step_text_reader_read_none_20b _ K s x o0 o0_1 o1 o1_1 o1_2 o1_3 o2 o3 o4 o4_1 o4_2 o4_3 o5 o6).trans ?_
      rw [ih.1, ih.2.1, ih.2.2.1, ih.2.2.2.1, ih.2.2.2.2.1, ih.2.2.2.2.2.1, ih.2.2.2.2.2.2.1, ih.2.2.2.2.2.2.2.1, ih.2.2.2.2.2.2.2.2.1, ih.2.2.2.2.2.2.2.2.2]
      rfl
    · funext s x o0 o0_1 o1 o1_1 o2 o2_1 o2_2 o2_3 o3 o4 o5 o5_1 o5_2 o5_3 o6 o7
      refine (step_text_reader_read_none_25a _ K s x o0 o0_1 o1 o1_1 o2 o2_1 o2_2 o2_3 o3 o4 o5 o5_1 o5_2 o5_3 o6 o7).trans ?_
      rw [ih.1, ih.2.1, ih.2.2.1, ih.2.2.2.1, ih.2.2.2.2.1, ih.2.2.2.2.2.1, ih.2.2.2.2.2.2.1, ih.2.2.2.2.2.2.2.1, ih.2.2.2.2.2.2.2.2.1, ih.2.2.2.2.2.2.2.2.2]
      rfl
    · funext s x o0 o0_1 o1 o1_1 o1_2 o1_3 o2 o3 o4 o4_1 o4_2 o4_3 o5 o6
      refine (step_text_reader_read_none_25b _ K s x o0 o0_1 o1 o1_1 o1_2 o1_3 o2 o3 o4 o4_1 o4_2 o4_3 o5 o6).trans ?_
      rw [ih.1, ih.2.1, ih.2.2.1, ih.2.2.2.1, ih.2.2.2.2.1, ih.2.2.2.2.2.1, ih.2.2.2.2.2.2.1, ih.2.2.2.2.2.2.2.1, ih.2.2.2.2.2.2.2.2.1, ih.2.2.2.2.2.2.2.2.2]
      rfl
    · funext s x o0 o0_1 o1 o1_1 o2 o2_1 o2_2 o2_3 o3 o4 o5 o5_1 o5_2 o5_3 o6 o7
      refine (step_text_reader_read_none_21a _ K s x o0 o0_1 o1 o1_1 o2 o2_1 o2_2 o2_3 o3 o4 o5 o5_1 o5_2 o5_3 o6 o7).trans ?_
      rw [ih.1, ih.2.1, ih.2.2.1, ih.2.2.2.1, ih.2.2.2.2.1, ih.2.2.2.2.2.1, ih.2.2.2.2.2.2.1, ih.2.2.2.2.2.2.2.1, ih.2.2.2.2.2.2.2.2.1, ih.2.2.2.2.2.2.2.2.2]
      rfl
    · funext s x o0 o0_1 o1 o1_1 o1_2 o1_3 o2 o3 o4 o4_1 o4_2 o4_3 o5 o6
      refine (step_text_reader_read_none_21b _ K s x o0 o0_1 o1 o1_1 o1_2 o1_3 o2 o3 o4 o4_1 o4_2 o4_3 o5 o6).trans ?_
      rw [ih.1, ih.2.1, ih.2.2.1, ih.2.2.2.1, ih.2.2.2.2.1, ih.2.2.2.2.2.1, ih.2.2.2.2.2.2.1, ih.2.2.2.2.2.2.2.1, ih.2.2.2.2.2.2.2.2.1, ih.2.2.2.2.2.2.2.2.2]
      rfl

def S_text_reader_read (l_text_reader_read_none : {R : Type} → (List Int) → Int → (Int → Int → Int → Int → (List Int) → Int → Int → Int → (List Int) → (List Int) → Option R) → (Int → Int → Int → Int → (List Int) → Int → (List Int) → (List Int) → Option R) → Option R) : Sum := ⟨[], fun {R} args ob K => match args, ob with
  | [.ptr 0 0], [.box 77 [.rd ⟨false, 5, (.int .u8), o0⟩, .v (.int .i64 o0_1), .v (.nilIface)]] => l_text_reader_read_none o0 o0_1 (fun r0 r1 r2 r3 r4 r5 r6 r7 r8 r9 => K (.agg [.v (.int .i64 r0), .v (.int .i64 r1), .v (.int .i64 r2), .v (.int .i64 r3), .own 2, .own 3]) [.box 77 [.rd ⟨false, 5, (.int .u8), r4⟩, .v (.int .i64 r5), .ifc 79 (.ptr 1 0)], .box 83 [.v (.int .i64 r6), .v (.int .i64 r7)], .row ⟨true, 3, (.int .i64), r8⟩, .row ⟨true, 3, (.int .i64), r9⟩]) (fun r0 r1 r2 r3 r4 r5 r6 r7 => K (.agg [.v (.int .i64 r0), .v (.int .i64 r1), .v (.int .i64 r2), .v (.int .i64 r3), .own 1, .own 2]) [.box 77 [.rd ⟨false, 5, (.int .u8), r4⟩, .v (.int .i64 r5), .v (.nilIface)], .row ⟨true, 3, (.int .i64), r6⟩, .row ⟨true, 3, (.int .i64), r7⟩])
  | _, _ => none⟩

theorem sound_text_reader_read : Sound Tryd.prog 38 (S_text_reader_read @l_text_reader_read_none) := by
  refine fn_sound (cuts := cuts_text_reader_read_none) (fn := Tryd.f38) (Γ := (T_text_reader_read @l_text_reader_want_none @l_text_reader_want_fault @l_text_reader_number_fault @l_text_reader_number_none)) wide right_T_text_reader_read Tryd.func38 fun {R} K r args ob h => ?_
  unfold S_text_reader_read at h
  dsimp only at h
  split at h
  · obtain ⟨n, hn⟩ := ok_text_reader_read_none _ _ _ _ h
    refine ⟨Nat.le_of_ble_eq_true (by kernel_rfl), n, (entry_text_reader_read_none n K _ _).trans ?_⟩
    rw [(runs_text_reader_read_none K n).1, (runs_text_reader_read_none K n).2.1, (runs_text_reader_read_none K n).2.2.1, (runs_text_reader_read_none K n).2.2.2.1, (runs_text_reader_read_none K n).2.2.2.2.1, (runs_text_reader_read_none K n).2.2.2.2.2.1, (runs_text_reader_read_none K n).2.2.2.2.2.2.1, (runs_text_reader_read_none K n).2.2.2.2.2.2.2.1, (runs_text_reader_read_none K n).2.2.2.2.2.2.2.2.1, (runs_text_reader_read_none K n).2.2.2.2.2.2.2.2.2]
    exact hn
  · cases h

theorem call_text_reader_read : Callable Tryd.prog 38 := ⟨_, Tryd.func38, by kernel_rfl, by kernel_rfl⟩



def S_errors_As (l_errors_As_fault_nil : {R : Type} → Int → Int → (Int → Int → Option R) → Option R) (l_errors_As_none_fault_nil : {R : Type} → (Option R) → Option R) : Sum := ⟨[], fun {R} args ob K => match args, ob with
  | [.ifc 79 (.ptr 0 0), .ifc 81 (.ptr 1 0)], [.box 83 [.v (.int .i64 o0), .v (.int .i64 o0_1)], .box 79 [.v (.pointer none)]] => l_errors_As_fault_nil o0 o0_1 (fun r0 r1 => K (.v (.bool true)) [.box 83 [.v (.int .i64 r0), .v (.int .i64 r1)], .box 79 [.ptr 0 0]])
  | [.v (.nilIface), .ifc 81 (.ptr 0 0)], [.box 79 [.v (.pointer none)]] => l_errors_As_none_fault_nil  (K (.v (.bool false)) [.box 79 [.v (.pointer none)]])
  | _, _ => none⟩

theorem sound_errors_As : Sound Tryd.prog 39 (S_errors_As @l_errors_As_fault_nil @l_errors_As_none_fault_nil) := sound_errorsAs

theorem call_errors_As : Callable Tryd.prog 39 := ⟨_, Tryd.func39, by kernel_rfl, by kernel_rfl⟩

def T_text_Import (l_errors_As_fault_nil : {R : Type} → Int → Int → (Int → Int → Option R) → Option R) (l_errors_As_none_fault_nil : {R : Type} → (Option R) → Option R) (l_text_reader_read_none : {R : Type} → (List Int) → Int → (Int → Int → Int → Int → (List Int) → Int → Int → Int → (List Int) → (List Int) → Option R) → (Int → Int → Int → Int → (List Int) → Int → (List Int) → (List Int) → Option R) → Option R) : FuncId → Option Sum := (addS (addS G0 39 (S_errors_As @l_errors_As_fault_nil @l_errors_As_none_fault_nil)) 38 (S_text_reader_read @l_text_reader_read_none))

theorem right_T_text_Import : Right Tryd.prog (T_text_Import @l_errors_As_fault_nil @l_errors_As_none_fault_nil @l_text_reader_read_none) := (right_add (right_add right_G0 call_errors_As sound_errors_As) call_text_reader_read sound_text_reader_read)

abbrev cuts_text_Import : Cuts := []

theorem gentry_text_Import (l_errors_As_fault_nil : {R : Type} → Int → Int → (Int → Int → Option R) → Option R) (l_errors_As_none_fault_nil : {R : Type} → (Option R) → Option R) (l_text_reader_read_none : {R : Type} → (List Int) → Int → (Int → Int → Int → Int → (List Int) → Int → Int → Int → (List Int) → (List Int) → Option R) → (Int → Int → Int → Int → (List Int) → Int → (List Int) → (List Int) → Option R) → Option R) {R : Type} (K : AV → List O → Option R) (b : List Int) :
    fnRun Tryd.prog (T_text_Import @l_errors_As_fault_nil @l_errors_As_none_fault_nil @l_text_reader_read_none) cuts_text_Import Tryd.f19 0 [.rd ⟨false, 5, (.int .u8), b⟩] [] K =
    (fun (b : List Int) (K0 : Int → Int → Int → Int → Int → Int → (List Int) → (List Int) → Option R) =>
    bi (decide ((b.length : Int) > 16777216))
     (K0 0 0 0 0 2 0 ([] : List Int) ([] : List Int))
     (l_text_reader_read_none b 0
      (fun r1 r2 r3 r4 r5 r6 r7 r8 r9 r10 =>
       l_errors_As_fault_nil r7 r8
        (fun r11 r12 =>
         both
          (both
           (both
            (thrice
             (K0 0 0 0 0 r11 r12 ([] : List Int) ([] : List Int)))
            (both
             (twice
              (K0 0 0 0 0 r11 r12 ([] : List Int) ([] : List Int)))
             (K0 0 0 0 0 r11 r12 ([] : List Int) ([] : List Int))))
           (both
            (both
             (thrice
              (K0 0 0 0 0 r11 r12 ([] : List Int) ([] : List Int)))
             (both
              (twice
               (K0 0 0 0 0 r11 r12 ([] : List Int) ([] : List Int)))
              (both
               (twice
                (K0 0 0 0 0 r11 r12 ([] : List Int) ([] : List Int)))
               (K0 0 0 0 0 r11 r12 ([] : List Int) ([] : List Int)))))
            (twice
             (both
              (twice
               (K0 0 0 0 0 r11 r12 ([] : List Int) ([] : List Int)))
              (K0 0 0 0 0 r11 r12 ([] : List Int) ([] : List Int))))))
          (both
           (both
            (both
             (thrice
              (K0 0 0 0 0 r11 r12 ([] : List Int) ([] : List Int)))
             (both
              (twice
               (K0 0 0 0 0 r11 r12 ([] : List Int) ([] : List Int)))
              (both
               (twice
                (K0 0 0 0 0 r11 r12 ([] : List Int) ([] : List Int)))
               (K0 0 0 0 0 r11 r12 ([] : List Int) ([] : List Int)))))
            (both
             (both
              (twice
               (K0 0 0 0 0 r11 r12 ([] : List Int) ([] : List Int)))
              (K0 0 0 0 0 r11 r12 ([] : List Int) ([] : List Int)))
             (both
              (both
               (twice
                (K0 0 0 0 0 r11 r12 ([] : List Int) ([] : List Int)))
               (K0 0 0 0 0 r11 r12 ([] : List Int) ([] : List Int)))
              (K0 0 0 0 0 r11 r12 ([] : List Int) ([] : List Int)))))
           (both
            (twice
             (both
              (twice
               (K0 0 0 0 0 r11 r12 ([] : List Int) ([] : List Int)))
              (K0 0 0 0 0 r11 r12 ([] : List Int) ([] : List Int))))
            (both
             (both
              (twice
               (K0 0 0 0 0 r11 r12 ([] : List Int) ([] : List Int)))
              (K0 0 0 0 0 r11 r12 ([] : List Int) ([] : List Int)))
             (K0 0 0 0 0 r11 r12 ([] : List Int) ([] : List Int)))))))
      (fun r13 r14 r15 r16 r17 r18 r19 r20 =>
       l_errors_As_none_fault_nil
        (K0 r13 r14 r15 r16 0 (b.length : Int) r19 r20)))) b (fun r0 r1 r2 r3 r4 r5 r6 r7 => K (.tup [.agg [.v (.int .i64 r0), .v (.int .i64 r1), .v (.int .i64 r2), .v (.int .i64 r3), .own 0, .own 1], .v (.int .i64 r4), .v (.int .i64 r5)]) [.row ⟨true, 3, (.int .i64), r6⟩, .row ⟨true, 3, (.int .i64), r7⟩]) := by kernel_rfl

theorem entry_text_Import {R : Type} (K : AV → List O → Option R) (b : List Int) :
    fnRun Tryd.prog (T_text_Import @l_errors_As_fault_nil @l_errors_As_none_fault_nil @l_text_reader_read_none) cuts_text_Import Tryd.f19 0 [.rd ⟨false, 5, (.int .u8), b⟩] [] K =
    l_text_Import b (fun r0 r1 r2 r3 r4 r5 r6 r7 => K (.tup [.agg [.v (.int .i64 r0), .v (.int .i64 r1), .v (.int .i64 r2), .v (.int .i64 r3), .own 0, .own 1], .v (.int .i64 r4), .v (.int .i64 r5)]) [.row ⟨true, 3, (.int .i64), r6⟩, .row ⟨true, 3, (.int .i64), r7⟩]) := gentry_text_Import @l_errors_As_fault_nil @l_errors_As_none_fault_nil @l_text_reader_read_none K b

def S_text_Import (l_text_Import : {R : Type} → (List Int) → (Int → Int → Int → Int → Int → Int → (List Int) → (List Int) → Option R) → Option R) : Sum := ⟨[], fun {R} args ob K => match args, ob with
  | [.rd ⟨false, 5, (.int .u8), b⟩], [] => l_text_Import b (fun r0 r1 r2 r3 r4 r5 r6 r7 => K (.tup [.agg [.v (.int .i64 r0), .v (.int .i64 r1), .v (.int .i64 r2), .v (.int .i64 r3), .own 0, .own 1], .v (.int .i64 r4), .v (.int .i64 r5)]) [.row ⟨true, 3, (.int .i64), r6⟩, .row ⟨true, 3, (.int .i64), r7⟩])
  | _, _ => none⟩

theorem sound_text_Import : Sound Tryd.prog 19 (S_text_Import @l_text_Import) := by
  refine fn_sound (cuts := cuts_text_Import) (fn := Tryd.f19) (Γ := (T_text_Import @l_errors_As_fault_nil @l_errors_As_none_fault_nil @l_text_reader_read_none)) wide right_T_text_Import Tryd.func19 fun {R} K r args ob h => ?_
  unfold S_text_Import at h
  dsimp only at h
  split at h
  · exact ⟨Nat.le_of_ble_eq_true (by kernel_rfl), 0, (entry_text_Import K _).trans h⟩
  · cases h

theorem call_text_Import : Callable Tryd.prog 19 := ⟨_, Tryd.func19, by kernel_rfl, by kernel_rfl⟩

def T_tutorlaw08_num : FuncId → Option Sum := G0

theorem right_T_tutorlaw08_num : Right Tryd.prog T_tutorlaw08_num := right_G0

abbrev cuts_tutorlaw08_num : Cuts := []

theorem gentry_tutorlaw08_num {R : Type} (K : AV → List O → Option R) (e : Int) :
    fnRun Tryd.prog T_tutorlaw08_num cuts_tutorlaw08_num Tryd.f17 0 [.v (.int .i64 e)] [] K =
    (fun (e : Int) (K0 : Int → Option R) =>
    K0 e) e (fun r0 => K (.v (.int .i64 r0)) []) := by kernel_rfl

theorem entry_tutorlaw08_num {R : Type} (K : AV → List O → Option R) (e : Int) :
    fnRun Tryd.prog T_tutorlaw08_num cuts_tutorlaw08_num Tryd.f17 0 [.v (.int .i64 e)] [] K =
    l_tutorlaw08_num e (fun r0 => K (.v (.int .i64 r0)) []) := gentry_tutorlaw08_num K e

def S_tutorlaw08_num (l_tutorlaw08_num : {R : Type} → Int → (Int → Option R) → Option R) : Sum := ⟨[], fun {R} args ob K => match args, ob with
  | [.v (.int .i64 e)], [] => l_tutorlaw08_num e (fun r0 => K (.v (.int .i64 r0)) [])
  | _, _ => none⟩

theorem sound_tutorlaw08_num : Sound Tryd.prog 17 (S_tutorlaw08_num @l_tutorlaw08_num) := by
  refine fn_sound (cuts := cuts_tutorlaw08_num) (fn := Tryd.f17) (Γ := T_tutorlaw08_num) wide right_T_tutorlaw08_num Tryd.func17 fun {R} K r args ob h => ?_
  unfold S_tutorlaw08_num at h
  dsimp only at h
  split at h
  · exact ⟨Nat.le_of_ble_eq_true (by kernel_rfl), 0, (entry_tutorlaw08_num K _).trans h⟩
  · cases h

theorem call_tutorlaw08_num : Callable Tryd.prog 17 := ⟨_, Tryd.func17, by kernel_rfl, by kernel_rfl⟩

def T_tutorref01_Same : FuncId → Option Sum := G0

theorem right_T_tutorref01_Same : Right Tryd.prog T_tutorref01_Same := right_G0

abbrev cuts_tutorref01_Same : Cuts := [(4, [0, 1, 5])]

theorem gstep_tutorref01_Same_4 {R : Type} (g : List Item → St → Option R) (K : AV → List O → Option R) (a : List Int) (b : List Int) (i : Int) :
    runSeg Tryd.prog T_tutorref01_Same cuts_tutorref01_Same 0 g (finish Tryd.prog Tryd.f37 0 K) (at' Tryd.f37 4) ⟨fr0 26 [(0, .rd ⟨false, 3, (.int .i64), a⟩), (1, .rd ⟨false, 3, (.int .i64), b⟩), (5, .v (.int .i64 i))], []⟩ =
    (fun (g37_4 : (List Int) → (List Int) → Int → Option R) (K0 : Bool → Option R) (a : List Int) (b : List Int) (i : Int) =>
    bi (decide (i < (a.length : Int)))
     (bi (decide (0 ≤ i ∧ i < ((a.length : Nat) : Int)))
      (bi (decide (0 ≤ i ∧ i < ((b.length : Nat) : Int)))
       (bi ((a.getD i.toNat 0) != (b.getD i.toNat 0))
        (K0 false)
        (g37_4 a b (IntKind.i64.wrap (i + 1))))
       none)
      none)
     (K0 true)) (fun a b i => g (at' Tryd.f37 4) ⟨fr0 26 [(0, .rd ⟨false, 3, (.int .i64), a⟩), (1, .rd ⟨false, 3, (.int .i64), b⟩), (5, .v (.int .i64 i))], []⟩) (fun r0 => K (.v (.bool r0)) []) a b i := by kernel_rfl

theorem step_tutorref01_Same_4 {R : Type} (g : List Item → St → Option R) (K : AV → List O → Option R) (a : List Int) (b : List Int) (i : Int) :
    runSeg Tryd.prog T_tutorref01_Same cuts_tutorref01_Same 0 g (finish Tryd.prog Tryd.f37 0 K) (at' Tryd.f37 4) ⟨fr0 26 [(0, .rd ⟨false, 3, (.int .i64), a⟩), (1, .rd ⟨false, 3, (.int .i64), b⟩), (5, .v (.int .i64 i))], []⟩ =
    s_tutorref01_Same_4 (fun a b i => g (at' Tryd.f37 4) ⟨fr0 26 [(0, .rd ⟨false, 3, (.int .i64), a⟩), (1, .rd ⟨false, 3, (.int .i64), b⟩), (5, .v (.int .i64 i))], []⟩) (fun r0 => K (.v (.bool r0)) []) a b i := gstep_tutorref01_Same_4 g K a b i

theorem gentry_tutorref01_Same {R : Type} (fuel : Nat) (K : AV → List O → Option R) (a : List Int) (b : List Int) :
    fnRun Tryd.prog T_tutorref01_Same cuts_tutorref01_Same Tryd.f37 fuel [.rd ⟨false, 3, (.int .i64), a⟩, .rd ⟨false, 3, (.int .i64), b⟩] [] K =
    (fun (g37_4 : (List Int) → (List Int) → Int → Option R) (K0 : Bool → Option R) (a : List Int) (b : List Int) =>
    bi ((a.length : Int) != (b.length : Int))
     (K0 false)
     (g37_4 a b 0)) (fun a b i => (runO Tryd.prog T_tutorref01_Same cuts_tutorref01_Same 0 (finish Tryd.prog Tryd.f37 0 K) fuel) (at' Tryd.f37 4) ⟨fr0 26 [(0, .rd ⟨false, 3, (.int .i64), a⟩), (1, .rd ⟨false, 3, (.int .i64), b⟩), (5, .v (.int .i64 i))], []⟩) (fun r0 => K (.v (.bool r0)) []) a b := by kernel_rfl

theorem entry_tutorref01_Same {R : Type} (fuel : Nat) (K : AV → List O → Option R) (a : List Int) (b : List Int) :
    fnRun Tryd.prog T_tutorref01_Same cuts_tutorref01_Same Tryd.f37 fuel [.rd ⟨false, 3, (.int .i64), a⟩, .rd ⟨false, 3, (.int .i64), b⟩] [] K =
    e_tutorref01_Same (fun a b i => (runO Tryd.prog T_tutorref01_Same cuts_tutorref01_Same 0 (finish Tryd.prog Tryd.f37 0 K) fuel) (at' Tryd.f37 4) ⟨fr0 26 [(0, .rd ⟨false, 3, (.int .i64), a⟩), (1, .rd ⟨false, 3, (.int .i64), b⟩), (5, .v (.int .i64 i))], []⟩) (fun r0 => K (.v (.bool r0)) []) a b := gentry_tutorref01_Same fuel K a b

theorem runs_tutorref01_Same {R : Type} (K : AV → List O → Option R) : ∀ fuel : Nat,
    (fun a b i => (runO Tryd.prog T_tutorref01_Same cuts_tutorref01_Same 0 (finish Tryd.prog Tryd.f37 0 K) fuel) (at' Tryd.f37 4) ⟨fr0 26 [(0, .rd ⟨false, 3, (.int .i64), a⟩), (1, .rd ⟨false, 3, (.int .i64), b⟩), (5, .v (.int .i64 i))], []⟩) = (run_tutorref01_Same (fun r0 => K (.v (.bool r0)) []) fuel)
  | 0 => rfl
  | fuel + 1 => by
    have ih := runs_tutorref01_Same K fuel
    funext a b i
    refine (step_tutorref01_Same_4 _ K a b i).trans ?_
    rw [ih]
    rfl

def S_tutorref01_Same (l_tutorref01_Same : {R : Type} → (List Int) → (List Int) → (Bool → Option R) → Option R) : Sum := ⟨[], fun {R} args ob K => match args, ob with
  | [.rd ⟨false, 3, (.int .i64), a⟩, .rd ⟨false, 3, (.int .i64), b⟩], [] => l_tutorref01_Same a b (fun r0 => K (.v (.bool r0)) [])
  | _, _ => none⟩

theorem sound_tutorref01_Same : Sound Tryd.prog 37 (S_tutorref01_Same @l_tutorref01_Same) := by
  refine fn_sound (cuts := cuts_tutorref01_Same) (fn := Tryd.f37) (Γ := T_tutorref01_Same) wide right_T_tutorref01_Same Tryd.func37 fun {R} K r args ob h => ?_
  unfold S_tutorref01_Same at h
  dsimp only at h
  split at h
  · obtain ⟨n, hn⟩ := ok_tutorref01_Same _ _ _ h
    refine ⟨Nat.le_of_ble_eq_true (by kernel_rfl), n, (entry_tutorref01_Same n K _ _).trans ?_⟩
    rw [(runs_tutorref01_Same K n)]
    exact hn
  · cases h

theorem call_tutorref01_Same : Callable Tryd.prog 37 := ⟨_, Tryd.func37, by kernel_rfl, by kernel_rfl⟩

def T_tutorref03_Same (l_tutorref01_Same : {R : Type} → (List Int) → (List Int) → (Bool → Option R) → Option R) : FuncId → Option Sum := (addS G0 37 (S_tutorref01_Same @l_tutorref01_Same))

theorem right_T_tutorref03_Same : Right Tryd.prog (T_tutorref03_Same @l_tutorref01_Same) := (right_add right_G0 call_tutorref01_Same sound_tutorref01_Same)

abbrev cuts_tutorref03_Same : Cuts := []

theorem gentry_tutorref03_Same (l_tutorref01_Same : {R : Type} → (List Int) → (List Int) → (Bool → Option R) → Option R) {R : Type} (K : AV → List O → Option R) (a : Int) (a_1 : Int) (a_2 : Int) (a_3 : Int) (a_4 : List Int) (a_5 : List Int) (b : Int) (b_1 : Int) (b_2 : Int) (b_3 : Int) (b_4 : List Int) (b_5 : List Int) :
    fnRun Tryd.prog (T_tutorref03_Same @l_tutorref01_Same) cuts_tutorref03_Same Tryd.f18 0 [.agg [.v (.int .i64 a), .v (.int .i64 a_1), .v (.int .i64 a_2), .v (.int .i64 a_3), .rd ⟨false, 3, (.int .i64), a_4⟩, .rd ⟨false, 3, (.int .i64), a_5⟩], .agg [.v (.int .i64 b), .v (.int .i64 b_1), .v (.int .i64 b_2), .v (.int .i64 b_3), .rd ⟨false, 3, (.int .i64), b_4⟩, .rd ⟨false, 3, (.int .i64), b_5⟩]] [] K =
    (fun (a : Int) (a_1 : Int) (a_2 : Int) (a_3 : Int) (a_4 : List Int) (a_5 : List Int) (b : Int) (b_1 : Int) (b_2 : Int) (b_3 : Int) (b_4 : List Int) (b_5 : List Int) (K0 : Bool → Option R) =>
    bi (a == b)
     (bi (a_1 == b_1)
      (bi (a_2 == b_2)
       (bi (a_3 == b_3)
        (l_tutorref01_Same a_4 b_4
         (fun r1 =>
          bi r1
           (l_tutorref01_Same a_5 b_5
            (fun r2 =>
             K0 r2))
           (K0 false)))
        (K0 false))
       (K0 false))
      (K0 false))
     (K0 false)) a a_1 a_2 a_3 a_4 a_5 b b_1 b_2 b_3 b_4 b_5 (fun r0 => K (.v (.bool r0)) []) := by kernel_rfl

theorem entry_tutorref03_Same {R : Type} (K : AV → List O → Option R) (a : Int) (a_1 : Int) (a_2 : Int) (a_3 : Int) (a_4 : List Int) (a_5 : List Int) (b : Int) (b_1 : Int) (b_2 : Int) (b_3 : Int) (b_4 : List Int) (b_5 : List Int) :
    fnRun Tryd.prog (T_tutorref03_Same @l_tutorref01_Same) cuts_tutorref03_Same Tryd.f18 0 [.agg [.v (.int .i64 a), .v (.int .i64 a_1), .v (.int .i64 a_2), .v (.int .i64 a_3), .rd ⟨false, 3, (.int .i64), a_4⟩, .rd ⟨false, 3, (.int .i64), a_5⟩], .agg [.v (.int .i64 b), .v (.int .i64 b_1), .v (.int .i64 b_2), .v (.int .i64 b_3), .rd ⟨false, 3, (.int .i64), b_4⟩, .rd ⟨false, 3, (.int .i64), b_5⟩]] [] K =
    l_tutorref03_Same a a_1 a_2 a_3 a_4 a_5 b b_1 b_2 b_3 b_4 b_5 (fun r0 => K (.v (.bool r0)) []) := gentry_tutorref03_Same @l_tutorref01_Same K a a_1 a_2 a_3 a_4 a_5 b b_1 b_2 b_3 b_4 b_5

def S_tutorref03_Same (l_tutorref03_Same : {R : Type} → Int → Int → Int → Int → (List Int) → (List Int) → Int → Int → Int → Int → (List Int) → (List Int) → (Bool → Option R) → Option R) : Sum := ⟨[], fun {R} args ob K => match args, ob with
  | [.agg [.v (.int .i64 a), .v (.int .i64 a_1), .v (.int .i64 a_2), .v (.int .i64 a_3), .rd ⟨false, 3, (.int .i64), a_4⟩, .rd ⟨false, 3, (.int .i64), a_5⟩], .agg [.v (.int .i64 b), .v (.int .i64 b_1), .v (.int .i64 b_2), .v (.int .i64 b_3), .rd ⟨false, 3, (.int .i64), b_4⟩, .rd ⟨false, 3, (.int .i64), b_5⟩]], [] => l_tutorref03_Same a a_1 a_2 a_3 a_4 a_5 b b_1 b_2 b_3 b_4 b_5 (fun r0 => K (.v (.bool r0)) [])
  | _, _ => none⟩

theorem sound_tutorref03_Same : Sound Tryd.prog 18 (S_tutorref03_Same @l_tutorref03_Same) := by
  refine fn_sound (cuts := cuts_tutorref03_Same) (fn := Tryd.f18) (Γ := (T_tutorref03_Same @l_tutorref01_Same)) wide right_T_tutorref03_Same Tryd.func18 fun {R} K r args ob h => ?_
  unfold S_tutorref03_Same at h
  dsimp only at h
  split at h
  · exact ⟨Nat.le_of_ble_eq_true (by kernel_rfl), 0, (entry_tutorref03_Same K _ _ _ _ _ _ _ _ _ _ _ _).trans h⟩
  · cases h

theorem call_tutorref03_Same : Callable Tryd.prog 18 := ⟨_, Tryd.func18, by kernel_rfl, by kernel_rfl⟩

def T_tutorlaw08_live (l_tutorlaw08_num : {R : Type} → Int → (Int → Option R) → Option R) (l_tutorref03_Same : {R : Type} → Int → Int → Int → Int → (List Int) → (List Int) → Int → Int → Int → Int → (List Int) → (List Int) → (Bool → Option R) → Option R) (l_text_Number : {R : Type} → (List Int) → Int → (Int → Int → Int → Option R) → Option R) (l_text_Import : {R : Type} → (List Int) → (Int → Int → Int → Int → Int → Int → (List Int) → (List Int) → Option R) → Option R) (l_text_Export : {R : Type} → Int → Int → Int → Int → (List Int) → (List Int) → (Int → (List Int) → Option R) → Option R) : FuncId → Option Sum := (addS (addS (addS (addS (addS G0 17 (S_tutorlaw08_num @l_tutorlaw08_num)) 18 (S_tutorref03_Same @l_tutorref03_Same)) 21 (S_text_Number @l_text_Number)) 19 (S_text_Import @l_text_Import)) 14 (S_text_Export @l_text_Export))

theorem right_T_tutorlaw08_live : Right Tryd.prog (T_tutorlaw08_live @l_tutorlaw08_num @l_tutorref03_Same @l_text_Number @l_text_Import @l_text_Export) := (right_add (right_add (right_add (right_add (right_add right_G0 call_tutorlaw08_num sound_tutorlaw08_num) call_tutorref03_Same sound_tutorref03_Same) call_text_Number sound_text_Number) call_text_Import sound_text_Import) call_text_Export sound_text_Export)

abbrev cuts_tutorlaw08_live : Cuts := []

theorem gentry_tutorlaw08_live (l_tutorlaw08_num : {R : Type} → Int → (Int → Option R) → Option R) (l_tutorref03_Same : {R : Type} → Int → Int → Int → Int → (List Int) → (List Int) → Int → Int → Int → Int → (List Int) → (List Int) → (Bool → Option R) → Option R) (l_text_Number : {R : Type} → (List Int) → Int → (Int → Int → Int → Option R) → Option R) (l_text_Import : {R : Type} → (List Int) → (Int → Int → Int → Int → Int → Int → (List Int) → (List Int) → Option R) → Option R) (l_text_Export : {R : Type} → Int → Int → Int → Int → (List Int) → (List Int) → (Int → (List Int) → Option R) → Option R) {R : Type} (K : AV → List O → Option R)  :
    fnRun Tryd.prog (T_tutorlaw08_live @l_tutorlaw08_num @l_tutorref03_Same @l_text_Number @l_text_Import @l_text_Export) cuts_tutorlaw08_live Tryd.f12 0 [] [] K =
    (fun  (K0 : Bool → Option R) =>
    l_text_Export 1 1 2 2 [1, 0] [0, 1]
     (fun r1 r2 =>
      l_text_Import r2
       (fun r3 r4 r5 r6 r7 r8 r9 r10 =>
        bi (decide (0 < [100, 102, 97, 32, 49, 32, 49, 10, 50, 32, 48, 10].length))
         (l_text_Import [100, 102, 97, 32, 49, 32, 49, 10, 50, 32, 48, 10]
          (fun r11 r12 r13 r14 r15 r16 r17 r18 =>
           bi (decide (0 < [48, 52, 50].length))
            (l_text_Number [48, 52, 50] 0
             (fun r19 r20 r21 =>
              l_tutorlaw08_num r1
               (fun r22 =>
                l_tutorlaw08_num r7
                 (fun r23 =>
                  bi ((IntKind.i64.wrap (r22 + r23)) == 0)
                   (bi ((ofBts r2).toList == (ByteArray.mk #[100, 102, 97, 32, 49, 32, 50, 10, 48, 32, 49, 10, 49, 32, 48, 10]).toList)
                    (l_tutorref03_Same r3 r4 r5 r6 r9 r10 1 1 2 2 [1, 0] [0, 1]
                     (fun r24 =>
                      bi r24
                       (bi (r8 == 16)
                        (l_tutorlaw08_num r15
                         (fun r25 =>
                          bi (r25 == 33)
                           (bi (r16 == 8)
                            (l_tutorlaw08_num r21
                             (fun r26 =>
                              bi (r26 == 6)
                               (K0 (r20 == 1))
                               (K0 false)))
                            (K0 false))
                           (K0 false)))
                        (K0 false))
                       (K0 false)))
                    (K0 false))
                   (K0 false)))))
            none))
         none)))  (fun r0 => K (.v (.bool r0)) []) := by kernel_rfl

theorem entry_tutorlaw08_live {R : Type} (K : AV → List O → Option R)  :
    fnRun Tryd.prog (T_tutorlaw08_live @l_tutorlaw08_num @l_tutorref03_Same @l_text_Number @l_text_Import @l_text_Export) cuts_tutorlaw08_live Tryd.f12 0 [] [] K =
    l_tutorlaw08_live  (fun r0 => K (.v (.bool r0)) []) := gentry_tutorlaw08_live @l_tutorlaw08_num @l_tutorref03_Same @l_text_Number @l_text_Import @l_text_Export K 

def S_tutorlaw08_live (l_tutorlaw08_live : {R : Type} → (Bool → Option R) → Option R) : Sum := ⟨[], fun {R} args ob K => match args, ob with
  | [], [] => l_tutorlaw08_live  (fun r0 => K (.v (.bool r0)) [])
  | _, _ => none⟩

theorem sound_tutorlaw08_live : Sound Tryd.prog 12 (S_tutorlaw08_live @l_tutorlaw08_live) := by
  refine fn_sound (cuts := cuts_tutorlaw08_live) (fn := Tryd.f12) (Γ := (T_tutorlaw08_live @l_tutorlaw08_num @l_tutorref03_Same @l_text_Number @l_text_Import @l_text_Export)) wide right_T_tutorlaw08_live Tryd.func12 fun {R} K r args ob h => ?_
  unfold S_tutorlaw08_live at h
  dsimp only at h
  split at h
  · exact ⟨Nat.le_of_ble_eq_true (by kernel_rfl), 0, (entry_tutorlaw08_live K).trans h⟩
  · cases h

theorem call_tutorlaw08_live : Callable Tryd.prog 12 := ⟨_, Tryd.func12, by kernel_rfl, by kernel_rfl⟩

def T_tutorref03_Check : FuncId → Option Sum := G0

theorem right_T_tutorref03_Check : Right Tryd.prog T_tutorref03_Check := right_G0

abbrev cuts_tutorref03_Check : Cuts := [(15, [1, 5]), (20, [1, 6])]

theorem gstep_tutorref03_Check_15 {R : Type} (g : List Item → St → Option R) (K : AV → List O → Option R) (i : Int) (o0 : Int) (o0_1 : Int) (o0_2 : Int) (o0_3 : Int) (o0_4 : List Int) (o0_5 : List Int) :
    runSeg Tryd.prog T_tutorref03_Check cuts_tutorref03_Check 0 g (finish Tryd.prog Tryd.f36 0 K) (at' Tryd.f36 15) ⟨fr0 123 [(1, .ptr 0 0), (5, .v (.int .i64 i))], [.box 24 [.v (.int .i64 o0), .v (.int .i64 o0_1), .v (.int .i64 o0_2), .v (.int .i64 o0_3), .rd ⟨false, 3, (.int .i64), o0_4⟩, .rd ⟨false, 3, (.int .i64), o0_5⟩]]⟩ =
    (fun (g36_15 : Int → Int → Int → Int → Int → (List Int) → (List Int) → Option R) (g36_20 : Int → Int → Int → Int → Int → (List Int) → (List Int) → Option R) (K0 : Int → Int → Option R) (i : Int) (o0 : Int) (o0_1 : Int) (o0_2 : Int) (o0_3 : Int) (o0_4 : List Int) (o0_5 : List Int) =>
    bi (decide (i < (o0_4.length : Int)))
     (bi (decide (0 ≤ i ∧ i < ((o0_4.length : Nat) : Int)))
      (bi (decide ((o0_4.getD i.toNat 0) < 0))
       (K0 i 32)
       (bi (decide (0 ≤ i ∧ i < ((o0_4.length : Nat) : Int)))
        (bi (decide ((o0_4.getD i.toNat 0) ≥ o0_3))
         (K0 i 32)
         (g36_15 (IntKind.i64.wrap (i + 1)) o0 o0_1 o0_2 o0_3 o0_4 o0_5))
        none))
      none)
     (g36_20 0 o0 o0_1 o0_2 o0_3 o0_4 o0_5)) (fun i o0 o0_1 o0_2 o0_3 o0_4 o0_5 => g (at' Tryd.f36 15) ⟨fr0 123 [(1, .ptr 0 0), (5, .v (.int .i64 i))], [.box 24 [.v (.int .i64 o0), .v (.int .i64 o0_1), .v (.int .i64 o0_2), .v (.int .i64 o0_3), .rd ⟨false, 3, (.int .i64), o0_4⟩, .rd ⟨false, 3, (.int .i64), o0_5⟩]]⟩) (fun i o0 o0_1 o0_2 o0_3 o0_4 o0_5 => g (at' Tryd.f36 20) ⟨fr0 123 [(1, .ptr 0 0), (6, .v (.int .i64 i))], [.box 24 [.v (.int .i64 o0), .v (.int .i64 o0_1), .v (.int .i64 o0_2), .v (.int .i64 o0_3), .rd ⟨false, 3, (.int .i64), o0_4⟩, .rd ⟨false, 3, (.int .i64), o0_5⟩]]⟩) (fun r0 r1 => K (.tup [.v (.int .i64 r0), .v (.int .i64 r1)]) []) i o0 o0_1 o0_2 o0_3 o0_4 o0_5 := by kernel_rfl

theorem step_tutorref03_Check_15 {R : Type} (g : List Item → St → Option R) (K : AV → List O → Option R) (i : Int) (o0 : Int) (o0_1 : Int) (o0_2 : Int) (o0_3 : Int) (o0_4 : List Int) (o0_5 : List Int) :
    runSeg Tryd.prog T_tutorref03_Check cuts_tutorref03_Check 0 g (finish Tryd.prog Tryd.f36 0 K) (at' Tryd.f36 15) ⟨fr0 123 [(1, .ptr 0 0), (5, .v (.int .i64 i))], [.box 24 [.v (.int .i64 o0), .v (.int .i64 o0_1), .v (.int .i64 o0_2), .v (.int .i64 o0_3), .rd ⟨false, 3, (.int .i64), o0_4⟩, .rd ⟨false, 3, (.int .i64), o0_5⟩]]⟩ =
    s_tutorref03_Check_15 (fun i o0 o0_1 o0_2 o0_3 o0_4 o0_5 => g (at' Tryd.f36 15) ⟨fr0 123 [(1, .ptr 0 0), (5, .v (.int .i64 i))], [.box 24 [.v (.int .i64 o0), .v (.int .i64 o0_1), .v (.int .i64 o0_2), .v (.int .i64 o0_3), .rd ⟨false, 3, (.int .i64), o0_4⟩, .rd ⟨false, 3, (.int .i64), o0_5⟩]]⟩) (fun i o0 o0_1 o0_2 o0_3 o0_4 o0_5 => g (at' Tryd.f36 20) ⟨fr0 123 [(1, .ptr 0 0), (6, .v (.int .i64 i))], [.box 24 [.v (.int .i64 o0), .v (.int .i64 o0_1), .v (.int .i64 o0_2), .v (.int .i64 o0_3), .rd ⟨false, 3, (.int .i64), o0_4⟩, .rd ⟨false, 3, (.int .i64), o0_5⟩]]⟩) (fun r0 r1 => K (.tup [.v (.int .i64 r0), .v (.int .i64 r1)]) []) i o0 o0_1 o0_2 o0_3 o0_4 o0_5 := gstep_tutorref03_Check_15 g K i o0 o0_1 o0_2 o0_3 o0_4 o0_5

theorem gstep_tutorref03_Check_20 {R : Type} (g : List Item → St → Option R) (K : AV → List O → Option R) (i : Int) (o0 : Int) (o0_1 : Int) (o0_2 : Int) (o0_3 : Int) (o0_4 : List Int) (o0_5 : List Int) :
    runSeg Tryd.prog T_tutorref03_Check cuts_tutorref03_Check 0 g (finish Tryd.prog Tryd.f36 0 K) (at' Tryd.f36 20) ⟨fr0 123 [(1, .ptr 0 0), (6, .v (.int .i64 i))], [.box 24 [.v (.int .i64 o0), .v (.int .i64 o0_1), .v (.int .i64 o0_2), .v (.int .i64 o0_3), .rd ⟨false, 3, (.int .i64), o0_4⟩, .rd ⟨false, 3, (.int .i64), o0_5⟩]]⟩ =
    (fun (g36_15 : Int → Int → Int → Int → Int → (List Int) → (List Int) → Option R) (g36_20 : Int → Int → Int → Int → Int → (List Int) → (List Int) → Option R) (K0 : Int → Int → Option R) (i : Int) (o0 : Int) (o0_1 : Int) (o0_2 : Int) (o0_3 : Int) (o0_4 : List Int) (o0_5 : List Int) =>
    bi (decide (i < (o0_5.length : Int)))
     (bi (decide (0 ≤ i ∧ i < ((o0_5.length : Nat) : Int)))
      (bi (decide ((o0_5.getD i.toNat 0) < 0))
       (K0 i 33)
       (bi (decide (0 ≤ i ∧ i < ((o0_5.length : Nat) : Int)))
        (bi (decide ((o0_5.getD i.toNat 0) ≥ o0_2))
         (K0 i 33)
         (g36_20 (IntKind.i64.wrap (i + 1)) o0 o0_1 o0_2 o0_3 o0_4 o0_5))
        none))
      none)
     (K0 0 0)) (fun i o0 o0_1 o0_2 o0_3 o0_4 o0_5 => g (at' Tryd.f36 15) ⟨fr0 123 [(1, .ptr 0 0), (5, .v (.int .i64 i))], [.box 24 [.v (.int .i64 o0), .v (.int .i64 o0_1), .v (.int .i64 o0_2), .v (.int .i64 o0_3), .rd ⟨false, 3, (.int .i64), o0_4⟩, .rd ⟨false, 3, (.int .i64), o0_5⟩]]⟩) (fun i o0 o0_1 o0_2 o0_3 o0_4 o0_5 => g (at' Tryd.f36 20) ⟨fr0 123 [(1, .ptr 0 0), (6, .v (.int .i64 i))], [.box 24 [.v (.int .i64 o0), .v (.int .i64 o0_1), .v (.int .i64 o0_2), .v (.int .i64 o0_3), .rd ⟨false, 3, (.int .i64), o0_4⟩, .rd ⟨false, 3, (.int .i64), o0_5⟩]]⟩) (fun r0 r1 => K (.tup [.v (.int .i64 r0), .v (.int .i64 r1)]) []) i o0 o0_1 o0_2 o0_3 o0_4 o0_5 := by kernel_rfl

theorem step_tutorref03_Check_20 {R : Type} (g : List Item → St → Option R) (K : AV → List O → Option R) (i : Int) (o0 : Int) (o0_1 : Int) (o0_2 : Int) (o0_3 : Int) (o0_4 : List Int) (o0_5 : List Int) :
    runSeg Tryd.prog T_tutorref03_Check cuts_tutorref03_Check 0 g (finish Tryd.prog Tryd.f36 0 K) (at' Tryd.f36 20) ⟨fr0 123 [(1, .ptr 0 0), (6, .v (.int .i64 i))], [.box 24 [.v (.int .i64 o0), .v (.int .i64 o0_1), .v (.int .i64 o0_2), .v (.int .i64 o0_3), .rd ⟨false, 3, (.int .i64), o0_4⟩, .rd ⟨false, 3, (.int .i64), o0_5⟩]]⟩ =
    s_tutorref03_Check_20 (fun i o0 o0_1 o0_2 o0_3 o0_4 o0_5 => g (at' Tryd.f36 15) ⟨fr0 123 [(1, .ptr 0 0), (5, .v (.int .i64 i))], [.box 24 [.v (.int .i64 o0), .v (.int .i64 o0_1), .v (.int .i64 o0_2), .v (.int .i64 o0_3), .rd ⟨false, 3, (.int .i64), o0_4⟩, .rd ⟨false, 3, (.int .i64), o0_5⟩]]⟩) (fun i o0 o0_1 o0_2 o0_3 o0_4 o0_5 => g (at' Tryd.f36 20) ⟨fr0 123 [(1, .ptr 0 0), (6, .v (.int .i64 i))], [.box 24 [.v (.int .i64 o0), .v (.int .i64 o0_1), .v (.int .i64 o0_2), .v (.int .i64 o0_3), .rd ⟨false, 3, (.int .i64), o0_4⟩, .rd ⟨false, 3, (.int .i64), o0_5⟩]]⟩) (fun r0 r1 => K (.tup [.v (.int .i64 r0), .v (.int .i64 r1)]) []) i o0 o0_1 o0_2 o0_3 o0_4 o0_5 := gstep_tutorref03_Check_20 g K i o0 o0_1 o0_2 o0_3 o0_4 o0_5

theorem gentry_tutorref03_Check {R : Type} (fuel : Nat) (K : AV → List O → Option R) (m : Int) (m_1 : Int) (m_2 : Int) (m_3 : Int) (m_4 : List Int) (m_5 : List Int) :
    fnRun Tryd.prog T_tutorref03_Check cuts_tutorref03_Check Tryd.f36 fuel [.agg [.v (.int .i64 m), .v (.int .i64 m_1), .v (.int .i64 m_2), .v (.int .i64 m_3), .rd ⟨false, 3, (.int .i64), m_4⟩, .rd ⟨false, 3, (.int .i64), m_5⟩]] [] K =
    (fun (g36_15 : Int → Int → Int → Int → Int → (List Int) → (List Int) → Option R) (g36_20 : Int → Int → Int → Int → Int → (List Int) → (List Int) → Option R) (K0 : Int → Int → Option R) (m : Int) (m_1 : Int) (m_2 : Int) (m_3 : Int) (m_4 : List Int) (m_5 : List Int) =>
    bi (m != 1)
     (bi (m != 2)
      (K0 0 30)
      (bi (decide (m_1 < 1))
       (K0 0 1)
       (bi (decide (m_1 > 64))
        (K0 0 1)
        (bi (m == 1)
         (bi (m_2 != 2)
          (K0 0 33)
          (bi (decide (m_2 < 1))
           (K0 0 33)
           (bi (decide (m_2 > 64))
            (K0 0 33)
            (bi (decide (m_3 < 1))
             (K0 0 3)
             (bi (decide (m_3 > 1024))
              (K0 0 3)
              (bi (m == 2)
               (bi ((m_4.length : Int) != (IntKind.i64.wrap (m_3 * m_1)))
                (K0 0 31)
                (bi ((m_5.length : Int) != (IntKind.i64.wrap (m_3 * m_1)))
                 (K0 0 31)
                 (g36_15 0 m m_1 m_2 m_3 m_4 m_5)))
               (bi ((m_4.length : Int) != (IntKind.i64.wrap (m_3 * m_1)))
                (K0 0 31)
                (bi ((m_5.length : Int) != m_3)
                 (K0 0 31)
                 (g36_15 0 m m_1 m_2 m_3 m_4 m_5)))))))))
         (bi (decide (m_2 < 1))
          (K0 0 33)
          (bi (decide (m_2 > 64))
           (K0 0 33)
           (bi (decide (m_3 < 1))
            (K0 0 3)
            (bi (decide (m_3 > 1024))
             (K0 0 3)
             (bi (m == 2)
              (bi ((m_4.length : Int) != (IntKind.i64.wrap (m_3 * m_1)))
               (K0 0 31)
               (bi ((m_5.length : Int) != (IntKind.i64.wrap (m_3 * m_1)))
                (K0 0 31)
                (g36_15 0 m m_1 m_2 m_3 m_4 m_5)))
              (bi ((m_4.length : Int) != (IntKind.i64.wrap (m_3 * m_1)))
               (K0 0 31)
               (bi ((m_5.length : Int) != m_3)
                (K0 0 31)
                (g36_15 0 m m_1 m_2 m_3 m_4 m_5))))))))))))
     (bi (decide (m_1 < 1))
      (K0 0 1)
      (bi (decide (m_1 > 64))
       (K0 0 1)
       (bi (m == 1)
        (bi (m_2 != 2)
         (K0 0 33)
         (bi (decide (m_2 < 1))
          (K0 0 33)
          (bi (decide (m_2 > 64))
           (K0 0 33)
           (bi (decide (m_3 < 1))
            (K0 0 3)
            (bi (decide (m_3 > 1024))
             (K0 0 3)
             (bi (m == 2)
              (bi ((m_4.length : Int) != (IntKind.i64.wrap (m_3 * m_1)))
               (K0 0 31)
               (bi ((m_5.length : Int) != (IntKind.i64.wrap (m_3 * m_1)))
                (K0 0 31)
                (g36_15 0 m m_1 m_2 m_3 m_4 m_5)))
              (bi ((m_4.length : Int) != (IntKind.i64.wrap (m_3 * m_1)))
               (K0 0 31)
               (bi ((m_5.length : Int) != m_3)
                (K0 0 31)
                (g36_15 0 m m_1 m_2 m_3 m_4 m_5)))))))))
        (bi (decide (m_2 < 1))
         (K0 0 33)
         (bi (decide (m_2 > 64))
          (K0 0 33)
          (bi (decide (m_3 < 1))
           (K0 0 3)
           (bi (decide (m_3 > 1024))
            (K0 0 3)
            (bi (m == 2)
             (bi ((m_4.length : Int) != (IntKind.i64.wrap (m_3 * m_1)))
              (K0 0 31)
              (bi ((m_5.length : Int) != (IntKind.i64.wrap (m_3 * m_1)))
               (K0 0 31)
               (g36_15 0 m m_1 m_2 m_3 m_4 m_5)))
             (bi ((m_4.length : Int) != (IntKind.i64.wrap (m_3 * m_1)))
              (K0 0 31)
              (bi ((m_5.length : Int) != m_3)
               (K0 0 31)
               (g36_15 0 m m_1 m_2 m_3 m_4 m_5)))))))))))) (fun i o0 o0_1 o0_2 o0_3 o0_4 o0_5 => (runO Tryd.prog T_tutorref03_Check cuts_tutorref03_Check 0 (finish Tryd.prog Tryd.f36 0 K) fuel) (at' Tryd.f36 15) ⟨fr0 123 [(1, .ptr 0 0), (5, .v (.int .i64 i))], [.box 24 [.v (.int .i64 o0), .v (.int .i64 o0_1), .v (.int .i64 o0_2), .v (.int .i64 o0_3), .rd ⟨false, 3, (.int .i64), o0_4⟩, .rd ⟨false, 3, (.int .i64), o0_5⟩]]⟩) (fun i o0 o0_1 o0_2 o0_3 o0_4 o0_5 => (runO Tryd.prog T_tutorref03_Check cuts_tutorref03_Check 0 (finish Tryd.prog Tryd.f36 0 K) fuel) (at' Tryd.f36 20) ⟨fr0 123 [(1, .ptr 0 0), (6, .v (.int .i64 i))], [.box 24 [.v (.int .i64 o0), .v (.int .i64 o0_1), .v (.int .i64 o0_2), .v (.int .i64 o0_3), .rd ⟨false, 3, (.int .i64), o0_4⟩, .rd ⟨false, 3, (.int .i64), o0_5⟩]]⟩) (fun r0 r1 => K (.tup [.v (.int .i64 r0), .v (.int .i64 r1)]) []) m m_1 m_2 m_3 m_4 m_5 := by kernel_rfl

theorem entry_tutorref03_Check {R : Type} (fuel : Nat) (K : AV → List O → Option R) (m : Int) (m_1 : Int) (m_2 : Int) (m_3 : Int) (m_4 : List Int) (m_5 : List Int) :
    fnRun Tryd.prog T_tutorref03_Check cuts_tutorref03_Check Tryd.f36 fuel [.agg [.v (.int .i64 m), .v (.int .i64 m_1), .v (.int .i64 m_2), .v (.int .i64 m_3), .rd ⟨false, 3, (.int .i64), m_4⟩, .rd ⟨false, 3, (.int .i64), m_5⟩]] [] K =
    e_tutorref03_Check (fun i o0 o0_1 o0_2 o0_3 o0_4 o0_5 => (runO Tryd.prog T_tutorref03_Check cuts_tutorref03_Check 0 (finish Tryd.prog Tryd.f36 0 K) fuel) (at' Tryd.f36 15) ⟨fr0 123 [(1, .ptr 0 0), (5, .v (.int .i64 i))], [.box 24 [.v (.int .i64 o0), .v (.int .i64 o0_1), .v (.int .i64 o0_2), .v (.int .i64 o0_3), .rd ⟨false, 3, (.int .i64), o0_4⟩, .rd ⟨false, 3, (.int .i64), o0_5⟩]]⟩) (fun i o0 o0_1 o0_2 o0_3 o0_4 o0_5 => (runO Tryd.prog T_tutorref03_Check cuts_tutorref03_Check 0 (finish Tryd.prog Tryd.f36 0 K) fuel) (at' Tryd.f36 20) ⟨fr0 123 [(1, .ptr 0 0), (6, .v (.int .i64 i))], [.box 24 [.v (.int .i64 o0), .v (.int .i64 o0_1), .v (.int .i64 o0_2), .v (.int .i64 o0_3), .rd ⟨false, 3, (.int .i64), o0_4⟩, .rd ⟨false, 3, (.int .i64), o0_5⟩]]⟩) (fun r0 r1 => K (.tup [.v (.int .i64 r0), .v (.int .i64 r1)]) []) m m_1 m_2 m_3 m_4 m_5 := gentry_tutorref03_Check fuel K m m_1 m_2 m_3 m_4 m_5

theorem runs_tutorref03_Check {R : Type} (K : AV → List O → Option R) : ∀ fuel : Nat,
    (fun i o0 o0_1 o0_2 o0_3 o0_4 o0_5 => (runO Tryd.prog T_tutorref03_Check cuts_tutorref03_Check 0 (finish Tryd.prog Tryd.f36 0 K) fuel) (at' Tryd.f36 15) ⟨fr0 123 [(1, .ptr 0 0), (5, .v (.int .i64 i))], [.box 24 [.v (.int .i64 o0), .v (.int .i64 o0_1), .v (.int .i64 o0_2), .v (.int .i64 o0_3), .rd ⟨false, 3, (.int .i64), o0_4⟩, .rd ⟨false, 3, (.int .i64), o0_5⟩]]⟩) = (run_tutorref03_Check (fun r0 r1 => K (.tup [.v (.int .i64 r0), .v (.int .i64 r1)]) []) fuel).1 ∧
    (fun i o0 o0_1 o0_2 o0_3 o0_4 o0_5 => (runO Tryd.prog T_tutorref03_Check cuts_tutorref03_Check 0 (finish Tryd.prog Tryd.f36 0 K) fuel) (at' Tryd.f36 20) ⟨fr0 123 [(1, .ptr 0 0), (6, .v (.int .i64 i))], [.box 24 [.v (.int .i64 o0), .v (.int .i64 o0_1), .v (.int .i64 o0_2), .v (.int .i64 o0_3), .rd ⟨false, 3, (.int .i64), o0_4⟩, .rd ⟨false, 3, (.int .i64), o0_5⟩]]⟩) = (run_tutorref03_Check (fun r0 r1 => K (.tup [.v (.int .i64 r0), .v (.int .i64 r1)]) []) fuel).2
  | 0 => ⟨rfl, rfl⟩
  | fuel + 1 => by
    have ih := runs_tutorref03_Check K fuel
    refine ⟨?_, ?_⟩
    · funext i o0 o0_1 o0_2 o0_3 o0_4 o0_5
      refine (step_tutorref03_Check_15 _ K i o0 o0_1 o0_2 o0_3 o0_4 o0_5).trans ?_
      rw [ih.1, ih.2]
      rfl
    · funext i o0 o0_1 o0_2 o0_3 o0_4 o0_5
      refine (step_tutorref03_Check_20 _ K i o0 o0_1 o0_2 o0_3 o0_4 o0_5).trans ?_
      rw [ih.1, ih.2]
      rfl

def S_tutorref03_Check (l_tutorref03_Check : {R : Type} → Int → Int → Int → Int → (List Int) → (List Int) → (Int → Int → Option R) → Option R) : Sum := ⟨[], fun {R} args ob K => match args, ob with
  | [.agg [.v (.int .i64 m), .v (.int .i64 m_1), .v (.int .i64 m_2), .v (.int .i64 m_3), .rd ⟨false, 3, (.int .i64), m_4⟩, .rd ⟨false, 3, (.int .i64), m_5⟩]], [] => l_tutorref03_Check m m_1 m_2 m_3 m_4 m_5 (fun r0 r1 => K (.tup [.v (.int .i64 r0), .v (.int .i64 r1)]) [])
  | _, _ => none⟩

theorem sound_tutorref03_Check : Sound Tryd.prog 36 (S_tutorref03_Check @l_tutorref03_Check) := by
  refine fn_sound (cuts := cuts_tutorref03_Check) (fn := Tryd.f36) (Γ := T_tutorref03_Check) wide right_T_tutorref03_Check Tryd.func36 fun {R} K r args ob h => ?_
  unfold S_tutorref03_Check at h
  dsimp only at h
  split at h
  · obtain ⟨n, hn⟩ := ok_tutorref03_Check _ _ _ _ _ _ _ h
    refine ⟨Nat.le_of_ble_eq_true (by kernel_rfl), n, (entry_tutorref03_Check n K _ _ _ _ _ _).trans ?_⟩
    rw [(runs_tutorref03_Check K n).1, (runs_tutorref03_Check K n).2]
    exact hn
  · cases h

theorem call_tutorref03_Check : Callable Tryd.prog 36 := ⟨_, Tryd.func36, by kernel_rfl, by kernel_rfl⟩

def T_tutorref03_Right (l_tutorref03_Check : {R : Type} → Int → Int → Int → Int → (List Int) → (List Int) → (Int → Int → Option R) → Option R) : FuncId → Option Sum := (addS G0 36 (S_tutorref03_Check @l_tutorref03_Check))

theorem right_T_tutorref03_Right : Right Tryd.prog (T_tutorref03_Right @l_tutorref03_Check) := (right_add right_G0 call_tutorref03_Check sound_tutorref03_Check)

abbrev cuts_tutorref03_Right : Cuts := []

theorem gentry_tutorref03_Right (l_tutorref03_Check : {R : Type} → Int → Int → Int → Int → (List Int) → (List Int) → (Int → Int → Option R) → Option R) {R : Type} (K : AV → List O → Option R) (m : Int) (m_1 : Int) (m_2 : Int) (m_3 : Int) (m_4 : List Int) (m_5 : List Int) :
    fnRun Tryd.prog (T_tutorref03_Right @l_tutorref03_Check) cuts_tutorref03_Right Tryd.f25 0 [.agg [.v (.int .i64 m), .v (.int .i64 m_1), .v (.int .i64 m_2), .v (.int .i64 m_3), .rd ⟨false, 3, (.int .i64), m_4⟩, .rd ⟨false, 3, (.int .i64), m_5⟩]] [] K =
    (fun (m : Int) (m_1 : Int) (m_2 : Int) (m_3 : Int) (m_4 : List Int) (m_5 : List Int) (K0 : Bool → Option R) =>
    l_tutorref03_Check m m_1 m_2 m_3 m_4 m_5
     (fun r1 r2 =>
      K0 (r2 == 0))) m m_1 m_2 m_3 m_4 m_5 (fun r0 => K (.v (.bool r0)) []) := by kernel_rfl

theorem entry_tutorref03_Right {R : Type} (K : AV → List O → Option R) (m : Int) (m_1 : Int) (m_2 : Int) (m_3 : Int) (m_4 : List Int) (m_5 : List Int) :
    fnRun Tryd.prog (T_tutorref03_Right @l_tutorref03_Check) cuts_tutorref03_Right Tryd.f25 0 [.agg [.v (.int .i64 m), .v (.int .i64 m_1), .v (.int .i64 m_2), .v (.int .i64 m_3), .rd ⟨false, 3, (.int .i64), m_4⟩, .rd ⟨false, 3, (.int .i64), m_5⟩]] [] K =
    l_tutorref03_Right m m_1 m_2 m_3 m_4 m_5 (fun r0 => K (.v (.bool r0)) []) := gentry_tutorref03_Right @l_tutorref03_Check K m m_1 m_2 m_3 m_4 m_5

def S_tutorref03_Right (l_tutorref03_Right : {R : Type} → Int → Int → Int → Int → (List Int) → (List Int) → (Bool → Option R) → Option R) : Sum := ⟨[], fun {R} args ob K => match args, ob with
  | [.agg [.v (.int .i64 m), .v (.int .i64 m_1), .v (.int .i64 m_2), .v (.int .i64 m_3), .rd ⟨false, 3, (.int .i64), m_4⟩, .rd ⟨false, 3, (.int .i64), m_5⟩]], [] => l_tutorref03_Right m m_1 m_2 m_3 m_4 m_5 (fun r0 => K (.v (.bool r0)) [])
  | _, _ => none⟩

theorem sound_tutorref03_Right : Sound Tryd.prog 25 (S_tutorref03_Right @l_tutorref03_Right) := by
  refine fn_sound (cuts := cuts_tutorref03_Right) (fn := Tryd.f25) (Γ := (T_tutorref03_Right @l_tutorref03_Check)) wide right_T_tutorref03_Right Tryd.func25 fun {R} K r args ob h => ?_
  unfold S_tutorref03_Right at h
  dsimp only at h
  split at h
  · exact ⟨Nat.le_of_ble_eq_true (by kernel_rfl), 0, (entry_tutorref03_Right K _ _ _ _ _ _).trans h⟩
  · cases h

theorem call_tutorref03_Right : Callable Tryd.prog 25 := ⟨_, Tryd.func25, by kernel_rfl, by kernel_rfl⟩

def T_tutorref08_Same : FuncId → Option Sum := G0

theorem right_T_tutorref08_Same : Right Tryd.prog T_tutorref08_Same := right_G0

abbrev cuts_tutorref08_Same : Cuts := []

theorem gentry_tutorref08_Same {R : Type} (K : AV → List O → Option R) (a : List Int) (b : List Int) :
    fnRun Tryd.prog T_tutorref08_Same cuts_tutorref08_Same Tryd.f16 0 [.rd ⟨false, 5, (.int .u8), a⟩, .rd ⟨false, 5, (.int .u8), b⟩] [] K =
    (fun (a : List Int) (b : List Int) (K0 : Bool → Option R) =>
    K0 ((ofBts a).toList == (ofBts b).toList)) a b (fun r0 => K (.v (.bool r0)) []) := by kernel_rfl

theorem entry_tutorref08_Same {R : Type} (K : AV → List O → Option R) (a : List Int) (b : List Int) :
    fnRun Tryd.prog T_tutorref08_Same cuts_tutorref08_Same Tryd.f16 0 [.rd ⟨false, 5, (.int .u8), a⟩, .rd ⟨false, 5, (.int .u8), b⟩] [] K =
    l_tutorref08_Same a b (fun r0 => K (.v (.bool r0)) []) := gentry_tutorref08_Same K a b

def S_tutorref08_Same (l_tutorref08_Same : {R : Type} → (List Int) → (List Int) → (Bool → Option R) → Option R) : Sum := ⟨[], fun {R} args ob K => match args, ob with
  | [.rd ⟨false, 5, (.int .u8), a⟩, .rd ⟨false, 5, (.int .u8), b⟩], [] => l_tutorref08_Same a b (fun r0 => K (.v (.bool r0)) [])
  | _, _ => none⟩

theorem sound_tutorref08_Same : Sound Tryd.prog 16 (S_tutorref08_Same @l_tutorref08_Same) := by
  refine fn_sound (cuts := cuts_tutorref08_Same) (fn := Tryd.f16) (Γ := T_tutorref08_Same) wide right_T_tutorref08_Same Tryd.func16 fun {R} K r args ob h => ?_
  unfold S_tutorref08_Same at h
  dsimp only at h
  split at h
  · exact ⟨Nat.le_of_ble_eq_true (by kernel_rfl), 0, (entry_tutorref08_Same K _ _).trans h⟩
  · cases h

theorem call_tutorref08_Same : Callable Tryd.prog 16 := ⟨_, Tryd.func16, by kernel_rfl, by kernel_rfl⟩

def T_tutorlaw08_TextThere (l_tutorlaw08_live : {R : Type} → (Bool → Option R) → Option R) (l_tutorref03_Same : {R : Type} → Int → Int → Int → Int → (List Int) → (List Int) → Int → Int → Int → Int → (List Int) → (List Int) → (Bool → Option R) → Option R) (l_tutorref08_Same : {R : Type} → (List Int) → (List Int) → (Bool → Option R) → Option R) (l_tutorlaw08_num : {R : Type} → Int → (Int → Option R) → Option R) (l_tutorref03_Right : {R : Type} → Int → Int → Int → Int → (List Int) → (List Int) → (Bool → Option R) → Option R) (l_text_Export : {R : Type} → Int → Int → Int → Int → (List Int) → (List Int) → (Int → (List Int) → Option R) → Option R) (l_text_Import : {R : Type} → (List Int) → (Int → Int → Int → Int → Int → Int → (List Int) → (List Int) → Option R) → Option R) : FuncId → Option Sum := (addS (addS (addS (addS (addS (addS (addS G0 12 (S_tutorlaw08_live @l_tutorlaw08_live)) 18 (S_tutorref03_Same @l_tutorref03_Same)) 16 (S_tutorref08_Same @l_tutorref08_Same)) 17 (S_tutorlaw08_num @l_tutorlaw08_num)) 25 (S_tutorref03_Right @l_tutorref03_Right)) 14 (S_text_Export @l_text_Export)) 19 (S_text_Import @l_text_Import))

theorem right_T_tutorlaw08_TextThere : Right Tryd.prog (T_tutorlaw08_TextThere @l_tutorlaw08_live @l_tutorref03_Same @l_tutorref08_Same @l_tutorlaw08_num @l_tutorref03_Right @l_text_Export @l_text_Import) := (right_add (right_add (right_add (right_add (right_add (right_add (right_add right_G0 call_tutorlaw08_live sound_tutorlaw08_live) call_tutorref03_Same sound_tutorref03_Same) call_tutorref08_Same sound_tutorref08_Same) call_tutorlaw08_num sound_tutorlaw08_num) call_tutorref03_Right sound_tutorref03_Right) call_text_Export sound_text_Export) call_text_Import sound_text_Import)

abbrev cuts_tutorlaw08_TextThere : Cuts := []

theorem gentry_tutorlaw08_TextThere (l_tutorlaw08_live : {R : Type} → (Bool → Option R) → Option R) (l_tutorref03_Same : {R : Type} → Int → Int → Int → Int → (List Int) → (List Int) → Int → Int → Int → Int → (List Int) → (List Int) → (Bool → Option R) → Option R) (l_tutorref08_Same : {R : Type} → (List Int) → (List Int) → (Bool → Option R) → Option R) (l_tutorlaw08_num : {R : Type} → Int → (Int → Option R) → Option R) (l_tutorref03_Right : {R : Type} → Int → Int → Int → Int → (List Int) → (List Int) → (Bool → Option R) → Option R) (l_text_Export : {R : Type} → Int → Int → Int → Int → (List Int) → (List Int) → (Int → (List Int) → Option R) → Option R) (l_text_Import : {R : Type} → (List Int) → (Int → Int → Int → Int → Int → Int → (List Int) → (List Int) → Option R) → Option R) {R : Type} (K : AV → List O → Option R) (b : List Int) :
    fnRun Tryd.prog (T_tutorlaw08_TextThere @l_tutorlaw08_live @l_tutorref03_Same @l_tutorref08_Same @l_tutorlaw08_num @l_tutorref03_Right @l_text_Export @l_text_Import) cuts_tutorlaw08_TextThere Tryd.f7 0 [.rd ⟨false, 5, (.int .u8), b⟩] [] K =
    (fun (b : List Int) (K0 : Bool → Option R) =>
    bi (decide ((b.length : Int) > 20000))
     (l_tutorlaw08_live
      (fun r1 =>
       K0 r1))
     (l_text_Import b
      (fun r2 r3 r4 r5 r6 r7 r8 r9 =>
       l_tutorlaw08_num r6
        (fun r10 =>
         bi (r10 != 0)
          (l_tutorref03_Same r2 r3 r4 r5 r8 r9 0 0 0 0 ([] : List Int) ([] : List Int)
           (fun r11 =>
            bi r11
             (bi (decide (r7 ≥ 0))
              (bi (decide (r7 ≤ (b.length : Int)))
               (l_tutorlaw08_live
                (fun r12 =>
                 K0 r12))
               (K0 false))
              (K0 false))
             (K0 false)))
          (l_text_Export r2 r3 r4 r5 r8 r9
           (fun r13 r14 =>
            l_tutorref03_Right r2 r3 r4 r5 r8 r9
             (fun r15 =>
              bi r15
               (bi (r7 == (b.length : Int))
                (l_tutorlaw08_num r13
                 (fun r16 =>
                  bi (r16 == 0)
                   (l_tutorref08_Same r14 b
                    (fun r17 =>
                     bi r17
                      (l_tutorlaw08_live
                       (fun r18 =>
                        K0 r18))
                      (K0 false)))
                   (K0 false)))
                (K0 false))
               (K0 false)))))))) b (fun r0 => K (.v (.bool r0)) []) := by kernel_rfl

theorem entry_tutorlaw08_TextThere {R : Type} (K : AV → List O → Option R) (b : List Int) :
    fnRun Tryd.prog (T_tutorlaw08_TextThere @l_tutorlaw08_live @l_tutorref03_Same @l_tutorref08_Same @l_tutorlaw08_num @l_tutorref03_Right @l_text_Export @l_text_Import) cuts_tutorlaw08_TextThere Tryd.f7 0 [.rd ⟨false, 5, (.int .u8), b⟩] [] K =
    l_tutorlaw08_TextThere b (fun r0 => K (.v (.bool r0)) []) := gentry_tutorlaw08_TextThere @l_tutorlaw08_live @l_tutorref03_Same @l_tutorref08_Same @l_tutorlaw08_num @l_tutorref03_Right @l_text_Export @l_text_Import K b

def S_tutorlaw08_TextThere (l_tutorlaw08_TextThere : {R : Type} → (List Int) → (Bool → Option R) → Option R) : Sum := ⟨[], fun {R} args ob K => match args, ob with
  | [.rd ⟨false, 5, (.int .u8), b⟩], [] => l_tutorlaw08_TextThere b (fun r0 => K (.v (.bool r0)) [])
  | _, _ => none⟩

theorem sound_tutorlaw08_TextThere : Sound Tryd.prog 7 (S_tutorlaw08_TextThere @l_tutorlaw08_TextThere) := by
  refine fn_sound (cuts := cuts_tutorlaw08_TextThere) (fn := Tryd.f7) (Γ := (T_tutorlaw08_TextThere @l_tutorlaw08_live @l_tutorref03_Same @l_tutorref08_Same @l_tutorlaw08_num @l_tutorref03_Right @l_text_Export @l_text_Import)) wide right_T_tutorlaw08_TextThere Tryd.func7 fun {R} K r args ob h => ?_
  unfold S_tutorlaw08_TextThere at h
  dsimp only at h
  split at h
  · exact ⟨Nat.le_of_ble_eq_true (by kernel_rfl), 0, (entry_tutorlaw08_TextThere K _).trans h⟩
  · cases h

theorem call_tutorlaw08_TextThere : Callable Tryd.prog 7 := ⟨_, Tryd.func7, by kernel_rfl, by kernel_rfl⟩


end
end Go.Ev
