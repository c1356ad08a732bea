/- The abstract machine: values, objects and states; its operations; no proofs. -/
import Derived.WalkKit
import Derived.KernelRfl
import Derived.Orders
import Derived.OrdersHeld
namespace Go.Ev
set_option linter.unusedVariables false
set_option linter.unusedSimpArgs false

inductive Ty where
 |int (k : IntKind)
 |bool
 |str
 |sl (e : TypeId) (t : Ty)
 |pr (a b : Ty)
 deriving DecidableEq

abbrev Ty.S : Ty -> Type
 |.int _ => Int
 |.bool => Bool
 |.str => ByteArray
 |.sl _ t => List t.S
 |.pr a b => a.S × b.S

def Ty.sz : Ty -> Nat
 |.pr a b => a.sz + b.sz
 |_ => 1

def Ty.flat : Ty -> Bool
 |.sl _ _ => false
 |.pr a b => a.flat && b.flat
 |_ => true

def Ty.nr : Ty -> Nat
 |.sl _ _ => 1
 |.pr a b => a.nr + b.nr
 |_ => 0

def Ty.rws : Ty -> Bool
 |.sl _ t => t.flat
 |.pr a b => a.rws && b.rws
 |_ => true

def fstT : Ty -> Bool
 |.pr a b => a.rws && b.rws && !(a.flat && b.flat)
 |_ => false

def Ty.dflt : (t : Ty) -> t.S
 |.int _ => (0 : Int)
 |.bool => false
 |.str => ByteArray.empty
 |.sl _ _ => []
 |.pr a b => (a.dflt, b.dflt)

structure Sq where
 fl : Bool
 e : TypeId
 t : Ty
 xs : List t.S

inductive AV where
 |un
 |v (x : Value)
 |agg (l : List AV)
 |tup (l : List AV)
 |rd (s : Sq)
 |own (i : Nat)
 |view (i : Nat) (z : Nat) (lo : Nat) (n : Nat)
 |ptr (i : Nat) (o : Nat)
 |pel (s : Sq) (j : Nat) (o : Nat)
 |poe (i : Nat) (z : Nat) (j : Nat) (o : Nat)
 |clo (f : FuncId) (cap : List AV)
 |ifc (t : TypeId) (x : AV)
 |nst (i : Nat)
 |pns (i : Nat) (j : Nat)
 |inn (i : Nat) (j : Nat)
 |pin (i : Nat) (j : Nat) (z : Nat) (k : Nat) (o : Nat)
 |grn (i : Nat)
 |pfs (i : Nat) (z : Nat) (j : Nat) (o : Nat)
 |fin (i : Nat) (j : Nat) (nr : Nat) (r : Nat)
 |bnd (f : FuncId) (l : List AV)
 |pbk (i : Nat) (o : Nat) (k : IntKind) (n : Nat) (j : Nat)
 |cel

inductive O where
 |box (ty : TypeId) (cs : List AV)
 |row (s : Sq)
 |frz (s : Sq)
 |gone
 |nst (s : Sq)
 |frn (s : Sq)
 |grn (i j : Nat) (e : TypeId) (z m : Nat)
 |fst (s : Sq) (n : Nat)

structure St where
 fr : List AV
 ob : List O

/-! A tower of definitions: what stands on it is unfolded first. -/
def tl0 : Nat := 0
def tl1 : Nat := tl0
def tl2 : Nat := tl1
def tl3 : Nat := tl2
def tl4 : Nat := tl3
def tl5 : Nat := tl4
def tl6 : Nat := tl5
def tl7 : Nat := tl6
def tl8 : Nat := tl7
def tl9 : Nat := tl8
def tl10 : Nat := tl9
def tl11 : Nat := tl10
def tl12 : Nat := tl11
def tl13 : Nat := tl12
def tl14 : Nat := tl13
def tl15 : Nat := tl14
def tl16 : Nat := tl15
def tl17 : Nat := tl16
def tl18 : Nat := tl17
def tl19 : Nat := tl18
def tl20 : Nat := tl19
def tl21 : Nat := tl20
def tl22 : Nat := tl21
def tl23 : Nat := tl22
def tl24 : Nat := tl23
def tl25 : Nat := tl24
def tl26 : Nat := tl25
def tl27 : Nat := tl26
def tl28 : Nat := tl27
def tl29 : Nat := tl28
def tl30 : Nat := tl29
def tl31 : Nat := tl30
def tl32 : Nat := tl31
def tl33 : Nat := tl32
def tl34 : Nat := tl33
def tl35 : Nat := tl34
def tl36 : Nat := tl35
def tl37 : Nat := tl36
def tl38 : Nat := tl37
def tl39 : Nat := tl38
def tl40 : Nat := tl39
def tl41 : Nat := tl40
def tl42 : Nat := tl41
def tl43 : Nat := tl42
def tl44 : Nat := tl43
def tl45 : Nat := tl44
def tl46 : Nat := tl45
def tl47 : Nat := tl46
def tl48 : Nat := tl47
def tl49 : Nat := tl48
def tl50 : Nat := tl49
def tl51 : Nat := tl50
def tl52 : Nat := tl51
def tl53 : Nat := tl52
def tl54 : Nat := tl53
def tl55 : Nat := tl54
def tl56 : Nat := tl55
def tl57 : Nat := tl56
def tl58 : Nat := tl57
def tl59 : Nat := tl58
def tl60 : Nat := tl59
def tl61 : Nat := tl60
def tl62 : Nat := tl61
def tl63 : Nat := tl62
def tl64 : Nat := tl63
def tl65 : Nat := tl64
def tl66 : Nat := tl65
def tl67 : Nat := tl66
def tl68 : Nat := tl67
def tl69 : Nat := tl68
def tl70 : Nat := tl69
def tl71 : Nat := tl70
def tl72 : Nat := tl71
def tl73 : Nat := tl72
def tl74 : Nat := tl73
def tl75 : Nat := tl74
def tl76 : Nat := tl75
def tl77 : Nat := tl76
def tl78 : Nat := tl77
def tl79 : Nat := tl78
def tl80 : Nat := tl79
def tl81 : Nat := tl80
def tl82 : Nat := tl81
def tl83 : Nat := tl82
def tl84 : Nat := tl83
def tl85 : Nat := tl84
def tl86 : Nat := tl85
def tl87 : Nat := tl86
def tl88 : Nat := tl87
def tl89 : Nat := tl88
def tl90 : Nat := tl89
def tl91 : Nat := tl90
def tl92 : Nat := tl91
def tl93 : Nat := tl92
def tl94 : Nat := tl93
def tl95 : Nat := tl94
def tl96 : Nat := tl95
def tl97 : Nat := tl96
def tl98 : Nat := tl97
def tl99 : Nat := tl98
def tl100 : Nat := tl99
def tl101 : Nat := tl100
def tl102 : Nat := tl101
def tl103 : Nat := tl102
def tl104 : Nat := tl103
def tl105 : Nat := tl104
def tl106 : Nat := tl105
def tl107 : Nat := tl106
def tl108 : Nat := tl107
def tl109 : Nat := tl108
def tl110 : Nat := tl109
def tl111 : Nat := tl110
def tl112 : Nat := tl111
def tl113 : Nat := tl112
def tl114 : Nat := tl113
def tl115 : Nat := tl114
def tl116 : Nat := tl115
def tl117 : Nat := tl116
def tl118 : Nat := tl117
def tl119 : Nat := tl118
def tl120 : Nat := tl119
def tl121 : Nat := tl120
def tl122 : Nat := tl121
def tl123 : Nat := tl122
def tl124 : Nat := tl123
def tl125 : Nat := tl124
def tl126 : Nat := tl125
def tl127 : Nat := tl126
def tl128 : Nat := tl127
def tl129 : Nat := tl128
def tl130 : Nat := tl129
def tl131 : Nat := tl130
def tl132 : Nat := tl131
def tl133 : Nat := tl132
def tl134 : Nat := tl133
def tl135 : Nat := tl134
def tl136 : Nat := tl135
def tl137 : Nat := tl136
def tl138 : Nat := tl137
def tl139 : Nat := tl138
def tl140 : Nat := tl139
def tl141 : Nat := tl140
def tl142 : Nat := tl141
def tl143 : Nat := tl142
def tl144 : Nat := tl143
def tl145 : Nat := tl144
def tl146 : Nat := tl145
def tl147 : Nat := tl146
def tl148 : Nat := tl147
def tl149 : Nat := tl148
def tl150 : Nat := tl149
def tl151 : Nat := tl150
def tl152 : Nat := tl151
def tl153 : Nat := tl152
def tl154 : Nat := tl153
def tl155 : Nat := tl154
def tl156 : Nat := tl155
def tl157 : Nat := tl156
def tl158 : Nat := tl157
def tl159 : Nat := tl158
def tl160 : Nat := tl159
def tall {α : Type} (x : α) : α := (fun _ => x) tl160

def br {R : Type} (b : Bool) (x y : Option R) : Option R :=
 match b with
 |true => tall x
 |false => tall y

theorem br_some {R : Type} {b : Bool} {x y : Option R} {r : R} (h : br b x y = some r) : (b = true ∧ x = some r) ∨ (b = false ∧ y = some r) := by
 cases b
 ·exact .inr ⟨rfl, h⟩
 ·exact .inl ⟨rfl, h⟩
def rei (fl : Bool) : (t : Ty) -> t.S -> List AV
 |.int k, n => [.v (.int k n)]
 |.bool, b => [.v (.bool b)]
 |.str, s => [.v (.string s)]
 |.sl e t, xs => [.rd ⟨fl, e, t, xs⟩]
 |.pr a b, x => rei fl a x.1 ++ rei fl b x.2

def Sq.as (s : Sq) (t : Ty) : Option (List t.S) :=
 if h : s.t = t then some (h ▸ s.xs) else none

def reiF (i j nr : Nat) : (t : Ty) -> Nat -> t.S -> List AV
 |.int k, _, n => [.v (.int k n)]
 |.bool, _, b => [.v (.bool b)]
 |.str, _, s => [.v (.string s)]
 |.sl _ _, r, _ => [.fin i j nr r]
 |.pr a b, r, x => reiF i j nr a r x.1 ++ reiF i j nr b (r + a.nr) x.2

def rowsQ (fl : Bool) : (t : Ty) -> t.S -> List Sq
 |.sl e t, xs => [⟨fl, e, t, xs⟩]
 |.pr a b, x => rowsQ fl a x.1 ++ rowsQ fl b x.2
 |_, _ => []

def Sq.sub (s : Sq) (lo n : Nat) : Sq := ⟨s.fl, s.e, s.t, (s.xs.drop lo).take n⟩

def Sq.inn (s : Sq) (j : Nat) : Option Sq :=
 match s with
 |⟨fl, _, .sl e t, xs⟩ => some ⟨fl, e, t, xs.getD j []⟩
 |_ => none

def innAt (ob : List O) (i j : Nat) : Option Sq :=
 match ob[i]? with
 |some (.nst s) => s.inn j
 |_ => none

def seen (ob : List O) : AV -> Option Sq
 |.rd s => some s
 |.inn i j => innAt ob i j
 |.nst i => match ob[i]? with
  |some (.frn s) => some s
  |_ => none
 |.own i => match ob[i]? with
  |some (.row s) => some s
  |some (.frz s) => some s
  |_ => none
 |.view i z lo n => match ob[i]? with
  |some (.row s) => if s.t.sz = z then some (s.sub lo n) else none
  |some (.frz s) => if s.t.sz = z then some (s.sub lo n) else none
  |_ => none
 |_ => none

def seenN (ob : List O) (x : AV) : Option Sq :=
 match x with
 |.nst i => match ob[i]? with
  |some (.nst s) => some s
  |some (.frn s) => some s
  |some (.fst s 0) => some s
  |_ => none
 |x => seen ob x

def fstOf (ob : List O) (x : AV) : Option Sq :=
 match x with
 |.nst i => match ob[i]? with
  |some (.fst s _) => some s
  |_ => none
 |_ => none

def one (ob : List O) : AV -> Bool
 |.v x => x.oneCell'
 |.own i => (seen ob (.own i)).isSome
 |.view i z lo n => (seen ob (.view i z lo n)).isSome
 |.rd _ => true
 |.cel => true
 |.ptr _ _ => true
 |.pel _ _ _ => true
 |.poe _ _ _ _ => true
 |.clo _ _ => true
 |.bnd _ _ => true
 |.pbk _ _ _ _ _ => true
 |.ifc _ _ => true
 |.nst i => (seenN ob (.nst i)).isSome
 |.inn i j => (innAt ob i j).isSome
 |.pns _ _ => true
 |.pin _ _ _ _ _ => true
 |.pfs _ _ _ _ => true
 |.fin _ _ _ _ => true
 |_ => false

def cellsO (ob : List O) : AV -> Option (List AV)
 |.agg l => if l.all (one ob) then some l else none
 |.v (.agg cs) => if cs.toList.all Value.oneCell' then some (cs.toList.map .v) else none
 |x => if one ob x then some [x] else none

def isNil : AV -> Bool
 |.v (.slice none 0 0) => true
 |_ => false

def seenF (ob : List O) : AV -> Option Sq
 |.rd s => some s
 |.nst i => match ob[i]? with
  |some (.frn s) => some s
  |_ => none
 |.own i => match ob[i]? with
  |some (.frz s) => some s
  |_ => none
 |.view i z lo n => match ob[i]? with
  |some (.frz s) => if s.t.sz = z then some (s.sub lo n) else none
  |_ => none
 |_ => none

def unre (ob : List O) : (t : Ty) -> List AV -> Option (Bool × t.S)
 |.int k, cs => match cs with
  |[.v (.int k' n)] => if k' = k then some (true, n) else none
  |_ => none
 |.bool, cs => match cs with
  |[.v (.bool b)] => some (true, b)
  |_ => none
 |.str, cs => match cs with
  |[.v (.string s)] => some (true, s)
  |_ => none
 |.sl e t, cs => match cs with
  |[x] => if isNil x then some (true, []) else match seenF ob x with
   |some s => if s.e = e then match s.as t with
     |some xs => some (s.fl, xs)
     |none => none
    else none
   |none => none
  |_ => none
 |.pr a b, cs => match unre ob a (cs.take a.sz), unre ob b (cs.drop a.sz) with
  |some x, some y => some (x.1 && y.1, (x.2, y.2))
  |_, _ => none

/-! ### Types, off the program -/

def tyOf (P : Program) : Nat -> TypeId -> Option Ty
 |0, _ => none
 |n + 1, t => match P.underlying t with
  |some (.int k) => some (.int k)
  |some .bool => some .bool
  |some .string => some .str
  |some (.slice e) => (tyOf P n e).map (.sl e)
  |some (.struct fs) => tyAll (tyOf P n) fs.toList
  |_ => none
 where tyAll (f : TypeId -> Option Ty) : List Field -> Option Ty
  |[] => none
  |[x] => f x.type
  |x :: xs => match f x.type, tyAll f xs with
   |some a, some b => some (.pr a b)
   |_, _ => none

def zeroOk : Ty -> List Value -> Bool
 |.int k, [.int k' n] => k == k' && n == 0
 |.bool, [.bool b] => !b
 |.str, [.string s] => s.size == 0
 |.sl _ _, [.slice none 0 0] => true
 |.pr a b, cs => zeroOk a (cs.take a.sz) && zeroOk b (cs.drop a.sz)
 |_, _ => false

structure RowI where
 e : TypeId
 t : Ty
 bytes : Nat

def rowI (P : Program) (t : TypeId) : Option RowI :=
 match P.underlying t with
 |some (.slice e) => match P.info? e, tyOf P 12 e with
  |some i, some ty => match i.zero with
   |some z => if i.size = ty.sz ∧ zeroOk ty z.cells.toList = true ∧ i.bytes ≤ 65536 ∧ 0 < i.bytes then some ⟨e, ty, i.bytes⟩ else none
   |none => none
  |_, _ => none
 |_ => none

def isAggT (P : Program) (t : TypeId) : Option Bool :=
 match P.underlying t with
 |some (.struct _) | some (.array _ _) => some true
 |some _ => some false
 |none => none

def sizeT (P : Program) (t : TypeId) : Option Nat := (P.info? t).map (·.size)

def fieldT (P : Program) (s : TypeId) (f : Nat) : Option Field :=
 match P.underlying s with
 |some (.struct fs) => fs[f]?
 |_ => none

def flatT (P : Program) : Nat -> TypeId -> List (Option TypeId)
 |0, _ => []
 |n + 1, t => match P.underlying t with
  |some (.struct fs) => flatAll (flatT P n) fs.toList
  |some (.slice _) => [some t]
  |_ => [none]
 where flatAll (f : TypeId -> List (Option TypeId)) : List Field -> List (Option TypeId)
  |[] => []
  |x :: xs => f x.type ++ flatAll f xs

/-! ### States -/

def St.ev (σ : St) : Operand -> AV
 |.tmp t => σ.fr.getD t .un
 |.const x => .v x
 |.global _ => .un
 |.func f => .clo f []

def St.put (σ : St) (d : Option Tmp) (x : AV) : St :=
 match d with
 |some d => ⟨σ.fr.set d x, σ.ob⟩
 |none => σ

/-! Lists and values, brought into form before they are handed on (so that the kernel does not come to them again and again). -/

def forceL {α R : Type} : List α -> (List α -> R) -> R
 |[], k => tall k []
 |x :: xs, k => forceL xs fun ys => k (x :: ys)

theorem forceL_eq {α R : Type} : ∀ (l : List α) (k : List α -> R), forceL l k = k l
 |[], _ => rfl
 |x :: xs, k => forceL_eq xs fun ys => k (x :: ys)

def forceA {R : Type} (x : AV) (k : AV -> R) : R :=
 match x with
 |.un => tall k .un
 |.v y => k (.v y)
 |.agg l => k (.agg l)
 |.tup l => k (.tup l)
 |.rd s => k (.rd s)
 |.own i => k (.own i)
 |.view i z lo n => k (.view i z lo n)
 |.ptr i o => k (.ptr i o)
 |.pel s j o => k (.pel s j o)
 |.poe i z j o => k (.poe i z j o)
 |.clo f l => k (.clo f l)
 |.bnd f l => k (.bnd f l)
 |.pbk i o q n j => k (.pbk i o q n j)
 |.ifc t x => k (.ifc t x)
 |.nst i => k (.nst i)
 |.pns i j => k (.pns i j)
 |.inn i j => k (.inn i j)
 |.pin i j z l o => k (.pin i j z l o)
 |.grn i => k (.grn i)
 |.pfs i z j o => k (.pfs i z j o)
 |.fin i j nr r => k (.fin i j nr r)
 |.cel => k .cel

theorem forceA_eq {R : Type} (x : AV) (k : AV -> R) : forceA x k = k x := by cases x <;> rfl

def forceN {R : Type} (i : Nat) (k : Nat -> R) : R :=
 match i with
 |0 => tall k 0
 |n + 1 => k (n + 1)

def forceNs {R : Type} : List Nat -> (List Nat -> R) -> R
 |[], k => tall k []
 |x :: xs, k => forceN x fun x => forceNs xs fun ys => k (x :: ys)

def forceS {R : Type} (s : Sq) (k : Sq -> R) : R :=
 match s with
 |⟨true, e, t, xs⟩ => tall k ⟨true, e, t, xs⟩
 |⟨false, e, t, xs⟩ => k ⟨false, e, t, xs⟩

def forceV {R : Type} (y : Value) (k : Value -> R) : R :=
 match y with
 |.int q n => tall k (.int q n)
 |.bool b => k (.bool b)
 |.string s => k (.string s)
 |.tuple l => k (.tuple l)
 |y => k y

def forceM {R : Type} (f : AV -> (AV -> R) -> R) : List AV -> (List AV -> R) -> R
 |[], k => tall k []
 |x :: xs, k => f x fun x => forceM f xs fun ys => k (x :: ys)

def forceD {R : Type} : Nat -> AV -> (AV -> R) -> R
 |0, x, k => tall k x
 |n + 1, x, k => match x with
  |.un => k .un
  |.v y => forceV y fun y => k (.v y)
  |.agg l => forceM (forceD n) l fun l => k (.agg l)
  |.tup l => forceM (forceD n) l fun l => k (.tup l)
  |.rd s => forceS s fun s => k (.rd s)
  |.own i => forceN i fun i => k (.own i)
  |.view i z lo n => forceN i fun i => k (.view i z lo n)
  |.ptr i o => forceN i fun i => forceN o fun o => k (.ptr i o)
  |.pel s j o => forceS s fun s => forceN o fun o => k (.pel s j o)
  |.poe i z j o => forceN i fun i => forceN z fun z => forceN o fun o => k (.poe i z j o)
  |.clo f l => forceM (forceD n) l fun l => k (.clo f l)
  |.bnd f l => forceM (forceD n) l fun l => k (.bnd f l)
  |.pbk i o q n j => forceN i fun i => forceN o fun o => k (.pbk i o q n j)
  |.ifc t x => forceD n x fun x => k (.ifc t x)
  |.nst i => forceN i fun i => k (.nst i)
  |.pns i j => forceN i fun i => k (.pns i j)
  |.inn i j => forceN i fun i => k (.inn i j)
  |.pin i j z l o => forceN i fun i => forceN z fun z => forceN o fun o => k (.pin i j z l o)
  |.grn i => forceN i fun i => k (.grn i)
  |.pfs i z j o => forceN i fun i => forceN z fun z => forceN o fun o => k (.pfs i z j o)
  |.fin i j nr r => forceN i fun i => forceN nr fun nr => forceN r fun r => k (.fin i j nr r)
  |.cel => k .cel

def forceO {R : Type} (o : O) (k : O -> R) : R :=
 match o with
 |.box t cs => forceM (forceD 4) cs fun cs => k (.box t cs)
 |.row s => forceS s fun s => k (.row s)
 |.frz s => forceS s fun s => k (.frz s)
 |.gone => tall k .gone
 |.nst s => forceS s fun s => k (.nst s)
 |.frn s => forceS s fun s => k (.frn s)
 |.grn i j e z m => forceN i fun i => k (.grn i j e z m)
 |.fst s n => forceS s fun s => k (.fst s n)

def forceOs {R : Type} : List O -> (List O -> R) -> R
 |[], k => tall k []
 |x :: xs, k => forceO x fun x => forceOs xs fun ys => k (x :: ys)

theorem forceN_eq {R : Type} (i : Nat) (k : Nat -> R) : forceN i k = k i := by cases i <;> rfl
theorem forceNs_eq {R : Type} : ∀ (l : List Nat) (k : List Nat -> R), forceNs l k = k l
 |[], _ => rfl
 |x :: xs, k => by simp only [forceNs, forceN_eq, forceNs_eq xs]
theorem forceS_eq {R : Type} (s : Sq) (k : Sq -> R) : forceS s k = k s := by
 obtain ⟨fl, e, t, xs⟩ := s
 cases fl <;> rfl
theorem forceV_eq {R : Type} (y : Value) (k : Value -> R) : forceV y k = k y := by cases y <;> rfl
theorem forceM_eq {R : Type} {f : AV -> (AV -> R) -> R} (hf : ∀ x k, f x k = k x) : ∀ (l : List AV) (k : List AV -> R), forceM f l k = k l
 |[], _ => rfl
 |x :: xs, k => by simp only [forceM, hf, forceM_eq hf xs]
theorem forceD_eq {R : Type} : ∀ (n : Nat) (x : AV) (k : AV -> R), forceD n x k = k x
 |0, _, _ => rfl
 |n + 1, x, k => by cases x <;> simp only [forceD, forceV_eq, forceS_eq, forceN_eq, forceM_eq (forceD_eq n), forceD_eq n]
theorem forceO_eq {R : Type} (o : O) (k : O -> R) : forceO o k = k o := by cases o <;> simp only [forceO, forceS_eq, forceN_eq, forceM_eq (forceD_eq 4), tall]
theorem forceOs_eq {R : Type} : ∀ (l : List O) (k : List O -> R), forceOs l k = k l
 |[], _ => rfl
 |x :: xs, k => by simp only [forceOs, forceO_eq, forceOs_eq xs]

def St.putK {R : Type} (σ : St) (d : Option Tmp) (x : AV) (k : St -> R) : R :=
 match d with
 |some d => forceA x fun x => forceL (σ.fr.set d x) fun fr => forceL σ.ob fun ob => k ⟨fr, ob⟩
 |none => forceL σ.ob fun ob => k ⟨σ.fr, ob⟩

theorem St.putK_eq {R : Type} (σ : St) (d : Option Tmp) (x : AV) (k : St -> R) : σ.putK d x k = k (σ.put d x) := by
 cases d with
 |none => exact forceL_eq _ _
 |some d => simp only [St.putK, forceA_eq, forceL_eq, St.put]

def St.know (σ : St) (c : Operand) (b : Bool) : St :=
 match c with
 |.tmp t => σ.put (some t) (.v (.bool b))
 |_ => σ

def St.new (σ : St) (o : O) : St := ⟨σ.fr, σ.ob ++ [o]⟩

def nestT : Ty -> Bool
 |.sl _ t => t.flat
 |_ => false

def St.prom (P : Program) (t : TypeId) (x : AV) (σ : St) : AV × St :=
 if isNil x then match rowI P t with
  |some i => match nestT i.t with
   |true => (.nst σ.ob.length, σ.new (.nst ⟨true, i.e, i.t, []⟩))
   |false => match fstT i.t with
    |true => (.nst σ.ob.length, σ.new (.fst ⟨true, i.e, i.t, []⟩ 0))
    |false => (.own σ.ob.length, σ.new (.row ⟨true, i.e, i.t, []⟩))
  |none => (x, σ)
 else (x, σ)

def promL (P : Program) : List (Option TypeId) -> List AV -> St -> List AV × St
 |some t :: ts, x :: xs, σ =>
  let p := σ.prom P t x
  let q := promL P ts xs p.2
  (p.1 :: q.1, q.2)
 |none :: ts, x :: xs, σ =>
  let q := promL P ts xs σ
  (x :: q.1, q.2)
 |_, xs, σ => (xs, σ)

def freezeAt (ob : List O) (i : Nat) : List O :=
 match ob[i]? with
 |some (.row s) => ob.set i (.frz s)
 |some (.nst s) => ob.set i (.frn s)
 |some (.fst s 0) => ob.set i (.frn s)
 |_ => ob

def freeze1 (ob : List O) : AV -> List O
 |.own i => freezeAt ob i
 |.view i _ _ _ => freezeAt ob i
 |.nst i => freezeAt ob i
 |_ => ob

def freezeL (ob : List O) : List AV -> List O
 |[] => ob
 |x :: xs => freezeL (freeze1 ob x) xs

def splice (l : List AV) (o : Nat) (cs : List AV) : List AV := l.take o ++ cs ++ l.drop (o + cs.length)

/-! ### Functions that are called -/

structure Sum where
 own : List Nat := []
 run : {R : Type} -> List AV -> List O -> (AV -> List O -> Option R) -> Option R

def conv1 (P : Program) (ob : List O) (bv : List Nat) (t : Option TypeId) (x : AV) : AV :=
 match x with
 |.own i => if bv.contains i then match seen ob (.own i) with
   |some s => .rd ⟨false, s.e, s.t, s.xs⟩
   |none => .un
  else .un
 |.view i z lo n => if bv.contains i then match seen ob (.view i z lo n) with
   |some s => .rd ⟨false, s.e, s.t, s.xs⟩
   |none => .un
  else .un
 |.nst i => if bv.contains i then match seenN ob (.nst i) with
   |some s => .rd ⟨false, s.e, s.t, s.xs⟩
   |none => .un
  else .un
 |.inn i j => if bv.contains i then match innAt ob i j with
   |some s => .rd ⟨false, s.e, s.t, s.xs⟩
   |none => .un
  else .un
 |.pns _ _ => .un
 |.pin _ _ _ _ _ => .un
 |.grn _ => .un
 |.pfs _ _ _ _ => .un
 |.fin _ _ _ _ => .un
 |x => if isNil x then match t.bind (rowI P) with
   |some i => .rd ⟨false, i.e, i.t, []⟩
   |none => x
  else x

def convL (P : Program) (ob : List O) (bv : List Nat) : List (Option TypeId) -> List AV -> List AV
 |t :: ts, x :: xs => conv1 P ob bv t x :: convL P ob bv ts xs
 |[], x :: xs => conv1 P ob bv none x :: convL P ob bv [] xs
 |_, [] => []

def conv (P : Program) (ob : List O) (bv : List Nat) : Nat -> TypeId -> AV -> AV
 |0, _, _ => .un
 |n + 1, t, x => match x with
  |.agg l => .agg (convL P ob bv (flatT P 12 t) l)
  |.v (.agg cs) => .agg (convL P ob bv (flatT P 12 t) (cs.toList.map .v))
  |.ifc u y => .ifc u (conv P ob bv n u y)
  |x => conv1 P ob bv (some t) x

def convs (P : Program) (ob : List O) (bv own : List Nat) : Nat -> List TypeId -> List AV -> List AV
 |n, t :: ts, x :: xs => (if own.contains n then x else conv P ob bv 4 t x) :: convs P ob bv own (n + 1) ts xs
 |n, [], x :: xs => (if own.contains n then x else conv P ob bv 4 0 x) :: convs P ob bv own (n + 1) [] xs
 |_, _, [] => []

def own1 : AV -> List Nat
 |.own i => [i]
 |.view i _ _ _ => [i]
 |.nst i => [i]
 |.inn i _ => [i]
 |_ => []

def ownL : List AV -> List Nat
 |[] => []
 |x :: xs => own1 x ++ ownL xs

def ownA : Nat -> AV -> List Nat
 |0, _ => []
 |n + 1, x => match x with
  |.agg l => ownL l
  |.ifc _ y => ownA n y
  |x => own1 x

def byVal (own : List Nat) : Nat -> List AV -> List Nat
 |n, x :: xs => (if own.contains n then [] else ownA 4 x) ++ byVal own (n + 1) xs
 |_, [] => []

def leads : Nat -> AV -> List Nat
 |0, _ => []
 |n + 1, x => match x with
  |.own i => [i]
  |.view i _ _ _ => [i]
  |.ptr i _ => [i]
  |.poe i _ _ _ => [i]
  |.nst i => [i]
  |.pns i _ => [i]
  |.inn i _ => [i]
  |.pin i _ _ _ _ => [i]
  |.grn i => [i]
  |.pfs i _ _ _ => [i]
  |.fin i _ _ _ => [i]
  |.agg l => l.flatMap (leads n)
  |.tup l => l.flatMap (leads n)
  |.clo _ l => l.flatMap (leads n)
  |.bnd _ l => l.flatMap (leads n)
  |.pbk i _ _ _ _ => [i]
  |.ifc _ y => leads n y
  |_ => []

def leadsO : O -> List Nat
 |.box _ cs => cs.flatMap (leads 4)
 |.grn i _ _ _ _ => [i]
 |_ => []

def reach (ob : List O) : Nat -> List Nat -> List Nat -> List Nat
 |0, _, acc => acc
 |_ + 1, [], acc => acc
 |n + 1, i :: todo, acc => if acc.contains i then reach ob n todo acc
  else reach ob n ((match ob[i]? with | some o => leadsO o | none => []) ++ todo) (acc ++ [i])

def ren (f : Nat -> Option Nat) : Nat -> AV -> AV
 |0, _ => .un
 |n + 1, x => match x with
  |.own i => match f i with | some j => .own j | none => .un
  |.view i z lo m => match f i with | some j => .view j z lo m | none => .un
  |.ptr i o => match f i with | some j => .ptr j o | none => .un
  |.poe i z j o => match f i with | some k => .poe k z j o | none => .un
  |.nst i => match f i with | some k => .nst k | none => .un
  |.pns i j => match f i with | some k => .pns k j | none => .un
  |.inn i j => match f i with | some k => .inn k j | none => .un
  |.pin i j z l o => match f i with | some k => .pin k j z l o | none => .un
  |.grn i => match f i with | some k => .grn k | none => .un
  |.pfs i z j o => match f i with | some k => .pfs k z j o | none => .un
  |.fin i j nr r => match f i with | some k => .fin k j nr r | none => .un
  |.agg l => .agg (l.map (ren f n))
  |.tup l => .tup (l.map (ren f n))
  |.clo g l => .clo g (l.map (ren f n))
  |.bnd g l => .bnd g (l.map (ren f n))
  |.pbk i o q m j => match f i with | some k => .pbk k o q m j | none => .un
  |.ifc t y => .ifc t (ren f n y)
  |x => x

def renO (f : Nat -> Option Nat) : O -> O
 |.box t cs => .box t (cs.map (ren f 4))
 |.grn i j e z m => match f i with | some k => .grn k j e z m | none => .gone
 |o => o

def unf : Nat -> AV -> AV
 |0, _ => .un
 |n + 1, x => match x with
  |.rd s => .rd ⟨false, s.e, s.t, s.xs⟩
  |.pel s j o => .pel ⟨false, s.e, s.t, s.xs⟩ j o
  |.agg l => .agg (l.map (unf n))
  |.tup l => .tup (l.map (unf n))
  |.clo g l => .clo g (l.map (unf n))
  |.bnd g l => .bnd g (l.map (unf n))
  |.ifc t y => .ifc t (unf n y)
  |x => x

def unfO : O -> O
 |.box t cs => .box t (cs.map (unf 4))
 |.row s => .row ⟨false, s.e, s.t, s.xs⟩
 |.frz s => .frz ⟨false, s.e, s.t, s.xs⟩
 |.nst s => .nst ⟨false, s.e, s.t, s.xs⟩
 |.frn s => .frn ⟨false, s.e, s.t, s.xs⟩
 |.fst s n => .fst ⟨false, s.e, s.t, s.xs⟩ n
 |o => o

def idx : List Nat -> Nat -> Option Nat
 |[], _ => none
 |x :: xs, i => if x = i then some 0 else match idx xs i with | some j => some (j + 1) | none => none

def pick (ob : List O) (f : Nat -> Option Nat) (l : List Nat) : List O := l.map fun i => match ob[i]? with | some o => renO f o | none => .gone

def back (l : List Nat) (base : Nat) (j : Nat) : Option Nat := if j < l.length then l[j]? else some (base + (j - l.length))

def keepFl (old : Option O) (o : O) : O :=
 match old, o with
 |some (.row s), .row s' => .row ⟨s'.fl || (s.fl && s'.t.flat), s'.e, s'.t, s'.xs⟩
 |some (.nst s), .nst s' => .nst ⟨s'.fl || s.fl, s'.e, s'.t, s'.xs⟩
 |_, o => o

def writeBack (f : Nat -> Option Nat) : List Nat -> List O -> List O -> List O
 |i :: l, o :: os, ob => writeBack f l os (ob.set i (keepFl ob[i]? (renO f o)))
 |_, _, ob => ob

def fresh : Nat -> AV -> Bool
 |0, _ => false
 |n + 1, x => match x with
  |.rd s => s.fl
  |.pel s _ _ => s.fl
  |.agg l => l.all (fresh n)
  |.tup l => l.all (fresh n)
  |.clo _ l => l.all (fresh n)
  |.bnd _ l => l.all (fresh n)
  |.ifc _ y => fresh n y
  |_ => true

def freshO : O -> Bool
 |.row s => s.fl || s.t.flat
 |.frz s => s.fl
 |.box _ cs => cs.all (fresh 4)
 |.frn s => s.fl
 |_ => true

def leadsAt (ob : List O) (i : Nat) : List Nat := match ob[i]? with | some o => leadsO o | none => []

def roots (ob : List O) (np : Nat) (todo : List Nat) : List Nat :=
 reach ob 200 ((List.range np).flatMap (leadsAt ob) ++ todo) (List.range np)

def St.clean (np : Nat) (keep : List Nat) (σ : St) : St :=
 let fr := σ.fr.mapIdx fun i x => if keep.contains i then x else .un
 let l := roots σ.ob np (fr.flatMap (leads 5))
 ⟨fr.map (ren (idx l) 5), pick σ.ob (idx l) l⟩

def O.isR : O -> Bool
 |.row _ => true
 |.nst _ => true
 |.fst _ 0 => true
 |_ => false

def isRow (ob : List O) (i : Nat) : Bool :=
 match ob[i]? with
 |some o => o.isR
 |_ => false

def nonF (ob : List O) (x : AV) : Bool :=
 match x with
 |.own i => match ob[i]? with
  |some (.row s) => !s.t.flat
  |some (.frz s) => !s.t.flat
  |_ => false
 |.rd s => !s.t.flat
 |.nst i => match ob[i]? with
  |some (.fst _ _) => true
  |_ => false
 |_ => false

def ownR (x : AV) : Bool :=
 match x with
 |.own _ => true
 |.view _ _ _ _ => true
 |.nst _ => true
 |_ => false

def blankV (f : AV -> Bool) (ob : List O) (x : AV) : AV :=
 match x with
 |.agg l => .agg (l.map fun y => match f y && one ob y with | true => .cel | false => y)
 |x => x

def blankA (S : Sum) (ob : List O) (args : List AV) : List AV :=
 match S.own.contains 98 with
 |true => args.map (blankV (nonF ob) ob)
 |false => match S.own.contains 97 with
  |true => args.map (blankV ownR ob)
  |false => args

def callL (P : Program) (S : Sum) (ts : List TypeId) (args : List AV) (ob : List O) : List Nat :=
 reach ob 200 ((convs P ob (byVal S.own 0 args) S.own 0 ts args).flatMap (leads 5)) []

def callOk (S : Sum) (args : List AV) (ob : List O) (l : List Nat) : Bool :=
 (byVal S.own 0 args).all (fun i => !(l.contains i && isRow ob i)) && l.all fun i => decide (i < ob.length)

def callBack {R : Type} (bv l : List Nat) (σ : St) (K : AV -> St -> Option R) (r : AV) (ob' : List O) : Option R :=
 forceD 6 (ren (back l σ.ob.length) 5 r) fun x => forceOs (writeBack (back l σ.ob.length) l (ob'.take l.length) (if (fresh 5 r && ob'.all freshO) = true then σ.ob else freezeL σ.ob (bv.map AV.own)) ++ (ob'.drop l.length).map (renO (back l σ.ob.length))) fun ob => tall K x ⟨σ.fr, ob⟩

def callSum {R : Type} (P : Program) (S : Sum) (ts : List TypeId) (args : List AV) (σ : St) (K : AV -> St -> Option R) : Option R :=
 forceM (forceD 6) args fun args => forceNs (callL P S ts args σ.ob) fun l => forceNs (byVal S.own 0 args) fun bv =>
 match callOk S args σ.ob l with
 |true => forceM (forceD 6) ((convs P σ.ob bv S.own 0 ts args).map fun x => unf 5 (ren (idx l) 5 x)) fun as =>
   forceOs ((pick σ.ob (idx l) l).map unfO) fun os => S.run as os (callBack bv l σ K)
 |false => none

/-! ### Operations -/

def intOp {R : Type} (op : BinOp) (k : IntKind) (a b : Int) (K : AV -> Option R) : Option R :=
 match op with
 |.add => K (.v (.int k (k.wrap (a + b))))
 |.sub => K (.v (.int k (k.wrap (a - b))))
 |.mul => K (.v (.int k (k.wrap (a * b))))
 |.quo => br (decide (b = 0)) none (K (.v (.int k (k.wrap (a.tdiv b)))))
 |.rem => br (decide (b = 0)) none (K (.v (.int k (a.tmod b))))
 |.and => K (.v (.int k (k.wrap (BitVec.ofInt k.bits a &&& BitVec.ofInt k.bits b).toNat)))
 |.or => K (.v (.int k (k.wrap (BitVec.ofInt k.bits a ||| BitVec.ofInt k.bits b).toNat)))
 |.xor => K (.v (.int k (k.wrap (BitVec.ofInt k.bits a ^^^ BitVec.ofInt k.bits b).toNat)))
 |.andNot => K (.v (.int k (k.wrap (BitVec.ofInt k.bits a &&& ~~~(BitVec.ofInt k.bits b)).toNat)))
 |.eql => tall K (.v (.bool (a == b)))
 |.neq => K (.v (.bool (a != b)))
 |.lss => K (.v (.bool (decide (a < b))))
 |.leq => K (.v (.bool (decide (a ≤ b))))
 |.gtr => K (.v (.bool (decide (a > b))))
 |.geq => K (.v (.bool (decide (a ≥ b))))
 |_ => none

def shiftOp {R : Type} (op : BinOp) (k : IntKind) (a b : Int) (K : AV -> Option R) : Option R :=
 br (decide (b < 0)) none (match op with
  |.shl => tall K (.v (.int k (k.wrap (a * 2 ^ (min b.toNat k.bits)))))
  |.shr => K (.v (.int k (a.fdiv (2 ^ (min b.toNat k.bits)))))
  |_ => none)

/-! ### Flat values, maps -/

def Ty.cs : (t : Ty) -> t.S -> List Value
 |.int k, n => [.int k n]
 |.bool, b => [.bool b]
 |.str, s => [.string s]
 |.sl _ _, _ => []
 |.pr a b, x => a.cs x.1 ++ b.cs x.2

def Ty.isPr : Ty -> Bool
 |.pr _ _ => true
 |_ => false

def Ty.val (t : Ty) (x : t.S) : Value :=
 match t.isPr with
 |true => .agg (t.cs x).toArray
 |false => (t.cs x).headD undef

def eqS : (t : Ty) -> t.S -> t.S -> Bool
 |.int _, (a : Int), (b : Int) => a == b
 |.bool, (a : Bool), (b : Bool) => a == b
 |.str, (a : ByteArray), (b : ByteArray) => a.toList == b.toList
 |.sl _ _, _, _ => false
 |.pr a b, x, y => eqS a x.1 y.1 && eqS b x.2 y.2

def plainT (P : Program) (t : TypeId) : Bool :=
 match P.underlying t with
 |some (.int _) => true
 |some .bool => true
 |some .string => true
 |_ => false

def plainFs (P : Program) : Nat -> List Field -> Bool
 |_, [] => true
 |off, f :: fs => f.name != "_" && f.offset == off && plainT P f.type && plainFs P (off + 1) fs

def cmpT (P : Program) (t : TypeId) : Option Ty :=
 match P.underlying t with
 |some (.int k) => some (.int k)
 |some .bool => some .bool
 |some .string => some .str
 |some (.struct fs) => match tyOf P 12 t with
  |some ty => if plainFs P 0 fs.toList && ty.isPr && !P.stoodInHeld t && !P.eqGuardType P.depth t then some ty else none
  |none => none
 |_ => none

def aggA : AV -> Bool
 |.agg _ => true
 |.v (.agg _) => true
 |_ => false

def flatOf (ob : List O) (t : Ty) (x : AV) : Option t.S :=
 match t.flat, cellsO ob x with
 |true, some cs => match unre ob t cs with
  |some r => if aggA x = t.isPr then some r.2 else none
  |none => none
 |_, _ => none

def eqAgg (P : Program) (t : TypeId) (x y : AV) : Option Bool :=
 match cmpT P t with
 |some ty => match flatOf [] ty x, flatOf [] ty y with
  |some a, some b => some (eqS ty a b)
  |_, _ => none
 |none => none

def catOk (a b : ByteArray) : Bool := Nat.ble (a.size + b.size) 9223372036854775807

def eqAV (P : Program) (t : TypeId) (c : Bool) (x y : AV) : Option Bool :=
 match P.underlying t, x, y with
 |some .bool, .v (.bool a), .v (.bool b) => some (a == b)
 |_, .v (.string a), .v (.string b) => some (a.toList == b.toList)
 |some (.slice _), .v (.slice none _ _), .v (.slice none 0 0) => some true
 |some (.slice _), .v (.slice (some _) _ _), .v (.slice none 0 0) => some false
 |some (.slice _), .rd s, .v (.slice none 0 0) => match s.xs with
  |[] => none
  |_ :: _ => some false
 |some (.pointer _), .v (.pointer none), .v (.pointer none) => some true
 |some (.pointer _), .ptr _ _, .v (.pointer none) => some false
 |some (.struct _), .agg x, .agg y => eqAgg P t (.agg x) (.agg y)
 |some (.struct _), .v (.agg x), .agg y => eqAgg P t (.v (.agg x)) (.agg y)
 |some (.struct _), .agg x, .v (.agg y) => eqAgg P t (.agg x) (.v (.agg y))
 |some (.interface _), .ifc _ _, .v .nilIface => some false
 |some (.interface _), .v .nilIface, .v .nilIface => if c then some true else none
 |_, _, _ => none

def isConstO : Operand -> Bool
 |.const _ => true
 |_ => false

def binAV {R : Type} (P : Program) (t : TypeId) (c : Bool) (op : BinOp) (x y : AV) (K : AV -> Option R) : Option R :=
 match x, y with
 |.v (.int k a), .v (.int k' b) =>
  match op with
  |.shl => shiftOp .shl k a b K
  |.shr => shiftOp .shr k a b K
  |_ => if k = k' then intOp op k a b K else none
 |_, _ => match op with
  |.eql => match eqAV P t c x y with | some b => K (.v (.bool b)) | none => none
  |.neq => match eqAV P t c x y with | some b => K (.v (.bool (!b))) | none => none
  |.add => match x, y with
   |.v (.string a), .v (.string b) => br (catOk a b) (K (.v (.string (a ++ b)))) none
   |_, _ => none
  |_ => none

def at_ {R : Type} (i : Int) (n : Nat) (K : Nat -> Option R) : Option R := br (decide (0 ≤ i ∧ i < (n : Int))) (tall K i.toNat) none

def isIntO : Option AV -> Option (Option Int)
 |none => some none
 |some x => match x with
  |.v (.int _ n) => some (some n)
  |_ => none

def cut_ {R : Type} (l h : Option Int) (n m : Nat) (K : Nat -> Nat -> Option R) : Option R :=
 match l, h with
 |none, none => tall K 0 n
 |some l, none => br (decide (0 ≤ l ∧ l ≤ (n : Int))) (tall K l.toNat n) none
 |none, some h => br (decide (0 ≤ h ∧ h ≤ (m : Int))) (tall K 0 h.toNat) none
 |some l, some h => br (decide (0 ≤ l ∧ l ≤ h ∧ h ≤ (m : Int))) (tall K l.toNat h.toNat) none

def lim : Nat := 140737488355328

def litParts (ob : List O) : List (Nat × AV) -> Option (List (Nat × List AV))
 |[] => some []
 |(i, x) :: ps => match cellsO ob x, litParts ob ps with
  |some cs, some l => some ((i, cs) :: l)
  |_, _ => none

def fillP (place : Nat -> Option (Nat × Nat)) : List (Nat × List AV) -> List AV -> Option (List AV)
 |[], cs => some cs
 |p :: ps, cs => match place p.1 with
  |some q => if p.2.length = q.2 ∧ q.1 + q.2 ≤ cs.length then fillP place ps (splice cs q.1 p.2) else none
  |none => none

def chunk (ob : List O) (t : Ty) : Nat -> List AV -> Option (Bool × List t.S)
 |0, _ => some (true, [])
 |n + 1, cs => match unre ob t (cs.take t.sz), chunk ob t n (cs.drop t.sz) with
  |some x, some r => some (x.1 && r.1, x.2 :: r.2)
  |_, _ => none

def appTo (ob : List O) (x : AV) : Option (Nat × Sq) :=
 match x with
 |.own a => match ob[a]? with
  |some (.row s) => some (a, s)
  |_ => none
 |.view a z lo n => match ob[a]? with
  |some (.row s) => if s.t.sz = z ∧ lo = 0 then some (a, ⟨s.fl, s.e, s.t, s.xs.take n⟩) else none
  |_ => none
 |_ => none

def nestRows (ob : List O) (e : TypeId) (t : Ty) : List AV -> Option (Bool × List Nat × List (List t.S))
 |[] => some (true, [], [])
 |x :: cs => match nestRows ob e t cs with
  |some (fl, is, xs) => if isNil x then some (fl, is, [] :: xs) else match appTo ob x with
   |some (i, s) => if s.e = e ∧ !is.contains i then match s.as t with
     |some ys => some (fl && s.fl, i :: is, ys :: xs)
     |none => none
    else none
   |none => none
  |none => none

def nestOf (ob : List O) (t : Ty) (cs : List AV) : Option (Bool × List Nat × List t.S) :=
 match t with
 |.sl e t => if t.flat then nestRows ob e t cs else none
 |_ => none

def fstEl (ob : List O) : (t : Ty) -> List AV -> Option (Bool × List Nat × t.S)
 |.int k, cs => match cs with
  |[.v (.int k' n)] => if k' = k then some (true, [], n) else none
  |_ => none
 |.bool, cs => match cs with
  |[.v (.bool b)] => some (true, [], b)
  |_ => none
 |.str, cs => match cs with
  |[.v (.string s)] => some (true, [], s)
  |_ => none
 |.sl e t, cs => match t.flat with
  |true => match cs with
   |[x] => if isNil x then some (true, [], []) else match appTo ob x with
    |some (i, s) => if s.e = e then match s.as t with
      |some ys => some (s.fl, [i], ys)
      |none => none
     else none
    |none => none
   |_ => none
  |false => none
 |.pr a b, cs => match fstEl ob a (cs.take a.sz), fstEl ob b (cs.drop a.sz) with
  |some x, some y => if x.2.1.all fun i => !y.2.1.contains i then some (x.1 && y.1, x.2.1 ++ y.2.1, (x.2.2, y.2.2)) else none
  |_, _ => none

def fst1 (ob : List O) (t : Ty) (n : Nat) (cs : List AV) : Option (Bool × List Nat × t.S) :=
 match fstT t, n with
 |true, 1 => fstEl ob t cs
 |_, _ => none

def takeL (a nr : Nat) : List AV -> Option (List Nat × List Nat)
 |[] => some ([], [])
 |x :: cs => match x, takeL a nr cs with
  |.fin a' j nr' r, some q => if a' = a ∧ nr' = nr ∧ q.2.contains r = false then some (j :: q.1, r :: q.2) else none
  |_, _ => none

def takeA : List AV -> Option Nat
 |.fin a _ _ _ :: _ => some a
 |_ => none

def jsOk (n : Nat) : List Nat -> Bool
 |[] => true
 |j :: js => Nat.beq j n && jsOk n js

def takeR (e : TypeId) (t : Ty) (qs : List Sq) : List Nat -> Option (List (List t.S))
 |[] => some []
 |r :: rs => match qs[r]?, takeR e t qs rs with
  |some q, some l => if q.e = e then match q.as t with
    |some ys => some (ys :: l)
    |none => none
   else none
  |_, _ => none

def mvF (a n : Nat) : Nat -> AV -> AV
 |0, x => x
 |m + 1, x => match x with
  |.nst i => if Nat.beq i a then .nst n else .nst i
  |.agg l => .agg (l.map (mvF a n m))
  |x => x

def mvO (a n : Nat) : O -> O
 |.box t cs => .box t (cs.map (mvF a n 4))
 |o => o

def takeN {R : Type} (i : RowI) (m : Nat) (cs : List AV) (σ : St) (K : AV -> St -> Option R) : Option (Option R) :=
 match i.t, takeA cs with
 |.sl e t, some a => match σ.ob[a]? with
  |some (.fst s n) => match t.flat, takeL a s.t.nr cs with
   |true, some q => match takeR e t (rowsQ s.fl s.t (s.xs.getD n s.t.dflt)) q.2 with
    |some rows => if m ≤ 16777216 ∧ cs.length = m then some (br (jsOk n q.1 && Nat.blt n s.xs.length)
     (tall K (.nst (σ.ob.length + 1)) ⟨σ.fr.map (mvF a σ.ob.length 4), (σ.ob.set a .gone ++ [O.fst s (n + 1)] ++ [O.nst ⟨s.fl, i.e, .sl e t, rows⟩]).map (mvO a σ.ob.length)⟩) none) else none
    |none => none
   |_, _ => none
  |_ => none
 |_, _ => none

def goneL (ob : List O) : List Nat -> List O
 |[] => ob
 |i :: l => goneL (ob.set i .gone) l

def zerosA (P : Program) (e : TypeId) (n : Nat) : Option (List AV) :=
 match P.info? e with
 |some i => match i.zero with
  |some z => some ((List.replicate n (z.cells.toList.map AV.v)).flatten)
  |none => none
 |none => none

def builtA (P : Program) (t : TypeId) (ps : List (Nat × List AV)) : Option (List AV) :=
 match P.info? t, P.underlying t with
 |some it, some (.array _ e) => match it.zero, P.info? e with
  |some z, some ie => fillP (fun i => some (i * ie.size, ie.size)) ps (z.cells.toList.map .v)
  |_, _ => none
 |some it, some (.struct fields) => match it.zero, fields.toList.mapM (fun f => (P.info? f.type).map fun i => (f.offset, i.size)) with
  |some z, some places => fillP (fun i => places.toArray[i]?) ps (z.cells.toList.map .v)
  |_, _ => none
 |_, _ => none

def Sq.setInn (s : Sq) (j : Nat) (q : Sq) : Option Sq :=
 match s with
 |⟨fl, e0, .sl e t, xs⟩ => match q.as t with
  |some ys => some ⟨fl && q.fl, e0, .sl e t, xs.set j ys⟩
  |none => none
 |_ => none

def isInt : AV -> Option Int
 |.v (.int _ n) => some n
 |_ => none

def upd (ob : List O) (s : Sq) (j o : Nat) (cs : List AV) : Option Sq :=
 match unre ob s.t (splice (rei s.fl s.t (s.xs.getD j s.t.dflt)) o cs) with
 |some x => some ⟨s.fl && x.1, s.e, s.t, s.xs.set j x.2⟩
 |none => none

def zeroA (P : Program) (t : TypeId) : Option (List AV) :=
 match P.info? t with
 |some i => match i.zero with
  |some z => some (z.cells.toList.map .v)
  |none => none
 |none => none

def bLvl : Builtin -> Nat
 |.len => 0
 |.min => 0
 |.max => 0
 |_ => 1

def bts (b : ByteArray) : List Int := b.data.toList.map fun x => (x.toNat : Int)

def ofBts (xs : List Int) : ByteArray := xs.foldl (fun r n => r.push (UInt8.ofNat n.toNat)) ByteArray.empty

def addend (i : RowI) (same str : Bool) (ob : List O) (y : AV) : Option Sq :=
 match y with
 |.v (.slice _ 0 _) => if same = true then some ⟨true, i.e, i.t, []⟩ else none
 |.v (.string b) => if str = true then some ⟨true, i.e, .int .u8, bts b⟩ else none
 |y => if same = true then match seen ob y with
   |some q => some ⟨q.fl || q.t.flat, q.e, q.t, q.xs⟩
   |none => none
  else none

def appendP {R : Type} (i : RowI) (same str : Bool) (p : AV × St) (y : AV) (K : AV -> St -> Option R) : Option R :=
 match appTo p.2.ob p.1 with
 |some (a, s) => match addend i same str p.2.ob y with
   |some s' => if s.e = i.e ∧ s.t = i.t then match s'.as s.t with
     |some ys => br (decide ((s.xs.length + ys.length) * i.bytes ≤ lim))
       (tall K (.own p.2.ob.length) ⟨p.2.fr, p.2.ob.set a .gone ++ [.row ⟨s.fl && s'.fl, s.e, s.t, s.xs ++ ys⟩]⟩) none
     |none => none
    else none
   |none => none
 |none => none

def appendG {R : Type} (i : RowI) (same str : Bool) (x : AV) (σ : St) (y : AV) (K : AV -> St -> Option R) : Option R :=
 match addend i same str σ.ob y with
 |some s' => match x with
  |.inn a j => match innAt σ.ob a j with
   |some q => if q.e = i.e ∧ q.t = i.t ∧ s'.t = i.t ∧ i.t.flat = true then br (decide ((q.xs.length + s'.xs.length) * i.bytes ≤ lim))
     (tall K (.grn σ.ob.length) (σ.new (.grn a j i.e i.t.sz (q.xs.length + s'.xs.length)))) none else none
   |none => none
  |.grn b => match σ.ob[b]? with
   |some (.grn a j e z m) => match innAt σ.ob a j with
    |some q => if q.e = i.e ∧ q.t = i.t ∧ e = i.e ∧ z = i.t.sz ∧ s'.t = i.t ∧ i.t.flat = true then br (decide ((m + s'.xs.length) * i.bytes ≤ lim))
      (tall K (.grn σ.ob.length) ⟨σ.fr, σ.ob.set b .gone ++ [.grn a j i.e i.t.sz (m + s'.xs.length)]⟩) none else none
    |none => none
   |_ => none
  |_ => none
 |none => none

def appendF {R : Type} (i : RowI) (same : Bool) (p : AV × St) (y : AV) (K : AV -> St -> Option R) : Option R :=
 match p.1, y with
 |.nst a, .nst b => match p.2.ob[a]?, p.2.ob[b]? with
  |some (.fst s 0), some (.fst s' 0) => if same = true ∧ a ≠ b ∧ s.e = i.e ∧ s.t = i.t ∧ s'.t = i.t then match s'.as s.t with
    |some ys => br (decide ((s.xs.length + ys.length) * i.bytes ≤ lim))
      (tall K (.nst p.2.ob.length) ⟨p.2.fr, (p.2.ob.set a .gone).set b .gone ++ [.fst ⟨s.fl && s'.fl, s.e, s.t, s.xs ++ ys⟩ 0]⟩) none
    |none => none
   else none
  |_, _ => none
 |_, _ => none

def appendN {R : Type} (i : RowI) (same : Bool) (p : AV × St) (y : AV) (K : AV -> St -> Option R) : Option R :=
 match p.1, y with
 |.nst a, .nst b => match p.2.ob[a]?, p.2.ob[b]? with
  |some (.nst s), some (.nst s') => if same = true ∧ a ≠ b ∧ s.e = i.e ∧ s.t = i.t ∧ s'.t = i.t ∧ i.t.sz = 1 then match s'.as s.t with
    |some ys => br (decide ((s.xs.length + ys.length) * i.bytes ≤ lim))
      (tall K (.nst p.2.ob.length) ⟨p.2.fr, (p.2.ob.set a .gone).set b .gone ++ [.nst ⟨s.fl && s'.fl, s.e, s.t, s.xs ++ ys⟩]⟩) none
    |none => none
   else none
  |_, _ => none
 |_, _ => none

def isInn : AV -> Bool
 |.inn _ _ => true
 |.grn _ => true
 |_ => false

def isNst : AV -> Bool
 |.nst _ => true
 |_ => false

def isStrT (P : Program) (t : TypeId) : Bool :=
 match P.underlying t with
 |some .string => true
 |_ => false

def isZ8 : Option Value -> Bool
 |some (.int .u8 0) => true
 |_ => false

def isByteT (P : Program) (e : TypeId) : Bool :=
 match P.underlying e, P.info? e with
 |some (.int .u8), some i => i.bytes == 1 && i.size == 1 && isZ8 i.zero
 |_, _ => false

def zerosTo (P : Program) (t : TypeId) (x y : AV) : Option Int :=
 match isNil x with
 |true => match y with
  |.v (.int _ n) => match P.underlying t with
   |some (.int _) => some n
   |_ => none
  |_ => none
 |false => none

def builtinOp {R : Type} (P : Program) (b : Builtin) (ts : List TypeId) (args : List AV) (σ : St) (K : AV -> St -> Option R) : Option R :=
 match b, args with
 |.len, [x] => match ts with
  |[t] => match P.underlying t, x with
   |some .string, .v (.string s) => tall K (.v (.int .i64 s.size)) σ
   |some (.slice _), x => if isNil x then K (.v (.int .i64 0)) σ else match fstOf σ.ob x with
    |some s => K (.v (.int .i64 s.xs.length)) σ
    |none => match seenN σ.ob x with
     |some s => match x with
      |.view _ _ _ n => K (.v (.int .i64 n)) σ
      |_ => K (.v (.int .i64 s.xs.length)) σ
     |none => none
   |_, _ => none
  |_ => none
 |.append, [x, y] => match ts with
  |[t, t'] => match rowI P t with
   |some i => match zerosTo P t' x y with
    |some n => br (decide (1 ≤ n ∧ n ≤ 1073741824)) (K (.own σ.ob.length) (σ.new (.row ⟨true, i.e, i.t, List.replicate n.toNat i.t.dflt⟩))) none
    |none => match isInn x with
    |true => appendG i (t' == t) (isStrT P t' && isByteT P i.e) x σ y K
    |false => match isNst (σ.prom P t x).1 with
     |true => match fstT i.t with
      |true => appendF i (t' == t) (σ.prom P t x) y K
      |false => appendN i (t' == t) (σ.prom P t x) y K
     |false => appendP i (t' == t) (isStrT P t' && isByteT P i.e) (σ.prom P t x) y K
   |none => none
  |_ => none
 |.min, [.v (.int k x), .v (.int k' y)] => if k = k' then K (.v (.int k (if y < x then y else x))) σ else none
 |.max, [.v (.int k x), .v (.int k' y)] => if k = k' then K (.v (.int k (if y > x then y else x))) σ else none
 |.cap, [x] => match ts with
  |[t] => match P.underlying t, isNil x with
   |some (.slice _), true => K (.v (.int .i64 0)) σ
   |_, _ => none
  |_ => none
 |_, _ => none

def isU8 (P : Program) (e : TypeId) : Bool :=
 match P.underlying e with
 |some (.int .u8) => true
 |_ => false

def isPtrO (P : Program) (t : TypeId) : Option Bool :=
 match P.underlying t with
 |some (.pointer _) => some true
 |some _ => some false
 |none => none

def methodOf (P : Program) (t : TypeId) (nm : String) : Option FuncId :=
 match P.info? t with
 |some i => match i.methods.find? (·.name == nm) with
  |some m => match m.path.toList, m.func with
   |[], some (f, ptr) => match isPtrO P t with
    |some q => if q = ptr then some f else none
    |none => none
   |_, _ => none
  |none => none
 |none => none

def isIfaceT (P : Program) (t : TypeId) : Option Bool :=
 match P.underlying t with
 |some (.interface _) => some true
 |some _ => some false
 |none => none

def zeroT (P : Program) (t : TypeId) : Option Value :=
 match P.info? t with
 |some i => i.zero
 |none => none

def intsOf (k : IntKind) : List AV -> Option (List Int)
 |[] => some []
 |x :: l => match x with
  |.v (.int q n) => if q = k then match intsOf k l with
   |some ns => some (n :: ns)
   |none => none
   else none
  |_ => none

def arrI (P : Program) (t : TypeId) : Option (IntKind × Nat) :=
 match P.underlying t with
 |some (.array m e) => match P.underlying e, sizeT P e with
  |some (.int k), some 1 => some (k, m)
  |_, _ => none
 |_ => none

def evCall {R : Type} (P : Program) (Γ : FuncId -> Option Sum) (c : Call) (σ : St) (K : AV -> St -> Option R) : Option R :=
 match c.callee with
 |.builtin b => builtinOp P b c.argTypes.toList (c.args.toList.map σ.ev) σ K
 |.value f => match σ.ev f with
  |.clo g cap => match Γ g with
   |some S => callSum P S c.argTypes.toList (blankA S σ.ob (c.args.toList.map σ.ev ++ cap)) σ K
   |none => none
  |.bnd g fst => match Γ g with
   |some S => callSum P S (List.replicate fst.length 0 ++ c.argTypes.toList) (blankA S σ.ob (fst ++ c.args.toList.map σ.ev)) σ K
   |none => none
  |_ => none
 |.invoke x nm => match σ.ev x with
  |.ifc t y => match methodOf P t nm with
   |some g => match Γ g with
    |some S => callSum P S (t :: c.argTypes.toList) (blankA S σ.ob (y :: c.args.toList.map σ.ev)) σ K
    |none => none
   |none => none
  |_ => none

def loadC {R : Type} (P : Program) (t : TypeId) (cs : List AV) (K : AV -> Option R) : Option R :=
 match isAggT P t, sizeT P t with
 |some true, some n => if n ≤ cs.length then K (.agg (cs.take n)) else none
 |some false, _ => match cs with
  |c :: _ => tall K c
  |[] => none
 |_, _ => none

def evOp {R : Type} (P : Program) (Γ : FuncId -> Option Sum) (o : Oper) (σ : St) (K : AV -> St -> Option R) : Option R :=
 match o.op with
 |.move x => K (σ.ev x) σ
 |.assign x => let p := σ.prom P o.type (σ.ev x); K p.1 p.2
 |.pick c a b => match σ.ev c with
  |.v (.bool x) => br x (K (σ.ev a) σ) (K (σ.ev b) σ)
  |_ => none
 |.alloc t => match zeroA P t with
  |some cs => let p := promL P (flatT P 12 t) cs σ
   K (.ptr p.2.ob.length 0) (p.2.new (.box t p.1))
  |none => none
 |.box t x => match cellsO σ.ob (σ.ev x) with
  |some cs => let p := promL P (flatT P 12 t) cs σ
   K (.ptr p.2.ob.length 0) (p.2.new (.box t p.1))
  |none => none
 |.load t x => match σ.ev x with
  |.ptr i j => match σ.ob[i]? with
   |some (.box _ cs) => loadC P t (cs.drop j) fun y => K y σ
   |_ => none
  |.pel s j k => loadC P t ((rei s.fl s.t (s.xs.getD j s.t.dflt)).drop k) fun y => K y σ
  |.poe i z j k => match seen σ.ob (.own i) with
   |some s => if s.t.sz = z then loadC P t ((rei s.fl s.t (s.xs.getD j s.t.dflt)).drop k) fun y => K y σ else none
   |none => none
  |.pns a j => match σ.ob[a]? with
   |some (.nst s) => loadC P t [.inn a j] fun y => K y σ
   |_ => none
  |.pin a j z l o => match innAt σ.ob a j with
   |some s => if s.t.sz = z then loadC P t ((rei s.fl s.t (s.xs.getD l s.t.dflt)).drop o) fun y => K y σ else none
   |none => none
  |.pfs a z j l => match σ.ob[a]? with
   |some (.fst s n) => if s.t.sz = z then br (Nat.ble n j) (loadC P t ((reiF a j s.t.nr s.t 0 (s.xs.getD j s.t.dflt)).drop l) fun y => K y σ) none else none
   |_ => none
  |.pbk i j k n l => match σ.ob[i]? with
   |some (.box _ cs) => match intsOf k ((cs.drop j).take n) with
    |some ns => if ns.length = n then loadC P t [.v (.int k (ns.getD l 0))] fun y => K y σ else none
    |none => none
   |_ => none
  |_ => none
 |.store t x y => match cellsO σ.ob (σ.ev y) with
  |some vs => if sizeT P t = some vs.length then match σ.ev x with
   |.ptr i j => match σ.ob[i]? with
    |some (.box u cs) => if j + vs.length ≤ cs.length then
      let p := promL P (flatT P 12 t) vs σ
      K (.v undef) ⟨p.2.fr, p.2.ob.set i (.box u (splice cs j p.1))⟩ else none
    |_ => none
   |.poe i z j k =>
    let ob := freezeL σ.ob vs
    match ob[i]? with
    |some (.row s) => if s.t.sz = z ∧ k + vs.length ≤ z then match upd ob s j k vs with
      |some s' => K (.v undef) ⟨σ.fr, ob.set i (.row s')⟩
      |none => none
     else none
    |_ => none
   |.pin a j z l k => match σ.ob[a]? with
    |some (.nst s) => match s.inn j with
     |some q => if q.t.sz = z ∧ k + vs.length ≤ z ∧ q.t.flat = true then match upd σ.ob q l k vs with
       |some q' => match s.setInn j q' with
        |some s' => K (.v undef) ⟨σ.fr, σ.ob.set a (.nst s')⟩
        |none => none
       |none => none
      else none
     |none => none
    |_ => none
   |_ => none
   else none
  |none => none
 |.nilCheck x => match σ.ev x with
  |.ptr i j => K (.ptr i j) σ
  |.pel s j k => K (.pel s j k) σ
  |.poe i z j k => K (.poe i z j k) σ
  |.clo f l => K (.clo f l) σ
  |.bnd f l => K (.bnd f l) σ
  |.ifc t y => K (.ifc t y) σ
  |.pns i j => K (.pns i j) σ
  |.pin i j z l o => K (.pin i j z l o) σ
  |.pfs i z j l => K (.pfs i z j l) σ
  |_ => none
 |.binOp op t x y _ => binAV P t (isConstO x || isConstO y) op (σ.ev x) (σ.ev y) fun z => K z σ
 |.unOp op _ x => match op, σ.ev x with
  |.not, .v (.bool b) => K (.v (.bool (!b))) σ
  |.neg, .v (.int k n) => K (.v (.int k (k.wrap (0 - n)))) σ
  |_, _ => none
 |.convert s d x => match P.underlying s, P.underlying d, σ.ev x with
  |some _, some (.int k), .v (.int _ n) => K (.v (.int k (k.wrap n))) σ
  |some (.int _), some .string, .v (.int _ n) => K (.v (.string (Utf8.encode n))) σ
  |some _, some .string, .v (.string s) => K (.v (.string s)) σ
  |some _, some (.slice e), .v (.string s) => if isU8 P e = true then br (decide (s.size ≤ 1073741824)) (K (.own σ.ob.length) (σ.new (.row ⟨true, e, .int .u8, bts s⟩))) none else none
  |some (.slice _), some (.slice e), .own a => match s == d, isU8 P e, σ.ob[a]? with
   |true, true, some (.row q) => if q.e = e then br (decide (0 < q.xs.length)) (tall K (.own a) σ) none else none
   |_, _, _ => none
  |some (.slice e), some .string, y => match isU8 P e with
   |true => match isNil y with
    |true => K (.v (.string ByteArray.empty)) σ
    |false => match seen σ.ob y with
     |some q => match q.as (.int .u8) with
      |some xs => K (.v (.string (ofBts xs))) σ
      |none => none
     |none => none
   |false => none
  |_, _, _ => none
 |.fieldAddr s x f => match fieldT P s f with
  |some f => if (sizeT P f.type).getD 0 = 0 then none else match σ.ev x with
   |.ptr i j => K (.ptr i (j + f.offset)) σ
   |.pel q j k => K (.pel q j (k + f.offset)) σ
   |.poe i z j k => K (.poe i z j (k + f.offset)) σ
   |.pin i j z l k => K (.pin i j z l (k + f.offset)) σ
   |.pfs i z j k => K (.pfs i z j (k + f.offset)) σ
   |_ => none
  |none => none
 |.field s x f => match fieldT P s f with
  |some f => match σ.ev x with
   |.agg cs => loadC P f.type (cs.drop f.offset) fun y => K y σ
   |_ => none
  |none => none
 |.extract x i => match σ.ev x with
  |.tup l => match l[i]? with
   |some y => K y σ
   |none => none
  |_ => none
 |.indexAddr t x i => match rowI P t, isInt (σ.ev i) with
  |some ri, some n => match σ.ev x with
   |.rd s => if s.t = ri.t then at_ n s.xs.length fun j => K (.pel s j 0) σ else none
   |.own a => match σ.ob[a]? with
    |some (.row s) => if s.t = ri.t then at_ n s.xs.length fun j => K (.poe a s.t.sz j 0) σ else none
    |some (.frz s) => if s.t = ri.t then at_ n s.xs.length fun j => K (.pel s j 0) σ else none
    |_ => none
   |.view a z lo m => match σ.ob[a]? with
    |some (.row s) => if s.t = ri.t ∧ s.t.sz = z then at_ n m fun j => K (.poe a s.t.sz (lo + j) 0) σ else none
    |some (.frz s) => if s.t = ri.t ∧ s.t.sz = z then at_ n m fun j => K (.pel (s.sub lo m) j 0) σ else none
    |_ => none
   |.nst a => match σ.ob[a]? with
    |some (.nst s) => if s.t = ri.t ∧ s.t.sz = 1 then at_ n s.xs.length fun j => K (.pns a j) σ else none
    |some (.fst s _) => if s.t = ri.t then at_ n s.xs.length fun j => K (.pfs a s.t.sz j 0) σ else none
    |some (.frn s) => if s.t = ri.t then at_ n s.xs.length fun j => K (.pel s j 0) σ else none
    |_ => none
   |.inn a j => match innAt σ.ob a j with
    |some s => if s.t = ri.t then at_ n s.xs.length fun l => K (.pin a j s.t.sz l 0) σ else none
    |none => none
   |_ => none
  |none, some n => match arrI P t, σ.ev x with
   |some (k, m), .ptr b j => at_ n m fun l => K (.pbk b j k m l) σ
   |_, _ => none
  |_, _ => none
 |.index t x i => match σ.ev x, isInt (σ.ev i) with
  |.v (.string s), some n => match P.underlying t with
   |some .string => at_ n s.size fun j => K (.v (.int .u8 ((s.data.toList.getD j 0).toNat : Int))) σ
   |_ => none
  |_, _ => none
 |.build t parts => match litParts σ.ob (parts.toList.map fun p => (p.1, σ.ev p.2)) with
  |some ps => match builtA P t ps with
   |some cs => K (.agg cs) σ
   |none => none
  |none => none
 |.buildSlice t n parts => match rowI P t, litParts σ.ob (parts.toList.map fun p => (p.1, σ.ev p.2)) with
  |some i, some ps => match zerosA P i.e n with
   |some zs => match fillP (fun j => some (j * i.t.sz, i.t.sz)) ps zs with
    |some cs => match nestOf σ.ob i.t cs with
     |some r => if r.2.2.length = n ∧ n ≤ 16777216 then K (.nst σ.ob.length) ⟨σ.fr, goneL σ.ob r.2.1 ++ [.nst ⟨r.1, i.e, i.t, r.2.2⟩]⟩ else none
     |none => match takeN i n cs σ K with
     |some A => A
     |none => match fst1 σ.ob i.t n cs with
     |some r => if i.t.sz ≤ 16777216 then K (.nst σ.ob.length) ⟨σ.fr, goneL σ.ob r.2.1 ++ [.fst ⟨r.1, i.e, i.t, [r.2.2]⟩ 0]⟩ else none
     |none =>
     let ob := freezeL σ.ob cs
     match chunk ob i.t n cs with
     |some r => if n * i.t.sz ≤ 16777216 then K (.own ob.length) ⟨σ.fr, ob ++ [.row ⟨r.1, i.e, i.t, r.2⟩]⟩ else none
     |none => none
    |none => none
   |none => none
  |_, _ => none
 |.slice t x lo hi mx => match mx with
  |some _ => none
  |none => match isIntO (lo.map σ.ev), isIntO (hi.map σ.ev) with
   |some l, some h => match P.underlying t, σ.ev x with
    |some .string, .v (.string s) => cut_ l h s.size s.size fun i j => K (.v (.string (s.extract i j))) σ
    |some (.slice _), x => match rowI P t with
     |some ri => if isNil x then cut_ l h 0 0 fun _ _ => K x σ else match x with
      |.rd s => if s.t = ri.t then cut_ l h s.xs.length s.xs.length fun i j => K (.rd (s.sub i (j - i))) σ else none
      |.own a => match seen σ.ob (.own a) with
       |some s => if s.t = ri.t then cut_ l h s.xs.length s.xs.length fun i j => K (.view a s.t.sz i (j - i)) σ else none
       |none => none
      |.view a z lo n => match seen σ.ob (.own a) with
       |some s => if s.t = ri.t ∧ s.t.sz = z then cut_ l h n (s.xs.length - lo) fun i j => K (.view a z (lo + i) (j - i)) σ else none
       |none => none
      |.nst a => match σ.ob[a]? with
       |some (.nst s) => if s.t = ri.t ∧ s.t.sz = 1 ∧ h = none then cut_ l h s.xs.length s.xs.length fun i j => K (.nst σ.ob.length) ⟨σ.fr, σ.ob.set a .gone ++ [.nst ⟨s.fl, s.e, s.t, s.xs.drop i⟩]⟩ else none
       |_ => none
      |_ => none
     |none => none
    |_, _ => none
   |_, _ => none
 |.makeSlice t l c => match rowI P t, isInt (σ.ev l), isInt (σ.ev c) with
  |some i, some n, some m => br (decide (0 ≤ n ∧ n ≤ m ∧ m ≤ 1073741824))
    (K (.own σ.ob.length) (σ.new (.row ⟨true, i.e, i.t, List.replicate n.toNat i.t.dflt⟩))) none
  |_, _, _ => none
 |.makeInterface t x => match P.underlying t with
  |some (.interface _) => none
  |some _ => K (.ifc t (σ.ev x)) σ
  |none => none
 |.makeFunc fn first cap => match fn with
  |.func f => if first.toList.isEmpty then K (.clo f (cap.toList.map σ.ev)) σ else if cap.toList.isEmpty then K (.bnd f (first.toList.map σ.ev)) σ else none
  |_ => none
 |.typeAssert x _ u ok => match isIfaceT P u, σ.ev x with
  |some false, .ifc t y => if t = u then (match ok with | true => K (.tup [y, .v (.bool true)]) σ | false => K y σ)
    else match ok, zeroT P u with
     |true, some z => K (.tup [.v z, .v (.bool false)]) σ
     |_, _ => none
  |some false, .v .nilIface => match ok, zeroT P u with
   |true, some z => K (.tup [.v z, .v (.bool false)]) σ
   |_, _ => none
  |_, _ => none
 |.call c => evCall P Γ c σ K
 |_ => none

/-! ### Regions -/

def guarded {R : Type} (ops : List Oper) (o : Oper) (σ : St) (K : Bool -> St -> Option R) : Option R :=
 match o.guard with
 |none => tall K true σ
 |some (g, want) => match (ops[g]?).bind (·.dst) with
  |some d => match σ.fr[d]? with
   |some (.v (.bool b)) => br b (σ.putK (some d) (.v (.bool true)) fun σ => K (want == true) σ) (σ.putK (some d) (.v (.bool false)) fun σ => K (want == false) σ)
   |some (.v (.tuple _)) => K false σ
   |_ => none
  |none => none

def evOps {R : Type} (P : Program) (Γ : FuncId -> Option Sum) (ops : List Oper) : List Oper -> St -> (St -> Option R) -> Option R
 |[], σ, K => K σ
 |o :: os, σ, K => guarded ops o σ fun b σ =>
  match b with
  |true => evOp P Γ o σ fun x σ => σ.putK o.dst x fun σ => evOps P Γ ops os σ K
  |false => σ.putK o.dst (.v undef) fun σ => evOps P Γ ops os σ K

noncomputable def both {R : Type} (A B : Option R) : Option R := @ite _ (A = B) (Classical.propDecidable _) A none

theorem both_same {R : Type} (A : Option R) : both A A = A := if_pos rfl
theorem both_some {R : Type} {A B : Option R} {r : R} (h : both A B = some r) : A = some r ∧ B = some r := by
 unfold both at h
 by_cases e : A = B
 ·rw [if_pos e] at h
  exact ⟨h, e ▸ h⟩
 ·rw [if_neg e] at h
  cases h

/-! ### Regions that draw their order -/

def lvlDyn (P : Program) (Γ : FuncId -> Option Sum) (o : Oper) (σ : St) : Nat :=
 match o.op with
 |.store .. => 2
 |.convert s d x => match s == d, σ.ev x with
  |true, .own _ => 2
  |_, _ => 0
 |.call c => match c.callee with
  |.builtin b => bLvl b
  |.value f => match σ.ev f with
   |.clo g cap => match Γ g with
    |some S => if (callL P S c.argTypes.toList (blankA S σ.ob (c.args.toList.map σ.ev ++ cap)) σ.ob).isEmpty then 0 else 2
    |none => 2
   |_ => 2
  |_ => 2
 |_ => 0

def isPtrT (P : Program) (t : TypeId) : Bool :=
 match P.underlying t with
 |some (.pointer _) => true
 |_ => false

def lvlOp (P : Program) (Γ : FuncId -> Option Sum) (o : Oper) : Nat :=
 match o.op with
 |.store .. => 2
 |.convert s d _ => if s == d then 2 else 0
 |.call c => match c.callee with
  |.builtin b => bLvl b
  |.value (.func g) => match Γ g with
   |some S => if S.own.isEmpty && !c.argTypes.toList.any (isPtrT P) then 0 else 2
   |none => 2
  |_ => 2
 |_ => 0

def lvlAt (P : Program) (Γ : FuncId -> Option Sum) (ops : Array Oper) (j : Nat) : Nat :=
 match ops[j]? with
 |some o => lvlOp P Γ o
 |none => 0

def maxL : List Nat -> Nat
 |[] => 0
 |x :: xs => max x (maxL xs)

def lvlSet (P : Program) (Γ : FuncId -> Option Sum) (ops : Array Oper) (p : Nat -> Bool) : Nat :=
 maxL (((List.range ops.size).filter p).map (lvlAt P Γ ops))

def waits (ops : Array Oper) (i : Nat) : List Nat :=
 (List.range ops.size).foldl (fun acc j => match ops[j]? with
  |some o => if o.after.any (fun e => Region.binds .any e && acc.contains e.on) then j :: acc else acc
  |none => acc) [i]

def lvlBefore (P : Program) (Γ : FuncId -> Option Sum) (ops : Array Oper) (i : Nat) : Nat :=
 lvlSet P Γ ops fun j => !(waits ops i).contains j

def quietOp (lvl : Nat) (o : Oper) (σ : St) : Bool :=
 match o.op with
 |.slice _ x .. => match σ.ev x with
  |.nst _ => false
  |_ => true
 |.move _ | .binOp .. | .unOp .. | .fieldAddr .. | .field .. | .extract .. | .indexAddr .. | .index .. | .makeInterface .. | .typeAssert .. | .makeFunc .. | .nilCheck _ | .pick .. | .build .. => true
 |.load _ x => match σ.ev x with
  |.pel .. => true
  |.ptr .. => lvl ≤ 1
  |.pbk .. => lvl ≤ 1
  |.poe .. => lvl == 0
  |.pns .. => lvl == 0
  |.pin .. => lvl == 0
  |.pfs .. => lvl == 0
  |_ => false
 |.call c => match c.callee with | .builtin .len => true | _ => false
 |.convert s d x => match s == d, σ.ev x with
  |false, .v (.int _ _) => true
  |_, _ => false
 |_ => false

def isLoad (o : Oper) : Bool :=
 match o.op with
 |.load .. => true
 |_ => false

def firstQuiet (P : Program) (Γ : FuncId -> Option Sum) (q : Bool) (ops : Array Oper) (listed : Array Bool) (σ : St) : List Nat -> Option Nat
 |[] => none
 |i :: is => match ops[i]? with
  |some o => if (q || !isLoad o) && quietOp (lvlBefore P Γ ops i) o σ && Region.free .any ops listed i then some i else firstQuiet P Γ q ops listed σ is
  |none => none

def skips (ops : Array Oper) (o : Oper) (σ : St) : Bool :=
 match o.guard with
 |some (g, want) => match (ops[g]?).bind (·.dst) with
  |some d => match σ.fr[d]? with
   |some (.v (.bool b)) => b != want
   |some (.v (.tuple _)) => true
   |_ => false
  |none => false
 |none => false

def firstSkip (P : Program) (Γ : FuncId -> Option Sum) (ops : Array Oper) (listed : Array Bool) (σ : St) : List Nat -> Option Nat
 |[] => none
 |i :: is => match ops[i]? with
  |some o => if skips ops o σ && lvlOp P Γ o == 0 && Region.free .any ops listed i then some i else firstSkip P Γ ops listed σ is
  |none => none

def knowing {R : Type} (ops : List Oper) (i : Nat) (σ : St) (K : St -> Option R) : Option R :=
 match ops[i]? with
 |some o => guarded ops o σ fun _ σ => K σ
 |none => none

noncomputable def evDraw {R : Type} (P : Program) (Γ : FuncId -> Option Sum) (ops : Array Oper) : Nat -> Bool -> Array Bool -> St -> (St -> Option R) -> Option R
 |0, q, listed, σ, K => match Region.ready .any ops listed with
  |[] => K σ
  |_ => none
 |n + 1, q, listed, σ, K => match Region.ready .any ops listed with
  |[] => K σ
  |i :: is => match firstQuiet P Γ q ops listed σ (i :: is) with
   |some j => match ops[j]? with
    |some o => guarded ops.toList o σ fun b σ =>
     match b with
     |true => if quietOp (lvlBefore P Γ ops j) o σ = true then evOp P Γ o σ fun x σ => evDraw P Γ ops n q (listed.setIfInBounds j true) (σ.put o.dst x) K else none
     |false => evDraw P Γ ops n q (listed.setIfInBounds j true) (σ.put o.dst (.v undef)) K
    |none => none
   |none => if is.isEmpty then match ops[i]? with
    |some o => guarded ops.toList o σ fun b σ =>
     match b with
     |true => if lvlDyn P Γ o σ ≤ lvlOp P Γ o then evOp P Γ o σ fun x σ => evDraw P Γ ops n false (listed.setIfInBounds i true) (σ.put o.dst x) K else none
     |false => evDraw P Γ ops n q (listed.setIfInBounds i true) (σ.put o.dst (.v undef)) K
    |none => none
    else knowing ops.toList i σ fun σ => match firstSkip P Γ ops listed σ (i :: is) with
    |some j => match ops[j]? with
     |some o => guarded ops.toList o σ fun b σ =>
      match b with
      |true => none
      |false => evDraw P Γ ops n q (listed.setIfInBounds j true) (σ.put o.dst (.v undef)) K
     |none => none
    |none => match is with
     |[i'] => both (match ops[i]? with
      |some o => guarded ops.toList o σ fun b σ =>
       match b with
       |true => if lvlDyn P Γ o σ ≤ lvlOp P Γ o then evOp P Γ o σ fun x σ => evDraw P Γ ops n false (listed.setIfInBounds i true) (σ.put o.dst x) K else none
       |false => evDraw P Γ ops n q (listed.setIfInBounds i true) (σ.put o.dst (.v undef)) K
      |none => none) (match ops[i']? with
      |some o => guarded ops.toList o σ fun b σ =>
       match b with
       |true => if lvlDyn P Γ o σ ≤ lvlOp P Γ o then evOp P Γ o σ fun x σ => evDraw P Γ ops n false (listed.setIfInBounds i' true) (σ.put o.dst x) K else none
       |false => evDraw P Γ ops n q (listed.setIfInBounds i' true) (σ.put o.dst (.v undef)) K
      |none => none)
     |[i', i''] => both (match ops[i]? with
      |some o => guarded ops.toList o σ fun b σ =>
       match b with
       |true => if lvlDyn P Γ o σ ≤ lvlOp P Γ o then evOp P Γ o σ fun x σ => evDraw P Γ ops n false (listed.setIfInBounds i true) (σ.put o.dst x) K else none
       |false => evDraw P Γ ops n q (listed.setIfInBounds i true) (σ.put o.dst (.v undef)) K
      |none => none) (both (match ops[i']? with
      |some o => guarded ops.toList o σ fun b σ =>
       match b with
       |true => if lvlDyn P Γ o σ ≤ lvlOp P Γ o then evOp P Γ o σ fun x σ => evDraw P Γ ops n false (listed.setIfInBounds i' true) (σ.put o.dst x) K else none
       |false => evDraw P Γ ops n q (listed.setIfInBounds i' true) (σ.put o.dst (.v undef)) K
      |none => none) (match ops[i'']? with
      |some o => guarded ops.toList o σ fun b σ =>
       match b with
       |true => if lvlDyn P Γ o σ ≤ lvlOp P Γ o then evOp P Γ o σ fun x σ => evDraw P Γ ops n false (listed.setIfInBounds i'' true) (σ.put o.dst x) K else none
       |false => evDraw P Γ ops n q (listed.setIfInBounds i'' true) (σ.put o.dst (.v undef)) K
      |none => none))
     |_ => none

/-! The same, what has come up told by a number's bits. -/

def within (ops : Array Oper) : Bool := ops.toList.all fun o => o.after.toList.all fun e => decide (e.on < ops.size)

def bit (m i : Nat) : Bool := Nat.beq (Nat.land (Nat.shiftRight m i) 1) 1
def setBit (m i : Nat) : Nat := Nat.lor m (Nat.shiftLeft 1 i)

def readyM (m : Nat) : Nat -> List Oper -> List Nat
 |_, [] => []
 |i, o :: os => match !bit m i && o.after.toList.all (fun e => !Region.binds .any e || bit m e.on) with
  |true => i :: readyM m (i + 1) os
  |false => readyM m (i + 1) os

def freeFrom (ops : Array Oper) (m : Nat) (i : Nat) (oi : Oper) : Nat -> List Oper -> Bool
 |_, [] => true
 |j, oj :: os => (j == i || bit m j || oj.after.toList.any (fun e => Region.binds .any e && e.on == i) || oi.apart ops oj) && freeFrom ops m i oi (j + 1) os

def firstQuietM (P : Program) (Γ : FuncId -> Option Sum) (q : Bool) (ops : Array Oper) (m : Nat) (σ : St) : List Nat -> Option (Nat × Oper)
 |[] => none
 |i :: is => match ops.toList[i]? with
  |some o => if (q || !isLoad o) && quietOp (lvlBefore P Γ ops i) o σ && freeFrom ops m i o 0 ops.toList then some (i, o) else firstQuietM P Γ q ops m σ is
  |none => none

def firstSkipM (P : Program) (Γ : FuncId -> Option Sum) (ops : Array Oper) (m : Nat) (σ : St) : List Nat -> Option (Nat × Oper)
 |[] => none
 |i :: is => match ops.toList[i]? with
  |some o => if skips ops o σ && lvlOp P Γ o == 0 && freeFrom ops m i o 0 ops.toList then some (i, o) else firstSkipM P Γ ops m σ is
  |none => none

noncomputable def evDrawM {R : Type} (P : Program) (Γ : FuncId -> Option Sum) (ops : Array Oper) : Nat -> Bool -> Nat -> St -> (St -> Option R) -> Option R
 |0, q, m, σ, K => match readyM m 0 ops.toList with
  |[] => K σ
  |_ => none
 |n + 1, q, m, σ, K => match readyM m 0 ops.toList with
  |[] => K σ
  |i :: is => match firstQuietM P Γ q ops m σ (i :: is) with
   |some (j, o) => guarded ops.toList o σ fun b σ =>
     match b with
     |true => if quietOp (lvlBefore P Γ ops j) o σ = true then evOp P Γ o σ fun x σ => σ.putK o.dst x fun σ => evDrawM P Γ ops n q (setBit m j) σ K else none
     |false => σ.putK o.dst (.v undef) fun σ => evDrawM P Γ ops n q (setBit m j) σ K
   |none => if is.isEmpty then match ops.toList[i]? with
    |some o => guarded ops.toList o σ fun b σ =>
     match b with
     |true => if lvlDyn P Γ o σ ≤ lvlOp P Γ o then evOp P Γ o σ fun x σ => σ.putK o.dst x fun σ => evDrawM P Γ ops n false (setBit m i) σ K else none
     |false => σ.putK o.dst (.v undef) fun σ => evDrawM P Γ ops n q (setBit m i) σ K
    |none => none
    else knowing ops.toList i σ fun σ => match firstSkipM P Γ ops m σ (i :: is) with
    |some (j, o) => guarded ops.toList o σ fun b σ =>
      match b with
      |true => none
      |false => σ.putK o.dst (.v undef) fun σ => evDrawM P Γ ops n q (setBit m j) σ K
    |none => match is with
     |[i'] => both (match ops.toList[i]? with
      |some o => guarded ops.toList o σ fun b σ =>
       match b with
       |true => if lvlDyn P Γ o σ ≤ lvlOp P Γ o then evOp P Γ o σ fun x σ => σ.putK o.dst x fun σ => evDrawM P Γ ops n false (setBit m i) σ K else none
       |false => σ.putK o.dst (.v undef) fun σ => evDrawM P Γ ops n q (setBit m i) σ K
      |none => none) (match ops.toList[i']? with
      |some o => guarded ops.toList o σ fun b σ =>
       match b with
       |true => if lvlDyn P Γ o σ ≤ lvlOp P Γ o then evOp P Γ o σ fun x σ => σ.putK o.dst x fun σ => evDrawM P Γ ops n false (setBit m i') σ K else none
       |false => σ.putK o.dst (.v undef) fun σ => evDrawM P Γ ops n q (setBit m i') σ K
      |none => none)
     |[i', i''] => both (match ops.toList[i]? with
      |some o => guarded ops.toList o σ fun b σ =>
       match b with
       |true => if lvlDyn P Γ o σ ≤ lvlOp P Γ o then evOp P Γ o σ fun x σ => σ.putK o.dst x fun σ => evDrawM P Γ ops n false (setBit m i) σ K else none
       |false => σ.putK o.dst (.v undef) fun σ => evDrawM P Γ ops n q (setBit m i) σ K
      |none => none) (both (match ops.toList[i']? with
      |some o => guarded ops.toList o σ fun b σ =>
       match b with
       |true => if lvlDyn P Γ o σ ≤ lvlOp P Γ o then evOp P Γ o σ fun x σ => σ.putK o.dst x fun σ => evDrawM P Γ ops n false (setBit m i') σ K else none
       |false => σ.putK o.dst (.v undef) fun σ => evDrawM P Γ ops n q (setBit m i') σ K
      |none => none) (match ops.toList[i'']? with
      |some o => guarded ops.toList o σ fun b σ =>
       match b with
       |true => if lvlDyn P Γ o σ ≤ lvlOp P Γ o then evOp P Γ o σ fun x σ => σ.putK o.dst x fun σ => evDrawM P Γ ops n false (setBit m i'') σ K else none
       |false => σ.putK o.dst (.v undef) fun σ => evDrawM P Γ ops n q (setBit m i'') σ K
      |none => none))
     |_ => none

noncomputable def evRegion {R : Type} (P : Program) (Γ : FuncId -> Option Sum) (ops : Array Oper) (draw : Bool) (σ : St) (K : St -> Option R) : Option R :=
 match draw with
 |false => evOps P Γ ops.toList ops.toList σ K
 |true => if Region.noSelect ops && within ops then evDrawM P Γ ops ops.size true 0 σ K else none

/-! ### A function's code -/

abbrev Cuts := List (Nat × List Nat)

noncomputable def runI {R : Type} (P : Program) (Γ : FuncId -> Option Sum) (cuts : Cuts) (np : Nat) (cutK : List Item -> St -> Option R) (retK : St -> Option R) : Nat -> List Item -> St -> Option R
 |0, _, _ => none
 |_ + 1, [], σ => retK σ
 |s + 1, .inBlock _ :: k, σ => runI P Γ cuts np cutK retK s k σ
 |s + 1, .inScope _ :: k, σ => runI P Γ cuts np cutK retK s k σ
 |s + 1, .inLoop c :: k, σ => runI P Γ cuts np cutK retK s (.code c :: .inLoop c :: k) σ
 |s + 1, .code c :: k, σ => match c with
  |.skip => runI P Γ cuts np cutK retK s k σ
  |.region id ops draw => match cuts.find? (·.1 == id) with
   |some keep => cutK (.code (.region id ops draw) :: k) (σ.clean np keep.2)
   |none => evRegion P Γ ops draw σ fun σ => runI P Γ cuts np cutK retK s k σ
  |.seq a b => runI P Γ cuts np cutK retK s (.code a :: .code b :: k) σ
  |.cond c x y => match σ.ev c with
   |.v (.bool b) => br b (runI P Γ cuts np cutK retK s (.code x :: k) (σ.know c true)) (runI P Γ cuts np cutK retK s (.code y :: k) (σ.know c false))
   |_ => none
  |.block id b => runI P Γ cuts np cutK retK s (.code b :: .inBlock id :: k) σ
  |.scope b => runI P Γ cuts np cutK retK s (.code b :: .inScope b :: k) σ
  |.label _ => runI P Γ cuts np cutK retK s k σ
  |.goto l => match gotoIn l k with
   |some k' => runI P Γ cuts np cutK retK s k' σ
   |none => none
  |.loop b => runI P Γ cuts np cutK retK s (.code b :: .inLoop b :: k) σ
  |.exit id => match exitTo id k with
   |some k' => runI P Γ cuts np cutK retK s k' σ
   |none => none
  |.ret => retK σ
  |_ => none
 |_ + 1, _, _ => none

noncomputable def runSeg {R : Type} (P : Program) (Γ : FuncId -> Option Sum) (cuts : Cuts) (np : Nat) (g : List Item -> St -> Option R) (retK : St -> Option R) : List Item -> St -> Option R
 |.code (.region _ ops draw) :: k, σ => evRegion P Γ ops draw σ fun σ => runI P Γ cuts np g retK 3000 k σ
 |_, _ => none

noncomputable def runO {R : Type} (P : Program) (Γ : FuncId -> Option Sum) (cuts : Cuts) (np : Nat) (retK : St -> Option R) : Nat -> List Item -> St -> Option R
 |0, _, _ => none
 |n + 1, k, σ => runSeg P Γ cuts np (runO P Γ cuts np retK n) retK k σ

def resAV (P : Program) (σ : St) : ResultVar -> Option AV
 |.tmp t => some (σ.fr.getD t .un)
 |.cell a t => match σ.fr.getD a .un with
  |.ptr i j => match σ.ob[i]? with
   |some (.box _ cs) => loadC P t (cs.drop j) some
   |_ => none
  |_ => none

def resAVs (P : Program) (σ : St) : List ResultVar -> Option (List AV)
 |[] => some []
 |r :: rs => match resAV P σ r, resAVs P σ rs with
  |some x, some xs => some (x :: xs)
  |_, _ => none

def promA (P : Program) (t : TypeId) (x : AV) (σ : St) : AV × St :=
 match x with
 |.agg l => let p := promL P (flatT P 12 t) l σ; (.agg p.1, p.2)
 |.v (.agg cs) => let p := promL P (flatT P 12 t) (cs.toList.map .v) σ; (.agg p.1, p.2)
 |x => σ.prom P t x

def promAs (P : Program) : List TypeId -> List AV -> St -> List AV × St
 |t :: ts, x :: xs, σ =>
  let p := promA P t x σ
  let q := promAs P ts xs p.2
  (p.1 :: q.1, q.2)
 |_, xs, σ => (xs, σ)

def one1 : List AV -> AV
 |[x] => x
 |xs => .tup xs

def finish {R : Type} (P : Program) (fn : Func) (np : Nat) (K : AV -> List O -> Option R) (σ : St) : Option R :=
 match resAVs P σ fn.results.toList with
 |some xs =>
  let p := promAs P fn.resultTypes.toList xs σ
  let x := one1 p.1
  let l := roots p.2.ob np (leads 5 x)
  tall K (ren (idx l) 5 x) (pick p.2.ob (idx l) l)
 |none => none

def frm (n : Nat) (args : List AV) : List AV := args ++ List.replicate (n - args.length) (.v undef)

noncomputable def fnRun {R : Type} (P : Program) (Γ : FuncId -> Option Sum) (cuts : Cuts) (fn : Func) (n : Nat) (args : List AV) (ob : List O) (K : AV -> List O -> Option R) : Option R :=
 match fn.body with
 |some c => runI P Γ cuts ob.length (runO P Γ cuts ob.length (finish P fn ob.length K) n) (finish P fn ob.length K) 3000 [.code c] ⟨frm fn.ntmps args, ob⟩
 |none => none

/-! ### Where the cuts lie -/

def stackAt (id : Nat) : Code -> List Item -> Option (List Item)
 |.region i ops d, k => if i == id then some (.code (.region i ops d) :: k) else none
 |.seq a b, k => match stackAt id a (.code b :: k) with
  |some r => some r
  |none => stackAt id b k
 |.cond _ x y, k => match stackAt id x k with
  |some r => some r
  |none => stackAt id y k
 |.block i b, k => stackAt id b (.inBlock i :: k)
 |.scope b, k => stackAt id b (.inScope b :: k)
 |.loop b, k => stackAt id b (.inLoop b :: k)
 |_, _ => none

def at' (fn : Func) (id : Nat) : List Item := match fn.body with
 |some c => (stackAt id c []).getD []
 |none => []

def fr0 (n : Nat) (l : List (Nat × AV)) : List AV := (List.range n).map fun i => match l.find? (·.1 == i) with | some p => p.2 | none => .un

end Go.Ev
