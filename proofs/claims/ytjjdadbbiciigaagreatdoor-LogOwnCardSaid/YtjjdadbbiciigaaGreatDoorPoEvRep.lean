/- What the abstract values, objects and states say of the machine's. -/
import Derived.Test.YtjjdadbbiciigaaGreatDoorPoEvOwn
namespace Go.Ev
set_option linter.unusedVariables false
set_option linter.unusedSimpArgs false

def O.live : O -> Bool
 |.box _ _ => true
 |.row _ => true
 |.nst _ => true
 |.grn _ _ _ _ _ => true
 |.fst _ _ => true
 |_ => false

def O.rowish : O -> Bool
 |.row _ => true
 |.nst _ => true
 |.grn _ _ _ _ _ => true
 |.fst _ _ => true
 |_ => false

theorem O.live_of_rowish {o : O} (h : o.rowish = true) : o.live = true := by
 cases o <;> simp_all [O.rowish, O.live]

def blk1 : Value -> Option Nat
 |.slice (some a) _ _ => some a.block
 |.pointer (some a) => some a.block
 |.map (some r) => some r
 |_ => none

def blk : Value -> Nat -> Prop
 |.tuple vs, b => ∃ u ∈ vs.toList, blk1 u = some b
 |x, b => blk1 x = some b

class TabG where
 blk : Nat -> Option Obj

structure Cx where
 w0 : World
 rho : Nat -> Prop
 pb : Nat -> Prop
 b0 : List Value
 disj : ∀ b, rho b -> ¬ pb b

def LiveB (β : List Value) (ob : List O) (b : Nat) : Prop :=
 ∃ (i : Nat) (o : O) (x : Value), ob[i]? = some o ∧ o.live = true ∧ β[i]? = some x ∧ blk x b

def okB (cx : Cx) (β : List Value) (ob : List O) (fl : Bool) (b : Nat) : Prop :=
 ¬ LiveB β ob b ∧ (cx.w0.heap.size ≤ b ∨ (fl = false ∧ (cx.rho b ∨ cx.pb b)))

def RowAt (w : World) (ok : Nat -> Prop) (sz n : Nat) (A : Option Addr) (C : Nat -> List Value -> Prop) : Prop :=
 0 < n -> ∃ a, A = some a ∧ ok a.block ∧ ∀ j, j < n -> ∃ cs, C j cs ∧ ∀ (k : Nat) (u : Value), cs[k]? = some u -> w.cell? (a.add (j * sz + k)) = some u

def Cel (w : World) (ok : Nat -> Prop) : (t : Ty) -> t.S -> List Value -> Prop
 |.int k, n, cs => cs = [.int k n]
 |.bool, b, cs => cs = [.bool b]
 |.str, s, cs => cs = [.string s]
 |.sl _ t, xs, cs => ∃ A c, cs = [.slice A xs.length c] ∧ xs.length ≤ c ∧ RowAt w ok t.sz xs.length A (fun j cs => ∃ x, xs[j]? = some x ∧ Cel w ok t x cs)
 |.pr a b, x, cs => ∃ c1 c2, cs = c1 ++ c2 ∧ Cel w ok a x.1 c1 ∧ Cel w ok b x.2 c2

abbrev RowR (w : World) (ok : Nat -> Prop) (t : Ty) (xs : List t.S) (A : Option Addr) : Prop :=
 RowAt w ok t.sz xs.length A (fun j cs => ∃ x, xs[j]? = some x ∧ Cel w ok t x cs)

theorem Ty.sz_pos : ∀ t : Ty, 0 < t.sz
 |.int _ => Nat.one_pos
 |.bool => Nat.one_pos
 |.str => Nat.one_pos
 |.sl _ _ => Nat.one_pos
 |.pr a b => Nat.add_pos_left a.sz_pos _

theorem Cel.len {w : World} {ok : Nat -> Prop} : ∀ {t : Ty} {x : t.S} {cs : List Value}, Cel w ok t x cs -> cs.length = t.sz
 |.int _, _, _, h => by rw [h]; rfl
 |.bool, _, _, h => by rw [h]; rfl
 |.str, _, _, h => by rw [h]; rfl
 |.sl _ _, _, _, ⟨_, _, h, _⟩ => by rw [h]; rfl
 |.pr _ _, _, _, ⟨_, _, h, h1, h2⟩ => by rw [h, List.length_append, h1.len, h2.len]; rfl

theorem Cel.one {w : World} {ok : Nat -> Prop} : ∀ {t : Ty} {x : t.S} {cs : List Value}, Cel w ok t x cs -> ∀ u ∈ cs, u.oneCell' = true
 |.int _, _, _, h => by rw [h]; intro u hu; rw [List.mem_singleton.1 hu]; rfl
 |.bool, _, _, h => by rw [h]; intro u hu; rw [List.mem_singleton.1 hu]; rfl
 |.str, _, _, h => by rw [h]; intro u hu; rw [List.mem_singleton.1 hu]; rfl
 |.sl _ _, _, _, ⟨_, _, h, _⟩ => by rw [h]; intro u hu; rw [List.mem_singleton.1 hu]; rfl
 |.pr _ _, _, _, ⟨_, _, h, h1, h2⟩ => by
  rw [h]
  intro u hu
  rcases List.mem_append.1 hu with hu | hu
  ·exact h1.one u hu
  ·exact h2.one u hu

theorem add_block (a : Addr) (n : Nat) : (a.add n).block = a.block := by unfold Addr.add; split <;> rfl
theorem add_add (a : Addr) (m n : Nat) : (a.add m).add n = a.add (m + n) := by
 unfold Addr.add
 by_cases hn : n = 0
 ·simp [hn]
 ·by_cases hm : m = 0
  ·simp [hm, hn]
  ·simp [hm, hn, Nat.add_assoc]

theorem RowAt.mono {w w' : World} {ok ok' : Nat -> Prop} {sz n : Nat} {A : Option Addr} {C C' : Nat -> List Value -> Prop}
  (hm : ∀ b, ok b -> b < w.heap.size -> ok' b ∧ w'.heap[b]? = w.heap[b]?) (hC : ∀ j cs, C j cs -> C' j cs) (hlen : ∀ j cs, C j cs -> 0 < cs.length)
  (h : RowAt w ok sz n A C) : RowAt w' ok' sz n A C' := by
 intro hn
 obtain ⟨a, hA, hok, hc⟩ := h hn
 obtain ⟨cs, hcs, hcell⟩ := hc 0 hn
 have hlt : a.block < w.heap.size := by
  have hp := hlen 0 cs hcs
  have := World.block_lt_of_cell? w _ (hcell 0 (cs[0]'hp) (List.getElem?_eq_getElem hp))
  rwa [add_block] at this
 obtain ⟨hok', heq⟩ := hm a.block hok hlt
 refine ⟨a, hA, hok', fun j hj => ?_⟩
 obtain ⟨cs, hcs, hcell⟩ := hc j hj
 refine ⟨cs, hC j cs hcs, fun k u hu => ?_⟩
 rw [← hcell k u hu]
 exact World.cell?_of_block (by rw [add_block]; exact heq)

theorem Cel.mono {w w' : World} {ok ok' : Nat -> Prop} (hm : ∀ b, ok b -> b < w.heap.size -> ok' b ∧ w'.heap[b]? = w.heap[b]?) :
  ∀ {t : Ty} {x : t.S} {cs : List Value}, Cel w ok t x cs -> Cel w' ok' t x cs
 |.int _, _, _, h => h
 |.bool, _, _, h => h
 |.str, _, _, h => h
 |.sl _ t, _, _, ⟨A, c, h1, h2, h3⟩ => ⟨A, c, h1, h2, h3.mono hm (fun _ _ ⟨x, hx, hc⟩ => ⟨x, hx, hc.mono hm⟩) (fun _ _ ⟨_, _, hc⟩ => by rw [hc.len]; exact t.sz_pos)⟩
 |.pr _ _, _, _, ⟨c1, c2, h, h1, h2⟩ => ⟨c1, c2, h, h1.mono hm, h2.mono hm⟩

theorem Cel.of_flat {w w' : World} {ok ok' : Nat -> Prop} : ∀ {t : Ty} {x : t.S} {cs : List Value}, t.flat = true -> Cel w ok t x cs -> Cel w' ok' t x cs
 |.int _, _, _, _, h => h
 |.bool, _, _, _, h => h
 |.str, _, _, _, h => h
 |.sl _ _, _, _, hf, _ => by cases hf
 |.pr _ _, _, _, hf, ⟨c1, c2, h, h1, h2⟩ => by
  have hf := Bool.and_eq_true_iff.1 hf
  exact ⟨c1, c2, h, h1.of_flat hf.1, h2.of_flat hf.2⟩

theorem RowR.mono {w w' : World} {ok ok' : Nat -> Prop} (hm : ∀ b, ok b -> b < w.heap.size -> ok' b ∧ w'.heap[b]? = w.heap[b]?) {t : Ty} {xs : List t.S} {A : Option Addr}
  (h : RowR w ok t xs A) : RowR w' ok' t xs A :=
 RowAt.mono hm (fun _ _ ⟨x, hx, hc⟩ => ⟨x, hx, hc.mono hm⟩) (fun _ _ ⟨_, _, hc⟩ => by rw [hc.len]; exact t.sz_pos) h

inductive RepV (w : World) (ok : Bool -> Nat -> Prop) (β : List Value) : AV -> Value -> Prop
 |un (x : Value) : RepV w ok β .un x
 |v (x : Value) : RepV w ok β (.v x) x
 |agg (l : List AV) (vs : List Value) (hl : l.length = vs.length) (h : ∀ (i : Nat) (x : AV) (y : Value), l[i]? = some x -> vs[i]? = some y -> RepV w ok β x y) : RepV w ok β (.agg l) (.agg vs.toArray)
 |tup (l : List AV) (vs : List Value) (hl : l.length = vs.length) (h : ∀ (i : Nat) (x : AV) (y : Value), l[i]? = some x -> vs[i]? = some y -> RepV w ok β x y) : RepV w ok β (.tup l) (.tuple vs.toArray)
 |rd (s : Sq) (A : Option Addr) (c : Nat) (hc : s.xs.length ≤ c) (h : RowR w (ok s.fl) s.t s.xs A) : RepV w ok β (.rd s) (.slice A s.xs.length c)
 |own (i : Nat) (x : Value) (h : β[i]? = some x) : RepV w ok β (.own i) x
 |view (i z lo n : Nat) (A0 : Option Addr) (L c0 : Nat) (A : Option Addr) (h : β[i]? = some (.slice A0 L c0)) (hn : lo + n ≤ L) (hL : L ≤ c0)
   (hA : A = A0.map (·.add (lo * z)) ∨ (c0 = lo ∧ 0 < lo)) : RepV w ok β (.view i z lo n) (.slice A n (c0 - lo))
 |ptr (i o g : Nat) (h : β[i]? = some (.pointer (some ⟨g, 0, none⟩))) : RepV w ok β (.ptr i o) (.pointer (some ⟨g, o, none⟩))
 |pel (s : Sq) (j k : Nat) (a : Addr) (hj : j < s.xs.length) (h : RowR w (ok s.fl) s.t s.xs (some a)) : RepV w ok β (.pel s j k) (.pointer (some (a.add (j * s.t.sz + k))))
 |poe (i z j k g n c : Nat) (hj : j < n) (h : β[i]? = some (.slice (some ⟨g, 0, none⟩) n c)) : RepV w ok β (.poe i z j k) (.pointer (some ⟨g, j * z + k, none⟩))
 |clo (f : FuncId) (l : List AV) (vs : List Value) (hl : l.length = vs.length) (h : ∀ (i : Nat) (x : AV) (y : Value), l[i]? = some x -> vs[i]? = some y -> RepV w ok β x y) : RepV w ok β (.clo f l) (.func (.func f) #[] vs.toArray)
 |ifc (t : TypeId) (x : AV) (y : Value) (h : RepV w ok β x y) : RepV w ok β (.ifc t x) (.iface t y)
 |nst (i : Nat) (x : Value) (vs : List Value) (h : β[i]? = some (.tuple (x :: vs).toArray)) : RepV w ok β (.nst i) x
 |pns (i j : Nat) (g off n c : Nat) (vs : List Value) (h : β[i]? = some (.tuple (.slice (some ⟨g, off, none⟩) n c :: vs).toArray)) (hj : j < n) : RepV w ok β (.pns i j) (.pointer (some ⟨g, off + j, none⟩))
 |inn (i j : Nat) (x y : Value) (vs : List Value) (h : β[i]? = some (.tuple (y :: vs).toArray)) (hj : vs[j]? = some x) : RepV w ok β (.inn i j) x
 |pin (i j z k o : Nat) (g n c : Nat) (y : Value) (vs : List Value) (h : β[i]? = some (.tuple (y :: vs).toArray)) (hj : vs[j]? = some (.slice (some ⟨g, 0, none⟩) n c)) (hk : k < n) :
   RepV w ok β (.pin i j z k o) (.pointer (some ⟨g, k * z + o, none⟩))
 |grn (i : Nat) (A : Option Addr) (n c : Nat) (h : β[i]? = some (.slice A n c) ∨ β[i]? = some (.agg #[.slice A n c])) : RepV w ok β (.grn i) (.slice A n c)
 |pfs (i z j o : Nat) (g n c : Nat) (vs : List Value) (h : β[i]? = some (.tuple (.slice (some ⟨g, 0, none⟩) n c :: vs).toArray)) (hj : j < n) : RepV w ok β (.pfs i z j o) (.pointer (some ⟨g, j * z + o, none⟩))
 |fin (i j nr r : Nat) (A : Option Addr) (n c : Nat) (y : Value) (vs : List Value) (h : β[i]? = some (.tuple (y :: vs).toArray)) (hj : vs[j * nr + r]? = some (.slice A n c)) : RepV w ok β (.fin i j nr r) (.slice A n c)
 |bnd (f : FuncId) (l : List AV) (vs : List Value) (hl : l.length = vs.length) (h : ∀ (i : Nat) (x : AV) (y : Value), l[i]? = some x -> vs[i]? = some y -> RepV w ok β x y) : RepV w ok β (.bnd f l) (.func (.func f) vs.toArray #[])
 |pbk (i o : Nat) (k : IntKind) (n j g : Nat) (h : β[i]? = some (.pointer (some ⟨g, 0, none⟩))) (hj : j < n) : RepV w ok β (.pbk i o k n j) (.pointer (some ⟨g, o + j, none⟩))
 |cel (x : Value) (h : x.oneCell' = true) : RepV w ok β .cel x

def RepL (w : World) (ok : Bool -> Nat -> Prop) (β : List Value) (l : List AV) (vs : List Value) : Prop :=
 l.length = vs.length ∧ ∀ (i : Nat) (x : AV) (y : Value), l[i]? = some x -> vs[i]? = some y -> RepV w ok β x y

theorem RepV.mono {w w' : World} {ok ok' : Bool -> Nat -> Prop} {β β' : List Value} (hm : ∀ fl b, ok fl b -> b < w.heap.size -> ok' fl b ∧ w'.heap[b]? = w.heap[b]?)
  (hβ : ∀ (i : Nat) (x : Value), β[i]? = some x -> β'[i]? = some x) {x : AV} {y : Value} (h : RepV w ok β x y) : RepV w' ok' β' x y := by
 induction h with
 |un x => exact .un x
 |v x => exact .v x
 |agg l vs hl _ ih => exact .agg l vs hl ih
 |tup l vs hl _ ih => exact .tup l vs hl ih
 |rd s A c hc h => exact .rd s A c hc (h.mono (hm s.fl))
 |own i x h => exact .own i x (hβ i x h)
 |view i z lo n A0 L c0 A h hn hL hA => exact .view i z lo n A0 L c0 A (hβ _ _ h) hn hL hA
 |ptr i o g h => exact .ptr i o g (hβ _ _ h)
 |pel s j k a hj h => exact .pel s j k a hj (h.mono (hm s.fl))
 |poe i z j k g n c hj h => exact .poe i z j k g n c hj (hβ _ _ h)
 |clo f l vs hl _ ih => exact .clo f l vs hl ih
 |ifc t x y _ ih => exact .ifc t x y ih
 |nst i x vs h => exact .nst i x vs (hβ _ _ h)
 |pns i j g off n c vs h hj => exact .pns i j g off n c vs (hβ _ _ h) hj
 |inn i j x y vs h hj => exact .inn i j x y vs (hβ _ _ h) hj
 |pin i j z k o g n c y vs h hj hk => exact .pin i j z k o g n c y vs (hβ _ _ h) hj hk
 |grn i A n c h => exact .grn i A n c (h.imp (hβ _ _) (hβ _ _))
 |pfs i z j o g n c vs h hj => exact .pfs i z j o g n c vs (hβ _ _ h) hj
 |fin i j nr r A n c y vs h hj => exact .fin i j nr r A n c y vs (hβ _ _ h) hj
 |bnd f l vs hl _ ih => exact .bnd f l vs hl ih
 |pbk i o k n j g h hj => exact .pbk i o k n j g (hβ _ _ h) hj
 |cel x h => exact .cel x h

theorem RepL.mono {w w' : World} {ok ok' : Bool -> Nat -> Prop} {β β' : List Value} (hm : ∀ fl b, ok fl b -> b < w.heap.size -> ok' fl b ∧ w'.heap[b]? = w.heap[b]?)
  (hβ : ∀ (i : Nat) (x : Value), β[i]? = some x -> β'[i]? = some x) {l : List AV} {vs : List Value} (h : RepL w ok β l vs) : RepL w' ok' β' l vs :=
 ⟨h.1, fun i x y hx hy => (h.2 i x y hx hy).mono hm hβ⟩

def OwnEl (w : World) (s : Sq) (x : Value) : Prop :=
 ∃ cells, ownsM w s.e s.t.sz x s.xs.length cells ∧ ∀ (j : Nat) (y : s.t.S), s.xs[j]? = some y -> ∃ cs, Cel w (fun _ => True) s.t y cs ∧ ∀ (k : Nat) (u : Value), cs[k]? = some u -> cells[j * s.t.sz + k]? = some u

def Inner (w : World) (s : Sq) (vs : List Value) : Prop :=
 ∀ (j : Nat) (u : Value), vs[j]? = some u -> ∃ q, s.inn j = some q ∧ q.t.flat = true ∧ OwnEl w q u

def CelO (w : World) : (t : Ty) -> t.S -> List Value -> List Value -> Prop
 |.int k, n, cs, us => cs = [.int k n] ∧ us = []
 |.bool, b, cs, us => cs = [.bool b] ∧ us = []
 |.str, s, cs, us => cs = [.string s] ∧ us = []
 |.sl e t, xs, cs, us => t.flat = true ∧ ∃ u, cs = [u] ∧ us = [u] ∧ OwnEl w ⟨true, e, t, xs⟩ u
 |.pr a b, x, cs, us => ∃ c1 c2 u1 u2, cs = c1 ++ c2 ∧ us = u1 ++ u2 ∧ CelO w a x.1 c1 u1 ∧ CelO w b x.2 c2 u2

def Dist (l : List Value) : Prop := ∀ (i j : Nat) (u v : Value) (b : Nat), l[i]? = some u -> l[j]? = some v -> blk1 u = some b -> blk1 v = some b -> i = j

def Owns (w : World) (vs : List Value) : Prop := ∀ u ∈ vs, ∃ q : Sq, q.t.flat = true ∧ OwnEl w q u

def RepO (cx : Cx) (w : World) (ok : Bool -> Nat -> Prop) (β : List Value) : O -> Value -> Prop
 |.box ty cs, x => ∃ (g : Nat) (vs : List Value), x = .pointer (some ⟨g, 0, none⟩) ∧ w.heap[g]? = some (.cells vs.toArray ty (0, 0)) ∧ RepL w ok β cs vs
 |.row s, x => ∃ cells, ownsM w s.e s.t.sz x s.xs.length cells ∧ (s.fl = true -> ∀ b, blk x b -> cx.w0.heap.size ≤ b) ∧
   ∀ j y, s.xs[j]? = some y -> ∃ cs, Cel w (ok s.fl) s.t y cs ∧ ∀ (k : Nat) (u : Value), cs[k]? = some u -> cells[j * s.t.sz + k]? = some u
 |.frz s, x => ∃ A c, x = .slice A s.xs.length c ∧ s.xs.length ≤ c ∧ RowR w (ok s.fl) s.t s.xs A
 |.gone, _ => True
 |.nst s, x => ∃ (y : Value) (vs : List Value), x = .tuple (y :: vs).toArray ∧ vs.length = s.xs.length ∧ s.t.sz = 1 ∧ ownsOff w s.e y vs ∧ Inner w s vs ∧ (s.fl = true -> ∀ b, blk x b -> cx.w0.heap.size ≤ b) ∧
   (∀ (i j : Nat) (u v : Value) (b : Nat), (y :: vs)[i]? = some u -> (y :: vs)[j]? = some v -> blk1 u = some b -> blk1 v = some b -> i = j)
 |.frn s, x => ∃ (y : Value) (vs : List Value) (A : Option Addr) (c : Nat), x = .tuple (y :: vs).toArray ∧ y = .slice A s.xs.length c ∧ s.xs.length ≤ c ∧ RowR w (ok s.fl) s.t s.xs A
 |.fst s n, x => ∃ (y : Value) (vs cells : List Value), x = .tuple (y :: vs).toArray ∧ ownsM w s.e s.t.sz y s.xs.length cells ∧ vs.length = s.xs.length * s.t.nr ∧ Owns w vs ∧
   (∀ (j : Nat) (el : s.t.S), s.xs[j]? = some el -> n ≤ j -> CelO w s.t el ((cells.drop (j * s.t.sz)).take s.t.sz) ((vs.drop (j * s.t.nr)).take s.t.nr)) ∧ (s.fl = true -> ∀ b, blk x b -> cx.w0.heap.size ≤ b) ∧ Dist (y :: vs)
 |.grn i j e z m, x => (∃ cells, ownsM w e z x m cells) ∨
   ∃ (A : Option Addr) (c n : Nat) (y : Value) (vs : List Value), x = .agg #[.slice A m c] ∧ β[i]? = some (.tuple (y :: vs).toArray) ∧ vs[j]? = some (.slice A n c) ∧ n ≤ m ∧ m ≤ c

structure WRep [TabG] (cx : Cx) (β : List Value) (ob : List O) (w : World) : Prop where
 hs : cx.w0.heap.size ≤ w.heap.size
 keep : ∀ b, b < cx.w0.heap.size -> ¬ cx.pb b -> w.heap[b]? = cx.w0.heap[b]?
 os : w.os = cx.w0.os
 tape : w.tape = cx.w0.tape
 out : w.output = cx.w0.output
 len : β.length = ob.length
 pre : ∀ (i : Nat) (x : Value), cx.b0[i]? = some x -> β[i]? = some x
 obj : ∀ (i : Nat) (o : O) (x : Value), ob[i]? = some o -> β[i]? = some x -> RepO cx w (okB cx β ob) β o x
 sep : ∀ (i j : Nat) (o o' : O) (x y : Value) (b : Nat), ob[i]? = some o -> ob[j]? = some o' -> o.live = true -> o'.live = true -> β[i]? = some x -> β[j]? = some y -> blk x b -> blk y b -> i = j
 own : ∀ (i : Nat) (o : O) (x : Value) (b : Nat), ob[i]? = some o -> o.live = true -> β[i]? = some x -> blk x b -> cx.pb b ∨ cx.w0.heap.size ≤ b
 tab : ∀ b o, TabG.blk b = some o -> b < cx.w0.heap.size ∧ ¬ cx.pb b ∧ cx.w0.heap[b]? = some o

structure ARep (w : World) (ok : Bool -> Nat -> Prop) (β : List Value) (fr : List AV) (a : Act) : Prop where
 len : fr.length = a.tmps.size
 rep : ∀ (i : Nat) (x : AV), fr[i]? = some x -> RepV w ok β x (a.tmps.getD i undef)
 def_ : a.defers = []

end Go.Ev
