/- Texts read by lists of pieces. -/
import Derived.Test.YtjjdadbbiciigaaGreatDoorPoEvImp
namespace Go.Ev
set_option linter.unusedVariables false
set_option linter.unusedSimpArgs false

abbrev Pc := ByteArray × (Int × (Int × Int))

def takeS (b : List Int) : List Pc -> Nat -> List Int -> Rd (Nat × List Int)
 |[], a, ns => .inr (a, ns)
 |p :: l, a, ns => if 0 < p.1.size then bindR (wantS (bts p.1) b a) fun c => takeS b l c ns else bindR (numbS p.2.1 p.2.2.1 p.2.2.2 b a) fun q => takeS b l q.2 (ns ++ [q.1])

theorem bindR_comp {α β γ : Type} (x : Rd α) (f : α -> Rd β) (g : β -> Rd γ) : bindR (bindR x f) g = bindR x fun a => bindR (f a) g := by
 cases x <;> rfl

theorem takeS_app (b : List Int) : ∀ (l m : List Pc) (a : Nat) (ns : List Int), takeS b (l ++ m) a ns = bindR (takeS b l a ns) fun q => takeS b m q.1 q.2
 |[], m, a, ns => rfl
 |p :: l, m, a, ns => by
  show (if 0 < p.1.size then _ else _) = _
  simp only [takeS]
  by_cases h : 0 < p.1.size
  ·rw [if_pos h, if_pos h, bindR_comp]
   congr 1
   funext c
   exact takeS_app b l m c ns
  ·rw [if_neg h, if_neg h, bindR_comp]
   congr 1
   funext q
   exact takeS_app b l m q.2 (ns ++ [q.1])

def numP (lo hi kd : Int) : Pc := (ByteArray.empty, (lo, (hi, kd)))
def spP : Pc := (ByteArray.mk #[32], (0, (0, 0)))
def nlP : Pc := (ByteArray.mk #[10], (0, (0, 0)))
def slP : Pc := (ByteArray.mk #[47], (0, (0, 0)))

def cellP (k O N : Int) (x : Nat) : List Pc :=
 if k = 1 then (if x = 0 then [numP 0 (O - 1) 33] else []) ++ [spP, numP 0 (N - 1) 32] else (if 0 < x then [spP] else []) ++ [numP 0 (N - 1) 32, slP, numP 0 (O - 1) 33]

def cellsP (k O N : Int) : Nat -> Nat -> List Pc
 |0, _ => []
 |d + 1, x => cellP k O N x ++ cellsP k O N d (x + 1)

theorem cellsP_len (k O N : Int) : ∀ d x : Nat, (cellsP k O N d x).length ≤ 4 * d
 |0, x => by simp [cellsP]
 |d + 1, x => by
  have := cellsP_len k O N d (x + 1)
  have h : (cellP k O N x).length ≤ 4 := by
   unfold cellP
   split <;> split <;> simp
  simp only [cellsP, List.length_append]
  omega

theorem take_sp (b : List Int) (l : List Pc) (a : Nat) (ns : List Int) : takeS b (spP :: l) a ns = bindR (wantS [32] b a) fun c => takeS b l c ns := rfl
theorem take_nl (b : List Int) (l : List Pc) (a : Nat) (ns : List Int) : takeS b (nlP :: l) a ns = bindR (wantS [10] b a) fun c => takeS b l c ns := rfl
theorem take_sl (b : List Int) (l : List Pc) (a : Nat) (ns : List Int) : takeS b (slP :: l) a ns = bindR (wantS [47] b a) fun c => takeS b l c ns := rfl
theorem take_num (b : List Int) (lo hi kd : Int) (l : List Pc) (a : Nat) (ns : List Int) : takeS b (numP lo hi kd :: l) a ns = bindR (numbS lo hi kd b a) fun q => takeS b l q.2 (ns ++ [q.1]) := rfl
theorem take_nil (b : List Int) (a : Nat) (ns : List Int) : takeS b [] a ns = .inr (a, ns) := rfl

def mapR {α β : Type} (f : α -> β) (x : Rd α) : Rd β := bindR x fun a => .inr (f a)

def evens : List Int -> List Int
 |[] => []
 |[x] => [x]
 |x :: _ :: l => x :: evens l
def odds : List Int -> List Int
 |[] => []
 |[_] => []
 |_ :: y :: l => y :: odds l

theorem evens_two : ∀ (l : List Int) (x y : Int), l.length % 2 = 0 -> evens (l ++ [x, y]) = evens l ++ [x] ∧ odds (l ++ [x, y]) = odds l ++ [y]
 |[], x, y, _ => ⟨rfl, rfl⟩
 |[z], x, y, h => by simp at h
 |z :: w :: l, x, y, h => by
  obtain ⟨h1, h2⟩ := evens_two l x y (by simp at h; omega)
  constructor
  ·show z :: evens (l ++ [x, y]) = _
   rw [h1]; rfl
  ·show w :: odds (l ++ [x, y]) = _
   rw [h2]; rfl

theorem cells_take2 {k O N : Int} {b : List Int} (hk : k = 2) (n0 o0 : List Int) : ∀ (d x a : Nat) (ns : List Int), ns.length % 2 = 0 →
  mapR (fun q => (q.1, n0 ++ evens q.2, o0 ++ odds q.2)) (takeS b (cellsP k O N d x) a ns) = cellsS k O N b d x a (n0 ++ evens ns) (o0 ++ odds ns)
 |0, x, a, ns, h => rfl
 |d + 1, x, a, ns, h => by
  have ih := cells_take2 (O := O) (N := N) (b := b) hk n0 o0 d (x + 1)
  simp only [cellsP, cellsS]
  rw [takeS_app]
  unfold mapR at ih ⊢
  rw [bindR_comp]
  unfold cellP cellS
  rw [if_neg (show ¬ k = 1 by omega)]
  have step : ∀ a1, bindR (takeS b [numP 0 (N - 1) 32, slP, numP 0 (O - 1) 33] a1 ns) (fun q => bindR (takeS b (cellsP k O N d (x + 1)) q.1 q.2) fun q => .inr (q.1, n0 ++ evens q.2, o0 ++ odds q.2)) =
    bindR (bindR (numbS 0 (N - 1) 32 b a1) fun q => if k = 2 then bindR (wantS [47] b q.2) fun a2 => bindR (numbS 0 (O - 1) 33 b a2) fun p => .inr (p.2, n0 ++ evens ns ++ [q.1], o0 ++ odds ns ++ [p.1]) else .inr (q.2, n0 ++ evens ns ++ [q.1], o0 ++ odds ns)) fun q => cellsS k O N b d (x + 1) q.1 q.2.1 q.2.2 := by
   intro a1
   simp only [take_num, take_sl, take_nil, bindR_comp]
   congr 1
   funext q
   rw [if_pos hk]
   simp only [bindR_comp]
   congr 1
   funext a2
   congr 1
   funext p
   simp only [bindR_inr]
   rw [ih p.2 (ns ++ [q.1] ++ [p.1]) (by simp; omega)]
   obtain ⟨e1, e2⟩ := evens_two ns q.1 p.1 h
   rw [List.append_assoc ns, show ([q.1] ++ [p.1] : List Int) = [q.1, p.1] from rfl, e1, e2, List.append_assoc, List.append_assoc]
  by_cases hx : 0 < x
  ·rw [if_pos hx, if_pos (.inl hx)]
   show bindR (takeS b (spP :: [numP 0 (N - 1) 32, slP, numP 0 (O - 1) 33]) a ns) _ = _
   rw [take_sp, bindR_comp, bindR_comp]
   congr 1
   funext a1
   exact step a1
  ·rw [if_neg hx, if_neg (by omega)]
   exact step a

theorem cells_take1 {k O N : Int} {b : List Int} (hk : k = 1) (n0 ou : List Int) : ∀ (d x a : Nat) (n : Int) (ns : List Int), 0 < x →
  mapR (fun q => (q.1, n0 ++ q.2.tail, ou)) (takeS b (cellsP k O N d x) a (n :: ns)) = cellsS k O N b d x a (n0 ++ ns) ou
 |0, x, a, n, ns, h => rfl
 |d + 1, x, a, n, ns, h => by
  have ih := cells_take1 (O := O) (N := N) (b := b) hk n0 ou d (x + 1)
  simp only [cellsP, cellsS]
  rw [takeS_app]
  unfold mapR at ih ⊢
  rw [bindR_comp]
  unfold cellP cellS
  rw [if_pos hk, if_neg (by omega), if_pos (.inl h), List.nil_append, take_sp]
  simp only [take_num, take_nil, bindR_comp]
  congr 1
  funext a1
  congr 1
  funext q
  rw [if_neg (by omega)]
  simp only [bindR_inr]
  rw [List.cons_append, ih q.2 n (ns ++ [q.1]) (by omega), List.append_assoc]

def rowP (k K O N : Int) : List Pc := cellsP k O N K.toNat 0 ++ [nlP]

def dealS (k : Int) (n0 o0 ns : List Int) : List Int × List Int := if k = 1 then (n0 ++ ns.tail, o0 ++ [ns.getD 0 0]) else (n0 ++ evens ns, o0 ++ odds ns)

theorem row_take {k K O N : Int} {b : List Int} {a : Nat} {n0 o0 : List Int} (hk : k = 1 ∨ k = 2) (hK : 1 ≤ K) (hO : k = 1 -> O = 2) :
  rowS k K O N b a n0 o0 = bindR (takeS b (rowP k K O N) a []) fun q => .inr (q.1, (dealS k n0 o0 q.2).1, (dealS k n0 o0 q.2).2) := by
 unfold rowS rowP leadS
 rw [takeS_app]
 simp only [take_nl, take_nil, bindR_comp, bindR_inr]
 rcases hk with c | c
 ·obtain ⟨d, hd⟩ : ∃ d, K.toNat = d + 1 := ⟨K.toNat - 1, by omega⟩
  rw [if_pos c, bindR_comp, hd, hO c]
  simp only [cellsP, cellsS, bindR_inr]
  rw [takeS_app]
  unfold cellP cellS
  rw [if_pos c, if_pos rfl]
  simp only [List.cons_append, List.nil_append, take_num, take_sp, take_nil, bindR_comp, bindR_inr]
  congr 1
  funext o
  rw [if_pos (show 0 < 0 ∨ k = 1 from .inr c)]
  congr 1
  funext a1
  congr 1
  funext q
  rw [if_neg (show ¬ k = 2 by omega), bindR_inr]
  have e := cells_take1 (O := 2) (N := N) (b := b) c n0 (o0 ++ [o.1]) d (0 + 1) q.2 o.1 [q.1] (by omega)
  simp only
  rw [← e]
  unfold mapR
  rw [bindR_comp]
  simp only [bindR_inr]
  -- the first number stays in front
  have hd1 : ∀ (l : List Pc) (a : Nat) (n : Int) (ns : List Int) (r : Nat × List Int), takeS b l a (n :: ns) = .inr r -> r.2.getD 0 0 = n := by
   intro l
   induction l with
   |nil =>
    intro a n ns r h
    obtain rfl := Sum.inr.inj h
    rfl
   |cons p l ih =>
    intro a n ns r h
    simp only [takeS] at h
    by_cases hp : 0 < p.1.size
    ·rw [if_pos hp] at h
     obtain ⟨c, _, h⟩ := bindR_ok h
     exact ih c n ns r h
    ·rw [if_neg hp] at h
     obtain ⟨c, _, h⟩ := bindR_ok h
     exact ih c.2 n (ns ++ [c.1]) r h
  cases ht : takeS b (cellsP k 2 N d (0 + 1)) q.2 [o.1, q.1] with
  |inl e => rfl
  |inr r =>
   have := hd1 _ _ _ _ _ ht
   simp only [bindR_inr]
   congr 1
   funext a2
   unfold dealS
   rw [if_pos c, this]
 ·rw [if_neg (by omega), bindR_inr]
  have e := cells_take2 (O := O) (N := N) (b := b) c n0 o0 K.toNat 0 a [] rfl
  simp only [evens, odds, List.append_nil] at e
  simp only
  rw [← e]
  unfold mapR
  rw [bindR_comp]
  simp only [bindR_inr]
  congr 1
  funext r
  congr 1
  funext a2
  unfold dealS
  rw [if_neg (by omega)]

end Go.Ev
