/- Each operation of the abstract machine is one of the machine's: stores, makes, literals. -/
import Derived.Test.YtjjdadbbiciigaaGreatDoorPoEvOps4
namespace Go.Ev
set_option linter.unusedVariables false
set_option linter.unusedSimpArgs false
set_option linter.unusedSectionVars false
variable [tG : TabG]

variable {P : Program} {R : Type} {cx : Cx} {β β' : List Value} {ob ob' : List O} {w w' : World} {σ σ' : St} {a a' : Act}
variable {o : Oper} {K : AV -> St -> Option R} {r : R} {Q : Exit -> Act -> World -> Prop} {Γ : FuncId -> Option Sum}

theorem get_splice {α : Type} (l m : List α) (p i : Nat) (h : p + m.length ≤ l.length) : (l.take p ++ m ++ l.drop (p + m.length))[i]? = if i < p then l[i]? else if i < p + m.length then m[i - p]? else l[i]? := by
 have hp : (l.take p).length = p := by rw [List.length_take]; omega
 rw [List.append_assoc, List.getElem?_append, hp]
 split
 ·rename_i hi
  rw [List.getElem?_take, if_pos hi]
 ·rename_i hi
  rw [List.getElem?_append]
  by_cases h2 : i - p < m.length
  ·rw [if_pos h2, if_pos (by omega)]
  ·rw [if_neg h2, if_neg (by omega), List.getElem?_drop]
   congr 1
   omega

theorem take_splice {α : Type} (l m : List α) (p n : Nat) (h : p + m.length ≤ n) (hn : n ≤ l.length) : (l.take p ++ m ++ l.drop (p + m.length)).take n = (l.take n).take p ++ m ++ (l.take n).drop (p + m.length) := by
 apply List.ext_getElem?
 intro i
 rw [List.getElem?_take, get_splice _ _ _ _ (by omega), get_splice _ _ _ _ (by rw [List.length_take]; omega), List.getElem?_take]
 by_cases hi : i < n
 ·simp [hi]
 ·rw [if_neg hi, if_neg (by omega), if_neg (by omega), if_neg hi]

theorem RepL.splice {ok : Bool -> Nat -> Prop} {l m : List AV} {vs us : List Value} (h : RepL w ok β l vs) (k : RepL w ok β m us) (p : Nat) (hp : p + m.length ≤ l.length) :
  RepL w ok β (Ev.splice l p m) (vs.take p ++ us ++ vs.drop (p + us.length)) := by
 have hp' : p + us.length ≤ vs.length := by rw [← h.1, ← k.1]; exact hp
 refine ⟨by simp [Ev.splice, h.1, k.1], fun i x y hx hy => ?_⟩
 unfold Ev.splice at hx
 rw [get_splice _ _ _ _ hp] at hx
 rw [get_splice _ _ _ _ hp'] at hy
 rw [← k.1] at hy
 split at hx
 ·rename_i hi
  rw [if_pos hi] at hy
  exact h.2 i x y hx hy
 ·rename_i hi
  rw [if_neg hi] at hy
  split at hx
  ·rename_i h2
   rw [if_pos h2] at hy
   exact k.2 _ x y hx hy
  ·rename_i h2
   rw [if_neg h2] at hy
   exact h.2 i x y hx hy

theorem run_storeVar {t : TypeId} {g p : Nat} {e : TypeId} {cur : Array Value} {v : Value} (hg : Ev.Blk w g cur e) (hs : sizeT P t = some v.cells.toList.length) (hfit : p + v.cells.toList.length ≤ cur.size)
  (h1 : ∀ u ∈ v.cells.toList, u.oneCell' = true) :
  (storeVar t ⟨g, p, none⟩ v).run P w = .ok () (w.setRow g (cur.toList.take p ++ v.cells.toList ++ cur.toList.drop (p + v.cells.toList.length)).toArray) := by
 have h := run_storeBlk (P := P) g p e v.cells.toList 0 cur w hg (by simpa using hfit) h1
 have hz := run_sizeT hs w
 simp only [Nat.add_zero] at h
 simp [storeVar, Sem.run_bind, hz]
 simpa using h

theorem setRow_other' (w : World) (g b : Nat) (cs : Array Value) (h : b ≠ g) : (w.setRow g cs).heap[b]? = w.heap[b]? := setRow_other w g b cs h

theorem Eff.store {g : Nat} (hl : LiveB β ob g) (cs : Array Value) (lvl : Nat) : Eff (lvl + 2) β ob w (w.setRow g cs) :=
 ⟨by simp, fun b hb ht => setRow_other w g b cs fun e => ht (by subst e; exact hl)⟩

theorem upd_eq {s s' : Sq} {j o : Nat} {cs : List AV} (h : upd ob s j o cs = some s') : ∃ x, unre ob s.t (splice (rei s.fl s.t (s.xs.getD j s.t.dflt)) o cs) = some x ∧ s' = ⟨s.fl && x.1, s.e, s.t, s.xs.set j x.2⟩ := by
 unfold upd at h
 split at h
 ·rename_i x hx
  exact ⟨x, hx, (Option.some.inj h).symm⟩
 ·cases h

theorem store_row (hW : WRep cx β ob w) {i : Nat} {s s' : Sq} {gg n c : Nat} (hob : ob[i]? = some (.row s)) (hb : β[i]? = some (.slice (some ⟨gg, 0, none⟩) n c)) {j k : Nat} (hj : j < n) {vs : List AV} {us : List Value}
  (hr : RepL w (okB cx β ob) β vs us) (hk : k + vs.length ≤ s.t.sz) (hup : upd ob s j k vs = some s') :
  ∃ cur, Ev.Blk w gg cur s.e ∧ j * s.t.sz + k + us.length ≤ cur.size ∧
   WRep cx β (ob.set i (.row s')) (w.setRow gg (cur.toList.take (j * s.t.sz + k) ++ us ++ cur.toList.drop (j * s.t.sz + k + us.length)).toArray) := by
 obtain ⟨x, hx, rfl⟩ := upd_eq hup
 obtain ⟨cells, hown, hfr, hc⟩ := hW.obj i _ _ hob hb
 have hlen := hown.1
 rcases hown.2 with ⟨he, _⟩ | ⟨g', cap, cur, he, _, hg, hncap, hcapm, hcur, htake⟩
 ·cases he
 obtain ⟨e1, rfl, rfl⟩ := Value.slice.inj he
 have e1 : gg = g' := by simpa using e1
 subst e1
 generalize hz : s.t.sz = z at *
 have hul : us.length = vs.length := hr.1.symm
 have hjz : (j + 1) * z ≤ s.xs.length * z := Nat.mul_le_mul_right z hj
 have hsz : (j + 1) * z = j * z + z := Nat.succ_mul j z
 have hcapz : s.xs.length * z ≤ c * z := Nat.mul_le_mul_right z hncap
 have hfit : j * z + k + us.length ≤ cells.length := by rw [hlen, hul]; omega
 have hfit2 : j * z + k + us.length ≤ cur.toList.length := by
  have : cur.toList.length = c * z := by simpa using hcur
  omega
 refine ⟨cur, hg, by simpa using hfit2, ?_⟩
 -- the element as it was, and as it is
 obtain ⟨csj, hcel, hcell⟩ := hc j s.xs[j] (List.getElem?_eq_getElem hj)
 have hgd : s.xs.getD j s.t.dflt = s.xs[j] := by rw [List.getD_eq_getElem?_getD, List.getElem?_eq_getElem hj]; rfl
 rw [hgd] at hx
 have hcsl : csj.length = z := by rw [hcel.len, hz]
 have hrei := rei_rep (β := β) (ok := okB cx β ob) hcel
 have hnew := unre_rep hW _ _ _ x.1 x.2 hx (hrei.splice hr k (by rw [hrei.1, hcsl]; exact hk))
 have hset : ∀ b, LiveB β (ob.set i (.row ⟨s.fl && x.1, s.e, s.t, s.xs.set j x.2⟩)) b -> LiveB β ob b := fun b hb' => live_set_sub hb (fun b _ hb2 => ⟨i, _, _, hob, rfl, hb, hb2⟩) hb'
 have hm : ∀ fl b, okB cx β ob fl b -> b < w.heap.size -> okB cx β (ob.set i (.row ⟨s.fl && x.1, s.e, s.t, s.xs.set j x.2⟩)) fl b ∧
   (w.setRow gg (cur.toList.take (j * z + k) ++ us ++ cur.toList.drop (j * z + k + us.length)).toArray).heap[b]? = w.heap[b]? := fun fl b hok hlt =>
  ⟨okB_of hok (hset b), setRow_other' w gg b _ fun e => hok.1 (by subst e; exact ⟨i, _, _, hob, rfl, hb, rfl⟩)⟩
 refine hW.write hob hb rfl rfl rfl rfl (by simp) (fun b hlt hne => setRow_other' w gg b _ fun e => hne (by subst e; rfl)) rfl
  ⟨cells.take (j * z + k) ++ us ++ cells.drop (j * z + k + us.length), ⟨?_, .inr ⟨gg, c, _, ?_, Nat.zero_le _, hg.set ?_, ?_, hcapm, ?_, ?_⟩⟩, ?_, ?_⟩
 ·simp only [List.length_append, List.length_take, List.length_drop, List.length_set, hz]
  rw [← hlen]
  omega
 ·simp
 ·simp only [List.size_toArray, List.length_append, List.length_take, List.length_drop]
  rw [Array.length_toList] at hfit2 ⊢
  omega
 ·simpa using hncap
 ·simp only [List.size_toArray, List.length_append, List.length_take, List.length_drop, hz]
  rw [Array.length_toList] at hfit2 ⊢
  rw [← hcur]
  omega
 ·simp only [List.length_set, hz]
  rw [List.toList_toArray, take_splice _ _ _ _ (by rw [← hlen]; exact hfit) (by rw [Array.length_toList, hcur]; exact hcapz), htake]
 ·intro hfl b hb2
  exact hfr (Bool.and_eq_true_iff.1 hfl).1 b hb2
 ·intro j' y' hy'
  have hw1 : (s.fl && x.1) = true -> s.fl = true := fun h => (Bool.and_eq_true_iff.1 h).1
  have hw2 : (s.fl && x.1) = true -> x.1 = true := fun h => (Bool.and_eq_true_iff.1 h).2
  rcases mem_set hy' with ⟨hne, hy'⟩ | ⟨rfl, rfl, _⟩
  ·obtain ⟨cs', hcel', hcell'⟩ := hc j' y' hy'
   refine ⟨cs', ((hcel'.weaken hw1).mono (hm _)), fun q u hu => ?_⟩
   rw [hz]
   rw [get_splice _ _ _ _ hfit]
   have hq : q < z := by have := get_lt hu; rw [hcel'.len, hz] at this; exact this
   have hcq := hcell' q u hu
   rcases Nat.lt_or_gt_of_ne hne with hlt | hlt
   ·have h1 : (j' + 1) * z ≤ j * z := Nat.mul_le_mul_right z hlt
    rw [Nat.succ_mul] at h1
    rw [if_pos (by omega)]
    exact hcq
   ·have h1 : (j + 1) * z ≤ j' * z := Nat.mul_le_mul_right z hlt
    rw [if_neg (by omega), if_neg (by omega)]
    exact hcq
  ·refine ⟨_, ((hnew.weaken hw2).mono (hm _)), fun q u hu => ?_⟩
   rw [hz]
   rw [get_splice _ _ _ _ hfit]
   rw [get_splice _ _ _ _ (by rw [hcsl, hul]; exact hk)] at hu
   split at hu
   ·rename_i hq
    rw [if_pos (by omega)]
    exact hcell q u hu
   ·rename_i hq
    rw [if_neg (by omega)]
    split at hu
    ·rename_i hq2
     rw [if_pos (by omega), ← hu]
     congr 1
     omega
    ·rename_i hq2
     rw [if_neg (by omega)]
     exact hcell q u hu

theorem cel_cs {ok : Nat -> Prop} : ∀ (t : Ty) (y : t.S), t.flat = true -> Cel w ok t y (t.cs y) := by
 intro t
 induction t with
 |sl e t ih => intro y h; cases h
 |pr a b iha ihb =>
  intro y h
  have h := Bool.and_eq_true_iff.1 h
  exact ⟨_, _, rfl, iha _ h.1, ihb _ h.2⟩
 |_ => exact fun y _ => rfl

theorem OwnEl.store {ok : Bool -> Nat -> Prop} {s s' : Sq} {gg n c : Nat} (hown : OwnEl w s (.slice (some ⟨gg, 0, none⟩) n c)) (hf : s.t.flat = true) {j k : Nat} (hj : j < n) {vs : List AV} {us : List Value}
  (hr : RepL w ok β vs us) (hk : k + vs.length ≤ s.t.sz) (hup : upd ob s j k vs = some s') :
  ∃ cur, Ev.Blk w gg cur s.e ∧ j * s.t.sz + k + us.length ≤ cur.size ∧
   OwnEl (w.setRow gg (cur.toList.take (j * s.t.sz + k) ++ us ++ cur.toList.drop (j * s.t.sz + k + us.length)).toArray) s' (.slice (some ⟨gg, 0, none⟩) n c) ∧ s'.e = s.e ∧ s'.t = s.t := by
 obtain ⟨x, hx, rfl⟩ := upd_eq hup
 obtain ⟨cells, hown, hc⟩ := hown
 have hlen := hown.1
 rcases hown.2 with ⟨he, _⟩ | ⟨g', cap, cur, he, _, hg, hncap, hcapm, hcur, htake⟩
 ·cases he
 obtain ⟨e1, rfl, rfl⟩ := Value.slice.inj he
 have e1 : gg = g' := by simpa using e1
 subst e1
 generalize hz : s.t.sz = z at *
 have hul : us.length = vs.length := hr.1.symm
 have hjz : (j + 1) * z ≤ s.xs.length * z := Nat.mul_le_mul_right z hj
 have hsz : (j + 1) * z = j * z + z := Nat.succ_mul j z
 have hcapz : s.xs.length * z ≤ c * z := Nat.mul_le_mul_right z hncap
 have hfit : j * z + k + us.length ≤ cells.length := by rw [hlen, hul]; omega
 have hfit2 : j * z + k + us.length ≤ cur.toList.length := by
  have : cur.toList.length = c * z := by simpa using hcur
  omega
 refine ⟨cur, hg, by simpa using hfit2, ?_, rfl, rfl⟩
 obtain ⟨csj, hcel, hcell⟩ := hc j s.xs[j] (List.getElem?_eq_getElem hj)
 have hgd : s.xs.getD j s.t.dflt = s.xs[j] := by rw [List.getD_eq_getElem?_getD, List.getElem?_eq_getElem hj]; rfl
 rw [hgd] at hx
 have hcsl : csj.length = z := by rw [hcel.len, hz]
 have hrei := rei_rep (β := β) (ok := ok) (fl := s.fl) (hcel.of_flat (w' := w) hf)
 have hnew0 := unre_flat _ _ _ x.1 x.2 hf hx (hrei.splice hr k (by rw [hrei.1, hcsl]; exact hk))
 have hnew : Cel (w.setRow gg (cur.toList.take (j * z + k) ++ us ++ cur.toList.drop (j * z + k + us.length)).toArray) (fun _ => True) s.t x.2 (csj.take k ++ us ++ csj.drop (k + us.length)) := by
  rw [hnew0]
  exact cel_cs s.t x.2 hf
 refine ⟨cells.take (j * z + k) ++ us ++ cells.drop (j * z + k + us.length), ⟨?_, .inr ⟨gg, c, _, ?_, Nat.zero_le _, hg.set ?_, ?_, hcapm, ?_, ?_⟩⟩, ?_⟩
 ·simp only [List.length_append, List.length_take, List.length_drop, List.length_set, hz]
  rw [← hlen]
  omega
 ·simp
 ·simp only [List.size_toArray, List.length_append, List.length_take, List.length_drop]
  rw [Array.length_toList] at hfit2 ⊢
  omega
 ·simpa using hncap
 ·simp only [List.size_toArray, List.length_append, List.length_take, List.length_drop, hz]
  rw [Array.length_toList] at hfit2 ⊢
  rw [← hcur]
  omega
 ·simp only [List.length_set, hz]
  rw [List.toList_toArray, take_splice _ _ _ _ (by rw [← hlen]; exact hfit) (by rw [Array.length_toList, hcur]; exact hcapz), htake]
 ·intro j' y' hy'
  rcases mem_set hy' with ⟨hne, hy'⟩ | ⟨rfl, rfl, _⟩
  ·obtain ⟨cs', hcel', hcell'⟩ := hc j' y' hy'
   refine ⟨cs', hcel'.of_flat hf, fun q u hu => ?_⟩
   show _ = _
   rw [hz]
   rw [get_splice _ _ _ _ hfit]
   have hq : q < z := by have := get_lt hu; rw [hcel'.len, hz] at this; exact this
   have hcq := hcell' q u hu
   rcases Nat.lt_or_gt_of_ne hne with hlt | hlt
   ·have h1 : (j' + 1) * z ≤ j * z := Nat.mul_le_mul_right z hlt
    rw [Nat.succ_mul] at h1
    rw [if_pos (by omega)]
    exact hcq
   ·have h1 : (j + 1) * z ≤ j' * z := Nat.mul_le_mul_right z hlt
    rw [if_neg (by omega), if_neg (by omega)]
    exact hcq
  ·refine ⟨_, hnew, fun q u hu => ?_⟩
   show _ = _
   rw [hz]
   rw [get_splice _ _ _ _ hfit]
   rw [get_splice _ _ _ _ (by rw [hcsl, hul]; exact hk)] at hu
   split at hu
   ·rename_i hq
    rw [if_pos (by omega)]
    exact hcell q u hu
   ·rename_i hq
    rw [if_neg (by omega)]
    split at hu
    ·rename_i hq2
     rw [if_pos (by omega), ← hu]
     congr 1
     omega
    ·rename_i hq2
     rw [if_neg (by omega)]
     exact hcell q u hu

theorem setInn_eq {s s' q q' : Sq} {j : Nat} (hq : s.inn j = some q) (ht : q'.t = q.t) (he : q'.e = q.e) (h : s.setInn j q' = some s') : s'.e = s.e ∧ s'.t = s.t ∧ s'.xs.length = s.xs.length ∧ (s'.fl = true -> s.fl = true) ∧
  (∀ j', j' ≠ j -> ∀ p, s.inn j' = some p -> ∃ p', s'.inn j' = some p' ∧ p'.t.flat = p.t.flat ∧ ∀ (w : World) (v : Value), OwnEl w p v -> OwnEl w p' v) ∧
  (j < s.xs.length -> ∃ p', s'.inn j = some p' ∧ p'.t.flat = q'.t.flat ∧ ∀ (w : World) (v : Value), OwnEl w q' v -> OwnEl w p' v) := by
 obtain ⟨fl, e0, e, t, xs, rfl, rfl⟩ := inn_some hq
 obtain ⟨fl', e', t', ys⟩ := q'
 simp only at ht he
 subst ht he
 have : Sq.setInn ⟨fl, e0, .sl e' t', xs⟩ j ⟨fl', e', t', ys⟩ = some ⟨fl && fl', e0, .sl e' t', xs.set j ys⟩ := by
  simp [Sq.setInn, Sq.as]
 rw [this] at h
 obtain rfl := Option.some.inj h
 refine ⟨rfl, rfl, by simp, fun h => (Bool.and_eq_true_iff.1 h).1, fun j' hne p hp => ?_, fun hj => ?_⟩
 ·simp only [Sq.inn, Option.some.injEq] at hp
  subst hp
  refine ⟨_, rfl, rfl, fun w v h => ?_⟩
  have e : (xs.set j ys).getD j' [] = xs.getD j' [] := by
   rw [List.getD_eq_getElem?_getD, List.getD_eq_getElem?_getD, List.getElem?_set, if_neg (Ne.symm hne)]
  simp only [e]
  exact h
 ·refine ⟨_, rfl, rfl, fun w v h => ?_⟩
  have e : (xs.set j ys).getD j [] = ys := by
   have hj' : j < xs.length := hj
   rw [List.getD_eq_getElem?_getD, List.getElem?_set, if_pos rfl, if_pos hj']
   rfl
  simp only [e]
  exact h

theorem store_inn (hW : WRep cx β ob w) {ok : Bool -> Nat -> Prop} {i j : Nat} {s s' q q' : Sq} {gg n c : Nat} {y : Value} {vs0 : List Value} (hob : ob[i]? = some (.nst s)) (hb : β[i]? = some (.tuple (y :: vs0).toArray)) (hj0 : vs0[j]? = some (.slice (some ⟨gg, 0, none⟩) n c))
  (hq : s.inn j = some q) (hf : q.t.flat = true) {l k : Nat} (hl : l < n) {vs : List AV} {us : List Value} (hr : RepL w ok β vs us) (hk : k + vs.length ≤ q.t.sz) (hup : upd ob q l k vs = some q') (hset : s.setInn j q' = some s') :
  ∃ cur, Ev.Blk w gg cur q.e ∧ l * q.t.sz + k + us.length ≤ cur.size ∧ blk (.tuple (y :: vs0).toArray) gg ∧
   WRep cx β (ob.set i (.nst s')) (w.setRow gg (cur.toList.take (l * q.t.sz + k) ++ us ++ cur.toList.drop (l * q.t.sz + k + us.length)).toArray) := by
 obtain ⟨y', vs', e, hlen, hz, hoff, hin, hfr, hd⟩ := hW.obj i _ _ hob hb
 have e := List.cons.inj (by simpa using e : y :: vs0 = y' :: vs')
 obtain ⟨rfl, rfl⟩ := e
 obtain ⟨q1, h1, h2, h3⟩ := hin j _ hj0
 rw [hq] at h1
 obtain rfl := Option.some.inj h1
 obtain ⟨cur, c1, c2, c3, c4, c5⟩ := h3.store (ob := ob) h2 hl hr hk hup
 obtain ⟨s1, s2, s3, s4, s5, s6⟩ := setInn_eq hq c5 c4 hset
 have hblk : blk (.tuple (y :: vs0).toArray) gg := blk_tuple.2 ⟨_, List.mem_cons_of_mem _ (List.mem_of_getElem? hj0), rfl⟩
 refine ⟨cur, c1, c2, hblk, ?_⟩
 have hne : ∀ (p : Nat) (u : Value) (b : Nat), (y :: vs0)[p]? = some u -> p ≠ j + 1 -> blk1 u = some b -> b ≠ gg := fun p u b hp hpj hbu e => by
  subst e
  exact hpj (hd p (j + 1) u _ b hp (by simpa using hj0) hbu rfl)
 refine hW.write hob hb rfl rfl rfl rfl (by simp) (fun b hlt hnb => setRow_other' w gg b _ fun e => hnb (by subst e; exact hblk)) rfl ⟨y, vs0, rfl, by rw [s3]; exact hlen, by rw [s2]; exact hz, ?_, ?_, fun hfl => hfr (s4 hfl), hd⟩
 ·rw [s1]
  exact hoff.move fun b hby => setRow_other' w gg b _ (hne 0 y b rfl (by omega) hby)
 ·intro j' u hu
  by_cases hjj : j' = j
  ·subst hjj
   rw [hj0] at hu
   obtain rfl := Option.some.inj hu
   obtain ⟨p', p1, p2, p3⟩ := s6 (by rw [← hlen]; exact get_lt hj0)
   exact ⟨p', p1, by rw [p2, c5]; exact h2, p3 _ _ c3⟩
  ·obtain ⟨q2, k1, k2, k3⟩ := hin j' u hu
   obtain ⟨p', p1, p2, p3⟩ := s5 j' hjj q2 k1
   refine ⟨p', p1, by rw [p2]; exact k2, p3 _ _ (k3.move k2 fun b hbu => setRow_other' w gg b _ ?_)⟩
   obtain ⟨cells, hown, _⟩ := k3
   exact hne (j' + 1) u b (by simpa using hu) (by omega) ((own_blk1 hown b).1 hbu)

theorem wp_store {t : TypeId} {x y : Operand} (ho : o.op = .store t x y) (g : Good cx β σ a w) (h : evOp P Γ o σ K = some r) (lvl : Nat) : Goal P cx K r o (lvl + 2) β σ a w Q := by
 have hx := g.ev x
 have hy := g.ev y
 generalize hv : a.eval x = v at hx
 generalize hu : a.eval y = u at hy
 simp only [evOp, ho] at h
 split at h
 ·rename_i vs hc
  obtain ⟨hr, hone⟩ := cells_rep g.W hc hy
  split at h
  ·rename_i hsz
   rw [hr.1] at hsz
   have run : ∀ gg p cur e, v = .pointer (some ⟨gg, p, none⟩) -> Ev.Blk w gg cur e -> p + u.cells.toList.length ≤ cur.size →
     (execOp a.eval o).run P w = .ok (.skip) (w.setRow gg (cur.toList.take p ++ u.cells.toList ++ cur.toList.drop (p + u.cells.toList.length)).toArray) := fun gg p cur e e1 e2 e3 => by
    subst e1
    have := run_storeVar e2 hsz e3 hone
    simp only [execOp, ho, hv, hu, Instr.storeAt, Instr.sureAddr, Sem.run_bind, Sem.run_pure, Result.andThen_ok, this]
   have fin : ∀ {w1 : World} {σ' : St} {β' : List Value}, (execOp a.eval o).run P w = .ok (.skip) w1 -> K (.v undef) σ' = some r -> Res cx β' σ' (.v undef) a undef w1 -> Eff (lvl + 2) β σ.ob w w1 →
     Ext (lvl + 2) β σ.ob w β' σ'.ob -> Goal P cx K r o (lvl + 2) β σ a w Q := fun h1 h2 h3 h4 h5 => by
    unfold Goal Oper.wp
    rw [h1]
    exact ⟨_, _, _, _, h2, rfl, h3, h4, h5⟩
   split at h
   ·rename_i i j he
    rw [he] at hx
    split at h
    ·rename_i ty cs hob
     split at h
     ·rename_i hfit
      obtain ⟨β', p1, p2, p3, p4, p5, p6, p7⟩ := promL_good (P := P) (a := a) (flatT P 12 t) _ _ β σ g.W g.A hr
      cases hx with
      |ptr _ _ gg hb =>
       have hob' := p6 _ _ hob
       have hlive : LiveB β σ.ob gg := LiveB_of hob hb rfl rfl
       obtain ⟨g', ws, hp, hg, hrb⟩ := p1.obj i _ _ hob' (p4.ext _ _ hb)
       obtain rfl : gg = g' := by simpa using hp
       have hlen : u.cells.toList.length = (promL P (flatT P 12 t) vs σ).1.length := p3.1.symm
       have hlen2 : vs.length = u.cells.toList.length := hr.1
       have hws : ws.length = cs.length := hrb.1.symm
       have hrun := run gg j ws.toArray ty rfl (.of hg) (by simp only [List.size_toArray]; omega)
       have hsame : ∀ b, b < w.heap.size -> b ≠ gg -> (w.setRow gg ((ws.toArray).toList.take j ++ u.cells.toList ++ (ws.toArray).toList.drop (j + u.cells.toList.length)).toArray).heap[b]? = w.heap[b]? := fun b _ hne => setRow_other' w gg b _ hne
       have hset : ∀ b, LiveB β' ((promL P (flatT P 12 t) vs σ).2.ob.set i (.box ty (splice cs j (promL P (flatT P 12 t) vs σ).1))) b -> LiveB β' (promL P (flatT P 12 t) vs σ).2.ob b :=
        fun b hb' => live_set_sub (p4.ext _ _ hb) (fun b _ hb2 => ⟨i, _, _, hob', rfl, p4.ext _ _ hb, hb2⟩) hb'
       have hm : ∀ fl b, okB cx β' (promL P (flatT P 12 t) vs σ).2.ob fl b -> b < w.heap.size -> okB cx β' ((promL P (flatT P 12 t) vs σ).2.ob.set i (.box ty (splice cs j (promL P (flatT P 12 t) vs σ).1))) fl b ∧
         (w.setRow gg ((ws.toArray).toList.take j ++ u.cells.toList ++ (ws.toArray).toList.drop (j + u.cells.toList.length)).toArray).heap[b]? = w.heap[b]? := fun fl b hok hlt =>
        ⟨okB_of hok (hset b), hsame b hlt fun e => hok.1 (by subst e; exact ⟨i, _, _, hob', rfl, p4.ext _ _ hb, rfl⟩)⟩
       have hW' : WRep cx β' ((promL P (flatT P 12 t) vs σ).2.ob.set i (.box ty (splice cs j (promL P (flatT P 12 t) vs σ).1))) (w.setRow gg ((ws.toArray).toList.take j ++ u.cells.toList ++ (ws.toArray).toList.drop (j + u.cells.toList.length)).toArray) := by
        refine p1.write hob' (p4.ext _ _ hb) rfl rfl rfl rfl (by simp) (fun b hlt hne => hsame b hlt fun e => hne (by subst e; rfl)) rfl ⟨gg, _, rfl, ?_, ((hrb.splice p3 j (by omega)).mono hm fun _ _ h => h)⟩
        exact setRow_heap w gg _ _ ty _ hg
       refine fin hrun h ⟨hW', ?_, .v _⟩ (Eff.store hlive _ _) ⟨p4.ext, fun l hl b hb' ht => ?_⟩
       ·exact p2.mono hm fun _ _ h => h
       ·obtain ⟨l, rfl⟩ : ∃ m, l = m + 2 := ⟨l - 2, by omega⟩
        exact p4.sub (l + 2) (Nat.zero_le _) b hb' (hset b ht)
     ·cases h
    ·cases h
   ·rename_i i z j k he
    rw [he] at hx
    split at h
    ·rename_i s hob
     split at h
     ·rename_i hzk
      split at h
      ·rename_i s' hup
       obtain ⟨rfl, hk⟩ := hzk
       obtain ⟨f1, f2⟩ := freezeL_good vs σ.ob g.W
       cases hx with
       |poe _ _ _ _ gg n c hj hb =>
        have hr1 : RepL w (okB cx β (freezeL σ.ob vs)) β vs u.cells.toList := hr.mono (fun fl b hok hb => ⟨okB_freeze g.W hok, rfl⟩) fun _ _ h => h
        obtain ⟨cur, hg, hfit, hW'⟩ := store_row f1 hob hb hj hr1 hk hup
        have hlive : LiveB β σ.ob gg := f2 gg ⟨i, _, _, hob, rfl, hb, rfl⟩
        refine fin (run gg _ cur s.e rfl hg hfit) h ⟨hW', ?_, .v _⟩ (Eff.store hlive _ _) ⟨fun _ _ h => h, fun l hl b hb' ht => ?_⟩
        rotate_left
        ·obtain ⟨l, rfl⟩ : ∃ m, l = m + 2 := ⟨l - 2, by omega⟩
         exact f2 b (live_set_sub hb (fun b _ hb2 => ⟨i, _, _, hob, rfl, hb, hb2⟩) ht)
        refine g.A.mono (fun fl b hok hlt => ⟨okB_of hok fun hl => ?_, setRow_other' w gg b _ fun e => hok.1 (by subst e; exact hlive)⟩) fun _ _ h => h
        exact f2 b (live_set_sub hb (fun b _ hb2 => ⟨i, _, _, hob, rfl, hb, hb2⟩) hl)
      ·cases h
     ·cases h
    ·cases h
   ·rename_i i j z l k he
    rw [he] at hx
    split at h
    ·rename_i s hob
     split at h
     ·rename_i q hq
      split at h
      ·rename_i hzk
       split at h
       ·rename_i q' hup
        split at h
        ·rename_i s' hset
         obtain ⟨rfl, hk, hf⟩ := hzk
         cases hx with
         |pin _ _ _ _ _ gg n c y vs0 hb hj hl =>
          obtain ⟨cur, hg, hfit, hblk, hW'⟩ := store_inn g.W hob hb hj hq hf hl hr hk hup hset
          have hlive : LiveB β σ.ob gg := ⟨i, _, _, hob, rfl, hb, hblk⟩
          refine fin (run gg _ cur q.e rfl hg hfit) h ⟨hW', ?_, .v _⟩ (Eff.store hlive _ _) ⟨fun _ _ h => h, fun l hl b hb' ht => ?_⟩
          rotate_left
          ·obtain ⟨l, rfl⟩ : ∃ m, l = m + 2 := ⟨l - 2, by omega⟩
           exact live_set_sub hb (fun b _ hb2 => ⟨i, _, _, hob, rfl, hb, hb2⟩) ht
          exact g.A.mono (fun fl b hok hlt => ⟨okB_of hok fun hl => live_set_sub hb (fun b _ hb2 => ⟨i, _, _, hob, rfl, hb, hb2⟩) hl, setRow_other' w gg b _ fun e => hok.1 (by subst e; exact hlive)⟩) fun _ _ h => h
        ·cases h
       ·cases h
      ·cases h
     ·cases h
    ·cases h
   ·cases h
  ·cases h
 ·cases h

end Go.Ev
