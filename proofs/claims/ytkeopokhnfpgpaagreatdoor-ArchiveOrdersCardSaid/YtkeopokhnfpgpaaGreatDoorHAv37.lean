/- A part of the proof. -/
import Derived.Test.YtkeopokhnfpgpaaGreatDoorHAv36
set_option linter.all false
namespace Go.Av
theorem SimB.reobj {F : FC} {β : zg} {S : Nat → Nat → Prop} {st : ASt} {tm : Array Value} {w : World} (hs : SimB F β S st tm w) {i : Nat} {o o' : AObj} (ho : st.objs i = some o) (hes : o'.es = o.es) (hl : o'.elems.length = o.elems.length) (hmo : ∀ ks vs, o ≠ yy ks vs)
  (hc : ∀ (k : Nat) (x x' : AV), o.elems[k]? = some x → o'.elems[k]? = some x' → x'.cells.length = x.cells.length ∧ ∀ (j : Nat) (c c' : AV), x.cells[j]? = some c → x'.cells[j]? = some c' → ∀ v, RepA β S w c v → RepA β S w c' v) : SimB F β S (st.obj i o') tm w := by
 have up : ∀ {n p}, (st.obj i o').objs n = some p → ∃ q, st.objs n = some q := fun {n p} h => by
  simp only [ASt.obj, zq] at h
  split at h
  ·rename_i e; exact ⟨o, e ▸ ho⟩
  ·exact ⟨p, h⟩
 refine ⟨hs.ext, hs.glob, hs.sub, hs.lt, fun n p b s k h hb => ?_, fun n n' p p' b s s' h h' => ?_, fun n p h => ?_, hs.env, hs.size⟩
 ·obtain ⟨q, hq⟩ := up h; exact hs.sep n q b s k hq hb
 ·obtain ⟨q, hq⟩ := up h
  obtain ⟨q', hq'⟩ := up h'
  exact hs.inj n n' q q' b s s' hq hq'
 ·simp only [ASt.obj, zq] at h
  split at h
  ·rename_i e
   subst e
   simp only [Option.some.injEq] at h
   subst h
   rcases hs.obj n o ho with ⟨hn, he⟩ | ⟨b, s, arr, e, hb, hw, hh, hz, hel⟩ | ⟨_, _, _, ks, vs, _, _, _, q, _⟩
   rotate_left 2
   ·exact (hmo ks vs q).elim
   ·exact .inl ⟨hn, by rw [he] at hl; simpa using hl⟩
   ·refine .inr (.inl ⟨b, s, arr, e, hb, hw, hh, by rw [hl, hes]; exact hz, fun k x' hx' => ?_⟩)
    have hk : k < o.elems.length := by
     have := (List.getElem?_eq_some_iff.1 hx').1
     omega
    obtain ⟨h1, h2⟩ := hc k _ x' (List.getElem?_eq_getElem hk) hx'
    obtain ⟨h3, h4⟩ := hel k _ (List.getElem?_eq_getElem hk)
    refine ⟨by rw [h1, h3, hes], fun j c' hj => ?_⟩
    have hjl : j < (o.elems[k]).cells.length := by
     have := (List.getElem?_eq_some_iff.1 hj).1
     omega
    obtain ⟨v, hv1, hv2, hv3⟩ := h4 j _ (List.getElem?_eq_getElem hjl)
    rw [hes]
    exact ⟨v, hv1, hv2, h2 j _ c' (List.getElem?_eq_getElem hjl) hj v hv3⟩
  ·exact hs.obj n p h
theorem zei {F : FC} {β : zg} {S : Nat → Nat → Prop} {st : ASt} {tm : Array Value} {w : World} (hs : SimB F β S st tm w) {id es : Nat} {o : AObj} (ho : st.objs id = some o) (hmo : ∀ ks vs, o ≠ yy ks vs) {v : Value} (h : RepA β S w .nils v) : RepA β S w (.osl id es 0 0) v := by
 simp only [RepA] at h ⊢
 obtain ⟨a, rfl⟩ := h
 rcases hs.obj id o ho with ⟨hn, _⟩ | ⟨b, s, arr, e, hb, hw, hh, hz, hel⟩ | ⟨_, _, _, ks, vs, _, _, _, q, _⟩
 rotate_left 2
 ·exact (hmo ks vs q).elim
 ·exact .inl ⟨hn, trivial, a, rfl⟩
 ·exact .inr ⟨b, s, 0, arr, e, a, hb, rfl, by simp, by simp, hh, by simp; omega⟩
theorem Le.new0 {F : FC} {st : ASt} (id es : Nat) (hid : id < F.N) : Le F st ((st.kill id).obj id ⟨es, []⟩) := fun _ _ ⟨hd, _, S, hs⟩ => ⟨hd, _, S, hs.introNil id es hid⟩
theorem Le.nilO {F : FC} {st : ASt} (i id es j : Nat) {o p : AObj} {l : List AV} (hi : st.objs i = some o) (hp : st.objs id = some p) (he : o.elems = [.agg l]) (hj : l[j]? = some .nils) (hmo : ∀ ks vs, p ≠ yy ks vs) : Le F st (st.obj i ⟨o.es, [.agg (l.set j (.osl id es 0 0))]⟩) := fun a w ⟨hd, β, S, hs⟩ => by
 refine ⟨hd, β, S, hs.reobj hi rfl (by simp [he]) (fun ks vs q => by rw [q] at he; simp at he) fun k x x' hx hx' => ?_⟩
 rw [he] at hx
 cases k with
 | succ k => simp at hx
 | zero =>
  simp only [List.getElem?_cons_zero, Option.some.injEq] at hx hx'
  subst hx hx'
  refine ⟨by simp [AV.cells], fun n c c' hc hc' v hr => ?_⟩
  simp only [AV.cells] at hc hc'
  rw [List.getElem?_set] at hc'
  split at hc'
  ·rename_i hjn
   subst hjn
   rw [hj] at hc
   simp only [Option.some.injEq] at hc
   subst hc
   split at hc'
   ·simp only [Option.some.injEq] at hc'
    subst hc'
    exact zei hs hp hmo hr
   ·cases hc'
  ·rw [hc] at hc'
   simp only [Option.some.injEq] at hc'
   exact hc' ▸ hr
theorem Le.nilE {F : FC} {st : ASt} (n id es : Nat) {p : AObj} (hn : st.env n = .nils) (hp : st.objs id = some p) (hmo : ∀ ks vs, p ≠ yy ks vs) : Le F st (st.put (some n) (.osl id es 0 0)) := fun a w ⟨hd, β, S, hs⟩ => by
 refine ⟨hd, β, S, hs.ext, hs.glob, hs.sub, hs.lt, hs.sep, hs.inj, hs.obj, fun k => ?_, hs.size⟩
 have h := hs.env k
 simp only [ASt.put, zq]
 split
 ·rename_i e
  subst e
  rw [hn] at h
  exact zei hs hp hmo h
 ·exact h
def frzE (id es : Nat) (ds : List Dat) : List (Nat × AV) → List (Nat × AV)
 | [] => []
 | (k, v) :: l => (k, v.frz id es ds) :: frzE id es ds l
def frzO (id es : Nat) (ds : List Dat) : List (Nat × AObj) → List (Nat × AObj)
 | [] => []
 | (k, o) :: l => if k = id then frzO id es ds l else (k, ⟨o.es, o.elems.map (AV.frz id es ds)⟩) :: frzO id es ds l
theorem z9g (id es : Nat) (ds : List Dat) (n : Nat) : ∀ l, y0 (frzE id es ds l) n = (y0 l n).frz id es ds
 | [] => by simp [frzE, y0, AV.frz]
 | (k, v) :: l => by
  simp only [frzE, y0, z9g id es ds n l]
  split <;> rfl
theorem za4 (id es : Nat) (ds : List Dat) (n : Nat) : ∀ l, qm (frzO id es ds l) n = if n = id then none else (qm l n).map fun o => ⟨o.es, o.elems.map (AV.frz id es ds)⟩
 | [] => by simp [frzO, qm]
 | (k, o) :: l => by
  have ih := za4 id es ds n l
  by_cases hk : k = id
  ·subst hk
   simp only [frzO, if_true, ih, qm]
   split
   ·rfl
   ·simp [*]
  ·simp only [frzO, if_neg hk, qm, ih]
   by_cases hn : n = k
   ·subst hn; simp [hk]
   ·simp [hn]
theorem zbn (id es : Nat) (ds : List Dat) (e : List (Nat × AV)) (o : List (Nat × AObj)) : (ASt.of e o).frz id es ds = .of (frzE id es ds e) (frzO id es ds o) := by
 unfold ASt.frz ASt.of
 congr 1
 ·funext n; rw [z9g]
 ·funext n; rw [za4]
theorem v8 {F : FC} (id : Nat) {c : Code} {Q : Exit → ASt → Prop} {e : List (Nat × AV)} {o : List (Nat × AObj)} {ob : AObj} {ds : List Dat} (hM : TopF F) (ho : qm o id = some ob) (hd : vz ob.elems = some ds) (h : AWp F c Q (.of (frzE id ob.es ds e) (frzO id ob.es ds o))) : AWp F c Q (.of e o) :=
 AWp.le (Le.frz (id := id) hM ho hd) (by rw [zbn]; exact h)
theorem xd {F : FC} (id es : Nat) {c : Code} {Q : Exit → ASt → Prop} {e : List (Nat × AV)} {o : List (Nat × AObj)} (hid : id < F.N) (h : AWp F c Q (.of (killE id e) (setO id ⟨es, []⟩ (killO id o)))) : AWp F c Q (.of e o) :=
 AWp.le (Le.new0 id es hid) (by rw [zbq, z4f]; exact h)
theorem xy {F : FC} (n id es : Nat) {c : Code} {Q : Exit → ASt → Prop} {e : List (Nat × AV)} {o : List (Nat × AObj)} {p : AObj} (hn : y0 e n = .nils) (hp : qm o id = some p) (h : AWp F c Q (.of ((n, .osl id es 0 0) :: e) o)) (hmo : ∀ ks vs, p ≠ yy ks vs := by intro ks vs q; cases q) : AWp F c Q (.of e o) :=
 AWp.le (Le.nilE n id es hn hp hmo) h
theorem zbe {F : FC} (i id es j : Nat) {c : Code} {Q : Exit → ASt → Prop} {e : List (Nat × AV)} {o : List (Nat × AObj)} {ob p : AObj} {l : List AV} (hi : qm o i = some ob) (hp : qm o id = some p) (he : ob.elems = [.agg l]) (hj : l[j]? = some .nils) (h : AWp F c Q (.of e (setO i ⟨ob.es, [.agg (l.set j (.osl id es 0 0))]⟩ o))) (hmo : ∀ ks vs, p ≠ yy ks vs := by intro ks vs q; cases q) : AWp F c Q (.of e o) :=
 AWp.le (Le.nilO i id es j hi hp he hj hmo) (by rw [z4f]; exact h)
def Xl {α : Type} (l : List α) (i : Nat) : List α := l.take i
theorem z0o {α : Type} (l : List α) (i : Nat) (h : i ≤ l.length) : (Xl l i).length = i := by simp [Xl]; omega
theorem zae {α : Type} (l : List α) : Xl l 0 = [] := rfl
theorem z0n {α : Type} (l : List α) : Xl l l.length = l := by simp [Xl]
theorem zqp {α : Type} [Inhabited α] (l : List α) (i : Nat) (h : i < l.length) : Xl l i ++ [l.getD i default] = Xl l (i + 1) := by
 unfold Xl
 rw [List.take_add_one, List.getD_eq_getElem?_getD, List.getElem?_eq_getElem h]
 rfl
theorem z1h {α : Type} [Inhabited α] (l : List α) (i : Nat) (h : i < l.length) : Xl l (i + 1) = Xl l i ++ [l.getD i default] := (zqp l i h).symm
theorem zrw {α : Type} (f : α → Dat) (l : List α) (n : Nat) (h : l.length ≤ n) : ((l.map f).map AV.dat).take n = (l.map f).map AV.dat := List.take_of_length_le (by simpa using h)
end Go.Av

