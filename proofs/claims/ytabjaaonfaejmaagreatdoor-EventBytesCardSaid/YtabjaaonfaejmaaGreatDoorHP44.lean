/- A part of the proof. -/
import Derived.Test.YtabjaaonfaejmaaGreatDoorHP43
import Derived.Test.YtabjaaonfaejmaaGreatDoorHP42
import Derived.Test.YtabjaaonfaejmaaGreatDoorHAv52
import Derived.Test.YtabjaaonfaejmaaGreatDoorHAv53
set_option linter.all false
namespace Go.Proofs.YtabjaaonfaejmaaGreatDoor
open Go.Av
structure SzTerm (t : TermM) : Prop where
 broader : t.Broader.length ≤ 281474976710656
structure SzOp (o : OpM) : Prop where
 texts : o.Texts.length ≤ 281474976710656
 pairs : o.Pairs.length ≤ 281474976710656
 refs : o.Refs.length ≤ 281474976710656
theorem zf7 (G) (a b : IdM) : zo Tryz.prog G 99 [idD a, idD b] [bD (xg a b)] := by
 skip
 refine GI [] [] [] Tryz.func99 Tryz.ntmps99 fun F hP hG hN hR hA => ?_
 have hE := @Tryz.results99
 refine WS [2, 3] [2, 3] ?_
 refine WS [4] [] ?_
 apply za
 simp only [kz, ym, vv, qt, qi, qr, vn, qg, qa, xu, qx, vg, xk, xx, xt, vf, xw, xh, xy, xd, avA, zl, zp, seval, ↓List.forall_mem_cons, Op.operands, hP, hG, tiA, hE, xg]
 all_goals try trivial
theorem zvl (G) (a b : List IdM) (ha : a.length ≤ 281474976710656) : zo Tryz.prog G 101 [zr4 a, zr4 b] [bD (x5 xg a b)] := by
 skip
 refine GI [] [] [] Tryz.func101 Tryz.ntmps101 fun F hP hG hN hR hA => ?_
 have hE := @Tryz.results101
 refine WS [0, 1] [] ?_
 apply z6
 refine WS [0, 1, 10] [] ?_
 refine WI ?_ ?_ <;> intro hb
 ·have hv : x5 xg a b = false := yr (by omega)
  have hE := And.intro hE hv
  refine WS [4] [] ?_
  apply za
  apply zb
  exact E0
 ·have hlen : a.length = b.length := by omega
  apply z9
  apply z7
  apply z6
  refine WS [0, 1, 5] [] ?_
  apply zc
  refine WL (ι := {i : Nat // i ≤ a.length ∧ ∀ j, j < i → xg (a.getD j default) (b.getD j default) = true}) [0, 1] [] (fun ⟨i, hih⟩ => [(5, .dat (iD i))]) (fun ⟨i, hih⟩ => []) (fun ⟨i, hih⟩ => a.length - i) (⟨0, by omega, fun j h => absurd h (Nat.not_lt_zero j)⟩) ?_
  rintro ⟨i, hih⟩
  refine LA ?_
  obtain ⟨hi, hall⟩ := id hih
  apply z6
  refine WS [0, 1, 5, 14] [] ?_
  refine WI ?_ ?_ <;> intro hb
  ·apply z9
   apply z7
   apply z6
   apply zc
   apply wn [0, 1, 5, 26] [] [0, 1, 2, 3, 4, 5, 6, 7, 8, 9] []
   ·rw [hP]; kernel_rfl
   ·exact hR
   ·kernel_rfl
   ·(repeat (apply PickL.cons; exact rfl)); exact PickL.nil _
   ·refine RN ?_
    refine CU (zf7 G (a.getD i default) (b.getD i default)) ?_
    exact SC
   refine WI ?_ ?_ <;> intro hb
   ·have hv : x5 xg a b = false := jc i (by omega) hlen hb
    have hE := And.intro hE hv
    refine WS [4] [] ?_
    apply za
    apply zf
    apply zb
    apply qb
    apply zf
    apply zb
    exact E0
   ·have hok : xg (a.getD i default) (b.getD i default) = true := hb
    apply z9
    apply zg
    apply z7
    refine WQ [0, 1, 5] [] ?_
    refine WN (⟨i + 1, by omega, vx hih.2 hok⟩)
  ·apply zn
   apply zh
   obtain rfl : i = a.length := by omega
   have hv : x5 xg a b = true := jb hlen hall
   have hE := And.intro hE hv
   apply ze
   apply zw
   apply z7
   refine WS [4] [] ?_
   apply za
   exact E0
theorem zt5 (G) (t u : TermM) (ht : t.Broader.length ≤ 281474976710656) : zo Tryz.prog G 69 [zi7 t, zi7 u] [bD (Qr t u)] := by
 skip
 skip
 refine GI [] [] [] Tryz.func69 Tryz.ntmps69 fun F hP hG hN hR hA => ?_
 have hE := And.intro @Tryz.results69 (@z1k)
 refine WS [2, 3] [2, 3] ?_
 apply zu [4] []
 ·refine RN ?_
  refine CG (zdm G t.Broader u.Broader ht) ?_
  exact SC
 apply za
 simp only [kz, ym, vv, qt, qi, qr, vn, qg, qa, xu, qx, vg, xk, xx, xt, vf, xw, xh, xy, xd, avA, zl, zp, seval, ↓List.forall_mem_cons, Op.operands, hP, hG, tiA, hE, Qr]
 all_goals try trivial
theorem zhw (G) (t u : TermM) (ht : t.Broader.length ≤ 281474976710656) : zo Tryz.prog G 63 [zi7 t, zi7 u] [bD (Qr t u)] := by
 skip
 skip
 refine GI [] [] [] Tryz.func63 Tryz.ntmps63 fun F hP hG hN hR hA => ?_
 have hE := And.intro @Tryz.results63 (@z1k)
 refine WS [2, 3] [2, 3] ?_
 apply zu [4] []
 ·refine RN ?_
  refine CG (z6v G t.Broader u.Broader ht) ?_
  exact SC
 apply za
 simp only [kz, ym, vv, qt, qi, qr, vn, qg, qa, xu, qx, vg, xk, xx, xt, vf, xw, xh, xy, xd, avA, zl, zp, seval, ↓List.forall_mem_cons, Op.operands, hP, hG, tiA, hE, Qr]
 all_goals try trivial
theorem zsv (G) (p q : PostM) (ht : p.Path.length ≤ 281474976710656) : zo Tryz.prog G 61 [zae p, zae q] [bD (ju p q)] := by
 skip
 skip
 refine GI [] [] [] Tryz.func61 Tryz.ntmps61 fun F hP hG hN hR hA => ?_
 have hE := And.intro @Tryz.results61 (@zj3)
 refine WS [2, 3] [2, 3] ?_
 apply zu [4] []
 ·refine RN ?_
  refine CG (z6v G p.Path q.Path ht) ?_
  exact SC
 apply za
 simp only [kz, ym, vv, qt, qi, qr, vn, qg, qa, xu, qx, vg, xk, xx, xt, vf, xw, xh, xy, xd, avA, zl, zp, seval, ↓List.forall_mem_cons, Op.operands, hP, hG, tiA, hE, ju, xg]
 all_goals try trivial
set_option maxRecDepth 100000 in
theorem zyn (G) (o p : OpM) (h : SzOp o) : zo Tryz.prog G 68 [opD o, opD p] [bD (Z1 o p)] := by
 skip
 skip
 refine GI [] [] [] Tryz.func68 Tryz.ntmps68 fun F hP hG hN hR hA => ?_
 have hE := And.intro @Tryz.results68 (And.intro @zj3 (And.intro @zqt (@z1k)))
 refine WS [2, 3] [2, 3] ?_
 refine zx3 (by simp only [List.append_eq, List.cons_append, List.nil_append]; exact rfl) ?_
 apply zu [4] []
 ·refine RN ?_
  refine CG (zdm G o.Texts p.Texts h.texts) ?_
  refine CG (zp3 G o.Pairs p.Pairs h.pairs) ?_
  refine CG (zw5 G o.Refs p.Refs h.refs) ?_
  exact SC
 apply za
 simp only [kz, ym, vv, qt, qi, qr, vn, qg, qa, xu, qx, vg, xk, xx, xt, vf, xw, xh, xy, xd, avA, zl, zp, seval, ↓List.forall_mem_cons, Op.operands, hP, hG, tiA, hE, Z1, xg, z2q]
 all_goals try trivial
set_option maxRecDepth 100000 in
theorem zsu (G) (o p : OpM) (h : SzOp o) : zo Tryz.prog G 64 [opD o, opD p] [bD (Z1 o p)] := by
 skip
 skip
 refine GI [] [] [] Tryz.func64 Tryz.ntmps64 fun F hP hG hN hR hA => ?_
 have hE := And.intro @Tryz.results64 (And.intro @zqt (@z1k))
 refine WS [2, 3] [2, 3] ?_
 apply z6
 apply zu [2, 3, 53] [2, 3]
 ·refine RN ?_
  refine CG (zf7 G o.At p.At) ?_
  refine CG (zf7 G o.To p.To) ?_
  exact SC
 refine WI ?_ ?_ <;> intro hb
 ·have hv : Z1 o p = false := by
   unfold Z1 z2q
   grind
  have hE := And.intro hE hv
  refine WS [4] [] ?_
  apply za
  apply zb
  exact E0
 ·have hv : Z1 o p = (w6 o.Text p.Text && x5 w6 o.Texts p.Texts && x5 wy o.Pairs p.Pairs && x5 xg o.Refs p.Refs) := by
   unfold Z1 z2q
   grind
  have hE := And.intro hE hv
  apply z9
  apply z7
  apply zu [4] []
  ·refine RN ?_
   refine CG (z6v G o.Texts p.Texts h.texts) ?_
   refine CG (zoq G o.Pairs p.Pairs h.pairs) ?_
   refine CG (zvl G o.Refs p.Refs h.refs) ?_
   exact SC
  apply za
  exact E0
theorem zry (G) (k : Int) : zo Tryz.prog G 40 [iD k] [zzu (ofM k)] := by
 skip
 refine GI [] [] [] Tryz.func40 Tryz.ntmps40 fun F hP hG hN hR hA => ?_
 have hE := @Tryz.results40
 refine WS [0, 2] [2] ?_
 apply z6
 refine WS [2, 3] [2] ?_
 apply zc
 refine WS [2, 3, 4] [2] ?_
 refine WI ?_ ?_ <;> intro hb
 ·refine WS [2] [2] ?_
  apply za
  apply zf
  apply zb
  refine EN ?_
  all_goals try trivial
  all_goals (simp [ofM, *])
 ·refine WS [2, 3, 7] [2] ?_
  refine WI ?_ ?_ <;> intro hb
  ·refine WS [2] [2] ?_
   apply za
   apply zf
   apply zb
   refine EN ?_
   all_goals try trivial
   all_goals (simp [ofM, *])
  ·apply z6
   refine WS [2, 3, 10] [2] ?_
   refine WI ?_ ?_ <;> intro hb
   ·apply z9
    apply z7
    refine jd (by first | exact rfl | (simp only [xi, wt, qn, qw]; simp [*])) ?_
    refine WS [2] [2] ?_
    apply za
    apply zf
    apply zb
    refine EN ?_
    all_goals try trivial
    all_goals (simp [ofM, *])
   ·refine WQ [2, 3, 10] [2] ?_
    apply z7
    refine WI ?_ ?_ <;> intro hb
    ·refine WS [2] [2] ?_
     apply za
     apply zf
     apply zb
     refine EN ?_
     all_goals try trivial
     all_goals (simp [ofM, *])
    ·apply z6
     refine WS [2, 3, 14] [2] ?_
     refine WI ?_ ?_ <;> intro hb
     ·apply z9
      apply z7
      refine jd (by first | exact rfl | (simp only [xi, wt, qn, qw]; simp [*])) ?_
      refine WS [2] [2] ?_
      apply za
      apply zf
      apply zb
      refine EN ?_
      all_goals try trivial
      all_goals (simp [ofM, *])
     ·refine WQ [2, 14] [2] ?_
      apply z7
      refine WI ?_ ?_ <;> intro hb
      ·refine WS [2] [2] ?_
       apply za
       apply zf
       apply zb
       refine EN ?_
       all_goals try trivial
       all_goals (simp [ofM, *])
      ·apply z9
       apply zg
       apply z7
       refine WS [2] [2] ?_
       apply za
       refine EN ?_
       all_goals try trivial
       all_goals (simp [ofM, *])
theorem z5o (G) (n : NameM) : zo Tryz.prog G 73 [vb n] [bD (Zx n)] := by
 skip
 refine GI [] [] [] Tryz.func73 Tryz.ntmps73 fun F hP hG hN hR hA => ?_
 have hE := @Tryz.results73
 refine WS [1] [1] ?_
 refine WS [2] [] ?_
 apply za
 simp only [kz, ym, vv, qt, qi, qr, vn, qg, qa, xu, qx, vg, xk, xx, xt, vf, xw, xh, xy, xd, avA, zl, zp, seval, ↓List.forall_mem_cons, Op.operands, hP, hG, tiA, hE, Zx]
 all_goals try trivial
 all_goals grind
theorem zsh (G) (a b : NameM) : zo Tryz.prog G 75 [vb a, vb b] [bD (z3v a b)] := by
 skip
 refine GI [] [] [] Tryz.func75 Tryz.ntmps75 fun F hP hG hN hR hA => ?_
 have hE := @Tryz.results75
 refine WS [2, 3] [2, 3] ?_
 refine WS [4] [] ?_
 apply za
 simp only [kz, ym, vv, qt, qi, qr, vn, qg, qa, xu, qx, vg, xk, xx, xt, vf, xw, xh, xy, xd, avA, zl, zp, seval, ↓List.forall_mem_cons, Op.operands, hP, hG, tiA, hE, z3v]
 all_goals try trivial
 all_goals grind
theorem zat (G) (e : EventM) : zo Tryz.prog G 25 [zr e] [vb (evName e)] := by
 skip
 refine GI [] [] [] Tryz.func25 Tryz.ntmps25 fun F hP hG hN hR hA => ?_
 have hE := @Tryz.results25
 refine WS [1, 2] [1, 2] ?_
 refine WS [2] [2] ?_
 apply za
 simp only [kz, ym, vv, qt, qi, qr, vn, qg, qa, xu, qx, vg, xk, xx, xt, vf, xw, xh, xy, xd, avA, zl, zp, seval, ↓List.forall_mem_cons, Op.operands, hP, hG, tiA, hE, evName]
 all_goals try trivial
theorem z2v (G) (a b : EventM) : zo Tryz.prog G 46 [zr a, zr b] [bD (yx a b)] := by
 skip
 refine GI [] [] [] Tryz.func46 Tryz.ntmps46 fun F hP hG hN hR hA => ?_
 have hE := @Tryz.results46
 refine WS [2, 3] [2, 3] ?_
 apply z6
 refine WS [2, 3, 9] [2, 3] ?_
 refine WI ?_ ?_ <;> intro hb
 ·have hl : yx a b = decide (a.Tick < b.Tick) := by unfold yx; rw [if_pos hb]
  have hE := And.intro hE hl
  refine WS [4] [] ?_
  apply za
  apply zb
  exact E0
 ·have hl : yx a b = z3v (evName a) (evName b) := by unfold yx; rw [if_neg (by omega)]
  have hE := And.intro hE hl
  apply z9
  apply z7
  apply wn [4] [] [0, 1, 2, 3, 4, 5] []
  ·rw [hP]; kernel_rfl
  ·exact hR
  ·kernel_rfl
  ·(repeat (apply PickL.cons; exact rfl)); exact PickL.nil _
  ·refine RN ?_
   refine CU (z38 G a) ?_
   refine CU (z38 G b) ?_
   refine CU (zlm G (evName a) (evName b)) ?_
   exact SC
  apply za
  exact E0
theorem Xz (G) (n : Int) (hn : I64 n) : zo Tryz.prog G 27 [iD n] [sD (wordM n)] := by
 have hr := xj (n := n) (m := 8) (by omega)
 have hw : ([.str ⟨#[97, 110, 110, 97]⟩, .str ⟨#[114, 111, 109, 101]⟩, .str ⟨#[107, 105, 110, 103]⟩, .str ⟨#[107, 105, 110, 103, 32, 97, 110, 110, 97]⟩, .str ⟨#[111, 100, 101]⟩, .str ⟨#[108, 121, 114, 101, 32, 111, 102, 32, 114, 111, 109, 101]⟩, .str ⟨#[120, 32, 49, 50]⟩, .str ⟨#[116, 104, 101, 32, 101, 110, 100, 46]⟩] : List Dat) = wordsL.map Dat.str := rfl
 have hwl : wordsL.length = 8 := rfl
 skip
 skip
 refine GI [] [] [] Tryz.func27 Tryz.ntmps27 fun F hP hG hN hR hA => ?_
 have hE := And.intro @Tryz.results27 (And.intro (And.intro hw hwl) (@wordM.eq_1))
 refine WS [0] [] ?_
 refine WS [0, 3] [4] ?_
 have hc := gvF hP hG (kq G n 8 hn (by omega) (by unfold I64; omega))
 refine WSc [2] [] ?_
 apply za
 exact E0
abbrev zOp : OpM := ⟨0, ⟨0, 0, 0⟩, ⟨0, 0, 0⟩, ⟨0, 0, 0⟩, 0, 0, 0, ⟨#[]⟩, [], [], []⟩
abbrev zbn : TermM := ⟨⟨#[]⟩, 0, 0, ⟨#[]⟩, []⟩
abbrev zID : IdM := ⟨0, 0, 0⟩
def z6g (e : EventM) : Bool := decide (16 < e.Refs.length) || decide (16 < e.Posts.length) || decide (8 < e.Term.Broader.length) || ((ofM e.Kind).op && decide (65536 < (opB e.Op).length))
def z86 (e : EventM) : Bool := !Zx (evName e) || !we e.Tick 1048576 || !we e.Kind 6
def z1t (e : EventM) : Bool := (!(ofM e.Kind).op && !Z1 e.Op zOp) || (!(ofM e.Kind).term && !Qr e.Term zbn)
def z3m (e : EventM) : Bool := (!(ofM e.Kind).id && !xg e.ID zID) || (!(ofM e.Kind).posts && decide (0 < e.Posts.length)) || (!(ofM e.Kind).n && decide (e.N ≠ 0))
def Qi (e : EventM) (i : Nat) : Bool := !Zx (e.Refs.getD i default) || wh (e.Refs.getD i default) (evName e) || (decide (0 < i) && !z3v (e.Refs.getD (i - 1) default) (e.Refs.getD i default))
def zbr (e : EventM) : Bool := (ofM e.Kind).term && (!vr e.Term.Name || (!w6 e.Term.See ⟨#[]⟩ && !vr e.Term.See) || !we e.Term.Kind 2 || !we e.Term.Lang 3 || !yp e.Term.Broader)
def Q1 (e : EventM) (i : Nat) : Bool := !xg (e.Posts.getD i default).ID e.ID || decide ((e.Posts.getD i default).Path.length = 0) || decide (4 < (e.Posts.getD i default).Path.length) || !yp (e.Posts.getD i default).Path
def vu (e : EventM) : Int :=
 if z6g e = true then 4
 else if z86 e = true ∨ z1t e = true ∨ z3m e = true ∨ we e.N 1048576 = false then 1
 else if ∃ i, i < e.Refs.length ∧ Qi e i = true then 1
 else if zbr e = true then 1
 else if ∃ i, i < e.Posts.length ∧ Q1 e i = true then 1
 else 0
structure OkEv (e : EventM) : Prop where
 by_ : I64 e.By
 seq : I64 e.Seq
 tick : I64 e.Tick
 kind : I64 e.Kind
 n : I64 e.N
 id : z6e e.ID
 tk : I64 e.Term.Kind
 tl : I64 e.Term.Lang
 refs : ∀ r ∈ e.Refs, I64 r.By ∧ I64 r.Seq
 nrefs : e.Refs.length ≤ 100000
 op : OkOp e.Op
 name : e.Term.Name.size ≤ 900000
 see : e.Term.See.size ≤ 900000
 broader : ∀ s ∈ e.Term.Broader, s.size ≤ 900000
 nbroader : e.Term.Broader.length ≤ 100000
 posts : ∀ p ∈ e.Posts, z6e p.ID ∧ p.Path.length ≤ 60000 ∧ ∀ s ∈ p.Path, s.size ≤ 900000
 nposts : e.Posts.length ≤ 1000
theorem zrz (k : Int) : (ofM k).op = decide (k = 0) := by unfold ofM; grind
theorem zev (k : Int) : (ofM k).term = decide (k = 2) := by unfold ofM; grind
theorem zwo (k : Int) : (ofM k).id = (decide (k = 3) || decide (k = 4) || decide (k = 5) || decide (k = 6)) := by unfold ofM; grind
theorem z5d (k : Int) : (ofM k).posts = (decide (k = 3) || decide (k = 4)) := by unfold ofM; grind
theorem zv6 (k : Int) : (ofM k).n = (decide (k = 5) || decide (k = 6)) := by unfold ofM; grind
theorem zdu {e : EventM} (h : z6g e = true) : vu e = 4 := by unfold vu; rw [if_pos h]
theorem z3k {e : EventM} (h0 : z6g e = false) (h : z86 e = true ∨ z1t e = true ∨ z3m e = true ∨ we e.N 1048576 = false) : vu e = 1 := by
 unfold vu; rw [if_neg (by simp [h0]), if_pos h]
theorem zdv {e : EventM} (h0 : z6g e = false) (h : z86 e = false ∧ z1t e = false ∧ z3m e = false ∧ we e.N 1048576 = true) {i : Nat} (hi : i < e.Refs.length) (hb : Qi e i = true) : vu e = 1 := by
 unfold vu; rw [if_neg (by simp [h0]), if_neg (by simp [h]), if_pos ⟨i, hi, hb⟩]
theorem zmb {e : EventM} (h0 : z6g e = false) (h : z86 e = false ∧ z1t e = false ∧ z3m e = false ∧ we e.N 1048576 = true) (hr : ∀ i, i < e.Refs.length → Qi e i = false) (h5 : zbr e = true) : vu e = 1 := by
 unfold vu; rw [if_neg (by simp [h0]), if_neg (by simp [h]), if_neg (by rintro ⟨i, h1, h2⟩; rw [hr i h1] at h2; cases h2), if_pos h5]
theorem zbi {e : EventM} (h0 : z6g e = false) (h : z86 e = false ∧ z1t e = false ∧ z3m e = false ∧ we e.N 1048576 = true) (hr : ∀ i, i < e.Refs.length → Qi e i = false) (h5 : zbr e = false) {i : Nat} (hi : i < e.Posts.length) (hb : Q1 e i = true) : vu e = 1 := by
 unfold vu; rw [if_neg (by simp [h0]), if_neg (by simp [h]), if_neg (by rintro ⟨i, h1, h2⟩; rw [hr i h1] at h2; cases h2), if_neg (by simp [h5]), if_pos ⟨i, hi, hb⟩]
theorem zdt {e : EventM} (h0 : z6g e = false) (h : z86 e = false ∧ z1t e = false ∧ z3m e = false ∧ we e.N 1048576 = true) (hr : ∀ i, i < e.Refs.length → Qi e i = false) (h5 : zbr e = false) (hp : ∀ i, i < e.Posts.length → Q1 e i = false) : vu e = 0 := by
 unfold vu; rw [if_neg (by simp [h0]), if_neg (by simp [h]), if_neg (by rintro ⟨i, h1, h2⟩; rw [hr i h1] at h2; cases h2), if_neg (by simp [h5]), if_neg (by rintro ⟨i, h1, h2⟩; rw [hp i h1] at h2; cases h2)]
theorem zfd {o : OpM} (h : OkOp o) : SzOp o := ⟨by have := h.ntexts; omega, by have := h.npairs; omega, by have := h.nrefs; omega⟩
def qp (p : PostM) : List Int := wd (if p.Main = true then 1 else 0) ++ strsM p.Path
def Zj (e : EventM) : List Int :=
 if e.Kind = 0 then opB e.Op
 else if e.Kind = 2 then intsM [e.Term.Kind, e.Term.Lang] ++ strsM (e.Term.Name :: e.Term.See :: e.Term.Broader)
 else if e.Kind = 3 ∨ e.Kind = 4 then intsM (idI e.ID) ++ wd e.Posts.length ++ e.Posts.flatMap qp
 else if e.Kind = 5 ∨ e.Kind = 6 then intsM (idI e.ID ++ [e.N])
 else []
def Zh (e : EventM) : List Int := intsM [e.By, e.Seq, e.Tick, e.Kind] ++ intsM (e.Refs.flatMap nameI)
def evB (e : EventM) : List Int := Zh e ++ Zj e
theorem w8 {l : List Int} (h : ∀ x ∈ l, I64 x) (hl : l.length ≤ 1000000) : (intsM l).length ≤ 9 + 9 * l.length := z9s h (Nat.le_refl _) hl
theorem z0s {l : List ByteArray} (h : ∀ s ∈ l, s.size ≤ 1000000) (hl : l.length ≤ 1000000) : (strsM l).length ≤ 9 + 1000009 * l.length := zb8 h (Nat.le_refl _) hl
theorem zs7 {p : PostM} (h : p.Path.length ≤ 60000 ∧ ∀ s ∈ p.Path, s.size ≤ 900000) : (qp p).length ≤ 60000600000 := by
 have h1 := z0s (l := p.Path) (fun s hs => by have := h.2 s hs; omega) (by omega)
 have h2 : (wd (if p.Main = true then 1 else 0)).length ≤ 9 := vj (by split <;> (unfold I64; omega))
 have h3 : 1000009 * p.Path.length ≤ 1000009 * 60000 := Nat.mul_le_mul_left _ h.1
 simp only [qp, List.length_append]
 omega
theorem z6n {e : EventM} (h : OkEv e) (i : Nat) (hi : i ≤ e.Posts.length) : (x3 qp e.Posts i).length ≤ 60000600000 * i := by
 have h1 := Zm qp 60000600000 (z1d e.Posts i) fun p hp => zs7 (h.posts p (za6 hp)).2
 rw [z2e _ _ hi] at h1
 exact h1
theorem z0l {e : EventM} (h : OkEv e) : ∀ x ∈ e.Refs.flatMap nameI, I64 x := fun x hx => by
 obtain ⟨p, hp, hx⟩ := List.mem_flatMap.1 hx
 have := h.refs p hp
 simp only [nameI, List.mem_cons, List.not_mem_nil, or_false] at hx
 rcases hx with rfl | rfl
 ·exact this.1
 ·exact this.2
def zek (h : List Int) : OpM := ⟨h.getD 0 default, ⟨h.getD 1 default, h.getD 2 default, h.getD 3 default⟩, ⟨h.getD 4 default, h.getD 5 default, h.getD 6 default⟩, ⟨h.getD 7 default, h.getD 8 default, h.getD 9 default⟩, h.getD 10 default, h.getD 11 default, h.getD 12 default, ⟨#[]⟩, [], [], []⟩
def zwq (l : List Int) (k : Nat) : Int × Int := (l.getD (k * 2) default, l.getD (k * 2 + 1) default)
def vd (l : List Int) (k : Nat) : List (Int × Int) := (List.range k).map (zwq l)
def zzh (l : List Int) (k : Nat) : IdM := ⟨l.getD (k * 3) default, l.getD (k * 3 + 1) default, l.getD (k * 3 + 2) default⟩
def yd (l : List Int) (k : Nat) : List IdM := (List.range k).map (zzh l)
def edH (b : List Int) : List Int × Nat × Int := x8 b 0 0 13 true
def edT (b : List Int) : ByteArray × Int × Int := zq (b.drop (edH b).2.1)
def X4 (b : List Int) : Nat := (edH b).2.1 + (edT b).2.1.toNat
def edS (b : List Int) : List ByteArray × Nat × Int := zx (b.drop (X4 b))
def z66 (b : List Int) : Nat := X4 b + (edS b).2.1
def edP (b : List Int) : List Int × Nat × Int := x8 b (z66 b) (edS b).2.2 2 false
def edQ (b : List Int) : List Int × Nat × Int := x8 b (edP b).2.1 (edP b).2.2 3 false
def zy (b : List Int) : OpM × Nat × Int :=
 if (edH b).2.2 ≠ 0 then (zOp, 0, (edH b).2.2)
 else if (edT b).2.2 ≠ 0 then (zOp, 0, (edT b).2.2)
 else if (edQ b).2.2 ≠ 0 then (zOp, 0, (edQ b).2.2)
 else ({ zek (edH b).1 with Text := (edT b).1, Texts := (edS b).1, Pairs := vd (edP b).1 ((edP b).1.length / 2), Refs := yd (edQ b).1 ((edQ b).1.length / 3) }, (edQ b).2.1, 0)
theorem Z4 {b : List Int} (hib : isB b) {a : Nat} (ha : a ≤ b.length) (er : Int) (n : Nat) (just : Bool) : (x8 b a er n just).2.1 ≤ b.length ∧ (x8 b a er n just).1.length ≤ b.length := by
 have h := y6 (zt hib a)
 have hd : (b.drop a).length = b.length - a := List.length_drop
 unfold x8
 split
 ·exact ⟨ha, Nat.zero_le _⟩
 split
 ·exact ⟨ha, Nat.zero_le _⟩
 split
 ·exact ⟨ha, Nat.zero_le _⟩
 ·rename_i h1 h2 h3
  have h4 := h.1
  have h5 := h.2 (Classical.not_not.1 h2)
  exact ⟨by show a + _ ≤ _; omega, by show (zd (b.drop a)).1.length ≤ _; omega⟩
theorem z11 {b : List Int} {a : Nat} {er : Int} {n : Nat} {just : Bool} (h : (x8 b a er n just).2.2 = 0) : er = 0 ∧ ((x8 b a er n just).1.length : Int).tmod n = 0 ∧ (just = true → (x8 b a er n just).1.length = n) := by
 unfold x8 at h ⊢
 split at h
 ·exact absurd h ‹_›
 split at h
 ·exact absurd h ‹_›
 split at h
 ·exact absurd h (by simp)
 ·rename_i h1 h2 h3
  rw [if_neg h1, if_neg h2, if_neg h3]
  simp only [not_or, Classical.not_not, not_and] at h3
  exact ⟨by omega, h3.1, fun hj => by have := h3.2 hj; show (zd (b.drop a)).1.length = n; omega⟩
theorem zqp {b : List Int} (hib : isB b) : 0 ≤ (edT b).2.1 ∧ (edH b).2.1 + (edT b).2.1.toNat ≤ b.length := by
 have h1 := (Z4 hib (Nat.zero_le _) 0 13 true).1
 have h2 := Q4 (zt hib (edH b).2.1)
 have hd : (b.drop (edH b).2.1).length = b.length - (edH b).2.1 := List.length_drop
 rw [hd] at h2
 have h3 : (edH b).2.1 ≤ b.length := h1
 exact ⟨h2.1, by show _ + (zq _).2.1.toNat ≤ _; omega⟩
theorem ki {b : List Int} (hb : isB b) : (zx b).2.1 ≤ b.length := by
 unfold zx
 split
 ·exact Nat.zero_le _
 ·rename_i h
  obtain ⟨h1, h2, h3, h4⟩ := vz hb (by omega)
  have h5 := qu hb
  exact z5s hb (by rw [h1]; omega) _
theorem zix {b : List Int} (hib : isB b) : z66 b ≤ b.length := by
 have h1 : X4 b ≤ b.length := (zqp hib).2
 have h2 := ki (zt hib (X4 b))
 have hd : (b.drop (X4 b)).length = b.length - X4 b := List.length_drop
 show X4 b + (zx (b.drop (X4 b))).2.1 ≤ b.length
 omega
theorem z7q (l : List Int) : vd l 0 = [] := rfl
theorem z1b (l : List Int) (k : Nat) : (vd l k).length = k := by simp [vd]
theorem z7p (l : List Int) (k : Nat) : vd l (k + 1) = vd l k ++ [zwq l k] := by simp [vd, List.range_succ]
theorem z2d (l : List Int) (k : Nat) : (vd l k).take k = vd l k := List.take_of_length_le (by rw [z1b]; exact Nat.le_refl _)
theorem z80 (l : List Int) : yd l 0 = [] := rfl
theorem z1f (l : List Int) (k : Nat) : (yd l k).length = k := by simp [yd]
theorem z2f (l : List Int) (k : Nat) : (yd l k).take k = yd l k := List.take_of_length_le (by rw [z1f]; exact Nat.le_refl _)
theorem z7z (l : List Int) (k : Nat) : yd l (k + 1) = yd l k ++ [zzh l k] := by simp [yd, List.range_succ]
theorem z7t {l : List Int} {n q : Nat} {t : Nat} : ∀ x ∈ j3 l n q, x.length = (#[t] : Array Nat).size := fun x hx => by
 unfold j3 at hx
 obtain ⟨k, _, rfl⟩ := List.mem_map.1 hx
 rfl
theorem z31 {l : List Int} {n : Nat} (hn : 0 < n) (h : (l.length : Int).tmod n = 0) : l.length = l.length / n * n := by
 rw [← Int.ofNat_tmod] at h
 have := Nat.div_add_mod l.length n
 have h2 : l.length % n = 0 := by omega
 rw [Nat.mul_comm]
 omega
theorem zky {b : List Int} (h : (edQ b).2.2 = 0) : (edP b).1.length = (edP b).1.length / 2 * 2 ∧ (edQ b).1.length = (edQ b).1.length / 3 * 3 := by
 obtain ⟨h1, h2, _⟩ := z11 (b := b) (a := (edP b).2.1) (er := (edP b).2.2) (n := 3) (just := false) h
 obtain ⟨_, h4, _⟩ := z11 (b := b) (a := z66 b) (er := (edS b).2.2) (n := 2) (just := false) h1
 exact ⟨z31 (by decide) h4, z31 (by decide) h2⟩
theorem zhd {l : List Int} {n q k i : Nat} (hl : l.length = q * n) (hk : k < q) (hi : i < n) : (Q8 l n k).getD i default = l.getD (k * n + i) default := by
 unfold Q8
 simp [List.getD_eq_getElem?_getD, List.getElem?_take, List.getElem?_drop, hi]
theorem zd8 {l : List Int} {n q k : Nat} (hl : l.length = q * n) (hk : k < q) : (Q8 l n k).length = n := by
 have : (k + 1) * n ≤ q * n := Nat.mul_le_mul_right n hk
 rw [Nat.add_mul] at this
 simp [Q8]; omega
set_option maxRecDepth 100000 in
set_option maxHeartbeats 4000000 in
theorem zu6 (G) (b : List Int) (hib : isB b) (hl : b.length ≤ 1000000) : zo Tryz.prog G 91 [wm b] [opD (zy b).1, iD (zy b).2.1, iD (zy b).2.2] := by
 have hH := Z4 hib (Nat.zero_le _) 0 13 true
 have hT := zqp hib
 have fH : x8 b 0 0 13 true = edH b := rfl
 have fT : zq (b.drop (edH b).2.1) = edT b := rfl
 have fS : zx (b.drop (X4 b)) = edS b := rfl
 have c1 : ((edH b).2.1 : Int) + (edT b).2.1 = (X4 b : Int) := by
  show _ = (((edH b).2.1 + (edT b).2.1.toNat : Nat) : Int)
  omega
 have c2 : (X4 b : Int) + ((edS b).2.1 : Int) = (z66 b : Int) := by
  show _ = ((X4 b + (edS b).2.1 : Nat) : Int)
  omega
 have hA1 : X4 b ≤ b.length := hT.2
 have hA2 := zix hib
 have fP : x8 b (z66 b) (edS b).2.2 2 false = edP b := rfl
 have fQ : x8 b (edP b).2.1 (edP b).2.2 3 false = edQ b := rfl
 have hPa : (edP b).2.1 ≤ b.length ∧ (edP b).1.length ≤ b.length := Z4 hib hA2 _ _ _
 have hQa : (edQ b).2.1 ≤ b.length ∧ (edQ b).1.length ≤ b.length := Z4 hib hPa.1 _ _ _
 skip
 skip
 skip
 refine GI [160] [22, 134, 136] [] Tryz.func91 Tryz.ntmps91 fun F hP hG hN hR hA => ?_
 have hE := And.intro @Tryz.results91 (And.intro @fH (And.intro @fT (And.intro @fS (And.intro @c1 (And.intro @c2 (And.intro @fP (@fQ)))))))
 refine WS [0, 2] [2, 159, 160, 177, 178, 161, 179] ?_
 refine WS [0, 2, 5] [2, 20, 159, 160, 177, 178, 161, 179] ?_
 refine WS [0, 2, 5, 6] [2, 6, 20, 159, 160, 177, 178, 161, 179] ?_
 apply z6
 apply zu [0, 2, 5, 6, 7] [2, 6, 20, 159, 160, 177, 178, 161, 179]
 ·refine RN ?_
  refine CX (fun _ => 20) [] (Ql G b 0 0 13 true hib (by omega) (Nat.zero_le _) (by omega)) ?_
  exact SC
 refine WS [0, 2, 5, 6, 7, 27] [2, 6, 20, 159, 160, 177, 178, 161, 179] ?_
 refine WI ?_ ?_ <;> intro hb
 ·have hl13 : (edH b).1.length = 13 := (z11 (b := b) (a := 0) (er := 0) (n := 13) (just := true) hb).2.2 rfl
  refine WDQ [0, 2, 5, 6] [2, 6, 20, 159, 160, 177, 178, 161, 179] [0, 1, 2, 3, 4, 5, 6, 7, 8, 9, 10, 11, 12, 13, 14, 15, 16, 17, 18, 19, 20, 21, 22, 23, 24, 25, 26, 27, 28, 29, 30, 31, 32, 33, 34, 35, 36, 37, 38, 39, 40, 41, 42, 43] [] ?_
  apply z7
  apply z6
  refine WS [0, 2, 5, 6, 75] [2, 6, 20, 159, 160, 177, 178, 161, 179] ?_
  refine jd (by first | exact rfl | (simp only [xi, wt, qn, qw]; simp [*])) ?_
  have hc := gvF hP hG (z7e G (b.drop (edH b).2.1) (zt hib _) (by rw [List.length_drop]; omega))
  refine WSc [0, 2, 5, 6, 8, 9, 10] [2, 6, 20, 159, 160, 177, 178, 161, 179] ?_
  refine WQ [0, 2, 5, 6] [2, 6, 20, 159, 160, 177, 178, 161, 179] ?_
  apply z7
  apply z6
  refine WS [0, 2, 5, 6, 106] [2, 6, 20, 159, 160, 177, 178, 161, 179] ?_
  refine WI ?_ ?_ <;> intro hb
  ·have hc := gvF hP hG (z9m G (b.drop (X4 b)) (zt hib _) (by rw [List.length_drop]; omega))
   refine WSc [2, 5, 6, 11, 12, 13] [2, 6, 20, 159, 160, 177, 178, 161, 179] ?_
   refine WQ [2, 5, 6] [2, 6, 20, 159, 160, 177, 178, 161, 179] ?_
   apply z7
   apply zu [2, 5, 6, 14, 15] [2, 6, 20, 159, 160, 177, 178, 161, 179]
   ·refine RN ?_
    refine CX (fun _ => 20) [] (Ql G b ((z66 b)) ((edS b).2.2) 2 false hib (by omega) (hA2) (by omega)) ?_
    refine CX (fun _ => 20) [] (Ql G b ((edP b).2.1) ((edP b).2.2) 3 false hib (by omega) (hPa.1) (by omega)) ?_
    exact SC
   apply z6
   refine WS [2, 5, 6, 14, 15, 141] [2, 6, 20, 159, 160, 177, 178, 161, 179] ?_
   refine WI ?_ ?_ <;> intro hb
   ·have hv2 : zy b = (zOp, 0, (edQ b).2.2) := by unfold zy; rw [if_neg (by omega), if_neg (by omega), if_pos hb]
    have hE := And.intro hE hv2
    refine WDJ [2, 3, 4] [2, 159, 160, 177, 178, 161, 179] [(0, 142, _), (1, 143, _), (2, 144, _), (3, 145, _), (4, 146, _), (6, 3, _), (7, 4, _)] [(5, 2, ⟨17, _⟩)] ⟨DV 0 [] [5, 6, 7], DV 1 [] [2, 3, 4, 7], DV 2 [1] [3, 4, 7], DV 3 [1, 2] [4, 7], DV 4 [1, 2, 3] [7], DS 0 [0] [6, 7], DV 5 [0, 5] [7], DV 6 [0, 1, 2, 3, 4, 5, 6] [], trivial⟩ ?_
    apply za
    apply zb
    exact E0
   ·have hv2 : zy b = ({ zek (edH b).1 with Text := (edT b).1, Texts := (edS b).1, Pairs := vd (edP b).1 ((edP b).1.length / 2), Refs := yd (edQ b).1 ((edQ b).1.length / 3) }, (edQ b).2.1, 0) := by unfold zy; rw [if_neg (by omega), if_neg (by omega), if_neg (by omega)]
    have hE := And.intro hE hv2
    apply z9
    apply z7
    have hpl : (edP b).1.length = ((edP b).1.length / 2) * 2 := (zky hb).1
    have hfz := z7q (edP b).1
    have hfl := z1b (edP b).1
    refine xz 161 2 (by omega) ?_
    refine Qu 6 161 2 15 rfl rfl rfl rfl ?_
    apply zfs [2, 5, 6, 15, 148] [2, 6, 20, 161]
    ·simp (maxSteps := 2000000) (disch := omega) only [qq, avA, zl, zp, seval, ↓List.forall_mem_cons, Op.operands, hA, tiA, hE]
     (repeat' refine And.intro ?_ ?_) <;> try exact SD
     refine CallC.use (gvF hP hG (zg4 G (edP b).1 2 (by omega))) rfl ?_
     try simp (maxSteps := 2000000) (disch := omega) only [qq, avA, zl, zp, seval, ↓List.forall_mem_cons, Op.operands, hA, tiA, hE]
     exact SC
    refine zah (sl := [(6, .ptr 1000 17 0 0)]) (xs := j3 (edP b).1 2 ((edP b).1.length / 2)) hR.2.2.2.2 rfl (by rw [hP]; exact zca (edP b).1 2 _ (by omega) hpl (by omega)) z7t (by decide) (by rw [hN]; decide)
     (fun k => [(2, ⟨17, [.agg [.dat (iD 0), .dat (iD 0), .dat (iD 0), .dat (iD 0), .dat (iD 0), .dat (iD 0), .dat (iD 0), .dat (iD 0), .dat (iD 0), .dat (iD 0), .dat (iD 0), .dat (iD 0), .dat (iD 0), .dat (sD ⟨#[]⟩), .nils, .nils, .nils]]⟩), (6, ⟨17, [.agg [.dat (iD ((edH b).1.getD 0 default)), .dat (iD ((edH b).1.getD 1 default)), .dat (iD ((edH b).1.getD 2 default)), .dat (iD ((edH b).1.getD 3 default)), .dat (iD ((edH b).1.getD 4 default)), .dat (iD ((edH b).1.getD 5 default)), .dat (iD ((edH b).1.getD 6 default)), .dat (iD ((edH b).1.getD 7 default)), .dat (iD ((edH b).1.getD 8 default)), .dat (iD ((edH b).1.getD 9 default)), .dat (iD ((edH b).1.getD 10 default)), .dat (iD ((edH b).1.getD 11 default)), .dat (iD ((edH b).1.getD 12 default)), .dat (sD (edT b).1), .dat (ssD (edS b).1), .osl 161 2 0 k, .nils]]⟩), (20, ⟨3, [.dat (erD b (edQ b).2.1 (edQ b).2.2)]⟩), (161, ⟨2, ((vd (edP b).1 k).map Xw).map .dat⟩)])
     (fun k x => (16, x.headD (.sl []) |> .dat) :: ((149, .dat (x.headD (.sl []))) :: [(6, .ptr 1000 17 0 0)]))
     (fun k => [(1000, ⟨17, [.agg [.dat (iD ((edH b).1.getD 0 default)), .dat (iD ((edH b).1.getD 1 default)), .dat (iD ((edH b).1.getD 2 default)), .dat (iD ((edH b).1.getD 3 default)), .dat (iD ((edH b).1.getD 4 default)), .dat (iD ((edH b).1.getD 5 default)), .dat (iD ((edH b).1.getD 6 default)), .dat (iD ((edH b).1.getD 7 default)), .dat (iD ((edH b).1.getD 8 default)), .dat (iD ((edH b).1.getD 9 default)), .dat (iD ((edH b).1.getD 10 default)), .dat (iD ((edH b).1.getD 11 default)), .dat (iD ((edH b).1.getD 12 default)), .dat (sD (edT b).1), .dat (ssD (edS b).1), .osl 1001 2 0 k, .nils]]⟩), (1001, ⟨2, ((vd (edP b).1 k).map Xw).map .dat⟩)])
     (fun k => [(1000, ⟨17, [.agg [.dat (iD ((edH b).1.getD 0 default)), .dat (iD ((edH b).1.getD 1 default)), .dat (iD ((edH b).1.getD 2 default)), .dat (iD ((edH b).1.getD 3 default)), .dat (iD ((edH b).1.getD 4 default)), .dat (iD ((edH b).1.getD 5 default)), .dat (iD ((edH b).1.getD 6 default)), .dat (iD ((edH b).1.getD 7 default)), .dat (iD ((edH b).1.getD 8 default)), .dat (iD ((edH b).1.getD 9 default)), .dat (iD ((edH b).1.getD 10 default)), .dat (iD ((edH b).1.getD 11 default)), .dat (iD ((edH b).1.getD 12 default)), .dat (sD (edT b).1), .dat (ssD (edS b).1), .osl 160 2 0 (k + 1), .nils]]⟩), (160, ⟨2, ((vd (edP b).1 (k + 1)).map Xw).map .dat⟩)])
     (fun i => if i = 1000 then 6 else if i = 1001 then 161 else if i = 160 then 160 else i) [160] [160] [] [] ?_ ?_ ?_ ?_ ?_ ?_ ?_ ?_ ?_
    ·exact LeB.refl _ _
    ·exact fun k hk => qv hN (by (simp only [yc, AObj.ren, AV.ren, renL, qy, List.map_cons, List.map_nil, x1, xm]); (repeat' apply And.intro) <;> first | trivial | rfl) rfl
    ·exact fun k hk => Xd (by simp only [je, wr, w9, wo, wx, yq, AV.only, Bool.and_true] <;> simp [v6])
    ·intro k hk p hp
     rw [hN]
     simp only [List.mem_cons, List.not_mem_nil, or_false] at hp
     rcases hp with rfl | rfl <;> first | exact (show (185:Nat) ≤ 1000 by decide) | exact (show (185:Nat) ≤ 1001 by decide)
    ·intro p hp
     simp only [List.mem_cons, List.not_mem_nil, or_false] at hp
     subst hp; rfl
    ·intro k hk
     refine LeB.trans (LeB.of (e := [(2, .ptr 2 17 0 0), (5, .ptr 20 3 0 0), (6, .ptr 6 17 0 0), (15, .dat (isD (edQ b).1)), (148, .dat (.fn 134 [.ref (isD (edP b).1), .ref (iD (2 : Nat))]))]) (o := [(2, ⟨17, [.agg [.dat (iD 0), .dat (iD 0), .dat (iD 0), .dat (iD 0), .dat (iD 0), .dat (iD 0), .dat (iD 0), .dat (iD 0), .dat (iD 0), .dat (iD 0), .dat (iD 0), .dat (iD 0), .dat (iD 0), .dat (sD ⟨#[]⟩), .nils, .nils, .nils]]⟩), (6, ⟨17, [.agg [.dat (iD ((edH b).1.getD 0 default)), .dat (iD ((edH b).1.getD 1 default)), .dat (iD ((edH b).1.getD 2 default)), .dat (iD ((edH b).1.getD 3 default)), .dat (iD ((edH b).1.getD 4 default)), .dat (iD ((edH b).1.getD 5 default)), .dat (iD ((edH b).1.getD 6 default)), .dat (iD ((edH b).1.getD 7 default)), .dat (iD ((edH b).1.getD 8 default)), .dat (iD ((edH b).1.getD 9 default)), .dat (iD ((edH b).1.getD 10 default)), .dat (iD ((edH b).1.getD 11 default)), .dat (iD ((edH b).1.getD 12 default)), .dat (sD (edT b).1), .dat (ssD (edS b).1), .osl 160 2 0 (k + 1), .nils]]⟩), (20, ⟨3, [.dat (erD b (edQ b).2.1 (edQ b).2.2)]⟩), (160, ⟨2, ((vd (edP b).1 (k + 1)).map Xw).map .dat⟩)]) ?_ ?_) ((LeB.swap 160 161 (by omega) (by omega)).trans (LeB.of ?_ ?_))
     ·(simp (disch := omega) only [LeE, LeO, avX, qq, avA, hE, AObj.ren, AV.ren, qy, renE, renO, List.map_cons, List.map_nil]); (repeat' apply And.intro) <;> first | trivial | rfl
     ·(simp (disch := omega) only [LeE, LeO, avX, qq, avA, hE, AObj.ren, AV.ren, qy, renE, renO, List.map_cons, List.map_nil]); (repeat' apply And.intro) <;> first | trivial | rfl
     ·(simp (disch := omega) only [LeE, LeO, avX, qq, avA, hE, AObj.ren, AV.ren, qy, renE, renO, List.map_cons, List.map_nil]); (repeat' apply And.intro) <;> first | trivial | rfl
     ·(simp (disch := omega) only [LeE, LeO, avX, qq, avA, hE, AObj.ren, AV.ren, qy, renE, renO, List.map_cons, List.map_nil]); (repeat' apply And.intro) <;> first | trivial | rfl
    ·exact List.forall_mem_cons.2 ⟨⟨rfl, fun _ _ _ => rfl⟩, List.forall_mem_nil _⟩
    ·intro k x hx F1 hP1 hG1 hN1 hR1
     obtain ⟨hkq, rfl⟩ := zad hx
     replace hP := hP1.trans hP
     replace hG := hG1.trans hG
     replace hN := hN1.trans hN
     replace hR := hR1
     have hA := And.intro hN (And.intro hP (And.intro hG (And.intro hR.1 (And.intro hR.2.1 hR.2.2.1))))
     refine ⟨?_, ?_⟩
     ·simp (maxSteps := 2000000) (disch := omega) only [qq, avA, hA]
      exact ⟨by decide, rfl⟩
     have hpc := zd8 hpl hkq
     dsimp only [List.headD]
     have hkb : k ≤ 500000 := by omega
     have htk := z2d (edP b).1 k
     have hsu := z7p (edP b).1 k
     have hat := fun i (hi : i < 2) => zhd (i := i) hpl hkq hi
     have hE := And.intro hE (And.intro hfl (And.intro htk hpc))
     apply zc
     apply z0y [] [1000, 160] [0, 1, 2, 3, 4, 5, 6, 7, 8, 9, 10, 11, 12] [160, 159]
     ·rw [hP]; kernel_rfl
     ·exact hR
     ·kernel_rfl
     ·(repeat (apply PickL.cons; exact rfl)); exact PickL.nil _
     ·simp (maxSteps := 2000000) (disch := omega) only [qq, avA, zl, zp, seval, ↓List.forall_mem_cons, Op.operands, hA, tiA, hE]
      exact ⟨rfl, fun _ h => h.elim, ⟨fun _ h => h.elim, by omega, by omega⟩, rfl, rfl⟩
     apply zg
     have g0 := hat 0 (by decide)
     have g1 := hat 1 (by decide)
     have g2 : (vd (edP b).1 (k + 1)).map Xw = (vd (edP b).1 k).map Xw ++ [Dat.agg [.int .i64 ((Q8 (edP b).1 2 k).getD 0 default), .int .i64 ((Q8 (edP b).1 2 k).getD 1 default)]] := by rw [hsu, List.map_append]; rw [g0, g1]; rfl
     simp only [z77, qr, avA, hE, g2, List.map_append, List.map_cons, List.map_nil]
     (repeat' apply And.intro) <;> first | trivial | rfl
    refine fun F1 hP1 hG1 hN1 hR1 hrd hTop _ => ?_
    replace hR : F1.rows = [160] ∧ F1.lits = [22, 134, 136] ∧ F1.apps = [] ∧ TopF F1 := ⟨hR1.1.trans hR.1, hR1.2.1.trans hR.2.1, hR1.2.2.trans hR.2.2.1, hTop hR.2.2.2⟩
    have hE := And.intro hE hP
    replace hP := hP1.trans hP
    replace hG := hG1.trans hG
    replace hN := hN1.trans hN
    have hA := And.intro hN (And.intro hP (And.intro hG (And.intro hR.1 (And.intro hR.2.1 hR.2.2.1))))
    have hxl : (j3 (edP b).1 2 ((edP b).1.length / 2)).length = ((edP b).1.length / 2) := by simp [j3]
    rw [hxl]
    have hE := And.intro hE (And.intro hfl (z2d (edP b).1 ((edP b).1.length / 2)))
    refine jh 161 hR.2.2.2 rfl (datE_map _) ?_
    simp (disch := omega) only [avA, zl, zp, seval, hE]
    have hpl : (edQ b).1.length = ((edQ b).1.length / 3) * 3 := (zky hb).2
    have hfz := z80 (edQ b).1
    have hfl := z1f (edQ b).1
    refine xz 179 3 (by omega) ?_
    refine Qu 6 179 3 16 rfl rfl rfl rfl ?_
    apply zfs [2, 5, 6, 163] [2, 6, 20, 179]
    ·simp (maxSteps := 2000000) (disch := omega) only [qq, avA, zl, zp, seval, ↓List.forall_mem_cons, Op.operands, hA, tiA, hE]
     (repeat' refine And.intro ?_ ?_) <;> try exact SD
     refine CallC.use (gvF hP hG (zg4 G (edQ b).1 3 (by omega))) rfl ?_
     try simp (maxSteps := 2000000) (disch := omega) only [qq, avA, zl, zp, seval, ↓List.forall_mem_cons, Op.operands, hA, tiA, hE]
     exact SC
    refine zah (sl := [(6, .ptr 1000 17 0 0)]) (xs := j3 (edQ b).1 3 ((edQ b).1.length / 3)) hR.2.2.2.2 rfl (by rw [hP]; exact zca (edQ b).1 3 _ (by omega) hpl (by omega)) z7t (by decide) (by rw [hN]; decide)
     (fun k => [(2, ⟨17, [.agg [.dat (iD 0), .dat (iD 0), .dat (iD 0), .dat (iD 0), .dat (iD 0), .dat (iD 0), .dat (iD 0), .dat (iD 0), .dat (iD 0), .dat (iD 0), .dat (iD 0), .dat (iD 0), .dat (iD 0), .dat (sD ⟨#[]⟩), .nils, .nils, .nils]]⟩), (6, ⟨17, [.agg [.dat (iD ((edH b).1.getD 0 default)), .dat (iD ((edH b).1.getD 1 default)), .dat (iD ((edH b).1.getD 2 default)), .dat (iD ((edH b).1.getD 3 default)), .dat (iD ((edH b).1.getD 4 default)), .dat (iD ((edH b).1.getD 5 default)), .dat (iD ((edH b).1.getD 6 default)), .dat (iD ((edH b).1.getD 7 default)), .dat (iD ((edH b).1.getD 8 default)), .dat (iD ((edH b).1.getD 9 default)), .dat (iD ((edH b).1.getD 10 default)), .dat (iD ((edH b).1.getD 11 default)), .dat (iD ((edH b).1.getD 12 default)), .dat (sD (edT b).1), .dat (ssD (edS b).1), .dat (z2c (vd (edP b).1 ((edP b).1.length / 2))), .osl 179 3 0 k]]⟩), (20, ⟨3, [.dat (erD b (edQ b).2.1 (edQ b).2.2)]⟩), (179, ⟨3, ((yd (edQ b).1 k).map idD).map .dat⟩)])
     (fun k x => (17, x.headD (.sl []) |> .dat) :: ((164, .dat (x.headD (.sl []))) :: [(6, .ptr 1000 17 0 0)]))
     (fun k => [(1000, ⟨17, [.agg [.dat (iD ((edH b).1.getD 0 default)), .dat (iD ((edH b).1.getD 1 default)), .dat (iD ((edH b).1.getD 2 default)), .dat (iD ((edH b).1.getD 3 default)), .dat (iD ((edH b).1.getD 4 default)), .dat (iD ((edH b).1.getD 5 default)), .dat (iD ((edH b).1.getD 6 default)), .dat (iD ((edH b).1.getD 7 default)), .dat (iD ((edH b).1.getD 8 default)), .dat (iD ((edH b).1.getD 9 default)), .dat (iD ((edH b).1.getD 10 default)), .dat (iD ((edH b).1.getD 11 default)), .dat (iD ((edH b).1.getD 12 default)), .dat (sD (edT b).1), .dat (ssD (edS b).1), .dat (z2c (vd (edP b).1 ((edP b).1.length / 2))), .osl 1001 3 0 k]]⟩), (1001, ⟨3, ((yd (edQ b).1 k).map idD).map .dat⟩)])
     (fun k => [(1000, ⟨17, [.agg [.dat (iD ((edH b).1.getD 0 default)), .dat (iD ((edH b).1.getD 1 default)), .dat (iD ((edH b).1.getD 2 default)), .dat (iD ((edH b).1.getD 3 default)), .dat (iD ((edH b).1.getD 4 default)), .dat (iD ((edH b).1.getD 5 default)), .dat (iD ((edH b).1.getD 6 default)), .dat (iD ((edH b).1.getD 7 default)), .dat (iD ((edH b).1.getD 8 default)), .dat (iD ((edH b).1.getD 9 default)), .dat (iD ((edH b).1.getD 10 default)), .dat (iD ((edH b).1.getD 11 default)), .dat (iD ((edH b).1.getD 12 default)), .dat (sD (edT b).1), .dat (ssD (edS b).1), .dat (z2c (vd (edP b).1 ((edP b).1.length / 2))), .osl 178 3 0 (k + 1)]]⟩), (178, ⟨3, ((yd (edQ b).1 (k + 1)).map idD).map .dat⟩)])
     (fun i => if i = 1000 then 6 else if i = 1001 then 179 else if i = 178 then 178 else i) [178] [178] [] [] ?_ ?_ ?_ ?_ ?_ ?_ ?_ ?_ ?_
    ·exact LeB.refl _ _
    ·exact fun k hk => qv hN (by (simp only [yc, AObj.ren, AV.ren, renL, qy, List.map_cons, List.map_nil, x1, xm]); (repeat' apply And.intro) <;> first | trivial | rfl) rfl
    ·exact fun k hk => Xd (by simp only [je, wr, w9, wo, wx, yq, AV.only, Bool.and_true] <;> simp [v6])
    ·intro k hk p hp
     rw [hN]
     simp only [List.mem_cons, List.not_mem_nil, or_false] at hp
     rcases hp with rfl | rfl <;> first | exact (show (185:Nat) ≤ 1000 by decide) | exact (show (185:Nat) ≤ 1001 by decide)
    ·intro p hp
     simp only [List.mem_cons, List.not_mem_nil, or_false] at hp
     subst hp; rfl
    ·intro k hk
     refine LeB.trans (LeB.of (e := [(2, .ptr 2 17 0 0), (5, .ptr 20 3 0 0), (6, .ptr 6 17 0 0), (163, .dat (.fn 134 [.ref (isD (edQ b).1), .ref (iD (3 : Nat))]))]) (o := [(2, ⟨17, [.agg [.dat (iD 0), .dat (iD 0), .dat (iD 0), .dat (iD 0), .dat (iD 0), .dat (iD 0), .dat (iD 0), .dat (iD 0), .dat (iD 0), .dat (iD 0), .dat (iD 0), .dat (iD 0), .dat (iD 0), .dat (sD ⟨#[]⟩), .nils, .nils, .nils]]⟩), (6, ⟨17, [.agg [.dat (iD ((edH b).1.getD 0 default)), .dat (iD ((edH b).1.getD 1 default)), .dat (iD ((edH b).1.getD 2 default)), .dat (iD ((edH b).1.getD 3 default)), .dat (iD ((edH b).1.getD 4 default)), .dat (iD ((edH b).1.getD 5 default)), .dat (iD ((edH b).1.getD 6 default)), .dat (iD ((edH b).1.getD 7 default)), .dat (iD ((edH b).1.getD 8 default)), .dat (iD ((edH b).1.getD 9 default)), .dat (iD ((edH b).1.getD 10 default)), .dat (iD ((edH b).1.getD 11 default)), .dat (iD ((edH b).1.getD 12 default)), .dat (sD (edT b).1), .dat (ssD (edS b).1), .dat (z2c (vd (edP b).1 ((edP b).1.length / 2))), .osl 178 3 0 (k + 1)]]⟩), (20, ⟨3, [.dat (erD b (edQ b).2.1 (edQ b).2.2)]⟩), (178, ⟨3, ((yd (edQ b).1 (k + 1)).map idD).map .dat⟩)]) ?_ ?_) ((LeB.swap 178 179 (by omega) (by omega)).trans (LeB.of ?_ ?_))
     ·(simp (disch := omega) only [LeE, LeO, avX, qq, avA, hE, AObj.ren, AV.ren, qy, renE, renO, List.map_cons, List.map_nil]); (repeat' apply And.intro) <;> first | trivial | rfl
     ·(simp (disch := omega) only [LeE, LeO, avX, qq, avA, hE, AObj.ren, AV.ren, qy, renE, renO, List.map_cons, List.map_nil]); (repeat' apply And.intro) <;> first | trivial | rfl
     ·(simp (disch := omega) only [LeE, LeO, avX, qq, avA, hE, AObj.ren, AV.ren, qy, renE, renO, List.map_cons, List.map_nil]); (repeat' apply And.intro) <;> first | trivial | rfl
     ·(simp (disch := omega) only [LeE, LeO, avX, qq, avA, hE, AObj.ren, AV.ren, qy, renE, renO, List.map_cons, List.map_nil]); (repeat' apply And.intro) <;> first | trivial | rfl
    ·exact List.forall_mem_cons.2 ⟨⟨rfl, fun _ _ _ => rfl⟩, List.forall_mem_nil _⟩
    ·intro k x hx F1 hP1 hG1 hN1 hR1
     obtain ⟨hkq, rfl⟩ := zad hx
     replace hP := hP1.trans hP
     replace hG := hG1.trans hG
     replace hN := hN1.trans hN
     replace hR := hR1
     have hA := And.intro hN (And.intro hP (And.intro hG (And.intro hR.1 (And.intro hR.2.1 hR.2.2.1))))
     refine ⟨?_, ?_⟩
     ·simp (maxSteps := 2000000) (disch := omega) only [qq, avA, hA]
      exact ⟨by decide, rfl⟩
     have hpc := zd8 hpl hkq
     dsimp only [List.headD]
     have hkb : k ≤ 500000 := by omega
     have htk := z2f (edQ b).1 k
     have hsu := z7z (edQ b).1 k
     have hat := fun i (hi : i < 3) => zhd (i := i) hpl hkq hi
     have hE := And.intro hE (And.intro hfl (And.intro htk hpc))
     apply zc
     apply z0y [] [1000, 178] [0, 1, 2, 3, 4, 5, 6, 7, 8, 9, 10, 11, 12, 13, 14, 15] [178, 177]
     ·rw [hP]; kernel_rfl
     ·exact hR
     ·kernel_rfl
     ·(repeat (apply PickL.cons; exact rfl)); exact PickL.nil _
     ·simp (maxSteps := 2000000) (disch := omega) only [qq, avA, zl, zp, seval, ↓List.forall_mem_cons, Op.operands, hA, tiA, hE]
      exact ⟨rfl, fun _ h => h.elim, ⟨fun _ h => h.elim, by omega, by omega⟩, rfl, rfl⟩
     apply zg
     have g0 := hat 0 (by decide)
     have g1 := hat 1 (by decide)
     have g2 : (yd (edQ b).1 (k + 1)).map idD = (yd (edQ b).1 k).map idD ++ [Dat.agg [.int .i64 ((Q8 (edQ b).1 3 k).getD 0 default), .int .i64 ((Q8 (edQ b).1 3 k).getD 1 default), .int .i64 ((Q8 (edQ b).1 3 k).getD 2 default)]] := by rw [hsu, List.map_append]; rw [g0, g1, hat 2 (by decide)]; rfl
     simp only [z77, qr, avA, hE, g2, List.map_append, List.map_cons, List.map_nil]
     (repeat' apply And.intro) <;> first | trivial | rfl
    refine fun F1 hP1 hG1 hN1 hR1 hrd hTop _ => ?_
    replace hR : F1.rows = [160] ∧ F1.lits = [22, 134, 136] ∧ F1.apps = [] ∧ TopF F1 := ⟨hR1.1.trans hR.1, hR1.2.1.trans hR.2.1, hR1.2.2.trans hR.2.2.1, hTop hR.2.2.2⟩
    have hE := And.intro hE hP
    replace hP := hP1.trans hP
    replace hG := hG1.trans hG
    replace hN := hN1.trans hN
    have hA := And.intro hN (And.intro hP (And.intro hG (And.intro hR.1 (And.intro hR.2.1 hR.2.2.1))))
    have hxl : (j3 (edQ b).1 3 ((edQ b).1.length / 3)).length = ((edQ b).1.length / 3) := by simp [j3]
    rw [hxl]
    have hE := And.intro hE (And.intro hfl (z2f (edQ b).1 ((edQ b).1.length / 3)))
    refine jh 179 hR.2.2.2 rfl (datE_map _) ?_
    simp (disch := omega) only [avA, zl, zp, seval, hE]
    refine WDJ [2, 3, 4] [2, 159, 160, 177, 178, 161, 179] [(0, 180, _), (1, 181, _), (2, 182, _), (3, 183, _), (4, 184, _), (6, 3, _), (7, 4, _)] [(5, 2, ⟨17, _⟩)] ⟨DV 0 [] [5, 6, 7], DV 1 [] [2, 3, 4, 6, 7], DV 2 [1] [3, 4, 6, 7], DV 3 [1, 2] [4, 6, 7], DV 4 [1, 2, 3] [6, 7], DS 0 [0] [6, 7], DV 5 [0, 1, 2, 3, 4, 5] [7], DV 6 [0, 1, 2, 3, 4, 5, 6] [], trivial⟩ ?_
    apply za
    apply zag
    apply zag
    exact E0
  ·have hz : ∀ (n : Nat) (j : Bool), x8 b (X4 b) (edT b).2.2 n j = ([], X4 b, (edT b).2.2) := fun n j => if_pos hb
   have hv : zy b = (zOp, 0, (edT b).2.2) := by unfold zy; rw [if_neg (by omega), if_pos hb]
   have hE := And.intro hE (And.intro hz hv)
   apply z9
   apply z7
   apply zu [2, 5, 6, 14, 15] [2, 6, 20, 159, 160, 177, 178, 161, 179]
   ·refine RN ?_
    refine CX (fun _ => 20) [] (Ql G b ((X4 b)) ((edT b).2.2) 2 false hib (by omega) (hA1) (by omega)) ?_
    refine CX (fun _ => 20) [] (Ql G b ((X4 b)) ((edT b).2.2) 3 false hib (by omega) (hA1) (by omega)) ?_
    exact SC
   apply z6
   refine WS [2, 5, 6, 14, 15, 141] [2, 6, 20, 159, 160, 177, 178, 161, 179] ?_
   refine jd (by first | exact rfl | (simp only [xi, wt, qn, qw]; simp [*])) ?_
   refine WDJ [2, 3, 4] [2, 159, 160, 177, 178, 161, 179] [(0, 142, _), (1, 143, _), (2, 144, _), (3, 145, _), (4, 146, _), (6, 3, _), (7, 4, _)] [(5, 2, ⟨17, _⟩)] ⟨DV 0 [] [5, 6, 7], DV 1 [] [2, 3, 4, 7], DV 2 [1] [3, 4, 7], DV 3 [1, 2] [4, 7], DV 4 [1, 2, 3] [7], DS 0 [0] [6, 7], DV 5 [0, 5] [7], DV 6 [0, 1, 2, 3, 4, 5, 6] [], trivial⟩ ?_
   apply za
   apply zb
   exact E0
 ·have hz : ∀ (n : Nat) (j : Bool), x8 b (edH b).2.1 (edH b).2.2 n j = ([], (edH b).2.1, (edH b).2.2) := fun n j => if_pos hb
  have hv : zy b = (zOp, 0, (edH b).2.2) := if_pos hb
  have hE := And.intro hE (And.intro hz hv)
  apply z9
  apply z7
  apply z6
  refine WS [0, 2, 5, 6, 75] [2, 6, 20, 159, 160, 177, 178, 161, 179] ?_
  refine X0 (by first | exact rfl | (simp only [xi, wt, qn, qw]; simp [*])) ?_
  apply z9
  apply z7
  apply z6
  refine WS [0, 2, 5, 6, 106] [2, 6, 20, 159, 160, 177, 178, 161, 179] ?_
  refine X0 (by first | exact rfl | (simp only [xi, wt, qn, qw]; simp [*])) ?_
  apply z9
  apply z7
  apply zu [2, 5, 6, 14, 15] [2, 6, 20, 159, 160, 177, 178, 161, 179]
  ·refine RN ?_
   refine CX (fun _ => 20) [] (Ql G b ((edH b).2.1) ((edH b).2.2) 2 false hib (by omega) (hH.1) (by omega)) ?_
   refine CX (fun _ => 20) [] (Ql G b ((edH b).2.1) ((edH b).2.2) 3 false hib (by omega) (hH.1) (by omega)) ?_
   exact SC
  apply z6
  refine WS [2, 5, 6, 14, 15, 141] [2, 6, 20, 159, 160, 177, 178, 161, 179] ?_
  refine jd (by first | exact rfl | (simp only [xi, wt, qn, qw]; simp [*])) ?_
  refine WDJ [2, 3, 4] [2, 159, 160, 177, 178, 161, 179] [(0, 142, _), (1, 143, _), (2, 144, _), (3, 145, _), (4, 146, _), (6, 3, _), (7, 4, _)] [(5, 2, ⟨17, _⟩)] ⟨DV 0 [] [5, 6, 7], DV 1 [] [2, 3, 4, 7], DV 2 [1] [3, 4, 7], DV 3 [1, 2] [4, 7], DV 4 [1, 2, 3] [7], DS 0 [0] [6, 7], DV 5 [0, 5] [7], DV 6 [0, 1, 2, 3, 4, 5, 6] [], trivial⟩ ?_
  apply za
  apply zb
  exact E0
set_option maxRecDepth 100000 in
set_option maxHeartbeats 2000000 in
theorem zbh (G) (e : EventM) (h : OkEv e) : zo Tryz.prog G 30 [zr e] [iD (vu e)] := by
 have hnr := h.nrefs
 have hnp := h.nposts
 have hnb := h.nbroader
 have hoz := zfd h.op
 have hol := h.op.all
 skip
 skip
 refine GI [] [] [] Tryz.func30 Tryz.ntmps30 fun F hP hG hN hR hA => ?_
 have hE := And.intro @Tryz.results30 (And.intro @z9b (And.intro @zj3 (@z1k)))
 refine WS [1] [1] ?_
 have hc := gvF hP hG (zry G e.Kind)
 refine WSc [1, 3] [1, 3] ?_
 apply z6
 apply zu [1, 3, 39] [1, 3]
 ·refine RN ?_
  refine CG (zti G e.Op h.op) ?_
  exact SC
 refine WI ?_ ?_ <;> intro hb
 ·have hv := zdu (e := e) (by unfold z6g; grind)
  have hE := And.intro hE hv
  refine WS [2] [] ?_
  apply za
  apply zb
  exact E0
 ·have h0 : z6g e = false := by unfold z6g; grind
  apply z9
  apply z7
  apply z6
  apply zc
  apply zu [1, 3, 40] [1, 3]
  ·refine RN ?_
   refine CU (z38 G e) ?_
   refine CU (z7u G (evName e)) ?_
   refine CG (Qt G e.Tick 1048576) ?_
   refine CG (Qt G e.Kind 6) ?_
   exact SC
  refine WI ?_ ?_ <;> intro hb
  ·have hv := z3k h0 (.inl (by unfold z86; grind))
   have hE := And.intro hE hv
   refine WS [2] [] ?_
   apply za
   apply zf
   apply zb
   exact E0
  ·have h1 : z86 e = false := by unfold z86; grind
   apply zu [1, 3, 57] [1, 3]
   ·refine RN ?_
    refine CG (zyn G e.Op zOp hoz) ?_
    refine CG (zt5 G e.Term zbn (by omega)) ?_
    exact SC
   refine WI ?_ ?_ <;> intro hb
   ·have hv := z3k h0 (.inr (.inl (by unfold z1t; grind)))
    have hE := And.intro hE hv
    refine WS [2] [] ?_
    apply za
    apply zf
    apply zb
    exact E0
   ·have h2 : z1t e = false := by unfold z1t; grind
    apply zu [1, 3, 80] [1, 3]
    ·refine RN ?_
     refine CG (Qt G e.N 1048576) ?_
     exact SC
    refine WI ?_ ?_ <;> intro hb
    ·have hv := z3k h0 (.inr (.inr (by unfold z3m xg; grind)))
     have hE := And.intro hE hv
     refine WS [2] [] ?_
     apply za
     apply zf
     apply zb
     exact E0
    ·have h3 : z3m e = false ∧ we e.N 1048576 = true := by unfold z3m xg; grind
     have h123 := And.intro h1 (And.intro h2 h3)
     apply z9
     apply zg
     apply z7
     apply z6
     refine WS [1, 3, 118, 119, 120] [1, 3] ?_
     apply zc
     refine WL (ι := {i : Nat // i ≤ e.Refs.length ∧ ∀ j, j < i → Qi e j = false}) [1, 3, 118, 119] [1, 3] (fun ⟨i, hic⟩ => [(120, .dat (iD i))]) (fun ⟨i, hic⟩ => []) (fun ⟨i, hic⟩ => e.Refs.length - i) (⟨0, by omega, z58⟩) ?_
     rintro ⟨i, hic⟩
     refine LA ?_
     obtain ⟨hi, hall⟩ := id hic
     have hi1 : ((i : Int) - 1).toNat = i - 1 := by omega
     have hE := And.intro hE hi1
     refine WS [1, 3, 118, 119, 120, 121] [1, 3] ?_
     apply z6
     refine WI ?_ ?_ <;> intro hb
     ·apply z9
      apply z7
      apply z6
      apply zc
      refine WS [1, 3, 4, 5, 118, 119, 120] [1, 3, 5] ?_
      apply wn [1, 3, 118, 119, 120, 148] [1, 3] [0, 1, 2, 3, 4, 5, 6, 7, 8, 9, 10, 11, 12, 13, 14, 15, 16, 17, 18, 19, 20, 21, 22, 23] []
      ·rw [hP]; kernel_rfl
      ·exact hR
      ·kernel_rfl
      ·(repeat (apply PickL.cons; exact rfl)); exact PickL.nil _
      ·refine RN ?_
       refine CU (z7u G (e.Refs.getD i default)) ?_
       refine CG (z38 G e) ?_
       refine CG (zlm G (e.Refs.getD (i - 1) default) (e.Refs.getD i default)) ?_
       exact SC
      refine WI ?_ ?_ <;> intro hb
      ·have hv := zdv h0 h123 (i := i) (by omega) (by unfold Qi wh; grind)
       have hE := And.intro hE hv
       refine WS [2] [] ?_
       apply za
       apply zf
       apply zb
       apply qb
       apply zf
       apply zb
       exact E0
      ·have hnb1 : Qi e i = false := by unfold Qi wh; grind
       apply z9
       apply zg
       apply z7
       refine WQ [1, 3, 118, 119, 120] [1, 3] ?_
       refine WN (⟨i + 1, by omega, vx hic.2 hnb1⟩)
     ·apply zn
      apply zh
      obtain rfl : i = e.Refs.length := by omega
      apply ze
      apply zw
      apply z7
      apply z6
      refine WS [1, 3, 6] [1, 3, 6] ?_
      apply zu [1, 188] [1]
      ·refine RN ?_
       refine CG (zbl G e.Term.Name (by have := h.name; omega)) ?_
       refine CG (zbl G e.Term.See (by have := h.see; omega)) ?_
       refine CG (Qt G e.Term.Kind 2) ?_
       refine CG (Qt G e.Term.Lang 3) ?_
       refine CG (zic G e.Term.Broader (by omega) (fun s hs => by have := h.broader s hs; omega)) ?_
       exact SC
      refine WI ?_ ?_ <;> intro hb
      ·have hv := zmb h0 h123 hall (by unfold zbr; grind)
       have hE := And.intro hE hv
       refine WS [2] [] ?_
       apply za
       apply zb
       exact E0
      ·have h5 : zbr e = false := by unfold zbr; grind
       apply z9
       apply z7
       apply z6
       refine WS [1, 190, 191, 192] [1] ?_
       apply zc
       refine WL (ι := {i : Nat // i ≤ e.Posts.length ∧ ∀ j, j < i → Q1 e j = false}) [1, 190, 191] [1] (fun ⟨i, hic⟩ => [(192, .dat (iD i))]) (fun ⟨i, hic⟩ => []) (fun ⟨i, hic⟩ => e.Posts.length - i) (⟨0, by omega, z58⟩) ?_
       rintro ⟨i, hic⟩
       refine LA ?_
       obtain ⟨hi, hallp⟩ := id hic
       refine WS [1, 190, 191, 192, 193] [1] ?_
       apply z6
       refine WI ?_ ?_ <;> intro hb
       ·have hp := x4 h.posts (i := i) (by omega)
        apply z9
        apply z7
        apply z6
        apply zc
        refine WS [1, 8, 190, 191, 192] [1, 8] ?_
        apply zu [1, 190, 191, 192, 218] [1]
        ·refine RN ?_
         refine CG (zic G (e.Posts.getD i default).Path (by omega) (fun s hs => by have := hp.2.2 s hs; omega)) ?_
         exact SC
        refine WI ?_ ?_ <;> intro hb
        ·have hv := zbi h0 h123 hall h5 (i := i) (by omega) (by unfold Q1 xg; grind)
         have hE := And.intro hE hv
         refine WS [2] [] ?_
         apply za
         apply zf
         apply zb
         apply qb
         apply zf
         apply zb
         exact E0
        ·have hnb1 : Q1 e i = false := by unfold Q1 xg; grind
         apply z9
         apply zg
         apply z7
         refine WQ [1, 190, 191, 192] [1] ?_
         refine WN (⟨i + 1, by omega, vx hic.2 hnb1⟩)
       ·apply zn
        apply zh
        obtain rfl : i = e.Posts.length := by omega
        have hv := zdt h0 h123 hall h5 hallp
        have hE := And.intro hE hv
        apply ze
        apply zw
        apply z7
        refine WS [2] [] ?_
        apply za
        exact E0
abbrev rdD (b : List Int) (a : Nat) : Dat := .agg [wm b, iD a]
theorem Q7 (G) : zo Tryz.prog G 55 [bD true] [] := by
 skip
 refine GI [] [] [] Tryz.func55 Tryz.ntmps55 fun F hP hG hN hR hA => ?_
 have hE := @Tryz.results55
 refine WS [3] [] ?_
 refine X0 (by first | exact rfl | (simp only [xi, wt, qn, qw]; simp [*])) ?_
 apply z9
 exact E0
abbrev zxx (kt : Nat) (n : Int) : Value := .iface kt (.int .i64 n)
abbrev z7d : Value := zxx (kt := 42) 2
theorem zh7 (G) (ok : Bool) : GivesXP Tryz.prog G 55 [.dat (bD ok)] [] (if ok then some () else none) (fun _ => []) (fun _ => []) z7d := by
 skip
 refine jz [] [] [] Tryz.func55 rfl (by rfl) (by simp [Tryz.ntmps55]) (by kernel_rfl) (fun _ => by kernel_rfl) (fun _ => by simp [wr, w9, AV.only, v6]) (fun _ => by simp only [je, wr, w9, wo, wx, yq, AV.only, Bool.and_true] <;> simp [v6]) fun F hP hG hN hR => ?_
 rw [Tryz.ntmps55] at hN
 have hA := And.intro hN (And.intro hP (And.intro hG (And.intro hR.1 (And.intro hR.2.1 hR.2.2.1))))
 have hE := @Tryz.results55
 refine WS [3] [] ?_
 refine WI ?_ ?_ <;> intro hb
 ·have hv : (if ok then some () else none : Option Unit) = none := by rw [if_neg (by simpa using hb)]
  apply Xp
  refine ws rfl (zy6 rfl rfl (by rw [hN]; omega) (by rw [hP]; exact ti42) (by intro h; cases h)) ?_
  exact zpn rfl rfl rfl (by exact ⟨hv, rfl⟩)
 ·have hv : (if ok then some () else none : Option Unit) = some () := by rw [if_pos (by simpa using hb)]
  apply z9
  refine zze hv ?_
  exact E0
theorem k9 (G) {ok : Bool} (h : ok = false) : zfo Tryz.prog G 55 [.dat (bD ok)] [] z7d := (zh7 G ok).pan (by simp [h])
def v8 (b : List Int) (a : Nat) : Option (List Int × Nat) := if (zd (b.drop a)).2.2 = 0 then some ((zd (b.drop a)).1, a + (zd (b.drop a)).2.1) else none
set_option maxRecDepth 100000 in
theorem kx (G) (b : List Int) (a : Nat) (hib : isB b) (hl : b.length ≤ 1099511627776) (ha : a ≤ b.length) : GivesXP Tryz.prog G 90 [.ptr 1000 2 0 0] [(1000, ⟨2, [.dat (rdD b a)]⟩)] (v8 b a) (fun p => [.dat (isD p.1)]) (fun p => [(1000, ⟨2, [.dat (rdD b p.2)]⟩)]) z7d := by
 have hdl : (b.drop a).length = b.length - a := List.length_drop
 have hat := y6 (zt hib a)
 have hcast : ((a + (zd (b.drop a)).2.1 : Nat) : Int) = (a : Int) + (zd (b.drop a)).2.1 := by omega
 skip
 skip
 skip
 refine jz [] [] [] Tryz.func90 rfl (by rfl) (by simp [Tryz.ntmps90]) (by kernel_rfl) (fun _ => by kernel_rfl) (fun _ => by simp [wr, w9, AV.only, v6]) (fun _ => by simp only [je, wr, w9, wo, wx, yq, AV.only, Bool.and_true] <;> simp [v6]) fun F hP hG hN hR => ?_
 rw [Tryz.ntmps90] at hN
 have hA := And.intro hN (And.intro hP (And.intro hG (And.intro hR.1 (And.intro hR.2.1 hR.2.2.1))))
 have hE := And.intro @Tryz.results90 (@hcast)
 refine WS [0] [1000] ?_
 apply wn [0, 3, 4, 5] [1000] [0, 1, 2, 3, 4, 5, 6, 7, 8, 9, 10, 11, 12, 13, 14, 15, 16] []
 ·rw [hP]; kernel_rfl
 ·exact hR
 ·kernel_rfl
 ·(repeat (apply PickL.cons; exact rfl)); exact PickL.nil _
 ·refine RN ?_
  refine CU (z9k G (b.drop a) (zt hib a) (by omega)) ?_
  exact SC
 rcases ht : (if decide ((zd (b.drop a)).2.2 = 0) then some () else none : Option Unit) with _ | ⟨⟩
 ·have hv := (show v8 b a = none by unfold v8; rw [if_neg (by simpa using ht)])
  apply qo
  apply qz
  ·(iterate 2 apply Seg.cons); exact Seg.nil _
  ·refine RK ?_
   exact SC
  refine yw (fun i => i) (ku hP hG ((zh7 G (decide ((zd (b.drop a)).2.2 = 0))).pan ht)) rfl rfl rfl rfl (qv hN (by first | trivial | ((try simp only [yc, AObj.ren, AV.ren, renL, qy, List.map_cons, List.map_nil, x1, xm]) <;> ((repeat' apply And.intro) <;> first | trivial | rfl))) (by rfl)) (by exact ⟨hv, rfl⟩)
 have h0 : (zd (b.drop a)).2.2 = 0 := by simpa using ht
 have hv : v8 b a = some ((zd (b.drop a)).1, a + (zd (b.drop a)).2.1) := by unfold v8; rw [if_pos h0]
 have hE := And.intro hE h0
 have hc := gvF hP hG (Q7 G)
 refine WSc [0, 3, 4] [1000] ?_
 refine WS [3] [1000] ?_
 refine WS [2] [1000] ?_
 apply za
 refine zhh hv ?_
 exact E0
def yj (b : List Int) (a : Nat) : Option (List ByteArray × Nat) := if (zx (b.drop a)).2.2 = 0 then some ((zx (b.drop a)).1, a + (zx (b.drop a)).2.1) else none
def jg (b : List Int) (a : Nat) (most : Int) : Option (Int × Nat) := if (zj (b.drop a)).2.2 = 0 ∧ we (zj (b.drop a)).1 most = true then some ((zj (b.drop a)).1, a + (zj (b.drop a)).2.1.toNat) else none
set_option maxRecDepth 100000 in
theorem z3h (G) (b : List Int) (a : Nat) (hib : isB b) (hl : b.length ≤ 1099511627776) (ha : a ≤ b.length) : GivesXP Tryz.prog G 92 [.ptr 1000 2 0 0] [(1000, ⟨2, [.dat (rdD b a)]⟩)] (yj b a) (fun p => [.dat (ssD p.1)]) (fun p => [(1000, ⟨2, [.dat (rdD b p.2)]⟩)]) z7d := by
 have hdl : (b.drop a).length = b.length - a := List.length_drop
 have hat := ki (zt hib a)
 have hcast : ((a + (zx (b.drop a)).2.1 : Nat) : Int) = (a : Int) + (zx (b.drop a)).2.1 := by omega
 skip
 skip
 skip
 refine jz [] [] [] Tryz.func92 rfl (by rfl) (by simp [Tryz.ntmps92]) (by kernel_rfl) (fun _ => by kernel_rfl) (fun _ => by simp [wr, w9, AV.only, v6]) (fun _ => by simp only [je, wr, w9, wo, wx, yq, AV.only, Bool.and_true] <;> simp [v6]) fun F hP hG hN hR => ?_
 rw [Tryz.ntmps92] at hN
 have hA := And.intro hN (And.intro hP (And.intro hG (And.intro hR.1 (And.intro hR.2.1 hR.2.2.1))))
 have hE := And.intro @Tryz.results92 (@hcast)
 refine WS [0] [1000] ?_
 apply wn [0, 3, 4, 5] [1000] [0, 1, 2, 3, 4, 5, 6, 7, 8, 9, 10, 11, 12, 13, 14, 15, 16] []
 ·rw [hP]; kernel_rfl
 ·exact hR
 ·kernel_rfl
 ·(repeat (apply PickL.cons; exact rfl)); exact PickL.nil _
 ·refine RN ?_
  refine CU (z9m G (b.drop a) (zt hib a) (by omega)) ?_
  exact SC
 by_cases ht : ¬ ((zx (b.drop a)).2.2 = 0)
 ·have hv := (show yj b a = none by unfold yj; rw [if_neg ht])
  apply qo
  apply qz
  ·(iterate 2 apply Seg.cons); exact Seg.nil _
  ·refine RK ?_
   exact SC
  refine yw (fun i => i) (ku hP hG (k9 G ?_)) rfl rfl rfl rfl (qv hN (by first | trivial | ((try simp only [yc, AObj.ren, AV.ren, renL, qy, List.map_cons, List.map_nil, x1, xm]) <;> ((repeat' apply And.intro) <;> first | trivial | rfl))) (by rfl)) (by exact ⟨hv, rfl⟩)
  all_goals first | (simpa using ht) | grind
 replace ht := Classical.not_not.1 ht
 have hv : yj b a = some ((zx (b.drop a)).1, a + (zx (b.drop a)).2.1) := by unfold yj; rw [if_pos ht]
 have hE := And.intro hE ht
 have hc := gvF hP hG (Q7 G)
 refine WSc [0, 3, 4] [1000] ?_
 refine WS [3] [1000] ?_
 refine WS [2] [1000] ?_
 apply za
 refine zhh hv ?_
 exact E0
set_option maxRecDepth 100000 in
theorem z5n (G) (b : List Int) (a : Nat) (most : Int) (hib : isB b) (hl : b.length ≤ 1099511627776) (ha : a ≤ b.length) : GivesXP Tryz.prog G 93 [.ptr 1000 2 0 0, .dat (iD most)] [(1000, ⟨2, [.dat (rdD b a)]⟩)] (jg b a most) (fun p => [.dat (iD p.1)]) (fun p => [(1000, ⟨2, [.dat (rdD b p.2)]⟩)]) z7d := by
 have hdl : (b.drop a).length = b.length - a := List.length_drop
 have hat := qu (zt hib a)
 have hcast : ((a + (zj (b.drop a)).2.1.toNat : Nat) : Int) = (a : Int) + (zj (b.drop a)).2.1 := by omega
 skip
 skip
 skip
 refine jz [] [] [] Tryz.func93 rfl (by rfl) (by simp [Tryz.ntmps93]) (by kernel_rfl) (fun _ => by kernel_rfl) (fun _ => by simp [wr, w9, AV.only, v6]) (fun _ => by simp only [je, wr, w9, wo, wx, yq, AV.only, Bool.and_true] <;> simp [v6]) fun F hP hG hN hR => ?_
 rw [Tryz.ntmps93] at hN
 have hA := And.intro hN (And.intro hP (And.intro hG (And.intro hR.1 (And.intro hR.2.1 hR.2.2.1))))
 have hE := And.intro @Tryz.results93 (@hcast)
 refine WS [0, 1] [1000] ?_
 apply wn [0, 1, 5, 6, 7] [1000] [0, 1, 2, 3, 4, 5, 6, 7, 8, 9, 10, 11, 12, 13, 14, 15, 16] []
 ·rw [hP]; kernel_rfl
 ·exact hR
 ·kernel_rfl
 ·(repeat (apply PickL.cons; exact rfl)); exact PickL.nil _
 ·refine RN ?_
  refine CU (z6d G (b.drop a) (zt hib a) (by omega)) ?_
  exact SC
 by_cases ht : ¬ ((zj (b.drop a)).2.2 = 0 ∧ we (zj (b.drop a)).1 most = true)
 ·have hv := (show jg b a most = none by unfold jg; rw [if_neg ht])
  apply qo
  apply qz
  ·(iterate 7 apply Seg.cons); exact Seg.nil _
  ·refine RK ?_
   refine CG (Qt G (zj (b.drop a)).1 most) ?_
   exact SC
  refine yw (fun i => i) (ku hP hG (k9 G ?_)) rfl rfl rfl rfl (qv hN (by first | trivial | ((try simp only [yc, AObj.ren, AV.ren, renL, qy, List.map_cons, List.map_nil, x1, xm]) <;> ((repeat' apply And.intro) <;> first | trivial | rfl))) (by rfl)) (by exact ⟨hv, rfl⟩)
  all_goals first | (simpa using ht) | grind
 replace ht := Classical.not_not.1 ht
 have hv : jg b a most = some ((zj (b.drop a)).1, a + (zj (b.drop a)).2.1.toNat) := by unfold jg; rw [if_pos ht]
 have hE := And.intro hE ht
 apply zu [0, 5, 6] [1000]
 ·refine RN ?_
  refine CG (Qt G (zj (b.drop a)).1 most) ?_
  refine CU (Q7 G) ?_
  exact SC
 refine WS [5] [1000] ?_
 refine WS [4] [1000] ?_
 apply za
 refine zhh hv ?_
 refine EN ?_
 all_goals try trivial
 all_goals simp only [rdD, hcast]
abbrev z1n : EventM := ⟨0, 0, 0, 0, [], zOp, zbn, zID, [], 0⟩
def nameR (r : List Int) (k : Nat) : NameM := ⟨r.getD (2 * k) default, r.getD (2 * k + 1) default⟩
def Qn (r : List Int) (k : Nat) : List NameM := (List.range k).map (nameR r)
theorem z7n (r : List Int) : Qn r 0 = [] := rfl
theorem z17 (r : List Int) (k : Nat) : (Qn r k).length = k := by simp [Qn]
theorem z7l (r : List Int) (k : Nat) : Qn r (k + 1) = Qn r k ++ [nameR r k] := by simp [Qn, List.range_succ]
theorem z7m (r : List Int) (k : Nat) : (Qn r k).take k = Qn r k := List.take_of_length_le (by rw [z17]; exact Nat.le_refl _)
def zz (b : List Int) (d : IdM) (a : Nat) : Nat → List PostM × Nat × Bool
 | 0 => ([], a, true)
 | i + 1 => if (zz b d a i).2.2 = false then zz b d a i else
  match jg b (zz b d a i).2.1 1 with
  | none => ([], 0, false)
  | some (mn, n) => match yj b n with
   | none => ([], 0, false)
   | some (p, n') => ((zz b d a i).1 ++ [⟨d, p, mn == 1⟩], n', true)
theorem Xx {b : List Int} {d : IdM} {a i : Nat} (h : (zz b d a i).2.2 = false) : ∀ j, i ≤ j → (zz b d a j).2.2 = false := fun j hj => by
 induction hj with
 | refl => exact h
 | step _ ih => rw [zz, if_pos ih]; exact ih
theorem Z8 {b : List Int} (hib : isB b) {a : Nat} (ha : a ≤ b.length) {l : List Int} {n : Nat} (h : v8 b a = some (l, n)) : n ≤ b.length ∧ l.length ≤ b.length ∧ a ≤ n := by
 have h1 := y6 (zt hib a)
 have hd : (b.drop a).length = b.length - a := List.length_drop
 unfold v8 at h
 split at h
 ·rename_i h0
  simp only [Option.some.injEq, Prod.mk.injEq] at h
  have h2 := h1.2 h0
  rw [← h.1, ← h.2]
  exact ⟨by omega, by omega, by omega⟩
 ·cases h
theorem zgn {b : List Int} (hb : isB b) (h : (zx b).2.2 = 0) : (zx b).1.length ≤ b.length := by
 unfold zx at h ⊢
 split
 ·exact Nat.zero_le _
 ·rename_i hh
  rw [if_neg hh] at h
  obtain ⟨h1, h2, h3, h4⟩ := vz hb (by omega)
  have h5 := qu hb
  rw [z3j _ h, h1]
  omega
theorem zaw {b : List Int} (hib : isB b) {a : Nat} (ha : a ≤ b.length) {l : List ByteArray} {n : Nat} (h : yj b a = some (l, n)) : n ≤ b.length ∧ l.length ≤ b.length ∧ a ≤ n := by
 have h1 := ki (zt hib a)
 have hd : (b.drop a).length = b.length - a := List.length_drop
 unfold yj at h
 split at h
 ·rename_i h0
  simp only [Option.some.injEq, Prod.mk.injEq] at h
  have h2 := zgn (zt hib a) h0
  rw [← h.1, ← h.2]
  exact ⟨by omega, by omega, by omega⟩
 ·cases h
theorem zf5 {b : List Int} (hib : isB b) {a : Nat} (ha : a ≤ b.length) {most k : Int} {n : Nat} (h : jg b a most = some (k, n)) : n ≤ b.length ∧ a ≤ n ∧ 0 ≤ k ∧ k ≤ most := by
 have h1 := qu (zt hib a)
 have hd : (b.drop a).length = b.length - a := List.length_drop
 unfold jg at h
 split at h
 ·rename_i h0
  simp only [Option.some.injEq, Prod.mk.injEq] at h
  have h2 := h0.2
  unfold we at h2
  simp only [Bool.and_eq_true, decide_eq_true_eq] at h2
  rw [← h.1, ← h.2]
  exact ⟨by omega, by omega, h2.1, h2.2⟩
 ·cases h
theorem z6o {b : List Int} (hib : isB b) {d : IdM} {a : Nat} (ha : a ≤ b.length) : ∀ i, (zz b d a i).2.1 ≤ b.length
 | 0 => ha
 | i + 1 => by
  have ih := z6o hib (d := d) ha i
  rw [zz]
  split
  ·exact ih
  split
  ·exact Nat.zero_le _
  ·rename_i mn n h1
   have h2 := zf5 hib ih h1
   split
   ·exact Nat.zero_le _
   ·rename_i p n' h3
    exact (zaw hib h2.1 h3).1
theorem z1c {b : List Int} {d : IdM} {a : Nat} : ∀ i, (zz b d a i).2.2 = true → (zz b d a i).1.length = i
 | 0, _ => rfl
 | i + 1, h => by
  rw [zz] at h ⊢
  split at h
  ·rename_i h0; rw [h0] at h; cases h
  rename_i h0
  rw [if_neg h0]
  have ih := z1c i (by simpa using h0)
  cases h1 : jg b (zz b d a i).2.1 1 with
  | none => simp [h1] at h
  | some q =>
   obtain ⟨mn, n⟩ := q
   simp only [h1] at h ⊢
   cases h2 : yj b n with
   | none => simp [h2] at h
   | some q => simp [ih]
theorem z94 {b : List Int} (hib : isB b) : (zy b).2.1 ≤ b.length := by
 unfold zy
 split
 ·exact Nat.zero_le _
 split
 ·exact Nat.zero_le _
 split
 ·exact Nat.zero_le _
 ·have h1 : z66 b ≤ b.length := zix hib
  have h2 : (edP b).2.1 ≤ b.length := (Z4 hib h1 _ _ _).1
  exact (Z4 hib h2 _ _ _).1
def evHd (l r : List Int) : EventM := { z1n with By := l.getD 0 default, Seq := l.getD 1 default, Tick := l.getD 2 default, Kind := l.getD 3 default, Refs := Qn r (r.length / 2) }
def yf (b : List Int) (a : Nat) : Option (EventM × Nat) :=
 match v8 b a with
 | none => none
 | some (l, n1) => if ¬ l.length = 4 then none else
  match v8 b n1 with
  | none => none
  | some (r, n2) => if ¬ (r.length : Int).tmod 2 = 0 then none else some (evHd l r, n2)
def yl (b : List Int) (x : EventM) (n : Nat) : Option (EventM × Nat) :=
 match v8 b n with
 | none => none
 | some (k, n1) => if ¬ k.length = 2 then none else
  match yj b n1 with
  | none => none
  | some (s, n2) => if ¬ 2 ≤ s.length then none else some ({ x with Term := ⟨s.getD 0 default, k.getD 0 default, k.getD 1 default, s.getD 1 default, s.drop 2⟩ }, n2)
def idR (k : List Int) : IdM := ⟨k.getD 0 default, k.getD 1 default, k.getD 2 default⟩
def z1o (b : List Int) (x : EventM) (n : Nat) : Option (EventM × Nat) :=
 match v8 b n with
 | none => none
 | some (k, n1) => if ¬ (((ofM x.Kind).posts = true ∧ k.length = 3) ∨ ((ofM x.Kind).n = true ∧ k.length = 4)) then none else
  if (ofM x.Kind).n = true then some ({ x with ID := idR k, N := k.getD 3 default }, n1) else
  match jg b n1 16 with
  | none => none
  | some (m, n2) => if (zz b (idR k) n2 m.toNat).2.2 = false then none else some ({ x with ID := idR k, Posts := (zz b (idR k) n2 m.toNat).1 }, (zz b (idR k) n2 m.toNat).2.1)
def Qw (b : List Int) (x : EventM) (n : Nat) : Option (EventM × Nat) :=
 if (ofM x.Kind).op = true then (if ¬ (zy (b.drop n)).2.2 = 0 then none else some ({ x with Op := (zy (b.drop n)).1 }, n + (zy (b.drop n)).2.1))
 else if (ofM x.Kind).term = true then yl b x n
 else if (ofM x.Kind).id = true then z1o b x n
 else some (x, n)
def qf (b : List Int) (a : Nat) : Option (EventM × Nat) :=
 match yf b a with
 | none => none
 | some (x, n) => Qw b x n
theorem zqv {l : List Int} (h : (l.length : Int).tmod 2 = 0) : l.length = l.length / 2 * 2 := z31 (n := 2) (by decide) h
theorem z3f {b : List Int} {a : Nat} (h : (zd (b.drop a)).2.2 ≠ 0) : v8 b a = none := by unfold v8; rw [if_neg h]
theorem Qb {b : List Int} {a : Nat} (h : (zd (b.drop a)).2.2 = 0) : v8 b a = some ((zd (b.drop a)).1, a + (zd (b.drop a)).2.1) := by unfold v8; rw [if_pos h]
theorem zdh {b : List Int} {a : Nat} (h : (zx (b.drop a)).2.2 ≠ 0) : yj b a = none := by unfold yj; rw [if_neg h]
theorem zax {b : List Int} {a : Nat} (h : (zx (b.drop a)).2.2 = 0) : yj b a = some ((zx (b.drop a)).1, a + (zx (b.drop a)).2.1) := by unfold yj; rw [if_pos h]
def z0e (b : List Int) : EventM × Int := match yf b 0 with
 | none => (z1n, -1)
 | some (x, n) => (x, (n : Int))
def z0t (b : List Int) (a : Nat) : TermM × Int := match yl b z1n a with
 | none => (zbn, -1)
 | some (x, n) => (x.Term, (n : Int))
def Q9 (b : List Int) (a : Nat) (d : IdM) : List PostM × Int := match jg b a 16 with
 | none => ([], -1)
 | some (m, n) => if (zz b d n m.toNat).2.2 = false then ([], -1) else ((zz b d n m.toNat).1, ((zz b d n m.toNat).2.1 : Int))
set_option maxRecDepth 100000 in
set_option maxHeartbeats 4000000 in
theorem zsg (G) (b : List Int) (hib : isB b) (hl : b.length ≤ 1000000) : zo Tryz.prog G 56 [wm b] [zr (z0e b).1, iD (z0e b).2] := by
 have hd0 : b.drop 0 = b := List.drop_zero
 have hat := y6 hib
 skip
 skip
 skip
 refine GI [78] [] [] Tryz.func56 Tryz.ntmps56 fun F hP hG hN hR hA => ?_
 have hE := And.intro @Tryz.results56 (And.intro @z17 (And.intro @z7n (And.intro @z7m (@Nat.min_self))))
 refine WS [0, 2] [2, 78, 79] ?_
 have hc := gvF hP hG (jq G b hib (by omega))
 refine WSc [0, 2, 4, 5, 6] [2, 78, 79] ?_
 apply z6
 refine WS [0, 2, 4, 5, 23] [2, 78, 79] ?_
 refine WI ?_ ?_ <;> intro hb
 ·have hv : z0e b = (z1n, -1) := by
   unfold z0e yf
   by_cases h0 : (zd b).2.2 = 0
   ·rw [Qb (by rw [hd0]; exact h0), hd0]
    simp only
    rw [if_pos (by grind)]
   ·rw [z3f (by rw [hd0]; exact h0)]
  have hE := And.intro hE hv
  refine WS [2, 3] [2, 78, 79] ?_
  apply za
  apply zb
  refine EN ?_
  all_goals try trivial
  all_goals first | done | rfl
 ·have hq : (zd b).2.2 = 0 ∧ (zd b).1.length = 4 := by grind
  have hr1 := Qb (b := b) (a := 0) (by rw [hd0]; exact hq.1)
  rw [hd0, Nat.zero_add] at hr1
  have hl4 := hq.2
  have hn1 : (zd b).2.1 ≤ b.length := hat.1
  have hat2 := y6 (zt hib (zd b).2.1)
  have hld : (b.drop (zd b).2.1).length = b.length - (zd b).2.1 := List.length_drop
  rw [hld] at hat2
  have hE := And.intro hE hl4
  apply z9
  apply z7
  have hc := gvF hP hG (jq G (b.drop (zd b).2.1) (zt hib _) (by omega))
  refine WSc [2, 4, 5, 6, 7, 8] [2, 78, 79] ?_
  apply z6
  refine WS [2, 4, 5, 7, 8, 40] [2, 78, 79] ?_
  refine WI ?_ ?_ <;> intro hb
  ·have hv : z0e b = (z1n, -1) := by
    unfold z0e yf
    rw [hr1]
    simp only [hl4, not_true_eq_false, if_false]
    by_cases h0 : (zd (b.drop (zd b).2.1)).2.2 = 0
    ·rw [Qb h0]
     simp only
     rw [if_pos (by grind)]
    ·rw [z3f h0]
   have hE := And.intro hE hv
   refine WS [2, 3] [2, 78, 79] ?_
   apply za
   apply zb
   refine EN ?_
   all_goals try trivial
   all_goals first | done | rfl
  ·have hq2 : (zd (b.drop (zd b).2.1)).2.2 = 0 ∧ ((zd (b.drop (zd b).2.1)).1.length : Int).tmod 2 = 0 := by grind
   have hr2 := Qb hq2.1
   have hlr := hat2.2 hq2.1
   have hv : z0e b = (evHd (zd b).1 (zd (b.drop (zd b).2.1)).1, (((zd b).2.1 + (zd (b.drop (zd b).2.1)).2.1 : Nat) : Int)) := by
    unfold z0e yf
    rw [hr1]
    simp only [hl4, not_true_eq_false, if_false]
    rw [hr2]
    simp only
    rw [if_neg (Classical.not_not.2 hq2.2)]
   have hev := (zqv hq2.2).symm
   generalize hl0 : (zd b).1 = l at *
   generalize hr0 : (zd (b.drop (zd b).2.1)).1 = r at *
   have hq5 : r.length / 2 ≤ 500000 := by omega
   apply z9
   apply z7
   refine WD [2, 5, 7, 8, 9] [2, 9, 78, 79] [0, 1, 2, 3, 4, 5, 6, 7, 8, 9, 10, 11, 12, 13, 14] [9] ?_
   apply z6
   refine WS [2, 5, 7, 8, 9, 10] [2, 9, 78, 79] ?_
   apply zc
   refine xz 79 2 (by omega) ?_
   refine Qu 9 79 2 4 rfl rfl rfl rfl ?_
   refine WL (ι := {i : Nat // i ≤ (r.length / 2)}) [2, 5, 7, 8, 9] [2, 77, 78] (fun ⟨i, hi⟩ => [(10, .dat (iD i))]) (fun ⟨i, hi⟩ => [(9, ⟨32, [.agg [.dat (iD (l.getD 0 default)), .dat (iD (l.getD 1 default)), .dat (iD (l.getD 2 default)), .dat (iD (l.getD 3 default)), .osl 79 2 0 i, .dat (iD 0), .dat (iD 0), .dat (iD 0), .dat (iD 0), .dat (iD 0), .dat (iD 0), .dat (iD 0), .dat (iD 0), .dat (iD 0), .dat (iD 0), .dat (iD 0), .dat (iD 0), .dat (iD 0), .dat (sD ⟨#[]⟩), .nils, .nils, .nils, .dat (sD ⟨#[]⟩), .dat (iD 0), .dat (iD 0), .dat (sD ⟨#[]⟩), .nils, .dat (iD 0), .dat (iD 0), .dat (iD 0), .nils, .dat (iD 0)]]⟩), (79, ⟨2, ((Qn r i).map vb).map .dat⟩)]) (fun ⟨i, hi⟩ => (r.length / 2) - i) (⟨0, by omega⟩) ?_
   rintro ⟨i, hi⟩
   refine LA ?_
   have hns := z7l r i
   have hc0 : (2 * (i : Int)).toNat = 2 * i := by omega
   have hc1 : (2 * (i : Int) + 1).toNat = 2 * i + 1 := by omega
   have hE := And.intro hE (And.intro hns (And.intro (nameR.eq_1 r i) (And.intro hc0 hc1)))
   apply z6
   refine WS [2, 5, 7, 8, 9, 10, 60] [2, 9, 77, 78, 79] ?_
   refine WI ?_ ?_ <;> intro hb
   ·apply z9
    apply z7
    apply z6
    apply zc
    refine WDQ [2, 5, 7, 8, 9, 10] [2, 9, 77, 78, 79] [0, 1, 2, 3, 4, 5, 6, 7, 8, 9, 10, 11, 12, 13, 14, 15, 16, 17] [78] ?_
    apply zg
    apply z7
    refine wv 78 79 (by omega) (by omega) ?_
    refine WQ [2, 5, 7, 8, 9, 10] [2, 9, 77, 78, 79] ?_
    refine WN (⟨i + 1, by omega⟩)
   ·apply zn
    apply zh
    have hend : i = (r.length / 2) := by omega
    subst hend
    apply ze
    apply zw
    apply z7
    refine jh 79 hR.2.2.2 rfl (datE_map _) ?_
    have hcast : (((zd b).2.1 + (zd (b.drop (zd b).2.1)).2.1 : Nat) : Int) = ((zd b).2.1 : Int) + ((zd (b.drop (zd b).2.1)).2.1 : Int) := by omega
    have hE := And.intro hE (And.intro hv (And.intro (evHd.eq_1 l r) hcast))
    refine WS [2, 3] [2, 77, 78, 79] ?_
    apply za
    refine EN ?_
    all_goals try trivial
    all_goals first | done | rfl
set_option maxRecDepth 100000 in
set_option maxHeartbeats 2000000 in
theorem zou (G) (b : List Int) (a : Nat) (hib : isB b) (hl : b.length ≤ 1000000) (ha : a ≤ b.length) : zo Tryz.prog G 58 [wm b, iD a] [zi7 (z0t b a).1, iD (z0t b a).2] := by
 have hat := y6 (zt hib a)
 have hld : (b.drop a).length = b.length - a := List.length_drop
 rw [hld] at hat
 skip
 refine GI [] [] [] Tryz.func58 Tryz.ntmps58 fun F hP hG hN hR hA => ?_
 have hE := @Tryz.results58
 refine WS [0, 1, 4] [4] ?_
 have hc := gvF hP hG (jq G (b.drop a) (zt hib a) (by omega))
 refine WSc [0, 1, 4, 6, 7, 8] [4] ?_
 apply z6
 refine WS [0, 1, 4, 6, 7, 24] [4] ?_
 refine WI ?_ ?_ <;> intro hb
 ·have hv : z0t b a = (zbn, -1) := by
   unfold z0t yl
   by_cases h0 : (zd (b.drop a)).2.2 = 0
   ·rw [Qb h0]
    simp only
    rw [if_pos (by grind)]
   ·rw [z3f h0]
  have hE := And.intro hE hv
  refine WS [4, 5] [4] ?_
  apply za
  apply zb
  refine EN ?_
  all_goals try trivial
  all_goals first | done | rfl
 ·have hq : (zd (b.drop a)).2.2 = 0 ∧ (zd (b.drop a)).1.length = 2 := by grind
  have hr1 := Qb hq.1
  have hk2 := hq.2
  have hn1 : a + (zd (b.drop a)).2.1 ≤ b.length := by omega
  obtain ⟨n1, hn1e⟩ : ∃ n, n = a + (zd (b.drop a)).2.1 := ⟨_, rfl⟩
  have hc1 : (a : Int) + ((zd (b.drop a)).2.1 : Int) = (n1 : Int) := by omega
  rw [← hn1e] at hr1 hn1
  clear hn1e
  have hat2 := ki (zt hib n1)
  have hld2 : (b.drop n1).length = b.length - n1 := List.length_drop
  rw [hld2] at hat2
  have hE := And.intro hE (And.intro hk2 hc1)
  apply z9
  apply z7
  refine WS [0, 1, 4, 6] [4] ?_
  have hc := gvF hP hG (z2l G (b.drop n1) (zt hib _) (by omega))
  refine WSc [1, 4, 6, 7, 8, 9] [4] ?_
  apply z6
  refine WS [1, 4, 6, 7, 9, 43] [4] ?_
  refine WI ?_ ?_ <;> intro hb
  ·have hv : z0t b a = (zbn, -1) := by
    unfold z0t yl
    rw [hr1]
    simp only [hk2, not_true_eq_false, if_false]
    by_cases h0 : (zx (b.drop n1)).2.2 = 0
    ·rw [zax h0]
     simp only
     rw [if_pos (by grind)]
    ·rw [zdh h0]
   have hE := And.intro hE hv
   refine WS [4, 5] [4] ?_
   apply za
   apply zb
   refine EN ?_
   all_goals try trivial
   all_goals first | done | rfl
  ·have hq2 : (zx (b.drop n1)).2.2 = 0 ∧ 2 ≤ (zx (b.drop n1)).1.length := by grind
   have hr2 := zax hq2.1
   have hs2 := hq2.2
   have hv : z0t b a = (⟨(zx (b.drop n1)).1.getD 0 default, (zd (b.drop a)).1.getD 0 default, (zd (b.drop a)).1.getD 1 default, (zx (b.drop n1)).1.getD 1 default, (zx (b.drop n1)).1.drop 2⟩, ((n1 + (zx (b.drop n1)).2.1 : Nat) : Int)) := by
    unfold z0t yl
    rw [hr1]
    simp only [hk2, not_true_eq_false, if_false]
    rw [hr2]
    simp only
    rw [if_neg (Classical.not_not.2 hs2)]
   have hcast : ((n1 + (zx (b.drop n1)).2.1 : Nat) : Int) = (n1 : Int) + ((zx (b.drop n1)).2.1 : Int) := by omega
   apply z9
   apply z7
   refine WDJ [4, 5] [4] [(0, 45, _), (1, 46, _), (2, 47, _), (3, 48, _), (4, 49, _), (5, 50, _), (6, 51, _), (7, 52, _), (8, 53, _), (9, 54, _), (10, 55, _), (11, 56, _), (12, 57, _), (13, 58, _), (14, 59, _), (15, 60, _), (16, 61, _), (17, 62, _), (19, 5, _)] [(18, 4, _)] ⟨DV 0 [] [1, 2, 14, 18, 19], DV 1 [0] [2, 14, 18, 19], DV 2 [0, 1] [14, 18, 19], DV 3 [] [4, 5, 14, 18, 19], DV 4 [3] [5, 14, 18, 19], DV 5 [3, 4] [14, 18, 19], DV 6 [] [7, 14, 18, 19], DV 7 [6] [14, 18, 19], DV 8 [] [9, 10, 14, 18, 19], DV 9 [8] [10, 14, 18, 19], DV 10 [8, 9] [14, 18, 19], DV 11 [] [12, 13, 14, 18, 19], DV 12 [11] [13, 14, 18, 19], DV 13 [11, 12] [14, 18, 19], DV 14 [0, 1, 2, 3, 4, 5, 6, 7, 8, 9, 10, 11, 12, 13] [18, 19], DV 15 [] [17, 19], DV 16 [] [17, 19], DV 17 [15, 16] [19], DS 0 [0, 1, 2, 3, 4, 5, 6, 7, 8, 9, 10, 11, 12, 13, 14] [19], DV 18 [0, 1, 2, 3, 4, 5, 6, 7, 8, 9, 10, 11, 12, 13, 14, 15, 16, 17, 18] [], trivial⟩ ?_
   have hE := And.intro hE (And.intro hv hcast)
   apply za
   refine EN ?_
   all_goals try trivial
   all_goals first | done | rfl
set_option maxRecDepth 100000 in
set_option maxHeartbeats 4000000 in
theorem zk8 (G) (b : List Int) (a : Nat) (d : IdM) (hib : isB b) (hl : b.length ≤ 1000000) (ha : a ≤ b.length) : zo Tryz.prog G 60 [wm b, iD a, idD d] [xf (Q9 b a d).1, iD (Q9 b a d).2] := by
 have hat := qu (zt hib a)
 have hld : (b.drop a).length = b.length - a := List.length_drop
 rw [hld] at hat
 skip
 skip
 refine GI [] [] [] Tryz.func60 Tryz.ntmps60 fun F hP hG hN hR hA => ?_
 have hE := @Tryz.results60
 refine WS [0, 1, 5] [5, 84] ?_
 have hc := gvF hP hG (z1g G (b.drop a) (zt hib a) (by omega))
 refine WSc [0, 1, 5, 8, 9, 10] [5, 84] ?_
 apply z6
 refine WS [0, 1, 5, 8, 9, 34] [5, 84] ?_
 refine WI ?_ ?_ <;> intro hb
 ·have hv : Q9 b a d = ([], -1) := by
   unfold Q9 jg we
   rw [if_neg (by grind)]
  have hE := And.intro hE hv
  refine WS [6, 7] [84] ?_
  apply za
  apply zb
  refine EN ?_
  all_goals try trivial
  all_goals first | done | rfl
 ·have hq : (zj (b.drop a)).2.2 = 0 ∧ 0 ≤ (zj (b.drop a)).1 ∧ (zj (b.drop a)).1 ≤ 16 := by grind
  obtain ⟨n1, hn1e⟩ : ∃ n, n = a + (zj (b.drop a)).2.1.toNat := ⟨_, rfl⟩
  obtain ⟨m, hm⟩ : ∃ m : Nat, (zj (b.drop a)).1 = (m : Int) := ⟨(zj (b.drop a)).1.toNat, by omega⟩
  have hr1 : jg b a 16 = some ((m : Int), n1) := by
   unfold jg we
   rw [if_pos (by simp; omega), hm, hn1e]
  have hn1 : n1 ≤ b.length := by omega
  have hc1 : (a : Int) + (zj (b.drop a)).2.1 = (n1 : Int) := by omega
  clear hn1e
  have hpl : Q9 b a d = if (zz b d n1 m).2.2 = false then ([], -1) else ((zz b d n1 m).1, ((zz b d n1 m).2.1 : Int)) := by
   unfold Q9
   rw [hr1]
   rfl
  have hE := And.intro hE (And.intro hm hc1)
  apply z9
  apply z7
  refine WS [0, 1, 5, 8] [5, 84] ?_
  refine WS [0, 1, 5, 8, 11] [5, 84] ?_
  apply z6
  refine WS [0, 1, 5, 8, 11, 12] [5, 84] ?_
  apply zc
  refine xz 84 5 (by omega) ?_
  refine y9 11 84 5 rfl rfl ?_
  refine WL (ι := {i : Nat // i ≤ m ∧ (zz b d n1 i).2.2 = true}) [0, 5, 8] [5, 83] (fun ⟨i, hi2⟩ => [(12, .dat (iD i)), (11, .osl 84 5 0 i), (1, .dat (iD ((zz b d n1 i).2.1 : Nat)))]) (fun ⟨i, hi2⟩ => [(84, ⟨5, ((zz b d n1 i).1.map zae).map .dat⟩)]) (fun ⟨i, hi2⟩ => m - i) (⟨0, by omega, rfl⟩) ?_
  rintro ⟨i, hi2⟩
  refine LA ?_
  obtain ⟨hi, hi0⟩ := id hi2
  have hil := z1c i hi0
  have hia := z6o hib (d := d) hn1 i
  have hri := qu (zt hib (zz b d n1 i).2.1)
  have hld3 : (b.drop (zz b d n1 i).2.1).length = b.length - (zz b d n1 i).2.1 := List.length_drop
  rw [hld3] at hri
  have hE := And.intro hE hil
  apply z6
  refine WS [0, 1, 5, 8, 11, 12, 40] [5, 83, 84] ?_
  refine WI ?_ ?_ <;> intro hb
  ·apply z9
   apply z7
   apply z6
   apply zc
   have hc := gvF hP hG (z1g G (b.drop (zz b d n1 i).2.1) (zt hib _) (by omega))
   refine WSc [0, 1, 5, 8, 11, 12, 13, 14, 15] [5, 83, 84] ?_
   apply z6
   refine WS [0, 1, 5, 8, 11, 12, 13, 14, 60] [5, 83, 84] ?_
   refine WI ?_ ?_ <;> intro hb
   ·have hs : (zz b d n1 (i + 1)).2.2 = false := by
     rw [zz, if_neg (by rw [hi0]; simp)]
     have : jg b (zz b d n1 i).2.1 1 = none := by unfold jg we; rw [if_neg (by grind)]
     rw [this]
    have hv : Q9 b a d = ([], -1) := by rw [hpl, if_pos (Xx hs m (by omega))]
    have hE := And.intro hE hv
    refine WS [6, 7] [83, 84] ?_
    apply za
    apply zb
    apply zf
    apply zb
    apply qb
    apply zf
    apply zb
    refine EN ?_
    all_goals try trivial
    all_goals first | done | rfl
   ·have hq3 : (zj (b.drop (zz b d n1 i).2.1)).2.2 = 0 ∧ 0 ≤ (zj (b.drop (zz b d n1 i).2.1)).1 ∧ (zj (b.drop (zz b d n1 i).2.1)).1 ≤ 1 := by grind
    obtain ⟨n2, hn2e⟩ : ∃ n, n = (zz b d n1 i).2.1 + (zj (b.drop (zz b d n1 i).2.1)).2.1.toNat := ⟨_, rfl⟩
    have hr2 : jg b (zz b d n1 i).2.1 1 = some ((zj (b.drop (zz b d n1 i).2.1)).1, n2) := by
     unfold jg we
     rw [if_pos (by simp; omega), hn2e]
    have hn2 : n2 ≤ b.length := by omega
    have hc2 : ((zz b d n1 i).2.1 : Int) + (zj (b.drop (zz b d n1 i).2.1)).2.1 = (n2 : Int) := by omega
    clear hn2e
    have hat4 := ki (zt hib n2)
    have hld4 : (b.drop n2).length = b.length - n2 := List.length_drop
    rw [hld4] at hat4
    have hE := And.intro hE hc2
    apply z9
    apply z7
    refine WS [0, 1, 5, 8, 11, 12, 13] [5, 83, 84] ?_
    have hc := gvF hP hG (z2l G (b.drop n2) (zt hib _) (by omega))
    refine WSc [0, 1, 5, 8, 11, 12, 13, 14, 15, 16] [5, 83, 84] ?_
    apply z6
    refine WS [0, 1, 5, 8, 11, 12, 13, 14, 16, 73] [5, 83, 84] ?_
    refine WI ?_ ?_ <;> intro hb
    ·have hs : (zz b d n1 (i + 1)).2.2 = false := by
      rw [zz, if_neg (by rw [hi0]; simp), hr2]
      simp only
      rw [zdh (by simpa using hb)]
     have hv : Q9 b a d = ([], -1) := by rw [hpl, if_pos (Xx hs m (by omega))]
     have hE := And.intro hE hv
     refine WS [6, 7] [83, 84] ?_
     apply za
     apply zb
     apply zf
     apply zb
     apply qb
     apply zf
     apply zb
     refine EN ?_
     all_goals try trivial
     all_goals first | done | rfl
    ·have hr3 := zax (b := b) (a := n2) (by simpa using hb)
     have hsu : zz b d n1 (i + 1) = ((zz b d n1 i).1 ++ [⟨d, (zx (b.drop n2)).1, (zj (b.drop (zz b d n1 i).2.1)).1 == 1⟩], n2 + (zx (b.drop n2)).2.1, true) := by
      rw [zz, if_neg (by rw [hi0]; simp), hr2]
      simp only
      rw [hr3]
     have hnx : i + 1 ≤ m ∧ (zz b d n1 (i + 1)).2.2 = true := ⟨by omega, by rw [hsu]⟩
     have hcast : ((n2 + (zx (b.drop n2)).2.1 : Nat) : Int) = (n2 : Int) + ((zx (b.drop n2)).2.1 : Int) := by omega
     apply z9
     apply z7
     refine WS [0, 1, 5, 8, 11, 12, 13, 16] [5, 83, 84] ?_
     refine WQ [0, 1, 5, 8, 11, 12] [5, 83, 84] ?_
     apply zg
     apply z7
     have hE := And.intro hE (And.intro hsu hcast)
     refine WQ [0, 1, 5, 8, 11, 12] [5, 83, 84] ?_
     refine WN (⟨i + 1, hnx⟩)
  ·apply zn
   apply zh
   have hin : i = m := by omega
   subst hin
   have hv : Q9 b a d = ((zz b d n1 i).1, ((zz b d n1 i).2.1 : Int)) := by rw [hpl, if_neg (by rw [hi0]; simp)]
   have htk : (zz b d n1 i).1.take i = (zz b d n1 i).1 := List.take_of_length_le (by omega)
   have hE := And.intro hE (And.intro hv htk)
   apply ze
   apply zw
   apply z7
   refine WS [6, 7] [83, 84] ?_
   apply za
   refine EN ?_
   all_goals try trivial
   all_goals first | done | rfl
theorem zz1 {b : List Int} (h : (zd b).2.2 ≠ 0) : zy b = (zOp, 0, (zd b).2.2) := by
 have e : edH b = ([], 0, (zd b).2.2) := by unfold edH x8; rw [List.drop_zero, if_neg (by simp), if_pos h]
 unfold zy; rw [e]; exact if_pos h
theorem zz2 {b : List Int} (h : (zd b).2.2 = 0) (h2 : (zd b).1.length ≠ 13) : zy b = (zOp, 0, 2) := by
 have e : edH b = ([], 0, 2) := by unfold edH x8; rw [List.drop_zero, if_neg (by simp), if_neg (by simpa using h), if_pos (Or.inr ⟨rfl, by omega⟩)]
 unfold zy; rw [e]; exact if_pos (by decide)
theorem q04 {b : List Int} (h : (zd b).2.2 = 0) (h2 : (zd b).1.length = 13) : edH b = ((zd b).1, (zd b).2.1, 0) := by
 unfold edH x8; rw [List.drop_zero, if_neg (by simp), if_neg (by simpa using h), if_neg (by rw [h2]; decide), Nat.zero_add]
theorem zqq {b l : List Int} {n : Nat} (h : edH b = (l, n, 0)) : edT b = zq (b.drop n) := by unfold edT; rw [h]
theorem zz5 {b l : List Int} {n : Nat} (h : edH b = (l, n, 0)) (hb : (zq (b.drop n)).2.2 ≠ 0) : zy b = (zOp, 0, (zq (b.drop n)).2.2) := by
 unfold zy; rw [zqq h, h, if_neg (by simp), if_pos hb]
theorem zz3 {b l : List Int} {n : Nat} (h : edH b = (l, n, 0)) : edS b = zx (b.drop (n + (zq (b.drop n)).2.1.toNat)) := by unfold edS X4; rw [zqq h, h]
theorem zz0 {b l : List Int} {n : Nat} (h : edH b = (l, n, 0)) : z66 b = n + (zq (b.drop n)).2.1.toNat + (zx (b.drop (n + (zq (b.drop n)).2.1.toNat))).2.1 := by unfold z66; rw [zz3 h]; unfold X4; rw [zqq h, h]
theorem z95 (b : List Int) (a : Nat) {er : Int} (h : er ≠ 0) (n : Nat) : x8 b a er n false = ([], a, er) := if_pos h
theorem zl0 {b : List Int} {a : Nat} (h : (zd (b.drop a)).2.2 ≠ 0) (n : Nat) : x8 b a 0 n false = ([], a, (zd (b.drop a)).2.2) := by unfold x8; rw [if_neg (by simp), if_pos h]
theorem zl1 {b : List Int} {a : Nat} {n : Nat} (h : (zd (b.drop a)).2.2 = 0) (h2 : ((zd (b.drop a)).1.length : Int).tmod n ≠ 0) : x8 b a 0 n false = ([], a, 2) := by unfold x8; rw [if_neg (by simp), if_neg (by simpa using h), if_pos (Or.inl h2)]
theorem zkz {b : List Int} {a : Nat} {n : Nat} (h : (zd (b.drop a)).2.2 = 0) (h2 : ((zd (b.drop a)).1.length : Int).tmod n = 0) : x8 b a 0 n false = ((zd (b.drop a)).1, a + (zd (b.drop a)).2.1, 0) := by unfold x8; rw [if_neg (by simp), if_neg (by simpa using h), if_neg (by simp; exact h2)]
theorem ziy {b l : List Int} {n : Nat} (h : edH b = (l, n, 0)) (ht : (zq (b.drop n)).2.2 = 0) (hq : (edQ b).2.2 ≠ 0) : zy b = (zOp, 0, (edQ b).2.2) := by
 unfold zy; rw [zqq h, h, if_neg (by simp), if_neg (by simpa using ht), if_pos hq]
theorem zxr {b l : List Int} {n : Nat} (h : edH b = (l, n, 0)) (ht : (zq (b.drop n)).2.2 = 0) (hq : (edQ b).2.2 = 0) : zy b = ({ zek l with Text := (zq (b.drop n)).1, Texts := (edS b).1, Pairs := vd (edP b).1 ((edP b).1.length / 2), Refs := yd (edQ b).1 ((edQ b).1.length / 3) }, (edQ b).2.1, 0) := by
 unfold zy; rw [zqq h, h, if_neg (by simp), if_neg (by simpa using ht), if_neg (by simpa using hq)]
theorem zz4 {b l : List Int} {n : Nat} (h : edH b = (l, n, 0)) (ht : (zq (b.drop n)).2.2 = 0) (hs : (edS b).2.2 ≠ 0) : zy b = (zOp, 0, (edS b).2.2) := by
 have e : edQ b = ([], z66 b, (edS b).2.2) := by unfold edQ edP; rw [z95 b _ hs]; exact z95 b _ hs 3
 rw [ziy h ht (by rw [e]; exact hs), e]
theorem zwk {b l : List Int} {n a : Nat} {er : Int} (h : edH b = (l, n, 0)) (ht : (zq (b.drop n)).2.2 = 0) (he : er ≠ 0) (hp : edP b = ([], a, er)) : zy b = (zOp, 0, er) := by
 have e : edQ b = ([], a, er) := by unfold edQ; rw [hp]; exact z95 b _ he 3
 rw [ziy h ht (by rw [e]; exact he), e]
theorem zwl {b l : List Int} {n a : Nat} {er : Int} (h : edH b = (l, n, 0)) (ht : (zq (b.drop n)).2.2 = 0) (he : er ≠ 0) (hp : edQ b = ([], a, er)) : zy b = (zOp, 0, er) := by
 rw [ziy h ht (by rw [hp]; exact he), hp]
theorem zjx (l : List Int) (k : Nat) : (vd l (k + 1)).map Xw = (vd l k).map Xw ++ [Dat.agg [.int .i64 (l.getD (k * 2) default), .int .i64 (l.getD (k * 2 + 1) default)]] := by rw [z7p, List.map_append]; rfl
theorem zo6 (l : List Int) (k : Nat) : (yd l (k + 1)).map idD = (yd l k).map idD ++ [Dat.agg [.int .i64 (l.getD (k * 3) default), .int .i64 (l.getD (k * 3 + 1) default), .int .i64 (l.getD (k * 3 + 2) default)]] := by rw [z7z, List.map_append]; rfl
set_option maxRecDepth 100000 in
set_option maxHeartbeats 4000000 in
theorem zsb (G) (b : List Int) (hib : isB b) (hl : b.length ≤ 1000000) : zo Tryz.prog G 57 [wm b] [opD (zy b).1, iD (zy b).2.1, iD (zy b).2.2] := by
 have hat := y6 hib
 skip
 skip
 skip
 refine GI [154, 201] [] [] Tryz.func57 Tryz.ntmps57 fun F hP hG hN hR hA => ?_
 have hE := And.intro @Tryz.results57 (And.intro @Nat.min_self (@Nat.zero_div))
 refine WS [0, 2] [2, 154, 201, 155, 202] ?_
 have hc := gvF hP hG (jq G b hib (by omega))
 refine WSc [0, 2, 5, 6, 7] [2, 154, 201, 155, 202] ?_
 apply z6
 refine WS [0, 2, 5, 6, 7, 28] [2, 154, 201, 155, 202] ?_
 refine WI ?_ ?_ <;> intro hb
 ·have hv : zy b = (zOp, 0, 2) := zz2 (by grind) (by grind)
  have hE := And.intro hE hv
  refine WQ [0, 2, 5, 6, 7] [2, 154, 201, 155, 202] ?_
  apply z7
  apply z6
  refine WS [0, 2, 5, 6, 7, 30] [2, 154, 201, 155, 202] ?_
  refine jd (by first | exact rfl | (simp only [xi, wt, qn, qw]; simp [*])) ?_
  refine WS [2, 3, 4] [2, 154, 201, 155, 202] ?_
  apply za
  apply zb
  refine EN ?_
  all_goals try trivial
  all_goals first | done | rfl
 ·apply z9
  apply z7
  apply z6
  refine WS [0, 2, 5, 6, 7, 30] [2, 154, 201, 155, 202] ?_
  refine WI ?_ ?_ <;> intro hb
  ·have hv : zy b = (zOp, 0, (zd b).2.2) := zz1 (by grind)
   have hE := And.intro hE hv
   refine WS [2, 3, 4] [2, 154, 201, 155, 202] ?_
   apply za
   apply zb
   refine EN ?_
   all_goals try trivial
   all_goals first | done | rfl
  ·have hq : (zd b).2.2 = 0 ∧ (zd b).1.length = 13 := by grind
   have hH := q04 hq.1 hq.2
   have hl13 := hq.2
   obtain ⟨n1, hn1⟩ : ∃ n, n = (zd b).2.1 := ⟨_, rfl⟩
   rw [← hn1] at hH hat
   have hE := And.intro hE (And.intro hl13 hn1.symm)
   clear hn1
   have hr1 := Q4 (zt hib n1)
   have hd1 : (b.drop n1).length = b.length - n1 := List.length_drop
   rw [hd1] at hr1
   apply z9
   apply z7
   refine WS [0, 2, 5, 8] [2, 154, 201, 155, 202] ?_
   refine WD [0, 2, 8, 9] [2, 9, 154, 201, 155, 202] [0, 1, 2, 3, 4, 5, 6, 7, 8, 9, 10, 11, 12, 13, 14, 15, 16, 17, 18, 19, 20, 21, 22, 23, 24, 25, 26, 27, 28, 29, 30, 31, 32, 33, 34, 35, 36, 37, 38, 39, 40, 41, 42, 43, 44] [9] ?_
   have hc := gvF hP hG (z5l G (b.drop n1) (zt hib _) (by omega))
   refine WSc [0, 2, 6, 7, 8, 9, 10] [2, 9, 154, 201, 155, 202] ?_
   apply z6
   refine WS [0, 2, 6, 7, 8, 9, 10, 86] [2, 9, 154, 201, 155, 202] ?_
   refine WI ?_ ?_ <;> intro hb
   ·have hv : zy b = (zOp, 0, (zq (b.drop n1)).2.2) := zz5 hH (by grind)
    have hE := And.intro hE hv
    refine WS [2, 3, 4] [2, 154, 201, 155, 202] ?_
    apply za
    apply zb
    refine EN ?_
    all_goals try trivial
    all_goals first | done | rfl
   ·have hT : (zq (b.drop n1)).2.2 = 0 := by grind
    have hsS := zz3 hH
    have hsA := zz0 hH
    obtain ⟨n2, hn2⟩ : ∃ n, n = n1 + (zq (b.drop n1)).2.1.toNat := ⟨_, rfl⟩
    rw [← hn2] at hsS hsA
    have hc1 : (n1 : Int) + (zq (b.drop n1)).2.1 = (n2 : Int) := by omega
    have hn2b : n2 ≤ b.length := by omega
    have hr2 := ki (zt hib n2)
    have hd2 : (b.drop n2).length = b.length - n2 := List.length_drop
    rw [hd2] at hr2
    clear hn2
    have hE := And.intro hE hc1
    apply z9
    apply z7
    refine WS [0, 2, 8, 9, 10] [2, 9, 154, 201, 155, 202] ?_
    refine WS [0, 2, 8, 9] [2, 9, 154, 201, 155, 202] ?_
    have hc := gvF hP hG (z2l G (b.drop n2) (zt hib _) (by omega))
    refine WSc [0, 2, 6, 7, 8, 9, 11] [2, 9, 154, 201, 155, 202] ?_
    apply z6
    refine WS [0, 2, 6, 7, 8, 9, 11, 103] [2, 9, 154, 201, 155, 202] ?_
    refine WI ?_ ?_ <;> intro hb
    ·have hv : zy b = (zOp, 0, (zx (b.drop n2)).2.2) := by rw [zz4 hH hT (by rw [hsS]; grind), hsS]
     have hE := And.intro hE hv
     refine WS [2, 3, 4] [2, 154, 201, 155, 202] ?_
     apply za
     apply zb
     refine EN ?_
     all_goals try trivial
     all_goals first | done | rfl
    ·have hS : (zx (b.drop n2)).2.2 = 0 := by grind
     obtain ⟨n3, hn3⟩ : ∃ n, n = n2 + (zx (b.drop n2)).2.1 := ⟨_, rfl⟩
     rw [← hn3] at hsA
     have hc2 : (n2 : Int) + ((zx (b.drop n2)).2.1 : Int) = (n3 : Int) := by omega
     have hn3b : n3 ≤ b.length := by omega
     have hPd : edP b = x8 b n3 0 2 false := by unfold edP; rw [hsS, hsA, hS]
     have hr3 := y6 (zt hib n3)
     have hd3 : (b.drop n3).length = b.length - n3 := List.length_drop
     rw [hd3] at hr3
     clear hn3
     have hE := And.intro hE hc2
     apply z9
     apply z7
     refine WS [0, 2, 8, 9, 11] [2, 9, 154, 201, 155, 202] ?_
     refine WS [0, 2, 8, 9] [2, 9, 154, 201, 155, 202] ?_
     have hc := gvF hP hG (jq G (b.drop n3) (zt hib _) (by omega))
     refine WSc [0, 2, 6, 7, 8, 9, 12] [2, 9, 154, 201, 155, 202] ?_
     apply z6
     refine WS [0, 2, 6, 7, 8, 9, 12, 126] [2, 9, 154, 201, 155, 202] ?_
     refine WI ?_ ?_ <;> intro hb
     ·have hv : zy b = (zOp, 0, 2) := zwk hH hT (by decide) (hPd.trans (zl1 (by grind) (by grind)))
      have hE := And.intro hE hv
      refine WQ [0, 2, 6, 7, 8, 9, 12] [2, 9, 154, 201, 155, 202] ?_
      apply z7
      apply z6
      refine WS [0, 2, 6, 7, 8, 9, 12, 128] [2, 9, 154, 201, 155, 202] ?_
      refine jd (by first | exact rfl | (simp only [xi, wt, qn, qw]; simp [*])) ?_
      refine WS [2, 3, 4] [2, 154, 201, 155, 202] ?_
      apply za
      apply zb
      refine EN ?_
      all_goals try trivial
      all_goals first | done | rfl
     ·apply z9
      apply z7
      apply z6
      refine WS [0, 2, 6, 7, 8, 9, 12, 128] [2, 9, 154, 201, 155, 202] ?_
      refine WI ?_ ?_ <;> intro hb
      ·have hv : zy b = (zOp, 0, (zd (b.drop n3)).2.2) := zwk hH hT (by grind) (hPd.trans (zl0 (by grind) 2))
       have hE := And.intro hE hv
       refine WS [2, 3, 4] [2, 154, 201, 155, 202] ?_
       apply za
       apply zb
       refine EN ?_
       all_goals try trivial
       all_goals first | done | rfl
      ·have hq3 : (zd (b.drop n3)).2.2 = 0 ∧ ((zd (b.drop n3)).1.length : Int).tmod 2 = 0 := by grind
       have hPe := hPd.trans (zkz (n := 2) hq3.1 hq3.2)
       have hev := (z31 (n := 2) (by decide) hq3.2).symm
       have hpl := hr3.2 hq3.1
       obtain ⟨n4, hn4⟩ : ∃ n, n = n3 + (zd (b.drop n3)).2.1 := ⟨_, rfl⟩
       rw [← hn4] at hPe
       have hc3 : (n3 : Int) + ((zd (b.drop n3)).2.1 : Int) = (n4 : Int) := by omega
       have hn4b : n4 ≤ b.length := by omega
       obtain ⟨xp, hxp⟩ : ∃ x, x = (zd (b.drop n3)).1 := ⟨_, rfl⟩
       rw [← hxp] at hPe hev hpl
       have hE := And.intro hE (And.intro hc3 (And.intro hxp.symm (And.intro (z7q xp) (z1b xp))))
       clear hn4 hxp
       apply z9
       apply z7
       refine WS [0, 2, 8, 9, 12] [2, 9, 154, 201, 155, 202] ?_
       apply z6
       refine WS [0, 2, 8, 9, 12, 13] [2, 9, 154, 201, 155, 202] ?_
       apply zc
       refine xz 155 2 (by omega) ?_
       refine Qu 9 155 2 15 rfl rfl rfl rfl ?_
       refine WL (ι := {j : Nat // j ≤ xp.length ∧ j / 2 * 2 = j}) [0, 2, 8, 9, 12] [2, 153, 154, 200, 201, 202] (fun ⟨j, hj⟩ => [(13, .dat (iD j))]) (fun ⟨j, hj⟩ => [(9, ⟨17, [.agg [.dat (iD ((zd b).1.getD 0 default)), .dat (iD ((zd b).1.getD 1 default)), .dat (iD ((zd b).1.getD 2 default)), .dat (iD ((zd b).1.getD 3 default)), .dat (iD ((zd b).1.getD 4 default)), .dat (iD ((zd b).1.getD 5 default)), .dat (iD ((zd b).1.getD 6 default)), .dat (iD ((zd b).1.getD 7 default)), .dat (iD ((zd b).1.getD 8 default)), .dat (iD ((zd b).1.getD 9 default)), .dat (iD ((zd b).1.getD 10 default)), .dat (iD ((zd b).1.getD 11 default)), .dat (iD ((zd b).1.getD 12 default)), .dat (sD (zq (b.drop n1)).1), .dat (ssD (zx (b.drop n2)).1), .osl 155 2 0 (j / 2), .nils]]⟩), (155, ⟨2, ((vd xp (j / 2)).map Xw).map .dat⟩)]) (fun ⟨j, hj⟩ => xp.length - j) (⟨0, by omega⟩) ?_
       rintro ⟨j, hj⟩
       refine LA ?_
       have ht1 : ((j : Int) + 1).toNat = j + 1 := by omega
       have hE := And.intro hE (And.intro ht1 (z2d xp (j / 2)))
       apply z6
       refine WS [0, 2, 8, 9, 12, 13, 138] [2, 9, 153, 154, 201, 155, 202] ?_
       refine WI ?_ ?_ <;> intro hb
       ·have hlt : j + 2 ≤ xp.length ∧ (j + 2) / 2 * 2 = j + 2 := by omega
        apply z9
        apply z7
        apply z6
        apply zc
        refine WDQ [0, 2, 8, 9, 12, 13] [2, 9, 153, 154, 201, 155, 202] [0, 1, 2, 3, 4, 5, 6, 7, 8, 9, 10, 11, 12, 13, 14, 15] [154] ?_
        apply zg
        apply z7
        refine wv 154 155 (by omega) (by omega) ?_
        have hj2 : (j + 2) / 2 = j / 2 + 1 := by omega
        have hs2 := zjx xp (j / 2)
        rw [hj.2] at hs2
        have hE := And.intro hE (And.intro hj2 hs2)
        refine WQ [0, 2, 8, 9, 12, 13] [2, 9, 153, 154, 201, 155, 202] ?_
        refine WN (⟨j + 2, hlt⟩)
       ·have hje : j = xp.length := by omega
        have hje2 : j / 2 = xp.length / 2 := by omega
        refine jh 155 hR.2.2.2 rfl (datE_map _) ?_
        simp (disch := omega) only [avA, zl, zp, seval, hE]
        have hQ : edQ b = x8 b n4 0 3 false := by unfold edQ; rw [hPe]
        have hr4 := y6 (zt hib n4)
        have hd4 : (b.drop n4).length = b.length - n4 := List.length_drop
        rw [hd4] at hr4
        apply zn
        apply zh
        apply ze
        apply zw
        apply z7
        have hc := gvF hP hG (jq G (b.drop n4) (zt hib _) (by omega))
        refine WSc [2, 6, 7, 8, 9, 14] [2, 9, 153, 154, 201, 155, 202] ?_
        apply z6
        refine WS [2, 6, 7, 8, 9, 14, 171] [2, 9, 153, 154, 201, 155, 202] ?_
        refine WI ?_ ?_ <;> intro hb
        ·have hv : zy b = (zOp, 0, 2) := zwl hH hT (by decide) (hQ.trans (zl1 (by grind) (by grind)))
         have hE := And.intro hE hv
         refine WQ [2, 6, 7, 8, 9, 14] [2, 9, 153, 154, 201, 155, 202] ?_
         apply z7
         apply z6
         refine WS [2, 6, 7, 8, 9, 14, 173] [2, 9, 153, 154, 201, 155, 202] ?_
         refine jd (by first | exact rfl | (simp only [xi, wt, qn, qw]; simp [*])) ?_
         refine WS [2, 3, 4] [2, 153, 154, 201, 155, 202] ?_
         apply za
         apply zb
         refine EN ?_
         all_goals try trivial
         all_goals first | done | rfl
        ·apply z9
         apply z7
         apply z6
         refine WS [2, 6, 7, 8, 9, 14, 173] [2, 9, 153, 154, 201, 155, 202] ?_
         refine WI ?_ ?_ <;> intro hb
         ·have hv : zy b = (zOp, 0, (zd (b.drop n4)).2.2) := zwl hH hT (by grind) (hQ.trans (zl0 (by grind) 3))
          have hE := And.intro hE hv
          refine WS [2, 3, 4] [2, 153, 154, 201, 155, 202] ?_
          apply za
          apply zb
          refine EN ?_
          all_goals try trivial
          all_goals first | done | rfl
         ·have hq4 : (zd (b.drop n4)).2.2 = 0 ∧ ((zd (b.drop n4)).1.length : Int).tmod 3 = 0 := by grind
          have hQe := hQ.trans (zkz (n := 3) hq4.1 hq4.2)
          have hev3 := (z31 (n := 3) (by decide) hq4.2).symm
          have hpl3 := hr4.2 hq4.1
          have hv := zxr hH hT (by rw [hQe])
          rw [hPe, hQe, hsS] at hv
          obtain ⟨xq, hxq⟩ : ∃ x, x = (zd (b.drop n4)).1 := ⟨_, rfl⟩
          rw [← hxq] at hev3 hpl3 hv
          have hE := And.intro hE (And.intro hje2 (And.intro hxq.symm (And.intro (z80 xq) (z1f xq))))
          clear hxq
          apply z9
          apply z7
          apply z6
          refine WS [2, 6, 8, 9, 14, 15] [2, 9, 153, 154, 201, 155, 202] ?_
          apply zc
          refine xz 202 3 (by omega) ?_
          refine Qu 9 202 3 16 rfl rfl rfl rfl ?_
          refine WL (ι := {i : Nat // i ≤ xq.length ∧ i / 3 * 3 = i}) [2, 6, 8, 9, 14] [2, 153, 154, 200, 201, 155] (fun ⟨i, hi⟩ => [(15, .dat (iD i))]) (fun ⟨i, hi⟩ => [(9, ⟨17, [.agg [.dat (iD ((zd b).1.getD 0 default)), .dat (iD ((zd b).1.getD 1 default)), .dat (iD ((zd b).1.getD 2 default)), .dat (iD ((zd b).1.getD 3 default)), .dat (iD ((zd b).1.getD 4 default)), .dat (iD ((zd b).1.getD 5 default)), .dat (iD ((zd b).1.getD 6 default)), .dat (iD ((zd b).1.getD 7 default)), .dat (iD ((zd b).1.getD 8 default)), .dat (iD ((zd b).1.getD 9 default)), .dat (iD ((zd b).1.getD 10 default)), .dat (iD ((zd b).1.getD 11 default)), .dat (iD ((zd b).1.getD 12 default)), .dat (sD (zq (b.drop n1)).1), .dat (ssD (zx (b.drop n2)).1), .dat (z2c (vd xp (xp.length / 2))), .osl 202 3 0 (i / 3)]]⟩), (202, ⟨3, ((yd xq (i / 3)).map idD).map .dat⟩)]) (fun ⟨i, hi⟩ => xq.length - i) (⟨0, by omega⟩) ?_
          rintro ⟨i, hi⟩
          refine LA ?_
          have ht1 : ((i : Int) + 1).toNat = i + 1 := by omega
          have ht2 : ((i : Int) + 2).toNat = i + 2 := by omega
          have hE := And.intro hE (And.intro ht1 (And.intro ht2 (z2f xq (i / 3))))
          apply z6
          refine WS [2, 6, 8, 9, 14, 15, 180] [2, 9, 153, 154, 200, 201, 155, 202] ?_
          refine WI ?_ ?_ <;> intro hb
          ·have hlt : i + 3 ≤ xq.length ∧ (i + 3) / 3 * 3 = i + 3 := by omega
           apply z9
           apply z7
           apply z6
           apply zc
           refine WDQ [2, 6, 8, 9, 14, 15] [2, 9, 153, 154, 200, 201, 155, 202] [0, 1, 2, 3, 4, 5, 6, 7, 8, 9, 10, 11, 12, 13, 14, 15, 16, 17, 18, 19, 20] [201] ?_
           apply zg
           apply z7
           refine wv 201 202 (by omega) (by omega) ?_
           have hi3 : (i + 3) / 3 = i / 3 + 1 := by omega
           have hs3 := zo6 xq (i / 3)
           rw [hi.2] at hs3
           have hE := And.intro hE (And.intro hi3 hs3)
           refine WQ [2, 6, 8, 9, 14, 15] [2, 9, 153, 154, 200, 201, 155, 202] ?_
           refine WN (⟨i + 3, hlt⟩)
          ·have hie : i = xq.length := by omega
           rw [← hie] at hv
           have hcast : ((n4 + (zd (b.drop n4)).2.1 : Nat) : Int) = (n4 : Int) + ((zd (b.drop n4)).2.1 : Int) := by omega
           have hE := And.intro hE (And.intro hv hcast)
           apply zn
           apply zh
           apply ze
           apply zw
           apply z7
           refine WS [2, 3, 4] [2, 153, 154, 200, 201, 155, 202] ?_
           apply za
           refine EN ?_
           all_goals try trivial
           all_goals first | done | rfl
set_option maxRecDepth 100000 in
set_option maxHeartbeats 4000000 in
theorem zcm (G) (b : List Int) (a : Nat) (hib : isB b) (hl : b.length ≤ 1000000) (ha : a ≤ b.length) : GivesXP Tryz.prog G 54 [.ptr 1000 2 0 0] [(1000, ⟨2, [.dat (rdD b a)]⟩)] (qf b a) (fun p => [.dat (zr p.1)]) (fun p => [(1000, ⟨2, [.dat (rdD b p.2)]⟩)]) z7d := by
 skip
 skip
 skip
 refine jz [60, 181] [16, 35, 99, 105, 130, 166, 170, 177] [] Tryz.func54 rfl (by rfl) (by simp [Tryz.ntmps54]) (by kernel_rfl) (fun _ => by kernel_rfl) (fun _ => by simp [wr, w9, AV.only, v6]) (fun _ => by simp only [je, wr, w9, wo, wx, yq, AV.only, Bool.and_true] <;> simp [v6]) fun F hP hG hN hR => ?_
 rw [Tryz.ntmps54] at hN
 have hA := And.intro hN (And.intro hP (And.intro hG (And.intro hR.1 (And.intro hR.2.1 hR.2.2.1))))
 have hE := And.intro @Tryz.results54 (And.intro @z17 (And.intro @z7n (And.intro @z7m (@Nat.min_self))))
 refine WS [0, 2] [2, 60, 181, 1000, 150, 151] ?_
 rcases ht : v8 b a with _ | ⟨l, n1⟩
 ·have hv := (show qf b a = none by simp only [qf, yf, ht])
  apply qo
  apply qz
  ·(iterate 1 apply Seg.cons); exact Seg.nil _
  ·refine RK ?_
   exact SC
  refine yw (fun i => i) (ku hP hG ((kx G b a hib (by omega) ha).pan ht)) rfl rfl rfl rfl (qv hN (by first | trivial | ((try simp only [yc, AObj.ren, AV.ren, renL, qy, List.map_cons, List.map_nil, x1, xm]) <;> ((repeat' apply And.intro) <;> first | trivial | rfl))) (by rfl)) (by exact ⟨hv, rfl⟩)
 have hr1 := ht
 have hat1 := Z8 hib ha ht
 apply zu [0, 2, 3] [2, 60, 181, 1000, 150, 151]
 ·refine RN ?_
  refine CX (fun i => i) [] ((kx G b a hib (by omega) ha).ok ht) ?_
  exact SC
 by_cases ht : ¬ (l.length = 4)
 ·have hv := (show qf b a = none by simp only [qf, yf, hr1, if_pos ht])
  apply qo
  apply qz
  ·(iterate 3 apply Seg.cons); exact Seg.nil _
  ·refine RK ?_
   exact SC
  refine yw (fun i => i) (ku hP hG (k9 G ?_)) rfl rfl rfl rfl (qv hN (by first | trivial | ((try simp only [yc, AObj.ren, AV.ren, renL, qy, List.map_cons, List.map_nil, x1, xm]) <;> ((repeat' apply And.intro) <;> first | trivial | rfl))) (by rfl)) (by exact ⟨hv, rfl⟩)
  all_goals first | (simpa using ht) | grind
 replace ht := Classical.not_not.1 ht
 have hl4 := ht
 have hE := And.intro hE hl4
 have hc := gvF hP hG (Q7 G)
 refine WSc [0, 2, 3] [2, 60, 181, 1000, 150, 151] ?_
 refine WD [0, 2, 4] [2, 4, 60, 181, 1000, 150, 151] [0, 1, 2, 3, 4, 5, 6, 7, 8, 9, 10, 11, 12, 13, 14] [4] ?_
 rcases ht : v8 b n1 with _ | ⟨r, n2⟩
 ·have hv := (show qf b a = none by simp only [qf, yf, hr1, hl4, not_true_eq_false, if_false, ht])
  apply qo
  apply qz
  ·(iterate 1 apply Seg.cons); exact Seg.nil _
  ·refine RK ?_
   exact SC
  refine yw (fun i => i) (ku hP hG ((kx G b n1 hib (by omega) hat1.1).pan ht)) rfl rfl rfl rfl (qv hN (by first | trivial | ((try simp only [yc, AObj.ren, AV.ren, renL, qy, List.map_cons, List.map_nil, x1, xm]) <;> ((repeat' apply And.intro) <;> first | trivial | rfl))) (by rfl)) (by exact ⟨hv, rfl⟩)
 have hr2 := ht
 have hat2 := Z8 hib hat1.1 ht
 apply zu [0, 2, 4, 5] [2, 4, 60, 181, 1000, 150, 151]
 ·refine RN ?_
  refine CX (fun i => i) [] ((kx G b n1 hib (by omega) hat1.1).ok ht) ?_
  exact SC
 by_cases ht : ¬ ((r.length : Int).tmod 2 = 0)
 ·have hv := (show qf b a = none by simp only [qf, yf, hr1, hl4, not_true_eq_false, if_false, hr2, if_pos ht])
  apply qo
  apply qz
  ·(iterate 4 apply Seg.cons); exact Seg.nil _
  ·refine RK ?_
   exact SC
  refine yw (fun i => i) (ku hP hG (k9 G ?_)) rfl rfl rfl rfl (qv hN (by first | trivial | ((try simp only [yc, AObj.ren, AV.ren, renL, qy, List.map_cons, List.map_nil, x1, xm]) <;> ((repeat' apply And.intro) <;> first | trivial | rfl))) (by rfl)) (by exact ⟨hv, rfl⟩)
  all_goals first | (simpa using ht) | grind
 replace ht := Classical.not_not.1 ht
 have hr3 := ht
 have hev := (z31 (l := r) (n := 2) (by decide) hr3).symm
 have hq : r.length / 2 ≤ 500000 := by omega
 have hhd : qf b a = Qw b (evHd l r) n2 := by simp only [qf, yf, hr1, hl4, not_true_eq_false, if_false, hr2, hr3]
 have hE := And.intro hE hr3
 have hc := gvF hP hG (Q7 G)
 refine WSc [0, 2, 4, 5] [2, 4, 60, 181, 1000, 150, 151] ?_
 apply z6
 refine WS [0, 2, 4, 5, 6] [2, 4, 60, 181, 1000, 150, 151] ?_
 apply zc
 refine xz 150 2 (by omega) ?_
 refine Qu 4 150 2 4 rfl rfl rfl rfl ?_
 refine WL (ι := {i : Nat // i ≤ (r.length / 2)}) [0, 2, 4, 5] [2, 59, 60, 180, 181, 1000, 151] (fun ⟨i, hi⟩ => [(6, .dat (iD ((2 * i : Nat) : Int)))]) (fun ⟨i, hi⟩ => [(4, ⟨32, [.agg [.dat (iD (l.getD 0 default)), .dat (iD (l.getD 1 default)), .dat (iD (l.getD 2 default)), .dat (iD (l.getD 3 default)), .osl 150 2 0 i, .dat (iD 0), .dat (iD 0), .dat (iD 0), .dat (iD 0), .dat (iD 0), .dat (iD 0), .dat (iD 0), .dat (iD 0), .dat (iD 0), .dat (iD 0), .dat (iD 0), .dat (iD 0), .dat (iD 0), .dat (sD ⟨#[]⟩), .nils, .nils, .nils, .dat (sD ⟨#[]⟩), .dat (iD 0), .dat (iD 0), .dat (sD ⟨#[]⟩), .nils, .dat (iD 0), .dat (iD 0), .dat (iD 0), .nils, .dat (iD 0)]]⟩), (150, ⟨2, ((Qn r i).map vb).map .dat⟩)]) (fun ⟨i, hi⟩ => (r.length / 2) - i) (⟨0, by omega⟩) ?_
 rintro ⟨i, hi⟩
 refine LA ?_
 have hns := z7l r i
 have hc1 : (((2 * i : Nat) : Int) + 1).toNat = 2 * i + 1 := by omega
 have hE := And.intro hE (And.intro hns (And.intro (nameR.eq_1 r i) hc1))
 apply z6
 refine WS [0, 2, 4, 5, 6, 44] [2, 4, 59, 60, 181, 1000, 150, 151] ?_
 refine WI ?_ ?_ <;> intro hb
 ·apply z9
  apply z7
  apply z6
  apply zc
  refine WDQ [0, 2, 4, 5, 6] [2, 4, 59, 60, 181, 1000, 150, 151] [0, 1, 2, 3, 4, 5, 6, 7, 8, 9, 10, 11, 12, 13, 14, 15] [60] ?_
  apply zg
  apply z7
  refine wv 60 150 (by omega) (by omega) ?_
  refine WQ [0, 2, 4, 5, 6] [2, 4, 59, 60, 181, 1000, 150, 151] ?_
  refine WN (⟨i + 1, by omega⟩)
 ·apply zn
  apply zh
  have hend : i = (r.length / 2) := by omega
  subst hend
  apply ze
  apply zw
  apply z7
  apply z6
  refine z0w 150 hR.2.2.2 rfl (datE_map _) rfl ?_
  have hc := gvF hP hG (zry G (l.getD 3 default))
  refine WSc [0, 2, 4, 7] [2, 4, 7, 59, 60, 181, 1000, 150, 151] ?_
  apply zc
  refine WS [0, 2, 4, 7, 65] [2, 4, 7, 59, 60, 181, 1000, 150, 151] ?_
  refine WI ?_ ?_ <;> intro hb
  ·have ho : (ofM (l.getD 3 default)).op = true := hb
   have htl : qf b a = if ¬ (zy (b.drop n2)).2.2 = 0 then none else some ({ evHd l r with Op := (zy (b.drop n2)).1 }, n2 + (zy (b.drop n2)).2.1) := by rw [hhd]; exact if_pos ho
   have heat := z94 (zt hib n2)
   rw [List.length_drop] at heat
   apply wn [0, 2, 4, 8, 9, 10] [2, 4, 8, 59, 60, 181, 1000, 150, 151] [0, 1, 2, 3, 4, 5, 6, 7, 8, 9, 10, 11, 14, 15, 12, 13, 16, 17] [8]
   ·rw [hP]; kernel_rfl
   ·exact hR
   ·kernel_rfl
   ·(repeat (apply PickL.cons; exact rfl)); exact PickL.nil _
   ·refine RN ?_
    refine CU (zu6 G (b.drop n2) (zt hib _) (by rw [List.length_drop]; omega)) ?_
    exact SC
   by_cases ht : ¬ ((zy (b.drop n2)).2.2 = 0)
   ·have hv := (show qf b a = none by rw [htl, if_pos ht])
    apply qo
    apply qz
    ·(iterate 2 apply Seg.cons); exact Seg.nil _
    ·refine RK ?_
     exact SC
    refine yw (fun i => i) (ku hP hG (k9 G ?_)) rfl rfl rfl rfl (qv hN (by first | trivial | ((try simp only [yc, AObj.ren, AV.ren, renL, qy, List.map_cons, List.map_nil, x1, xm]) <;> ((repeat' apply And.intro) <;> first | trivial | rfl))) (by rfl)) (by exact ⟨hv, rfl⟩)
    all_goals first | (simpa using ht) | grind
   replace ht := Classical.not_not.1 ht
   have hv : qf b a = some ({ evHd l r with Op := (zy (b.drop n2)).1 }, n2 + (zy (b.drop n2)).2.1) := by rw [htl, if_neg (Classical.not_not.2 ht)]
   have hcast : ((n2 + (zy (b.drop n2)).2.1 : Nat) : Int) = (n2 : Int) + ((zy (b.drop n2)).2.1 : Int) := by omega
   have hE := And.intro hE ht
   have hc := gvF hP hG (Q7 G)
   refine WSc [0, 2, 4, 8, 9] [2, 4, 8, 59, 60, 181, 1000, 150, 151] ?_
   refine WS [0, 2, 4, 9] [2, 4, 59, 60, 181, 1000, 150, 151] ?_
   refine WQ [2, 4] [2, 4, 59, 60, 181, 1000, 150, 151] ?_
   apply zg
   apply z7
   first | refine z0w 151 hR.2.2.2 rfl (datE_map _) rfl ?_ | skip
   refine WS [2] [2, 59, 60, 180, 181, 1000, 150, 151] ?_
   apply za
   refine zhh hv ?_
   simp only [kz, ym, vv, qt, qi, qr, vn, qg, qa, xu, qx, vg, xk, xx, xt, vf, xw, xh, xy, xd, avA, zl, zp, seval, ↓List.forall_mem_cons, Op.operands, hP, hG, tiA, hE, evHd.eq_1]
   all_goals try trivial
   all_goals try simp only [rdD, hcast]
   all_goals first | done | exact ⟨_, rfl, rfl⟩ | exact ⟨⟨_, rfl, rfl⟩, trivial⟩ | exact ⟨⟨_, rfl, rfl⟩, rfl⟩
  ·have ho : ¬ (ofM (l.getD 3 default)).op = true := by intro h; rw [h] at hb; cases hb
   refine WS [0, 2, 4, 7, 95] [2, 4, 7, 59, 60, 181, 1000, 150, 151] ?_
   refine WI ?_ ?_ <;> intro hb
   ·have hterm : (ofM (l.getD 3 default)).term = true := hb
    have htl : qf b a = yl b (evHd l r) n2 := by rw [hhd]; exact (if_neg ho).trans (if_pos hterm)
    rcases ht : v8 b n2 with _ | ⟨k, n3⟩
    ·have hv := (show qf b a = none by rw [htl]; simp only [yl, ht])
     apply qo
     apply qz
     ·(iterate 1 apply Seg.cons); exact Seg.nil _
     ·refine RK ?_
      exact SC
     refine yw (fun i => i) (ku hP hG ((kx G b n2 hib (by omega) hat2.1).pan ht)) rfl rfl rfl rfl (qv hN (by first | trivial | ((try simp only [yc, AObj.ren, AV.ren, renL, qy, List.map_cons, List.map_nil, x1, xm]) <;> ((repeat' apply And.intro) <;> first | trivial | rfl))) (by rfl)) (by exact ⟨hv, rfl⟩)
    have hr4 := ht
    have hat3 := Z8 hib hat2.1 ht
    apply zu [0, 2, 4, 11] [2, 4, 59, 60, 181, 1000, 150, 151]
    ·refine RN ?_
     refine CX (fun i => i) [] ((kx G b n2 hib (by omega) hat2.1).ok ht) ?_
     exact SC
    by_cases ht : ¬ (k.length = 2)
    ·have hv := (show qf b a = none by rw [htl]; simp only [yl, hr4, if_pos ht])
     apply qo
     apply qz
     ·(iterate 3 apply Seg.cons); exact Seg.nil _
     ·refine RK ?_
      exact SC
     refine yw (fun i => i) (ku hP hG (k9 G ?_)) rfl rfl rfl rfl (qv hN (by first | trivial | ((try simp only [yc, AObj.ren, AV.ren, renL, qy, List.map_cons, List.map_nil, x1, xm]) <;> ((repeat' apply And.intro) <;> first | trivial | rfl))) (by rfl)) (by exact ⟨hv, rfl⟩)
     all_goals first | (simpa using ht) | grind
    replace ht := Classical.not_not.1 ht
    have hk2 := ht
    have hE := And.intro hE hk2
    have hc := gvF hP hG (Q7 G)
    refine WSc [0, 2, 4, 11] [2, 4, 59, 60, 181, 1000, 150, 151] ?_
    rcases ht : yj b n3 with _ | ⟨s, n4⟩
    ·have hv := (show qf b a = none by rw [htl]; simp only [yl, hr4, hk2, not_true_eq_false, if_false, ht])
     apply qo
     apply qz
     ·(iterate 1 apply Seg.cons); exact Seg.nil _
     ·refine RK ?_
      exact SC
     refine yw (fun i => i) (ku hP hG ((z3h G b n3 hib (by omega) hat3.1).pan ht)) rfl rfl rfl rfl (qv hN (by first | trivial | ((try simp only [yc, AObj.ren, AV.ren, renL, qy, List.map_cons, List.map_nil, x1, xm]) <;> ((repeat' apply And.intro) <;> first | trivial | rfl))) (by rfl)) (by exact ⟨hv, rfl⟩)
    have hr5 := ht
    have hat4 := zaw hib hat3.1 ht
    apply zu [2, 4, 11, 12] [2, 4, 59, 60, 181, 1000, 150, 151]
    ·refine RN ?_
     refine CX (fun i => i) [] ((z3h G b n3 hib (by omega) hat3.1).ok ht) ?_
     exact SC
    by_cases ht : ¬ (2 ≤ s.length)
    ·have hv := (show qf b a = none by rw [htl]; simp only [yl, hr4, hk2, not_true_eq_false, if_false, hr5, if_pos ht])
     apply qo
     apply qz
     ·(iterate 3 apply Seg.cons); exact Seg.nil _
     ·refine RK ?_
      exact SC
     refine yw (fun i => i) (ku hP hG (k9 G ?_)) rfl rfl rfl rfl (qv hN (by first | trivial | ((try simp only [yc, AObj.ren, AV.ren, renL, qy, List.map_cons, List.map_nil, x1, xm]) <;> ((repeat' apply And.intro) <;> first | trivial | rfl))) (by rfl)) (by exact ⟨hv, rfl⟩)
     all_goals first | (simpa using ht) | grind
    replace ht := Classical.not_not.1 ht
    have hs2 := ht
    have hv : qf b a = some ({ evHd l r with Term := ⟨s.getD 0 default, k.getD 0 default, k.getD 1 default, s.getD 1 default, s.drop 2⟩ }, n4) := by rw [htl]; simp only [yl, hr4, hk2, not_true_eq_false, if_false, hr5, hs2]
    have hs3 : decide ((2 : Int) ≤ (s.length : Int)) = true := by simp; omega
    have hE := And.intro hE hs3
    have hc := gvF hP hG (Q7 G)
    refine WSc [2, 4, 11, 12] [2, 4, 59, 60, 181, 1000, 150, 151] ?_
    refine WDQ [2, 4] [2, 4, 59, 60, 181, 1000, 150, 151] [0, 1, 2, 3, 4, 5, 6, 7, 8, 9, 10, 11, 12, 13, 14, 15, 16] [] ?_
    apply zg
    apply z7
    first | refine z0w 151 hR.2.2.2 rfl (datE_map _) rfl ?_ | skip
    refine WS [2] [2, 59, 60, 180, 181, 1000, 150, 151] ?_
    apply za
    refine zhh hv ?_
    simp only [kz, ym, vv, qt, qi, qr, vn, qg, qa, xu, qx, vg, xk, xx, xt, vf, xw, xh, xy, xd, avA, zl, zp, seval, ↓List.forall_mem_cons, Op.operands, hP, hG, tiA, hE, evHd.eq_1]
    all_goals try trivial
    all_goals try simp only [rdD, hcast]
    all_goals first | done | exact ⟨_, rfl, rfl⟩ | exact ⟨⟨_, rfl, rfl⟩, trivial⟩ | exact ⟨⟨_, rfl, rfl⟩, rfl⟩
   ·have hterm : ¬ (ofM (l.getD 3 default)).term = true := by intro h; rw [h] at hb; cases hb
    refine WS [0, 2, 4, 7, 126] [2, 4, 7, 59, 60, 181, 1000, 150, 151] ?_
    refine WI ?_ ?_ <;> intro hb
    ·have hid : (ofM (l.getD 3 default)).id = true := hb
     have htl : qf b a = z1o b (evHd l r) n2 := by rw [hhd]; exact (if_neg ho).trans ((if_neg hterm).trans (if_pos hid))
     rcases ht : v8 b n2 with _ | ⟨k, n3⟩
     ·have hv := (show qf b a = none by rw [htl]; simp only [z1o, ht])
      apply qo
      apply qz
      ·(iterate 1 apply Seg.cons); exact Seg.nil _
      ·refine RK ?_
       exact SC
      refine yw (fun i => i) (ku hP hG ((kx G b n2 hib (by omega) hat2.1).pan ht)) rfl rfl rfl rfl (qv hN (by first | trivial | ((try simp only [yc, AObj.ren, AV.ren, renL, qy, List.map_cons, List.map_nil, x1, xm]) <;> ((repeat' apply And.intro) <;> first | trivial | rfl))) (by rfl)) (by exact ⟨hv, rfl⟩)
     have hr4 := ht
     have hat3 := Z8 hib hat2.1 ht
     apply zu [0, 2, 4, 7, 13] [2, 4, 7, 59, 60, 181, 1000, 150, 151]
     ·refine RN ?_
      refine CX (fun i => i) [] ((kx G b n2 hib (by omega) hat2.1).ok ht) ?_
      exact SC
     by_cases hn : (ofM (l.getD 3 default)).n = true
     ·have hp : (ofM (l.getD 3 default)).posts = false := by rw [z5d]; rw [zv6] at hn; grind
      have hE := And.intro hE (And.intro hn hp)
      by_cases ht : ¬ ((((ofM (l.getD 3 default)).posts = true ∧ k.length = 3) ∨ ((ofM (l.getD 3 default)).n = true ∧ k.length = 4)))
      ·have hv := (show qf b a = none by rw [htl]; simp only [z1o, hr4]; exact if_pos ht)
       apply qo
       apply qz
       ·(iterate 16 apply Seg.cons); exact Seg.nil _
       ·refine RK ?_
        exact SC
       refine yw (fun i => i) (ku hP hG (k9 G ?_)) rfl rfl rfl rfl (qv hN (by first | trivial | ((try simp only [yc, AObj.ren, AV.ren, renL, qy, List.map_cons, List.map_nil, x1, xm]) <;> ((repeat' apply And.intro) <;> first | trivial | rfl))) (by rfl)) (by exact ⟨hv, rfl⟩)
       all_goals first | (simpa using ht) | grind
      replace ht := Classical.not_not.1 ht
      have hcase := ht
      have hkl : k.length = if (ofM (l.getD 3 default)).n = true then 4 else 3 := by grind
      have hk3 : 3 ≤ k.length := by rw [hkl]; split <;> omega
      have hE := And.intro hE hkl
      have hc := gvF hP hG (Q7 G)
      refine WSc [0, 2, 4, 7, 13] [2, 4, 7, 59, 60, 181, 1000, 150, 151] ?_
      refine WD [0, 2, 4, 7, 13] [2, 4, 7, 59, 60, 181, 1000, 150, 151] [0, 1, 2, 3, 4, 5, 6, 7, 8, 9, 10, 11] [] ?_
      apply z6
      refine WS [0, 2, 4, 13, 160] [2, 4, 59, 60, 181, 1000, 150, 151] ?_
      refine jd (by first | exact rfl | (simp only [xi, wt, qn, qw]; simp [*])) ?_
      have hk4 : k.length = 4 := by rw [hkl, if_pos hn]
      have hv : qf b a = some ({ evHd l r with ID := idR k, N := k.getD 3 default }, n3) := by rw [htl]; simp only [z1o, hr4]; exact (if_neg (Classical.not_not.2 hcase)).trans (if_pos hn)
      have hE := And.intro hE (show (idR k).By = k.getD 0 default ∧ (idR k).Seq = k.getD 1 default ∧ (idR k).K = k.getD 2 default from ⟨rfl, rfl, rfl⟩)
      refine WS [2, 4] [2, 4, 59, 60, 181, 1000, 150, 151] ?_
      apply zn
      apply zh
      apply zw
      apply z7
      first | refine z0w 151 hR.2.2.2 rfl (datE_map _) rfl ?_ | skip
      refine WS [2] [2, 59, 60, 180, 181, 1000, 150, 151] ?_
      apply za
      refine zhh hv ?_
      simp only [kz, ym, vv, qt, qi, qr, vn, qg, qa, xu, qx, vg, xk, xx, xt, vf, xw, xh, xy, xd, avA, zl, zp, seval, ↓List.forall_mem_cons, Op.operands, hP, hG, tiA, hE, evHd.eq_1]
      all_goals try trivial
      all_goals try simp only [rdD, hcast]
      all_goals first | done | exact ⟨_, rfl, rfl⟩ | exact ⟨⟨_, rfl, rfl⟩, trivial⟩ | exact ⟨⟨_, rfl, rfl⟩, rfl⟩
     ·replace hn : (ofM (l.getD 3 default)).n = false := by simpa using hn
      have hp : (ofM (l.getD 3 default)).posts = true := by rw [z5d]; rw [zv6] at hn; rw [zwo] at hid; grind
      have hE := And.intro hE (And.intro hn hp)
      by_cases ht : ¬ ((((ofM (l.getD 3 default)).posts = true ∧ k.length = 3) ∨ ((ofM (l.getD 3 default)).n = true ∧ k.length = 4)))
      ·have hv := (show qf b a = none by rw [htl]; simp only [z1o, hr4]; exact if_pos ht)
       apply qo
       apply qz
       ·(iterate 16 apply Seg.cons); exact Seg.nil _
       ·refine RK ?_
        exact SC
       refine yw (fun i => i) (ku hP hG (k9 G ?_)) rfl rfl rfl rfl (qv hN (by first | trivial | ((try simp only [yc, AObj.ren, AV.ren, renL, qy, List.map_cons, List.map_nil, x1, xm]) <;> ((repeat' apply And.intro) <;> first | trivial | rfl))) (by rfl)) (by exact ⟨hv, rfl⟩)
       all_goals first | (simpa using ht) | grind
      replace ht := Classical.not_not.1 ht
      have hcase := ht
      have hkl : k.length = if (ofM (l.getD 3 default)).n = true then 4 else 3 := by grind
      have hk3 : 3 ≤ k.length := by rw [hkl]; split <;> omega
      have hE := And.intro hE hkl
      have hc := gvF hP hG (Q7 G)
      refine WSc [0, 2, 4, 7, 13] [2, 4, 7, 59, 60, 181, 1000, 150, 151] ?_
      refine WD [0, 2, 4, 7, 13] [2, 4, 7, 59, 60, 181, 1000, 150, 151] [0, 1, 2, 3, 4, 5, 6, 7, 8, 9, 10, 11] [] ?_
      apply z6
      refine WS [0, 2, 4, 13, 160] [2, 4, 59, 60, 181, 1000, 150, 151] ?_
      refine X0 (by first | exact rfl | (simp only [xi, wt, qn, qw]; simp [*])) ?_
      apply z9
      apply z7
      rcases ht : jg b n3 16 with _ | ⟨m, n4⟩
      ·have hv := (show qf b a = none by rw [htl]; simp only [z1o, hr4]; refine (if_neg (Classical.not_not.2 hcase)).trans ((if_neg (by rw [show (ofM (evHd l r).Kind).n = false from hn]; simp)).trans ?_); rw [ht])
       apply qo
       apply qz
       ·(iterate 1 apply Seg.cons); exact Seg.nil _
       ·refine RK ?_
        exact SC
       refine yw (fun i => i) (ku hP hG ((z5n G b n3 16 hib (by omega) hat3.1).pan ht)) rfl rfl rfl rfl (qv hN (by first | trivial | ((try simp only [yc, AObj.ren, AV.ren, renL, qy, List.map_cons, List.map_nil, x1, xm]) <;> ((repeat' apply And.intro) <;> first | trivial | rfl))) (by rfl)) (by exact ⟨hv, rfl⟩)
      have hr5 := ht
      have hat4 := zf5 hib hat3.1 ht
      have hpl : qf b a = if (zz b (idR k) n4 m.toNat).2.2 = false then none else some ({ evHd l r with ID := idR k, Posts := (zz b (idR k) n4 m.toNat).1 }, (zz b (idR k) n4 m.toNat).2.1) := by rw [htl]; simp only [z1o, hr4]; refine (if_neg (Classical.not_not.2 hcase)).trans ((if_neg (by rw [show (ofM (evHd l r).Kind).n = false from hn]; simp)).trans ?_); rw [ht]
      apply zu [0, 2, 4, 166, 167] [2, 4, 59, 60, 181, 1000, 150, 151]
      ·refine RN ?_
       refine CX (fun i => i) [] ((z5n G b n3 16 hib (by omega) hat3.1).ok ht) ?_
       exact SC
      apply zc
      refine xz 151 5 (by omega) ?_
      refine Qu 4 151 5 30 rfl rfl rfl rfl ?_
      refine WL (ι := {i : Nat // i ≤ m.toNat ∧ (zz b (idR k) n4 i).2.2 = true}) [0, 2, 4, 166] [2, 59, 60, 180, 181, 150] (fun ⟨i, hi2⟩ => [(167, .dat (iD i))]) (fun ⟨i, hi2⟩ => [(4, ⟨32, [.agg [.dat (iD (l.getD 0 default)), .dat (iD (l.getD 1 default)), .dat (iD (l.getD 2 default)), .dat (iD (l.getD 3 default)), .dat (x9 (Qn r (r.length / 2))), .dat (iD 0), .dat (iD 0), .dat (iD 0), .dat (iD 0), .dat (iD 0), .dat (iD 0), .dat (iD 0), .dat (iD 0), .dat (iD 0), .dat (iD 0), .dat (iD 0), .dat (iD 0), .dat (iD 0), .dat (sD ⟨#[]⟩), .nils, .nils, .nils, .dat (sD ⟨#[]⟩), .dat (iD 0), .dat (iD 0), .dat (sD ⟨#[]⟩), .nils, .dat (iD (k.getD 0 default)), .dat (iD (k.getD 1 default)), .dat (iD (k.getD 2 default)), .osl 151 5 0 i, .dat (iD 0)]]⟩), (151, ⟨5, ((zz b (idR k) n4 i).1.map zae).map .dat⟩), (1000, ⟨2, [.dat (rdD b (zz b (idR k) n4 i).2.1)]⟩)]) (fun ⟨i, hi2⟩ => m.toNat - i) (⟨0, by omega, rfl⟩) ?_
      rintro ⟨i, hi2⟩
      refine LA ?_
      obtain ⟨hi, hi0⟩ := id hi2
      have hil := z1c i hi0
      have hia := z6o hib (d := idR k) hat4.1 i
      have htk : (zz b (idR k) n4 i).1.take i = (zz b (idR k) n4 i).1 := List.take_of_length_le (by omega)
      have hE := And.intro hE (And.intro hil htk)
      refine WS [0, 2, 4, 166, 167, 168] [2, 4, 59, 60, 180, 181, 1000, 150, 151] ?_
      apply z6
      refine WI ?_ ?_ <;> intro hb
      ·apply z9
       apply z7
       apply z6
       apply zc
       rcases ht : jg b (zz b (idR k) n4 i).2.1 1 with _ | ⟨mn, n5⟩
       ·have hv := (show qf b a = none by rw [hpl, if_pos]; exact Xx (i := i + 1) (by rw [zz, if_neg (by rw [hi0]; simp), ht]) _ (by omega))
        apply qo
        apply qz
        ·(iterate 1 apply Seg.cons); exact Seg.nil _
        ·refine RK ?_
         exact SC
        refine yw (fun i => i) (ku hP hG ((z5n G b (zz b (idR k) n4 i).2.1 1 hib (by omega) hia).pan ht)) rfl rfl rfl rfl (qv hN (by first | trivial | ((try simp only [yc, AObj.ren, AV.ren, renL, qy, List.map_cons, List.map_nil, x1, xm]) <;> ((repeat' apply And.intro) <;> first | trivial | rfl))) (by rfl)) (by exact ⟨hv, rfl⟩)
       have hr6 := ht
       have hat5 := zf5 hib hia ht
       apply zu [0, 2, 4, 14, 166, 167] [2, 4, 59, 60, 180, 181, 1000, 150, 151]
       ·refine RN ?_
        refine CX (fun i => i) [] ((z5n G b (zz b (idR k) n4 i).2.1 1 hib (by omega) hia).ok ht) ?_
        exact SC
       rcases ht : yj b n5 with _ | ⟨p, n6⟩
       ·have hv := (show qf b a = none by rw [hpl, if_pos]; exact Xx (i := i + 1) (by rw [zz, if_neg (by rw [hi0]; simp), hr6]; simp only [ht]) _ (by omega))
        refine zzz [(0, 172, _), (1, 173, _), (2, 174, _), (3, 175, _), (4, 176, _), (6, 178, _)] [] 5 [4] [7, 8, 9, 10, 11] ⟨.inr (.inr (DV 0 [] [1, 9, 10, 11])), .inr (.inr (DV 1 [0] [9, 10, 11])), .inr (.inr (DV 2 [] [3, 7, 8, 9, 10, 11])), .inr (.inr (DV 3 [2] [7, 8, 9, 10, 11])), .inr (.inr (DV 4 [] [5, 7, 8, 9, 10, 11])), .inl rfl, .inr (.inr (DV 5 [] [7, 8, 9, 10, 11])), .inr (.inl (by kernel_rfl)), .inr (.inl (by kernel_rfl)), .inr (.inl (by kernel_rfl)), .inr (.inl (by kernel_rfl)), .inr (.inl (by kernel_rfl)), trivial⟩ ?_
        rintro D hA1 hA2 a w ⟨hdf, β, S, hs⟩ K
        simp only [v9, NoD] at hA1 hA2
        refine z8x (m := fun i => i) hs rfl rfl (by simp (maxSteps := 2000000) (disch := omega) only [renL, AV.ren, List.map_cons, List.map_nil, avA, seval, hE, zrc, hA1, hA2] <;> rfl) (qv hN (by simp (maxSteps := 2000000) (disch := omega) only [yc, AObj.ren, AV.ren, renL, qy, List.map_cons, List.map_nil, avA, seval, hE, zrc, hA1, hA2] <;> ((repeat' apply And.intro) <;> first | trivial | rfl)) (by rfl)) (ku hP hG ((z3h G b n5 hib (by omega) hat5.1).pan ht)) (fun S' w' hs' => ⟨_, ⟨hv, rfl⟩, hdf, β, S', hs'⟩)
       have hr7 := ht
       have hat6 := zaw hib hat5.1 ht
       have hsu : zz b (idR k) n4 (i + 1) = ((zz b (idR k) n4 i).1 ++ [⟨idR k, p, mn == 1⟩], n6, true) := by rw [zz, if_neg (by rw [hi0]; simp), hr6]; simp only [ht]
       have hnx : i + 1 ≤ m.toNat ∧ (zz b (idR k) n4 (i + 1)).2.2 = true := ⟨by omega, by rw [hsu]⟩
       refine zzx [0, 2, 4, 166, 167] [2, 4, 59, 60, 180, 181, 1000, 150, 151] [(0, 172, _), (1, 173, _), (2, 174, _), (3, 175, _), (4, 176, _), (5, 177, _), (6, 178, _), (7, 179, _), (8, 180, _), (9, 181, _), (10, 182, _)] [(11, 4, some _), (9, 181, some _), (9, 151, none), (5, 1000, some _)] ⟨EV 0 [] [1, 9, 10, 11], EV 1 [0] [9, 10, 11], EV 2 [] [3, 7, 8, 9, 10, 11], EV 3 [2] [7, 8, 9, 10, 11], EV 4 [] [5, 7, 8, 9, 10, 11], EB 5 3 [4] [7, 8, 9, 10, 11] (h := by
         intro D hA1 hA2
         simp only [v9, NoD] at hA1 hA2
         simp (maxSteps := 2000000) (disch := omega) only [qq, avA, zl, zp, seval, ↓List.forall_mem_cons, Op.operands, hA, tiA, hE, Z3, hA1, hA2]
         (repeat' refine And.intro ?_ ?_) <;> try exact SD
         refine CallC.useX (fun i => i) [] (by simp [zbp, hR.2.1]) (zuf hP hG ((z3h G b n5 hib (by omega) hat5.1).ok hr7)) rfl (qv hN (by simp (maxSteps := 2000000) (disch := omega) only [yc, AObj.ren, AV.ren, renL, qy, List.map_cons, List.map_nil, avA, seval, hE, Z3, hA1, hA2] <;> ((repeat' apply And.intro) <;> first | trivial | rfl)) (by rfl)) ?_
         simp (maxSteps := 2000000) (disch := omega) only [qq, avA, zl, zp, seval, ↓List.forall_mem_cons, Op.operands, hA, tiA, hE, Z3, hA1, hA2, avX]
         exact SC), EV 6 [] [7, 8, 9, 10, 11], EV 7 [2, 3, 4, 5, 6] [8, 9, 10, 11], EV 8 [2, 3, 4, 5, 6, 7] [9, 10, 11], EA 9 1 2 [0, 1, 2, 3, 4, 5, 6, 7, 8] [10, 11] (hfix := by
         intro D hA1 hA2
         simp only [v9, NoD] at hA1 hA2
         exact zeb (z6k (by simp [AV.kill, killL]) (by simp [AV.kill, killL])) (by simp [AV.kill, killL, hA1, hA2]) (by simp [AV.kill, killL, hA1, hA2])) (h := by
         intro D hA1 hA2
         simp only [v9, NoD] at hA1 hA2
         simp (maxSteps := 2000000) (disch := omega) only [qq, avA, zl, zp, seval, ↓List.forall_mem_cons, Op.operands, hA, tiA, hE, Z3, hA1, hA2]
         exact SC), EV 10 [0, 1, 2, 3, 4, 5, 6, 7, 8, 9] [11], ES 0 [0, 1, 2, 3, 4, 5, 6, 7, 8, 9, 10] [], trivial⟩ ?_
       apply zg
       apply z7
       refine wv 181 151 (by omega) (by omega) ?_
       have hE := And.intro hE (And.intro hsu (show (idR k).By = k.getD 0 default ∧ (idR k).Seq = k.getD 1 default ∧ (idR k).K = k.getD 2 default from ⟨rfl, rfl, rfl⟩))
       refine WQ [0, 2, 4, 166, 167] [2, 4, 59, 60, 180, 181, 1000, 150, 151] ?_
       refine WN (⟨i + 1, hnx⟩)
      ·apply zn
       apply zh
       have hin : i = m.toNat := by omega
       subst hin
       have hv : qf b a = some ({ evHd l r with ID := idR k, Posts := (zz b (idR k) n4 m.toNat).1 }, (zz b (idR k) n4 m.toNat).2.1) := by rw [hpl, if_neg (by rw [hi0]; simp)]
       have hE := And.intro hE (show (idR k).By = k.getD 0 default ∧ (idR k).Seq = k.getD 1 default ∧ (idR k).K = k.getD 2 default from ⟨rfl, rfl, rfl⟩)
       apply ze
       apply zw
       apply zg
       apply z7
       first | refine z0w 151 hR.2.2.2 rfl (datE_map _) rfl ?_ | skip
       refine WS [2] [2, 59, 60, 180, 181, 1000, 150, 151] ?_
       apply za
       refine zhh hv ?_
       simp only [kz, ym, vv, qt, qi, qr, vn, qg, qa, xu, qx, vg, xk, xx, xt, vf, xw, xh, xy, xd, avA, zl, zp, seval, ↓List.forall_mem_cons, Op.operands, hP, hG, tiA, hE, evHd.eq_1]
       all_goals try trivial
       all_goals try simp only [rdD, hcast]
       all_goals first | done | exact ⟨_, rfl, rfl⟩ | exact ⟨⟨_, rfl, rfl⟩, trivial⟩ | exact ⟨⟨_, rfl, rfl⟩, rfl⟩
    ·have hid : ¬ (ofM (l.getD 3 default)).id = true := by intro h; rw [h] at hb; cases hb
     have hv : qf b a = some (evHd l r, n2) := by rw [hhd]; exact (if_neg ho).trans ((if_neg hterm).trans (if_neg hid))
     apply z9
     apply zg
     apply z7
     first | refine z0w 151 hR.2.2.2 rfl (datE_map _) rfl ?_ | skip
     refine WS [2] [2, 59, 60, 180, 181, 1000, 150, 151] ?_
     apply za
     refine zhh hv ?_
     simp only [kz, ym, vv, qt, qi, qr, vn, qg, qa, xu, qx, vg, xk, xx, xt, vf, xw, xh, xy, xd, avA, zl, zp, seval, ↓List.forall_mem_cons, Op.operands, hP, hG, tiA, hE, evHd.eq_1]
     all_goals try trivial
     all_goals try simp only [rdD, hcast]
     all_goals first | done | exact ⟨_, rfl, rfl⟩ | exact ⟨⟨_, rfl, rfl⟩, trivial⟩ | exact ⟨⟨_, rfl, rfl⟩, rfl⟩
abbrev z1s : AV := .agg [.dat (.int .i64 0), .dat (.int .i64 0), .dat (.int .i64 0), .dat (.int .i64 0), .nils, .dat (.int .i64 0), .dat (.int .i64 0), .dat (.int .i64 0), .dat (.int .i64 0), .dat (.int .i64 0), .dat (.int .i64 0), .dat (.int .i64 0), .dat (.int .i64 0), .dat (.int .i64 0), .dat (.int .i64 0), .dat (.int .i64 0), .dat (.int .i64 0), .dat (.int .i64 0), .dat (.str ⟨#[]⟩), .nils, .nils, .nils, .dat (.str ⟨#[]⟩), .dat (.int .i64 0), .dat (.int .i64 0), .dat (.str ⟨#[]⟩), .nils, .dat (.int .i64 0), .dat (.int .i64 0), .dat (.int .i64 0), .nils, .dat (.int .i64 0)]
abbrev X3 (x : AV) (n k : Int) : List (Nat × AObj) := [(1000, ⟨32, [x]⟩), (1001, ⟨1, [.dat (iD n)]⟩), (1002, ⟨1, [.dat (iD k)]⟩)]
abbrev zmw : List AV := [.ptr 1000 32 0 0, .ptr 1001 1 0 0, .ptr 1002 1 0 0]
set_option maxRecDepth 100000 in
theorem zqk (G) : z4p Tryz.prog G 53 zmw (X3 z1s 0 0) (.panicking (Xe z7d)) (X3 z1s 0 2) := by
 skip
 skip
 skip
 refine z9h (d0 := 6) (d1 := 3) Tryz.func53 rfl (by rfl) (by simp [Tryz.ntmps53]) (by rw [Tryz.ntmps53]; omega) (by rw [Tryz.ntmps53]; omega) (by rfl) Tryz.results53 (by kernel_rfl) (by simp only [je, wr, w9, wo, wx, yq, AV.only, Bool.and_true] <;> simp [v6]) fun F hP hG hN hR => ?_
 rw [Tryz.ntmps53] at hN
 have hA := And.intro hN (And.intro hP (And.intro hG (And.intro hR.1 (And.intro hR.2.1 hR.2.2.1))))
 have hE := @Tryz.results53
 skip
 apply qo
 apply qz
 ·(iterate 1 apply Seg.cons); exact Seg.nil _
 ·refine RK ?_
  exact SC
 refine ws rfl (zet true rfl rfl (by rw [hN]; omega) (by rw [hP]; exact ti20) rfl rfl (.inr ⟨_, _, rfl, rfl⟩)) ?_
 rw [ww]
 apply vi [0, 1, 2, 3, 8] [1000, 1001, 1002]
 ·refine RN ?_
  exact SC
 refine jd (by first | exact rfl | (simp only [xi, wt, qn, qw]; simp [*])) ?_
 apply qo
 apply qz
 ·(iterate 1 apply Seg.cons); exact Seg.nil _
 ·refine RK ?_
  exact SC
 refine ws rfl (zc6 (dv := iD 2) rfl rfl (by rw [hN]; omega) (by rw [hP]; exact ti42) (by intro h; cases h) rfl (fun _ _ => by simp [RepX])) ?_
 rw [ww]
 apply vi [0, 1, 2, 3, 4, 5] [1000, 1001, 1002]
 ·refine RN ?_
  exact SC
 apply z6
 refine WS [0, 1, 2, 3, 4, 15] [1000, 1001, 1002] ?_
 refine X0 (by first | exact rfl | (simp only [xi, wt, qn, qw]; simp [*])) ?_
 apply z9
 apply z7
 refine WQ [] [1000, 1001, 1002] ?_
 simp only [kz, ym, vv, qt, qi, qr, vn, qg, qa, xu, qx, vg, xk, xx, xt, vf, xw, xh, xy, xd, avA, zl, zp, seval, ↓List.forall_mem_cons, Op.operands, hP, hG, tiA, hE, z77]
 all_goals try trivial
set_option maxRecDepth 100000 in
theorem zqj (G) (e : EventM) : z4p Tryz.prog G 53 zmw (X3 (.dat (zr e)) 0 0) (.panicking (Xe z7d)) (X3 z1s 0 2) := by
 skip
 skip
 skip
 refine z9h (d0 := 6) (d1 := 3) Tryz.func53 rfl (by rfl) (by simp [Tryz.ntmps53]) (by rw [Tryz.ntmps53]; omega) (by rw [Tryz.ntmps53]; omega) (by rfl) Tryz.results53 (by kernel_rfl) (by simp only [je, wr, w9, wo, wx, yq, AV.only, Bool.and_true] <;> simp [v6]) fun F hP hG hN hR => ?_
 rw [Tryz.ntmps53] at hN
 have hA := And.intro hN (And.intro hP (And.intro hG (And.intro hR.1 (And.intro hR.2.1 hR.2.2.1))))
 have hE := @Tryz.results53
 skip
 apply qo
 apply qz
 ·(iterate 1 apply Seg.cons); exact Seg.nil _
 ·refine RK ?_
  exact SC
 refine ws rfl (zet true rfl rfl (by rw [hN]; omega) (by rw [hP]; exact ti20) rfl rfl (.inr ⟨_, _, rfl, rfl⟩)) ?_
 rw [ww]
 apply vi [0, 1, 2, 3, 8] [1000, 1001, 1002]
 ·refine RN ?_
  exact SC
 refine jd (by first | exact rfl | (simp only [xi, wt, qn, qw]; simp [*])) ?_
 apply qo
 apply qz
 ·(iterate 1 apply Seg.cons); exact Seg.nil _
 ·refine RK ?_
  exact SC
 refine ws rfl (zc6 (dv := iD 2) rfl rfl (by rw [hN]; omega) (by rw [hP]; exact ti42) (by intro h; cases h) rfl (fun _ _ => by simp [RepX])) ?_
 rw [ww]
 apply vi [0, 1, 2, 3, 4, 5] [1000, 1001, 1002]
 ·refine RN ?_
  exact SC
 apply z6
 refine WS [0, 1, 2, 3, 4, 15] [1000, 1001, 1002] ?_
 refine X0 (by first | exact rfl | (simp only [xi, wt, qn, qw]; simp [*])) ?_
 apply z9
 apply z7
 refine WQ [] [1000, 1001, 1002] ?_
 simp only [kz, ym, vv, qt, qi, qr, vn, qg, qa, xu, qx, vg, xk, xx, xt, vf, xw, xh, xy, xd, avA, zl, zp, seval, ↓List.forall_mem_cons, Op.operands, hP, hG, tiA, hE, z77]
 all_goals try trivial
set_option maxRecDepth 100000 in
theorem zxl (G) (e : EventM) (n k : Int) : z4p Tryz.prog G 53 zmw (X3 (.dat (zr e)) n k) .returning (X3 (.dat (zr e)) n k) := by
 skip
 skip
 skip
 refine z9h (d0 := 6) (d1 := 3) Tryz.func53 rfl (by rfl) (by simp [Tryz.ntmps53]) (by rw [Tryz.ntmps53]; omega) (by rw [Tryz.ntmps53]; omega) (by rfl) Tryz.results53 (by kernel_rfl) (by simp only [je, wr, w9, wo, wx, yq, AV.only, Bool.and_true] <;> simp [v6]) fun F hP hG hN hR => ?_
 rw [Tryz.ntmps53] at hN
 have hA := And.intro hN (And.intro hP (And.intro hG (And.intro hR.1 (And.intro hR.2.1 hR.2.2.1))))
 have hE := @Tryz.results53
 skip
 apply qo
 apply qz
 ·(iterate 1 apply Seg.cons); exact Seg.nil _
 ·refine RK ?_
  exact SC
 refine ws rfl (zet false rfl rfl (by rw [hN]; omega) (by rw [hP]; exact ti20) rfl rfl (.inl ⟨rfl, rfl⟩)) ?_
 rw [ww]
 apply vi [0, 1, 2, 3, 8] [1000, 1001, 1002]
 ·refine RN ?_
  exact SC
 refine X0 (by first | exact rfl | (simp only [xi, wt, qn, qw]; simp [*])) ?_
 apply z9
 simp only [kz, ym, vv, qt, qi, qr, vn, qg, qa, xu, qx, vg, xk, xx, xt, vf, xw, xh, xy, xd, avA, zl, zp, seval, ↓List.forall_mem_cons, Op.operands, hP, hG, tiA, hE, z77]
 all_goals try trivial
def Qk (b : List Int) : EventM × Nat × Int :=
 match qf b 0 with
 | none => (z1n, 0, 2)
 | some (x, n) => if vu x = 0 then (x, n, 0) else (z1n, 0, 2)
theorem z91 {F : FC} (hN : F.N = 21) {st : ASt} {x : AV} {n k : Int} (h : qr st.objs (X3 x n k)) : ∀ c ∈ zmw, ∃ i es o, c = .ptr i es 0 0 ∧ F.N ≤ i ∧ st.objs i = some o ∧ o.elems ≠ [] ∧ (∀ ks vs, o ≠ wg ks vs) := by
 obtain ⟨h1, h2, h3, _⟩ := h
 intro c hc
 simp only [zmw, List.mem_cons, List.not_mem_nil, or_false] at hc
 rcases hc with rfl | rfl | rfl
 ·exact ⟨1000, 32, _, rfl, by omega, h1, by simp, fun ks vs h => by cases h⟩
 ·exact ⟨1001, 1, _, rfl, by omega, h2, by simp, fun ks vs h => by cases h⟩
 ·exact ⟨1002, 1, _, rfl, by omega, h3, by simp, fun ks vs h => by cases h⟩
set_option maxRecDepth 100000 in
set_option maxHeartbeats 2000000 in
theorem zmx (G) (b : List Int) (hib : isB b) (hl : b.length ≤ 1000000) (hok : ∀ x n, qf b 0 = some (x, n) → OkEv x) : zo Tryz.prog G 21 [wm b] [zr (Qk b).1, iD (Qk b).2.1, iD (Qk b).2.2] := by
 skip
 skip
 skip
 refine zei (e0 := [(2, .ptr 2 32 0 0), (3, .ptr 3 1 0 0), (4, .ptr 4 1 0 0), (0, .dat (wm b))]) (o0 := [(2, ⟨32, [z1s]⟩), (3, ⟨1, [.dat (iD 0)]⟩), (4, ⟨1, [.dat (iD 0)]⟩)]) (e2 := [(2, .ptr 1000 32 0 0), (3, .ptr 1001 1 0 0), (4, .ptr 1002 1 0 0), (0, .dat (wm b))]) (os2 := X3 z1s 0 0) [] [11] [] Tryz.func21 rfl (by rfl) (by simp [Tryz.ntmps21]) (by rw [Tryz.ntmps21]; omega) (fun i => i - 998) zmw ?_ (by rfl) ?_ ?_ ?_
 ·intro F hP hG hN hR
  rw [Tryz.ntmps21] at hN
  have hA := And.intro hN (And.intro hP (And.intro hG (And.intro hR.1 (And.intro hR.2.1 hR.2.2.1))))
  have hE := @Tryz.results21
  refine WQ [2, 3, 4, 0] [2, 3, 4] ?_
  exact ⟨rfl, rfl⟩
 ·refine ⟨fun p hp => ?_, fun p hp q hq h => ?_, rfl⟩
  ·simp only [X3, List.mem_cons, List.not_mem_nil, or_false] at hp
   rcases hp with rfl | rfl | rfl <;> rfl
  ·simp only [X3, List.mem_cons, List.not_mem_nil, or_false] at hp hq
   rcases hp with rfl | rfl | rfl <;> rcases hq with rfl | rfl | rfl <;> first | rfl | (exact absurd h (by decide))
 ·intro p hp
  simp only [List.mem_cons, List.not_mem_nil, or_false] at hp
  rcases hp with rfl | rfl | rfl | rfl <;> exact ⟨by simp, rfl⟩
 intro F hP hG hN hR
 rw [Tryz.ntmps21] at hN
 have hA := And.intro hN (And.intro hP (And.intro hG (And.intro hR.1 (And.intro hR.2.1 hR.2.2.1))))
 have hE := @Tryz.results21
 skip
 skip
 refine WS [2, 3, 4, 5] [2, 3, 4, 9, 1000, 1001, 1002] ?_
 rcases ht : qf b 0 with _ | ⟨x, n⟩
 ·have hv := (show Qk b = (z1n, 0, 2) by unfold Qk; rw [ht])
  apply qo
  apply qz
  ·(iterate 1 apply Seg.cons); exact Seg.nil _
  ·refine RK ?_
   exact SC
  refine yw (fun _ => 9) (ku hP hG ((zcm G b 0 hib hl (Nat.zero_le _)).pan ht)) rfl rfl rfl rfl (qv hN (by first | trivial | ((try simp only [yc, AObj.ren, AV.ren, renL, qy, List.map_cons, List.map_nil, x1, xm]) <;> ((repeat' apply And.intro) <;> first | trivial | rfl))) (by rfl)) ?_
  show zc3 _ _ _ _ _ _ _
  first
   | refine ⟨X3 z1s 0 0, X3 z1s 0 2, qv hN (by repeat' first | exact rfl | exact trivial | apply And.intro) (by rfl), z91 hN (x := z1s) (n := 0) (k := 0) ⟨rfl, rfl, rfl, trivial⟩, by rw [hP, hG]; exact zqk G, rfl, ?_, ?_⟩
   | refine ⟨X3 (.dat (zr x)) 0 0, X3 z1s 0 2, qv hN (by repeat' first | exact rfl | exact trivial | apply And.intro) (by rfl), z91 hN (x := .dat (zr x)) (n := 0) (k := 0) ⟨rfl, rfl, rfl, trivial⟩, by rw [hP, hG]; exact zqj G x, rfl, ?_, ?_⟩
  all_goals (try rw [hv])
  all_goals simp (maxSteps := 2000000) (disch := omega) only [vn, qg, qa, xu, qx, vg, xk, xx, xt, vf, xw, xh, xy, xd, avA, zl, zp, seval, ↓List.forall_mem_cons, Op.operands, hP, hG, tiA, hE, avX, X3, z1s]
  all_goals first | done | rfl | trivial | (repeat' apply And.intro) <;> first | rfl | trivial
 have hr1 := ht
 have hx := hok x n ht
 apply zu [2, 3, 4, 5] [2, 3, 4, 9, 1000, 1001, 1002]
 ·refine RN ?_
  refine CX (fun _ => 9) [] ((zcm G b 0 hib hl (Nat.zero_le _)).ok ht) ?_
  exact SC
 by_cases ht : ¬ (vu x = 0)
 ·have hv := (show Qk b = (z1n, 0, 2) by unfold Qk; rw [hr1]; exact if_neg ht)
  apply qo
  apply qz
  ·(iterate 3 apply Seg.cons); exact Seg.nil _
  ·refine RK ?_
   refine CU (zbh G x hx) ?_
   exact SC
  refine yw (fun i => i) (ku hP hG (k9 G ?_)) rfl rfl rfl rfl (qv hN (by first | trivial | ((try simp only [yc, AObj.ren, AV.ren, renL, qy, List.map_cons, List.map_nil, x1, xm]) <;> ((repeat' apply And.intro) <;> first | trivial | rfl))) (by rfl)) ?_
  ·first | (simpa using ht) | grind
  show zc3 _ _ _ _ _ _ _
  first
   | refine ⟨X3 z1s 0 0, X3 z1s 0 2, qv hN (by repeat' first | exact rfl | exact trivial | apply And.intro) (by rfl), z91 hN (x := z1s) (n := 0) (k := 0) ⟨rfl, rfl, rfl, trivial⟩, by rw [hP, hG]; exact zqk G, rfl, ?_, ?_⟩
   | refine ⟨X3 (.dat (zr x)) 0 0, X3 z1s 0 2, qv hN (by repeat' first | exact rfl | exact trivial | apply And.intro) (by rfl), z91 hN (x := .dat (zr x)) (n := 0) (k := 0) ⟨rfl, rfl, rfl, trivial⟩, by rw [hP, hG]; exact zqj G x, rfl, ?_, ?_⟩
  all_goals (try rw [hv])
  all_goals simp (maxSteps := 2000000) (disch := omega) only [vn, qg, qa, xu, qx, vg, xk, xx, xt, vf, xw, xh, xy, xd, avA, zl, zp, seval, ↓List.forall_mem_cons, Op.operands, hP, hG, tiA, hE, avX, X3, z1s]
  all_goals first | done | rfl | trivial | (repeat' apply And.intro) <;> first | rfl | trivial
 replace ht := Classical.not_not.1 ht
 have hv : Qk b = (x, n, 0) := by unfold Qk; rw [hr1]; exact if_pos ht
 have hE := And.intro hE ht
 apply zu [2, 3, 4, 5] [2, 3, 4, 9, 1000, 1001, 1002]
 ·refine RN ?_
  refine CU (zbh G x hx) ?_
  refine CU (Q7 G) ?_
  exact SC
 refine WDJ [2, 3, 4] [2, 3, 4, 1000, 1001, 1002] [(0, 16, _), (1, 17, _), (2, 18, _), (3, 19, _), (4, 20, _)] [(7, 1002, _), (6, 1001, _), (5, 1000, _)] ⟨DV 0 [] [5, 6, 7], DV 1 [] [2, 3, 4, 6, 7], DV 2 [1] [3, 4, 6, 7], DV 3 [1, 2] [4, 6, 7], DV 4 [1, 2, 3] [6, 7], DS 2 [0] [6, 7], DS 1 [0, 1, 2, 3, 4, 5] [7], DS 0 [0, 1, 2, 3, 4, 5, 6] [], trivial⟩ ?_
 apply za
 show zc3 _ _ _ _ _ _ _
 refine ⟨X3 (.dat (zr x)) n 0, X3 (.dat (zr x)) n 0, qv hN (by repeat' first | exact rfl | exact trivial | apply And.intro) (by rfl), z91 hN (x := .dat (zr x)) (n := n) (k := 0) ⟨rfl, rfl, rfl, trivial⟩, by rw [hP, hG]; exact zxl G x n 0, rfl, ?_, ?_⟩
 all_goals (try rw [hv])
 all_goals simp (maxSteps := 2000000) (disch := omega) only [vn, qg, qa, xu, qx, vg, xk, xx, xt, vf, xw, xh, xy, xd, avA, zl, zp, seval, ↓List.forall_mem_cons, Op.operands, hP, hG, tiA, hE, avX, X3, z1s]
 all_goals first | done | rfl | trivial | (repeat' apply And.intro) <;> first | rfl | trivial
set_option maxRecDepth 100000 in
set_option maxHeartbeats 2000000 in
theorem zf4 (G) (e : EventM) (h : OkEv e) : zo Tryz.prog G 74 [zr e] [bD (!z1t e && !z3m e)] := by
 have hoz := zfd h.op
 have hnb := h.nbroader
 have hnp := h.nposts
 have o1 := zrz e.Kind
 have o2 := zev e.Kind
 have o3 := zwo e.Kind
 have o4 := z5d e.Kind
 have o5 := zv6 e.Kind
 skip
 skip
 refine GI [] [] [] Tryz.func74 Tryz.ntmps74 fun F hP hG hN hR hA => ?_
 have hE := And.intro @Tryz.results74 (And.intro @zj3 (@z1k))
 refine WS [1] [1] ?_
 refine WS [1, 3] [1] ?_
 apply z6
 apply zu [1, 3, 43] [1]
 ·refine RN ?_
  refine CG (zsu G e.Op zOp hoz) ?_
  refine CG (zhw G e.Term zbn (by omega)) ?_
  exact SC
 refine WI ?_ ?_ <;> intro hb
 ·have hv : (!z1t e && !z3m e) = false := by unfold z1t; grind
  have hE := And.intro hE hv
  refine WS [2] [] ?_
  apply za
  apply zb
  refine EN ?_
  all_goals try trivial
  all_goals grind
 ·have h2 : z1t e = false := by unfold z1t; grind
  apply z9
  apply z7
  apply z6
  refine WS [1, 67] [1] ?_
  refine WI ?_ ?_ <;> intro hb
  ·have hv : (!z1t e && !z3m e) = false := by unfold z3m xg; grind
   have hE := And.intro hE hv
   refine WS [2] [] ?_
   apply za
   apply zb
   refine EN ?_
   all_goals try trivial
   all_goals grind
  ·have hv : (!z1t e && !z3m e) = ((ofM e.Kind).n || e.N == 0) := by unfold z3m xg; grind
   have hE := And.intro hE (And.intro hv o5)
   apply z9
   apply z7
   refine WS [2] [] ?_
   apply za
   refine EN ?_
   all_goals try trivial
   all_goals grind
set_option maxRecDepth 100000 in
set_option maxHeartbeats 2000000 in
theorem zox (G) (e : EventM) (h : OkEv e) : zo Tryz.prog G 31 [zr e] [iD (vu e)] := by
 have hnr := h.nrefs
 have hnp := h.nposts
 have hnb := h.nbroader
 have hol := h.op.all
 have o1 := zrz e.Kind
 have o2 := zev e.Kind
 skip
 skip
 refine GI [] [] [] Tryz.func31 Tryz.ntmps31 fun F hP hG hN hR hA => ?_
 have hE := And.intro @Tryz.results31 (And.intro @z9b (And.intro @zj3 (@z1k)))
 refine WS [1] [1] ?_
 apply z6
 apply zu [1, 35] [1]
 ·refine RN ?_
  refine CG (zau G e.Op h.op) ?_
  exact SC
 refine WI ?_ ?_ <;> intro hb
 ·have hv := zdu (e := e) (by unfold z6g; grind)
  have hE := And.intro hE hv
  refine WS [2] [] ?_
  apply za
  apply zb
  exact E0
 ·have h0 : z6g e = false := by unfold z6g; grind
  apply z9
  apply z7
  apply z6
  apply zu [1, 74] [1]
  ·refine RN ?_
   refine CU (zat G e) ?_
   refine CU (z5o G (evName e)) ?_
   refine CG (zf4 G e h) ?_
   exact SC
  refine WI ?_ ?_ <;> intro hb
  ·have hv := z3k h0 (by unfold z86 we; grind)
   have hE := And.intro hE hv
   refine WS [2] [] ?_
   apply za
   apply zb
   exact E0
  ·have h1 : z86 e = false := by unfold z86 we; grind
   have h3 : we e.N 1048576 = true := by unfold we; grind
   have h2 : z1t e = false ∧ z3m e = false := by grind
   have h123 := And.intro h1 (And.intro h2.1 (And.intro h2.2 h3))
   apply z9
   apply z7
   apply z6
   refine WS [1, 3] [1] ?_
   apply zc
   refine WL (ι := {i : Nat // i ≤ e.Refs.length ∧ ∀ j, j < i → Qi e j = false}) [1] [1] (fun ⟨i, hic⟩ => [(3, .dat (iD i))]) (fun ⟨i, hic⟩ => []) (fun ⟨i, hic⟩ => e.Refs.length - i) (⟨0, by omega, z58⟩) ?_
   rintro ⟨i, hic⟩
   refine LA ?_
   obtain ⟨hi, hall⟩ := id hic
   have hi1 : (if (i : Int) - 1 < 0 then 0 else (i : Int) - 1).toNat = i - 1 := by split <;> omega
   have hE := And.intro hE hi1
   apply z6
   refine WS [1, 3, 79] [1] ?_
   refine WI ?_ ?_ <;> intro hb
   ·apply z9
    apply z7
    apply z6
    apply zc
    apply wn [1, 3, 118] [1] [0, 1, 2, 3, 4, 5, 6, 7, 8, 9, 10, 11, 12, 13, 14, 15, 16, 17, 18, 19, 20, 21, 22, 23, 24, 25, 26, 27, 28, 29, 30, 31, 32, 33, 34, 35, 36] []
    ·rw [hP]; kernel_rfl
    ·exact hR
    ·kernel_rfl
    ·(repeat (apply PickL.cons; exact rfl)); exact PickL.nil _
    ·refine RN ?_
     refine CU (z5o G (e.Refs.getD i default)) ?_
     refine CG (zat G e) ?_
     refine CG (zsh G (e.Refs.getD (i - 1) default) (e.Refs.getD i default)) ?_
     exact SC
    refine WI ?_ ?_ <;> intro hb
    ·have hv := zdv h0 h123 (i := i) (by omega) (by unfold Qi wh; grind)
     have hE := And.intro hE hv
     refine WS [2] [] ?_
     apply za
     apply zf
     apply zb
     apply qb
     apply zf
     apply zb
     exact E0
    ·have hnb1 : Qi e i = false := by unfold Qi wh; grind
     apply z9
     apply zg
     apply z7
     refine WQ [1, 3] [1] ?_
     refine WN (⟨i + 1, by omega, vx hic.2 hnb1⟩)
   ·apply zn
    apply zh
    obtain rfl : i = e.Refs.length := by omega
    apply ze
    apply zw
    apply z7
    refine WS [1, 4] [1, 4] ?_
    apply z6
    apply zu [1, 166] [1]
    ·refine RN ?_
     refine CG (zb0 G e.Term.Name (by have := h.name; omega)) ?_
     refine CG (zb0 G e.Term.See (by have := h.see; omega)) ?_
     refine CG (zdk G e.Term.Broader (by omega) (fun s hs => by have := h.broader s hs; omega)) ?_
     exact SC
    refine WI ?_ ?_ <;> intro hb
    ·have hv := zmb h0 h123 hall (by unfold zbr we; grind)
     have hE := And.intro hE hv
     refine WS [2] [] ?_
     apply za
     apply zb
     exact E0
    ·have h5 : zbr e = false := by unfold zbr we; grind
     apply z9
     apply z7
     apply z6
     refine WS [1, 5] [1] ?_
     apply zc
     refine WL (ι := {i : Nat // i ≤ e.Posts.length ∧ ∀ j, j < i → Q1 e j = false}) [1] [1] (fun ⟨i, hic⟩ => [(5, .dat (iD i))]) (fun ⟨i, hic⟩ => []) (fun ⟨i, hic⟩ => e.Posts.length - i) (⟨0, by omega, z58⟩) ?_
     rintro ⟨i, hic⟩
     refine LA ?_
     obtain ⟨hi, hallp⟩ := id hic
     apply z6
     refine WS [1, 5, 171] [1] ?_
     refine WI ?_ ?_ <;> intro hb
     ·have hp := x4 h.posts (i := i) (by omega)
      apply z9
      apply z7
      apply z6
      apply zc
      refine WS [1, 5, 6] [1, 6] ?_
      apply zu [1, 5, 201] [1]
      ·refine RN ?_
       refine CG (zdk G (e.Posts.getD i default).Path (by omega) (fun s hs => by have := hp.2.2 s hs; omega)) ?_
       exact SC
      refine WI ?_ ?_ <;> intro hb
      ·have hv := zbi h0 h123 hall h5 (i := i) (by omega) (by unfold Q1 xg; grind)
       have hE := And.intro hE hv
       refine WS [2] [] ?_
       apply za
       apply zf
       apply zb
       apply qb
       apply zf
       apply zb
       exact E0
      ·have hnb1 : Q1 e i = false := by unfold Q1 xg; grind
       apply z9
       apply zg
       apply z7
       refine WQ [1, 5] [1] ?_
       refine WN (⟨i + 1, by omega, vx hic.2 hnb1⟩)
     ·apply zn
      apply zh
      obtain rfl : i = e.Posts.length := by omega
      have hv := zdt h0 h123 hall h5 hallp
      have hE := And.intro hE hv
      apply ze
      apply zw
      apply z7
      refine WS [2] [] ?_
      apply za
      exact E0
theorem zjd {b : List Int} (hib : isB b) (h : 0 ≤ (z0e b).2) : ∃ x n, yf b 0 = some (x, n) ∧ z0e b = (x, (n : Int)) ∧ n ≤ b.length := by
 unfold z0e at h ⊢
 cases hh : yf b 0 with
 | none => simp [hh] at h
 | some q =>
  obtain ⟨x, n⟩ := q
  refine ⟨x, n, rfl, rfl, ?_⟩
  unfold yf at hh
  cases h1 : v8 b 0 with
  | none => simp [h1] at hh
  | some q =>
   obtain ⟨l, n1⟩ := q
   have hn1 := (Z8 hib (Nat.zero_le _) h1).1
   simp only [h1] at hh
   split at hh
   ·cases hh
   cases h2 : v8 b n1 with
   | none => simp [h2] at hh
   | some q =>
    obtain ⟨r, n2⟩ := q
    have hn2 := (Z8 hib hn1 h2).1
    simp only [h2] at hh
    split at hh
    ·cases hh
    ·cases hh; exact hn2
theorem zjc {b : List Int} (h : (z0e b).2 < 0) : qf b 0 = none := by
 unfold z0e at h
 unfold qf
 cases hh : yf b 0 with
 | none => rfl
 | some q => obtain ⟨x, n⟩ := q; simp only [hh] at h; omega
theorem zj5 (b : List Int) (x : EventM) (n : Nat) : yl b x n = (yl b z1n n).map fun p => ({ x with Term := p.1.Term }, p.2) := by
 unfold yl
 cases v8 b n with
 | none => rfl
 | some q =>
  obtain ⟨k, n1⟩ := q
  simp only
  split
  ·rfl
  cases yj b n1 with
  | none => rfl
  | some q =>
   obtain ⟨s, n2⟩ := q
   simp only
   split <;> rfl
def j9 (b : List Int) (x : EventM) (n : Nat) : EventM × Int :=
 if x.Kind = 0 then ({ x with Op := (zy (b.drop n)).1 }, ((n + (zy (b.drop n)).2.1 : Nat) : Int))
 else if x.Kind = 2 then ({ x with Term := (z0t b n).1 }, (z0t b n).2)
 else if x.Kind = 5 ∨ x.Kind = 6 then ({ x with ID := idR (zd (b.drop n)).1, N := (zd (b.drop n)).1.getD 3 default }, ((n + (zd (b.drop n)).2.1 : Nat) : Int))
 else if x.Kind = 3 ∨ x.Kind = 4 then ({ x with ID := idR (zd (b.drop n)).1, Posts := (Q9 b (n + (zd (b.drop n)).2.1) (idR (zd (b.drop n)).1)).1 }, (Q9 b (n + (zd (b.drop n)).2.1) (idR (zd (b.drop n)).1)).2)
 else (x, (n : Int))
theorem Xy {b : List Int} {x : EventM} {n : Nat} (ho : x.Kind = 0 → (zy (b.drop n)).2.2 = 0) (hi : 3 ≤ x.Kind ∧ x.Kind ≤ 6 → (zd (b.drop n)).2.2 = 0 ∧ (zd (b.drop n)).1.length = if x.Kind = 5 ∨ x.Kind = 6 then 4 else 3) : Qw b x n = if (j9 b x n).2 < 0 then none else some ((j9 b x n).1, (j9 b x n).2.toNat) := by
 unfold Qw j9
 by_cases h0 : x.Kind = 0
 ·have : (ofM x.Kind).op = true := by rw [h0]; rfl
  rw [if_pos this, if_pos h0, if_neg (by rw [ho h0]; simp), if_neg (by simp only; omega)]
  rfl
 by_cases h2 : x.Kind = 2
 ·have e : ofM x.Kind = { term := true } := by rw [h2]; rfl
  rw [e, if_neg (by simp), if_pos rfl, if_neg h0, if_pos h2, zj5]
  unfold z0t
  cases yl b z1n n with
  | none => rfl
  | some q => obtain ⟨y, m⟩ := q; simp only [Option.map_some]; rw [if_neg (by omega)]; rfl
 by_cases h3 : x.Kind = 5 ∨ x.Kind = 6
 ·have e : ofM x.Kind = { id := true, n := true } := by rcases h3 with h | h <;> rw [h] <;> rfl
  obtain ⟨q1, q2⟩ := hi (by omega)
  rw [if_pos h3] at q2
  rw [e, if_neg (by simp), if_neg (by simp), if_pos rfl, if_neg h0, if_neg h2, if_pos h3, if_neg (by simp only; omega)]
  unfold z1o
  rw [Qb q1]
  simp only [e, q2]
  simp
  omega
 by_cases h4 : x.Kind = 3 ∨ x.Kind = 4
 ·have e : ofM x.Kind = { id := true, posts := true } := by rcases h4 with h | h <;> rw [h] <;> rfl
  obtain ⟨q1, q2⟩ := hi (by omega)
  rw [if_neg h3] at q2
  rw [e, if_neg (by simp), if_neg (by simp), if_pos rfl, if_neg h0, if_neg h2, if_neg h3, if_pos h4]
  unfold z1o Q9
  rw [Qb q1]
  simp only [e, q2]
  cases jg b (n + (zd (b.drop n)).2.1) 16 with
  | none => rfl
  | some q =>
   obtain ⟨m, n2⟩ := q
   simp only
   by_cases hp : (zz b (idR (zd (b.drop n)).1) n2 m.toNat).2.2 = false
   ·rw [if_pos hp]; simp [hp]
   ·rw [if_neg hp, if_neg hp]
    simp
 ·have e : ofM x.Kind = {} := by unfold ofM; rw [if_neg h0, if_neg h2, if_neg h4, if_neg h3]
  rw [e, if_neg (by simp), if_neg (by simp), if_neg (by simp), if_neg h0, if_neg h2, if_neg h3, if_neg h4, if_neg (by simp only; omega)]
  rfl
theorem z1x {b : List Int} (h : qf b 0 = none) : Qk b = (z1n, 0, 2) := by unfold Qk; rw [h]
theorem zgb {b : List Int} {x : EventM} {n : Nat} (h : qf b 0 = some (x, n)) : Qk b = if vu x = 0 then (x, n, 0) else (z1n, 0, 2) := by unfold Qk; rw [h]
theorem zi6 {b : List Int} {x : EventM} {n : Nat} (hk : 3 ≤ x.Kind ∧ x.Kind ≤ 6) (h : (zd (b.drop n)).2.2 ≠ 0 ∨ (zd (b.drop n)).1.length ≠ if x.Kind = 5 ∨ x.Kind = 6 then 4 else 3) : Qw b x n = none := by
 have e : (ofM x.Kind).op = false ∧ (ofM x.Kind).term = false ∧ (ofM x.Kind).id = true ∧ ((ofM x.Kind).n = true ↔ (x.Kind = 5 ∨ x.Kind = 6)) ∧ ((ofM x.Kind).posts = true ↔ ¬(x.Kind = 5 ∨ x.Kind = 6)) := by
  rcases (by omega : x.Kind = 3 ∨ x.Kind = 4 ∨ x.Kind = 5 ∨ x.Kind = 6) with h | h | h | h <;> rw [h] <;> decide
 obtain ⟨e1, e2, e3, e4, e5⟩ := e
 unfold Qw
 rw [if_neg (by rw [e1]; simp), if_neg (by rw [e2]; simp), if_pos e3]
 unfold z1o
 by_cases h0 : (zd (b.drop n)).2.2 = 0
 ·rw [Qb h0]
  simp only
  have h1 := h.resolve_left (fun h => h h0)
  rw [if_pos]
  rw [e4, e5]
  by_cases h5 : x.Kind = 5 ∨ x.Kind = 6
  ·rw [if_pos h5] at h1; simp only [h5, not_true_eq_false, false_and, true_and, false_or]; exact h1
  ·rw [if_neg h5] at h1; simp only [h5, not_false_eq_true, false_and, true_and, or_false]; exact h1
 ·rw [z3f h0]
theorem zpt {F : FC} (P : Prop) (m : ASt) {x y : Code} {Q : Exit → ASt → Prop} {st : ASt} (h : AWp F x (fun e st' => match e with
  | .normal => P ∧ Le F st' m
  | e => Q e st') st) (k : P → AWp F y Q m) : AWp F (.seq x y) Q st :=
 z6 (h.mono fun e st' hq => by cases e <;> first | exact (k hq.1).le hq.2 | exact hq)
set_option maxRecDepth 100000 in
set_option maxHeartbeats 4000000 in
theorem zk0 (G) (b : List Int) (hib : isB b) (hl : b.length ≤ 1000000) (hok : ∀ x n, qf b 0 = some (x, n) → OkEv x) : zo Tryz.prog G 22 [wm b] [zr (Qk b).1, iD (Qk b).2.1, iD (Qk b).2.2] := by
 skip
 refine GI [] [] [] Tryz.func22 Tryz.ntmps22 fun F hP hG hN hR hA => ?_
 have hE := @Tryz.results22
 refine WS [0, 2] [2] ?_
 have hc := gvF hP hG (zsg G b hib hl)
 refine WSc [0, 2, 5, 6] [2, 5] ?_
 apply z6
 refine WS [0, 2, 5, 6, 20] [2, 5] ?_
 refine WI ?_ ?_ <;> intro hb
 ·have hv : Qk b = (z1n, 0, 2) := z1x (zjc (by omega))
  have hE := And.intro hE hv
  refine WS [2, 3, 4] [2] ?_
  apply za
  apply zb
  refine EN ?_
  all_goals try trivial
  all_goals first | done | rfl
 ·obtain ⟨x, n, hx, hxe, hnb⟩ := zjd hib (by omega)
  have hrd : qf b 0 = Qw b x n := by unfold qf; rw [hx]
  have hd0 : (b.drop n).length = b.length - n := List.length_drop
  have hE := And.intro hE hxe
  have hat := y6 (zt hib n)
  rw [hd0] at hat
  apply z9
  apply z7
  refine zpt (qf b 0 = if (j9 b x n).2 < 0 then none else some ((j9 b x n).1, (j9 b x n).2.toNat)) (.of [(2, .ptr 2 32 0 0), (5, .ptr 5 32 0 0), (6, .dat (iD (j9 b x n).2))] [(2, ⟨32, [z1s]⟩), (5, ⟨32, [.dat (zr (j9 b x n).1)]⟩)]) ?_ (fun hmp => ?_)
  ·refine WS [0, 2, 5, 6, 23] [2, 5] ?_
   apply zc
   refine WS [0, 2, 5, 6, 23, 24] [2, 5] ?_
   refine WI ?_ ?_ <;> intro hb
   ·have hc := gvF hP hG (zsb G (b.drop n) (zt hib n) (by omega))
    refine WSc [2, 5, 6, 7, 8, 9] [2, 5, 7] ?_
    apply z6
    refine WS [2, 5, 6, 7, 8, 35] [2, 5, 7] ?_
    refine WI ?_ ?_ <;> intro hb
    ·have hv : Qk b = (z1n, 0, 2) := z1x (by rw [hrd]; unfold Qw; rw [if_pos (by rw [show x.Kind = 0 by assumption]; rfl), if_pos (by grind)])
     have hE := And.intro hE hv
     refine WS [2, 3, 4] [2] ?_
     apply za
     apply zb
     apply zf
     show _
     refine EN ?_
     all_goals try trivial
     all_goals first | done | rfl
    ·have ho : (zy (b.drop n)).2.2 = 0 := by grind
     have hk0 : x.Kind = 0 := by assumption
     have hea := z94 (zt hib n)
     rw [hd0] at hea
     have ht : j9 b x n = ({ x with Op := (zy (b.drop n)).1 }, ((n + (zy (b.drop n)).2.1 : Nat) : Int)) := if_pos hk0
     have hm : ((n + (zy (b.drop n)).2.1 : Nat) : Int) = (n : Int) + ((zy (b.drop n)).2.1 : Int) := by omega
     have hE := And.intro hE (And.intro ht hm)
     have hmq := hrd.trans (Xy (fun _ => ho) (fun h => by omega))
     apply z9
     apply z7
     refine WS [2, 5, 6, 8] [2, 5] ?_
     refine WQ [2, 5, 6] [2, 5] ?_
     apply zg
     refine ⟨hmq, ?_⟩
     exact ML
   ·refine WS [0, 2, 5, 6, 23, 42] [2, 5] ?_
    refine WI ?_ ?_ <;> intro hb
    ·have ht : j9 b x n = ({ x with Term := (z0t b n).1 }, (z0t b n).2) := by unfold j9; rw [if_neg (by omega), if_pos (by omega)]
     have hE := And.intro hE ht
     have hmq := hrd.trans (Xy (n := n) (fun h => by omega) (fun h => by omega))
     have hc := gvF hP hG (zou G b n hib hl hnb)
     refine WQc [2, 5, 6] [2, 5] ?_
     apply zg
     refine ⟨hmq, ?_⟩
     exact ML
    ·refine z0x (.of [(0, .dat (wm b)), (2, .ptr 2 32 0 0), (5, .ptr 5 32 0 0), (6, .dat (iD n)), (51, .dat (bD (decide (3 ≤ x.Kind ∧ x.Kind ≤ 6))))] [(2, ⟨32, [z1s]⟩), (5, ⟨32, [.dat (zr x)]⟩)]) ?_ ?_
     ·refine WS [0, 2, 5, 6, 23, 51] [2, 5] ?_
      refine WI ?_ ?_ <;> intro hb
      ·have h51 : decide (3 ≤ x.Kind ∧ x.Kind ≤ 6) = true := decide_eq_true (by omega)
       have hE := And.intro hE h51
       try have hE := And.intro hE (beq_iff_eq.2 hb)
       apply z9
       exact ML
      ·try
        have ht : j9 b x n = (x, (n : Int)) := by unfold j9; rw [if_neg (by omega), if_neg (by omega), if_neg (by omega), if_neg (by omega)]
        have hE := And.intro hE ht
        have hmq := hrd.trans (Xy (n := n) (fun h => by omega) (fun h => by omega))
       refine WS [0, 2, 5, 6, 23, 51] [2, 5] ?_
       refine WI ?_ ?_ <;> intro hb
       ·have h51 : decide (3 ≤ x.Kind ∧ x.Kind ≤ 6) = true := decide_eq_true (by omega)
        have hE := And.intro hE h51
        try have hE := And.intro hE (beq_iff_eq.2 hb)
        apply z9
        exact ML
       ·try
         have ht : j9 b x n = (x, (n : Int)) := by unfold j9; rw [if_neg (by omega), if_neg (by omega), if_neg (by omega), if_neg (by omega)]
         have hE := And.intro hE ht
         have hmq := hrd.trans (Xy (n := n) (fun h => by omega) (fun h => by omega))
        refine WS [0, 2, 5, 6, 23, 51] [2, 5] ?_
        refine WI ?_ ?_ <;> intro hb
        ·have h51 : decide (3 ≤ x.Kind ∧ x.Kind ≤ 6) = true := decide_eq_true (by omega)
         have hE := And.intro hE h51
         try have hE := And.intro hE (beq_iff_eq.2 hb)
         apply z9
         exact ML
        ·try
          have ht : j9 b x n = (x, (n : Int)) := by unfold j9; rw [if_neg (by omega), if_neg (by omega), if_neg (by omega), if_neg (by omega)]
          have hE := And.intro hE ht
          have hmq := hrd.trans (Xy (n := n) (fun h => by omega) (fun h => by omega))
         have h51 : decide (3 ≤ x.Kind ∧ x.Kind ≤ 6) = decide (x.Kind = 6) := decide_eq_decide.2 (by omega)
         have hE := And.intro hE h51
         refine WQ [0, 2, 5, 6, 51] [2, 5] ?_
         exact ML
     refine WI ?_ ?_ <;> intro hb
     ·have h51 : decide (3 ≤ x.Kind ∧ x.Kind ≤ 6) = true := decide_eq_true (by omega)
      have hE := And.intro hE h51
      try have hE := And.intro hE (beq_iff_eq.2 hb)
      have hc := gvF hP hG (jq G (b.drop n) (zt hib n) (by omega))
      refine WSc [0, 2, 5, 6, 10, 11, 12] [2, 5] ?_
      refine WS [0, 2, 5, 6, 10, 11, 12, 13] [2, 5] ?_
      apply z6
      refine WS [0, 2, 5, 6, 10, 11, 12, 13, 71] [2, 5] ?_
      refine WI ?_ ?_ <;> intro hb
      ·have h71 : x.Kind = 5 ∨ x.Kind = 6 := by omega
       refine WQ [0, 2, 5, 6, 10, 11, 12, 13] [2, 5] ?_
       apply z7
       apply z6
       refine WS [0, 2, 5, 6, 10, 11, 13, 79] [2, 5] ?_
       refine WI ?_ ?_ <;> intro hb
       ·have hv : Qk b = (z1n, 0, 2) := z1x (hrd.trans (zi6 (by omega) (by rw [if_pos h71]; grind)))
        have hE := And.intro hE hv
        refine WS [2, 3, 4] [2] ?_
        apply za
        apply zb
        apply zf
        show _
        refine EN ?_
        all_goals try trivial
        all_goals first | done | rfl
       ·have hq : (zd (b.drop n)).2.2 = 0 ∧ (zd (b.drop n)).1.length = 4 := by grind
        have hl34 := hq.2
        obtain ⟨n1, hn1⟩ : ∃ k, k = n + (zd (b.drop n)).2.1 := ⟨_, rfl⟩
        have ht : j9 b x n = ({ x with ID := idR (zd (b.drop n)).1, N := (zd (b.drop n)).1.getD 3 default }, (n1 : Int)) := by unfold j9; rw [if_neg (by omega), if_neg (by omega), if_pos h71, hn1]
        have hc1 : (n : Int) + ((zd (b.drop n)).2.1 : Int) = (n1 : Int) := by omega
        have hn1b : n1 ≤ b.length := by omega
        clear hn1
        have hE := And.intro hE (And.intro ht (And.intro hc1 hl34))
        have hmq := hrd.trans (Xy (n := n) (fun h => by omega) (fun _ => ⟨hq.1, by rw [if_pos h71]; exact hq.2⟩))
        apply z9
        apply z7
        refine WD [0, 2, 5, 6, 10, 11, 13] [2, 5] [0, 1, 2, 3, 4, 5, 6, 7, 8, 9, 10, 11] [] ?_
        refine WS [0, 2, 5, 6, 10, 13] [2, 5] ?_
        refine WS [0, 2, 5, 6, 10, 96] [2, 5] ?_
        refine jd (by first | exact rfl | (simp only [xi, wt, qn, qw]; simp [*])) ?_
        refine WQ [2, 5, 6] [2, 5] ?_
        apply zg
        refine ⟨hmq, ?_⟩
        exact ML
      ·have h71 : ¬(x.Kind = 5 ∨ x.Kind = 6) := by omega
       apply z9
       apply z7
       apply z6
       refine WS [0, 2, 5, 6, 10, 11, 13, 79] [2, 5] ?_
       refine WI ?_ ?_ <;> intro hb
       ·have hv : Qk b = (z1n, 0, 2) := z1x (hrd.trans (zi6 (by omega) (by rw [if_neg h71]; grind)))
        have hE := And.intro hE hv
        refine WS [2, 3, 4] [2] ?_
        apply za
        apply zb
        apply zf
        show _
        refine EN ?_
        all_goals try trivial
        all_goals first | done | rfl
       ·have hq : (zd (b.drop n)).2.2 = 0 ∧ (zd (b.drop n)).1.length = 3 := by grind
        have hl34 := hq.2
        obtain ⟨n1, hn1⟩ : ∃ k, k = n + (zd (b.drop n)).2.1 := ⟨_, rfl⟩
        have ht : j9 b x n = ({ x with ID := idR (zd (b.drop n)).1, Posts := (Q9 b n1 (idR (zd (b.drop n)).1)).1 }, (Q9 b n1 (idR (zd (b.drop n)).1)).2) := by unfold j9; rw [if_neg (by omega), if_neg (by omega), if_neg h71, if_pos (by omega), hn1]
        have hc1 : (n : Int) + ((zd (b.drop n)).2.1 : Int) = (n1 : Int) := by omega
        have hn1b : n1 ≤ b.length := by omega
        clear hn1
        have hE := And.intro hE (And.intro ht (And.intro hc1 hl34))
        have hmq := hrd.trans (Xy (n := n) (fun h => by omega) (fun _ => ⟨hq.1, by rw [if_neg h71]; exact hq.2⟩))
        apply z9
        apply z7
        refine WD [0, 2, 5, 6, 10, 11, 13] [2, 5] [0, 1, 2, 3, 4, 5, 6, 7, 8, 9, 10, 11] [] ?_
        refine WS [0, 2, 5, 6, 10, 13] [2, 5] ?_
        refine WS [0, 2, 5, 6, 10, 96] [2, 5] ?_
        refine X0 (by first | exact rfl | (simp only [xi, wt, qn, qw]; simp [*])) ?_
        have hc := gvF hP hG (zk8 G b n1 (idR (zd (b.drop n)).1) hib hl hn1b)
        refine WQc [2, 5, 6] [2, 5] ?_
        apply zg
        refine ⟨hmq, ?_⟩
        exact ML
     ·try
       have ht : j9 b x n = (x, (n : Int)) := by unfold j9; rw [if_neg (by omega), if_neg (by omega), if_neg (by omega), if_neg (by omega)]
       have hE := And.intro hE ht
       have hmq := hrd.trans (Xy (n := n) (fun h => by omega) (fun h => by omega))
      apply z9
      apply zg
      refine ⟨hmq, ?_⟩
      exact ML
  obtain ⟨y, m, hy⟩ : ∃ y m, j9 b x n = (y, m) := ⟨_, _, rfl⟩
  rw [hy] at hmp ⊢
  simp only at hmp
  have hE := And.intro hE hmp
  apply z6
  apply zu [2, 5, 6, 116] [2, 5]
  ·refine RN ?_
   (repeat' refine And.intro ?_ ?_) <;> try exact SD
   refine CallGC.use rfl (fun hg => ⟨by first | trivial | (simp only [gdAll, AV.gd, avA, seval]; (repeat' apply And.intro) <;> first | trivial | rfl | exact hg) | simp_all [gdAll], gvF hP hG (zox G y (hok y m.toNat (by have := hg; rw [hmp, if_neg (by grind)])))⟩) ?_
   try simp (maxSteps := 2000000) (disch := omega) only [qq, avA, zl, zp, seval, ↓List.forall_mem_cons, Op.operands, hA, tiA, hE]
   exact SC
  refine WI ?_ ?_ <;> intro hb
  ·have hv : Qk b = (z1n, 0, 2) := by
    by_cases hm0 : m < 0
    ·exact z1x (by rw [hmp, if_pos hm0])
    ·rw [if_neg hm0] at hmp
     rw [zgb hmp, if_neg (by grind)]
   have hE := And.intro hE hv
   refine WS [2, 3, 4] [2] ?_
   apply za
   apply zb
   refine EN ?_
   all_goals try trivial
   all_goals first | done | rfl
  ·have hv : Qk b = (y, m.toNat, 0) := by
    rw [if_neg (by grind)] at hmp
    rw [zgb hmp, if_pos (by grind)]
   have hm2 : ((m.toNat : Nat) : Int) = m := by grind
   have hE := And.intro hE (And.intro hv hm2)
   apply z9
   apply z7
   refine WS [2, 3, 4] [2] ?_
   apply za
   refine EN ?_
   all_goals try trivial
   all_goals first | done | rfl
theorem zzq : ∀ n : Nat, n < 32 → 0 < n → IntKind.u64.wrap ((BitVec.ofInt IntKind.u64.bits (IntKind.u64.wrap (-(n : Int))) &&& BitVec.ofInt IntKind.u64.bits 31).toNat : Int) = ((32 - n : Nat) : Int) := by decide
theorem zyk (x : W32) (n : Nat) : x <<< (32 - n) ||| x >>> n = Qh x n := BitVec.or_comm _ _
theorem z8k (G) (x : W32) (n : Nat) (h : 0 < n ∧ n < 32) : zo Tryz.prog G 130 [wD x, iD (-(n : Int))] [wD (Qh x n)] := by
 have hs := zzq n h.2 h.1
 have hs2 : IntKind.u64.wrap (32 - ((32 - n : Nat) : Int)) = (n : Int) := by rw [IntWalk.u64_in _ (by omega)]; omega
 have h1 := ze6 x (32 - n) (by omega)
 have h2 := z63 x n (by omega)
 have h3 := zyk x n
 skip
 skip
 refine GI [] [] [] Tryz.func130 Tryz.ntmps130 fun F hP hG hN hR hA => ?_
 have hE := And.intro @Tryz.results130 (And.intro @hs (And.intro @hs2 (And.intro @Int.toNat_natCast (And.intro @h1 (And.intro @h2 (And.intro @zkp (@h3)))))))
 refine WS [0, 1] [] ?_
 refine WS [0, 5] [] ?_
 refine WS [4] [] ?_
 apply za
 exact E0
theorem zvu (G) (x : W32) (n : Nat) (h : 0 < n ∧ n < 32) : zo Tryz.prog G 112 [wD x, iD (n : Int)] [wD (Qh x n)] := by
 have hs2 : IntKind.i64.wrap (32 - (n : Int)) = ((32 - n : Nat) : Int) := by rw [IntWalk.i64_in _ (by omega)]; omega
 have h1 := ze6 x (32 - n) (by omega)
 have h2 := z63 x n (by omega)
 skip
 skip
 refine GI [] [] [] Tryz.func112 Tryz.ntmps112 fun F hP hG hN hR hA => ?_
 have hE := And.intro @Tryz.results112 (And.intro @hs2 (And.intro @Int.toNat_natCast (And.intro @h1 (And.intro @h2 (@zkp)))))
 refine WS [0, 1] [] ?_
 refine WD [4] [] [0, 1, 2, 3, 4, 5, 6, 7, 8] [] ?_
 apply za
 exact E0
theorem zrp (G) (x : W32) (i j k : Nat) (hi : 0 < i ∧ i < 32) (hj : 0 < j ∧ j < 32) (hk : 0 < k ∧ k < 32) : zo Tryz.prog G 114 [wD x, iD (i : Int), iD (j : Int), iD (k : Int)] [wD (Qh x i ^^^ Qh x j ^^^ Qh x k)] := by
 skip
 skip
 refine GI [] [] [] Tryz.func114 Tryz.ntmps114 fun F hP hG hN hR hA => ?_
 have hE := And.intro @Tryz.results114 (And.intro @z8v (And.intro @Int.zero_sub (@IntWalk.i64_in)))
 refine WS [0, 1, 2, 3] [] ?_
 apply zu [8] []
 ·refine RN ?_
  refine CU (z8k G x i hi) ?_
  refine CU (z8k G x j hj) ?_
  refine CU (z8k G x k hk) ?_
  exact SC
 apply za
 exact E0
theorem zf6 (G) (x : W32) (n : Nat) (c : Int) (hc : c = -(n : Int)) (h : 0 < n ∧ n < 32) : zo Tryz.prog G 130 [wD x, iD c] [wD (Qh x n)] := by
 subst hc
 exact z8k G x n h
set_option maxRecDepth 100000 in
set_option maxHeartbeats 2000000 in
theorem zi2 (G) (b : List Int) (hib : isB b) (hl : b.length = 64) : zo Tryz.prog G 113 [wm b] [wsD (wa b 64)] := by
 skip
 skip
 refine GI [] [] [] Tryz.func113 Tryz.ntmps113 fun F hP hG hN hR hA => ?_
 have hE := And.intro @Tryz.results113 (And.intro @zsz (And.intro @z6f (And.intro @zkw (And.intro @zm5 (And.intro @Int.toNat_natCast (And.intro @zfh (And.intro @zfg (And.intro @z8v (And.intro @zkp (And.intro @ze6 (And.intro @z63 (@ze5))))))))))))
 apply zu [0, 2] [2]
 ·simp (maxSteps := 2000000) (disch := omega) only [qq, avA, zl, zp, seval, ↓List.forall_mem_cons, Op.operands, hA, tiA, hE, ↓z5y, -List.reduceReplicate]
  exact SC
 apply zu [0, 2, 3] [2, 3]
 ·simp (maxSteps := 2000000) (disch := omega) only [qq, avA, zl, zp, seval, ↓List.forall_mem_cons, Op.operands, hA, tiA, hE, ↓z5y, -List.reduceReplicate]
  exact SC
 apply z6
 refine WS [0, 2, 3, 11] [2, 3] ?_
 apply zc
 refine WL (ι := {t : Nat // t ≤ 64}) [0, 2, 3] [2] (fun ⟨t, ht⟩ => [(11, .dat (iD t))]) (fun ⟨t, ht⟩ => [(3, ⟨64, [.dat (wsD (z5p b t))]⟩)]) (fun ⟨t, ht⟩ => 64 - t) (⟨0, by omega⟩) ?_
 rintro ⟨t, ht⟩
 refine LA ?_
 refine WS [0, 2, 3, 11, 12] [2, 3] ?_
 apply z6
 refine WI ?_ ?_ <;> intro hb
 ·have ht4 : t < 64 := by omega
  have hE := And.intro hE (And.intro (zkb b ht4) (And.intro (fun x => z2r b ht4 x) (And.intro (fun x => ldT b ht4 x) (stA b t))))
  apply z9
  apply z7
  apply z6
  apply zc
  refine WS [0, 2, 3, 4, 11] [2, 3] ?_
  apply z6
  refine WS [0, 2, 3, 4, 11, 15] [2, 3] ?_
  refine WI ?_ ?_ <;> intro hb
  ·have h4 : IntKind.i64.wrap (4 * (t : Int)) = ((4 * t : Nat) : Int) := by rw [IntWalk.i64_in _ (by omega)]; omega
   have h5 : IntKind.i64.wrap (((4 * t : Nat) : Int) + 4) = ((4 * t + 4 : Nat) : Int) := by rw [IntWalk.i64_in _ (by omega)]; omega
   have h6 : (List.drop (4 * t) (List.take (4 * t + 4) b)).length = 4 := by rw [List.length_drop, List.length_take]; omega
   have hn : z5p b (t + 1) = z04 b t (wordP b t 4) := by rw [z3i b ht4, zwd, z7o, if_pos (by omega)]
   have hE := And.intro hE (And.intro h4 (And.intro h5 (And.intro h6 hn)))
   apply z6
   refine WS [0, 2, 3, 4, 11, 22, 23, 24] [2, 3] ?_
   apply zc
   refine WL (ι := {j : Nat // j ≤ 4}) [0, 2, 3, 4, 11, 22, 23] [2] (fun ⟨j, hj⟩ => [(24, .dat (iD j))]) (fun ⟨j, hj⟩ => [(3, ⟨64, [.dat (wsD (z04 b t (wordP b t j)))]⟩)]) (fun ⟨j, hj⟩ => 4 - j) (⟨0, by omega⟩) ?_
   rintro ⟨j, hj⟩
   refine LA ?_
   refine WS [0, 2, 3, 4, 11, 22, 23, 24, 25] [2, 3] ?_
   apply z6
   refine WI ?_ ?_ <;> intro hb
   ·have hm : (List.drop (4 * t) (List.take (4 * t + 4) b)).getD j default = b.getD (4 * t + j) default := by
     simp only [List.getD_eq_getElem?_getD, List.getElem?_drop, List.getElem?_take]
     rw [if_pos (by omega)]
    have hby := z4s hib (4 * t + j)
    have hE := And.intro hE (And.intro hm (And.intro hby (wordP.eq_2 b t j)))
    apply z9
    apply z7
    apply z6
    apply zc
    refine WS [0, 2, 3, 4, 6, 11, 22, 23, 24] [2, 3] ?_
    refine WQ [0, 2, 3, 4, 11, 22, 23, 24] [2, 3] ?_
    apply zg
    apply z7
    refine WQ [0, 2, 3, 4, 11, 22, 23, 24] [2, 3] ?_
    refine WN (⟨j + 1, by omega⟩)
   ·apply zn
    apply zh
    have hend : j = 4 := by omega
    subst hend
    apply ze
    apply zw
    apply z7
    apply zn
    apply zh
    apply zw
    apply z7
    refine WQ [0, 2, 3, 11] [2, 3] ?_
    refine WN (⟨t + 1, by omega⟩)
  ·have h15 : IntKind.i64.wrap ((t : Int) - 15) = ((t - 15 : Nat) : Int) := by rw [IntWalk.i64_in _ (by omega)]; omega
   have h2 : IntKind.i64.wrap ((t : Int) - 2) = ((t - 2 : Nat) : Int) := by rw [IntWalk.i64_in _ (by omega)]; omega
   have h16 : IntKind.i64.wrap ((t : Int) - 16) = ((t - 16 : Nat) : Int) := by rw [IntWalk.i64_in _ (by omega)]; omega
   have h7 : IntKind.i64.wrap ((t : Int) - 7) = ((t - 7 : Nat) : Int) := by rw [IntWalk.i64_in _ (by omega)]; omega
   have hn : z5p b (t + 1) = z04 b t (z7o b (wa b t) t) := z3i b ht4
   have hv : z7o b (wa b t) t = (wa b t).getD (t - 16) 0#32 + sg0 ((wa b t).getD (t - 15) 0#32) + (wa b t).getD (t - 7) 0#32 + sg1 ((wa b t).getD (t - 2) 0#32) := if_neg (by omega)
   have hE := And.intro hE (And.intro h15 (And.intro h2 (And.intro h16 (And.intro h7 (And.intro hn (And.intro hv (And.intro (fun x => ldA b ht4 (show t - 15 < t by omega) x) (And.intro (fun x => ldA b ht4 (show t - 2 < t by omega) x) (And.intro (fun x => ldA b ht4 (show t - 16 < t by omega) x) (And.intro (fun x => ldA b ht4 (show t - 7 < t by omega) x) (And.intro sg0.eq_1 sg1.eq_1)))))))))))
   apply z9
   apply z7
   refine WD [0, 2, 3, 4, 7, 8, 11] [2, 3] [0, 1, 2, 3, 4, 5, 6, 7, 8, 9] [] ?_
   apply zu [0, 2, 3, 4, 8, 9, 11] [2, 3]
   ·refine RN ?_
    refine CU (zf6 G ((wa b t).getD (t - 15) 0#32) 7 (-7) rfl (by omega)) ?_
    refine CU (zf6 G ((wa b t).getD (t - 15) 0#32) 18 (-18) rfl (by omega)) ?_
    exact SC
   apply zu [0, 2, 3, 4, 9, 10, 11] [2, 3]
   ·refine RN ?_
    refine CU (zf6 G ((wa b t).getD (t - 2) 0#32) 17 (-17) rfl (by omega)) ?_
    refine CU (zf6 G ((wa b t).getD (t - 2) 0#32) 19 (-19) rfl (by omega)) ?_
    exact SC
   refine WDQ [0, 2, 3, 11] [2, 3] [0, 1, 2, 3, 4, 5, 6, 7, 8, 9, 10, 11, 12, 13, 14, 15] [] ?_
   apply zg
   apply z7
   refine WQ [0, 2, 3, 11] [2, 3] ?_
   refine WN (⟨t + 1, by omega⟩)
 ·apply zn
  apply zh
  have hend : t = 64 := by omega
  subst hend
  apply ze
  apply zw
  apply z7
  have hE := And.intro hE (And.intro (yh b 64) (And.intro zmc (z6f z64)))
  refine WS [2] [2] ?_
  apply za
  exact E0
theorem z02 (G) (x : W32) (n : Nat) (c : Int) (hc : c = (n : Int)) (h : 0 < n ∧ n < 32) : zo Tryz.prog G 112 [wD x, iD c] [wD (Qh x n)] := by
 subst hc
 exact zvu G x n h
set_option maxRecDepth 100000 in
set_option maxHeartbeats 4000000 in
theorem znh (G) (b : List Int) (hib : isB b) (hl : b.length = 64) : zo Tryz.prog G 111 [wm b] [wsD (wa b 64)] := by
 skip
 skip
 refine GI [] [] [] Tryz.func111 Tryz.ntmps111 fun F hP hG hN hR hA => ?_
 have hE := And.intro @Tryz.results111 (And.intro @zsz (And.intro @z6f (And.intro @zkw (And.intro @zm5 (And.intro @Int.toNat_natCast (And.intro @z8v (And.intro @zkp (And.intro @ze6 (And.intro @z63 (@ze5))))))))))
 apply zu [0, 2] [2]
 ·simp (maxSteps := 2000000) (disch := omega) only [qq, avA, zl, zp, seval, ↓List.forall_mem_cons, Op.operands, hA, tiA, hE, ↓z5y, -List.reduceReplicate]
  exact SC
 apply zu [0, 2, 3] [2, 3]
 ·simp (maxSteps := 2000000) (disch := omega) only [qq, avA, zl, zp, seval, ↓List.forall_mem_cons, Op.operands, hA, tiA, hE, ↓z5y, -List.reduceReplicate]
  exact SC
 apply z6
 refine WS [0, 2, 3, 4] [2, 3] ?_
 apply zc
 refine WL (ι := {t : Nat // t ≤ 16}) [0, 2, 3] [2] (fun ⟨t, ht⟩ => [(4, .dat (iD t))]) (fun ⟨t, ht⟩ => [(3, ⟨64, [.dat (wsD (z5p b t))]⟩)]) (fun ⟨t, ht⟩ => 16 - t) (⟨0, by omega⟩) ?_
 rintro ⟨t, ht⟩
 refine LA ?_
 apply z6
 refine WS [0, 2, 3, 4, 9] [2, 3] ?_
 refine WI ?_ ?_ <;> intro hb
 ·have ht4 : t < 64 := by omega
  have h4 : IntKind.i64.wrap (4 * (t : Int)) = ((4 * t : Nat) : Int) := by rw [IntWalk.i64_in _ (by omega)]; omega
  have h5 : IntKind.i64.wrap (((4 * t : Nat) : Int) + 1) = ((4 * t + 1 : Nat) : Int) := by rw [IntWalk.i64_in _ (by omega)]; omega
  have h6 : IntKind.i64.wrap (((4 * t : Nat) : Int) + 2) = ((4 * t + 2 : Nat) : Int) := by rw [IntWalk.i64_in _ (by omega)]; omega
  have h7 : IntKind.i64.wrap (((4 * t : Nat) : Int) + 3) = ((4 * t + 3 : Nat) : Int) := by rw [IntWalk.i64_in _ (by omega)]; omega
  have hn : z5p b (t + 1) = z04 b t (wordH b t) := by rw [z3i b ht4, z7o, if_pos (by omega)]
  have hE := And.intro hE (And.intro (zkb b ht4) (And.intro (fun x => z2r b ht4 x) (And.intro (fun x => ldT b ht4 x) (And.intro (stA b t) (And.intro h4 (And.intro h5 (And.intro h6 (And.intro h7 (And.intro hn (And.intro (wordH.eq_1 b t) (And.intro (z4s hib (4 * t)) (And.intro (z4s hib (4 * t + 1)) (And.intro (z4s hib (4 * t + 2)) (z4s hib (4 * t + 3)))))))))))))))
  apply z9
  apply z7
  apply z6
  apply zc
  refine WDQ [0, 2, 3, 4] [2, 3] [0, 1, 2, 3, 4, 5, 6, 7, 8, 9, 10, 11, 12, 13, 14, 15, 16, 17, 18, 19, 20, 21, 22, 23, 24, 25, 26, 27, 28, 29, 30, 31, 32, 33, 34, 35] [] ?_
  apply zg
  apply z7
  refine WQ [0, 2, 3, 4] [2, 3] ?_
  refine WN (⟨t + 1, by omega⟩)
 ·apply zn
  apply zh
  have hend : t = 16 := by omega
  subst hend
  apply ze
  apply zw
  apply z7
  apply z6
  refine WS [2, 3, 5] [2, 3] ?_
  apply zc
  refine WL (ι := {t : Nat // 16 ≤ t ∧ t ≤ 64}) [2, 3] [2] (fun ⟨t, ht⟩ => [(5, .dat (iD t))]) (fun ⟨t, ht⟩ => [(3, ⟨64, [.dat (wsD (z5p b t))]⟩)]) (fun ⟨t, ht⟩ => 64 - t) (⟨16, by omega⟩) ?_
  rintro ⟨t, ht⟩
  refine LA ?_
  apply z6
  refine WS [2, 3, 5, 48] [2, 3] ?_
  refine WI ?_ ?_ <;> intro hb
  ·have ht4 : t < 64 := by omega
   have h15 : IntKind.i64.wrap ((t : Int) - 15) = ((t - 15 : Nat) : Int) := by rw [IntWalk.i64_in _ (by omega)]; omega
   have h2 : IntKind.i64.wrap ((t : Int) - 2) = ((t - 2 : Nat) : Int) := by rw [IntWalk.i64_in _ (by omega)]; omega
   have h16 : IntKind.i64.wrap ((t : Int) - 16) = ((t - 16 : Nat) : Int) := by rw [IntWalk.i64_in _ (by omega)]; omega
   have h7 : IntKind.i64.wrap ((t : Int) - 7) = ((t - 7 : Nat) : Int) := by rw [IntWalk.i64_in _ (by omega)]; omega
   have hn : z5p b (t + 1) = z04 b t (z7o b (wa b t) t) := z3i b ht4
   have hv : z7o b (wa b t) t = (wa b t).getD (t - 16) 0#32 + sg0 ((wa b t).getD (t - 15) 0#32) + (wa b t).getD (t - 7) 0#32 + sg1 ((wa b t).getD (t - 2) 0#32) := if_neg (by omega)
   have hE := And.intro hE (And.intro (zkb b ht4) (And.intro (fun x => z2r b ht4 x) (And.intro (fun x => ldT b ht4 x) (And.intro (stA b t) (And.intro h15 (And.intro h2 (And.intro h16 (And.intro h7 (And.intro hn (And.intro hv (And.intro (fun x => ldA b ht4 (show t - 15 < t by omega) x) (And.intro (fun x => ldA b ht4 (show t - 2 < t by omega) x) (And.intro (fun x => ldA b ht4 (show t - 16 < t by omega) x) (And.intro (fun x => ldA b ht4 (show t - 7 < t by omega) x) (And.intro sg0.eq_1 sg1.eq_1)))))))))))))))
   apply z9
   apply z7
   apply z6
   apply zc
   apply wn [2, 3, 5, 6] [2, 3] [0, 1, 2, 3, 4, 5, 6, 7, 8, 9, 10, 11, 12, 13, 14, 15, 16, 17] []
   ·rw [hP]; kernel_rfl
   ·exact hR
   ·kernel_rfl
   ·(repeat (apply PickL.cons; exact rfl)); exact PickL.nil _
   ·refine RN ?_
    refine CU (z02 G ((wa b t).getD (t - 15) 0#32) 7 7 rfl (by omega)) ?_
    refine CU (z02 G ((wa b t).getD (t - 15) 0#32) 18 18 rfl (by omega)) ?_
    exact SC
   apply wn [2, 3, 5, 6, 7] [2, 3] [0, 1, 2, 3, 4, 5, 6, 7, 8, 9, 10, 11, 12, 13, 14, 15, 16, 17] []
   ·rw [hP]; kernel_rfl
   ·exact hR
   ·kernel_rfl
   ·(repeat (apply PickL.cons; exact rfl)); exact PickL.nil _
   ·refine RN ?_
    refine CU (z02 G ((wa b t).getD (t - 2) 0#32) 17 17 rfl (by omega)) ?_
    refine CU (z02 G ((wa b t).getD (t - 2) 0#32) 19 19 rfl (by omega)) ?_
    exact SC
   refine WDQ [2, 3, 5] [2, 3] [0, 1, 2, 3, 4, 5, 6, 7, 8, 9, 10, 11, 12, 13, 14, 15] [] ?_
   apply zg
   apply z7
   refine WQ [2, 3, 5] [2, 3] ?_
   refine WN (⟨t + 1, by omega⟩)
  ·have hend : t = 64 := by omega
   subst hend
   have hE := And.intro hE (And.intro (yh b 64) (And.intro zmc (z6f z64)))
   apply zn
   apply zh
   apply ze
   apply zw
   apply z7
   refine WS [2] [2] ?_
   apply za
   exact E0
set_option maxRecDepth 100000 in
set_option maxHeartbeats 1000000 in
theorem zo3 (G) (b : List Int) (hl : b.length ≤ 1099511627776) : zo Tryz.prog G 110 [wm b] [wm (wz b)] := by
 have hz := Xo b.length
 have h8n : IntKind.u64.wrap (8 * IntKind.u64.wrap (b.length : Int)) = ((8 * b.length : Nat) : Int) := by rw [IntWalk.u64_in (b.length : Int) (by omega), IntWalk.u64_in _ (by omega)]; omega
 skip
 skip
 refine GI [6] [] [] Tryz.func110 Tryz.ntmps110 fun F hP hG hN hR hA => ?_
 have hE := And.intro @Tryz.results110 (And.intro @zew (And.intro @zzd (And.intro @zzf (And.intro @zwr (And.intro @Int.toNat_natCast (@h8n))))))
 refine WS [0] [] ?_
 refine WS [0, 3] [6, 8, 11, 18, 35] ?_
 refine WS [0, 3] [6, 8, 10, 11, 18, 35] ?_
 apply z6
 apply zc
 refine wv 11 18 (by omega) (by omega) ?_
 refine WL (ι := {j : Nat // j ≤ y8 b.length}) [0] [6, 8, 10, 11, 17, 34, 35] (fun ⟨j, hj⟩ => [(3, .osl 18 1 0 (b.length + 1 + j))]) (fun ⟨j, hj⟩ => [(18, ⟨1, ((ppM b j).map u8D).map .dat⟩)]) (fun ⟨j, hj⟩ => y8 b.length - j) (⟨0, by omega⟩) ?_
 rintro ⟨j, hj⟩
 refine LA ?_
 have hpl := zew b j
 apply z6
 refine WS [0, 3, 15] [6, 8, 10, 11, 17, 18, 35] ?_
 refine WI ?_ ?_ <;> intro hb
 ·have htm : (((b.length + 1 + j : Nat) : Int)).tmod 64 = (((b.length + 1 + j) % 64 : Nat) : Int) := by rw [Int.tmod_eq_emod_of_nonneg (by omega)]; rfl
  rw [htm] at hb
  have hs := zs8 b j
  have hE := And.intro hE hs
  apply z9
  apply z7
  apply zc
  refine WQ [0, 3] [6, 8, 10, 11, 17, 18, 35] ?_
  apply zg
  refine WN (⟨j + 1, by omega⟩)
 ·have htm : (((b.length + 1 + j : Nat) : Int)).tmod 64 = (((b.length + 1 + j) % 64 : Nat) : Int) := by rw [Int.tmod_eq_emod_of_nonneg (by omega)]; rfl
  rw [htm] at hb
  have hend : j = y8 b.length := by omega
  subst hend
  apply zn
  apply zh
  apply ze
  apply zw
  apply z7
  refine WS [3, 4] [6, 8, 10, 11, 17, 18, 35] ?_
  apply z6
  refine WS [3, 4, 5] [6, 8, 10, 11, 17, 18, 35] ?_
  apply zc
  refine wv 18 35 (by omega) (by omega) ?_
  refine WL (ι := {i : Nat // i ≤ 8}) [4] [6, 8, 10, 11, 17, 18, 34] (fun ⟨i, hi⟩ => [(3, .osl 35 1 0 (b.length + 1 + y8 b.length + i)), (5, .dat (iD i))]) (fun ⟨i, hi⟩ => [(35, ⟨1, ((qpM b i).map u8D).map .dat⟩)]) (fun ⟨i, hi⟩ => 8 - i) (⟨0, by omega⟩) ?_
  rintro ⟨i, hi⟩
  refine LA ?_
  have hql := zly b i (by omega)
  apply z6
  refine WS [3, 4, 5, 24] [6, 8, 10, 11, 17, 18, 34, 35] ?_
  refine WI ?_ ?_ <;> intro hb
  ·have hs := zsa b i (by omega)
   have hb1 := zgz b.length i (by omega) (by omega)
   have hb2 : IntKind.i64.wrap (8 * (i : Int)) = ((8 * i : Nat) : Int) := by rw [IntWalk.i64_in _ (by omega)]; omega
   have hb3 : IntKind.i64.wrap (56 - ((8 * i : Nat) : Int)) = ((56 - 8 * i : Nat) : Int) := by rw [IntWalk.i64_in _ (by omega)]; omega
   have hE := And.intro hE (And.intro hs (And.intro hb1 (And.intro hb2 (And.intro hb3 hql))))
   apply z9
   apply z7
   apply z6
   apply zc
   refine WQ [3, 4, 5] [6, 8, 10, 11, 17, 18, 34, 35] ?_
   apply zg
   apply z7
   refine WQ [3, 4, 5] [6, 8, 10, 11, 17, 18, 34, 35] ?_
   refine WN (⟨i + 1, by omega⟩)
  ·apply zn
   apply zh
   have hend : i = 8 := by omega
   subst hend
   apply ze
   apply zw
   apply z7
   have hE := And.intro hE (And.intro (z2b b) (zo2 b))
   refine WS [2] [6, 8, 10, 11, 17, 18, 34, 35] ?_
   apply za
   exact E0
end Go.Proofs.YtabjaaonfaejmaaGreatDoor

namespace Go.Proofs.YtabjaaonfaejmaaGreatDoor
open Go.Av
set_option maxRecDepth 100000 in
set_option maxHeartbeats 1000000 in
theorem zvx (G) (hgk : G.lookup 0 = some (wsD kH)) (b : List Int) (hib : isB b) (hl : b.length ≤ 1099511627776) : zo Tryz.prog G 80 [wm b] [bsD (z5t b)] := by
 have hm0 := zvg b
 have hml := z2b b
 have hmz := Xo b.length
 have hmb := zui hib
 obtain ⟨n, hn⟩ : ∃ n : Nat, (wz b).length = 64 * n := ⟨(wz b).length / 64, by omega⟩
 skip
 skip
 refine GI [] [] [] Tryz.func80 Tryz.ntmps80 fun F hP hG hN hR hA => ?_
 have hE := And.intro @Tryz.results80 (And.intro @hgk (And.intro @zl7 (And.intro @z6f (And.intro @zjl (And.intro @zeo (And.intro @yh (And.intro @zkw (And.intro @zqn (And.intro @Int.toNat_natCast (And.intro @z8v (And.intro @zkq (And.intro @zq4 (And.intro @ze5 (And.intro @z63 (And.intro @zq5 (And.intro @zfh (And.intro @zfg (@hn))))))))))))))))))
 refine WS [0, 2] [2] ?_
 refine WS [0, 2, 3] [2, 3] ?_
 have hc := gvF hP hG (zo3 G b hl)
 refine WSc [2, 3, 4] [2, 3] ?_
 apply z6
 refine WS [2, 3, 4, 5] [2, 3] ?_
 apply zc
 refine WL (ι := {k : Nat // k ≤ n}) [2, 3, 4] [2] (fun ⟨k, hk⟩ => [(5, .dat (iD ((64 * k : Nat) : Int)))]) (fun ⟨k, hk⟩ => [(3, ⟨8, [.dat (s8D (blocksM iv8 (wz b) k))]⟩)]) (fun ⟨k, hk⟩ => n - k) (⟨0, by omega⟩) ?_
 rintro ⟨k, hk⟩
 refine LA ?_
 apply z6
 refine WS [2, 3, 4, 5, 26] [2, 3] ?_
 refine WI ?_ ?_ <;> intro hb
 ·have hk64 : 64 * k + 64 ≤ (wz b).length := by omega
  have h64 : IntKind.i64.wrap (((64 * k : Nat) : Int) + 64) = ((64 * k + 64 : Nat) : Int) := by rw [IntWalk.i64_in _ (by omega)]; omega
  have h64b : ((64 * k + 64 : Nat) : Int) = ((64 * (k + 1) : Nat) : Int) := by omega
  have hE := And.intro hE (And.intro (zx6 (wz b) k) h64)
  apply z9
  apply z7
  apply z6
  apply zc
  have hc := gvF hP hG (znh G (Qj (wz b) k) (zlh hmb k) (ze4 hk64))
  refine WSc [2, 3, 4, 5, 6] [2, 3, 6] ?_
  refine WD [2, 3, 4, 5, 6, 7, 8, 9, 10, 11, 12, 13, 14] [2, 3, 6] [0, 1, 2, 3, 4, 5, 6, 7, 8, 9, 10, 11, 12, 13, 14, 15, 16, 17, 18, 19, 20, 21, 22, 23] [] ?_
  apply z6
  have hE := And.intro hE (roundsM.eq_1 (wa (Qj (wz b) k) 64) (blocksM iv8 (wz b) k))
  refine WS [2, 3, 4, 5, 6, 7, 8, 9, 10, 11, 12, 13, 14, 15] [2, 3, 6] ?_
  apply zc
  refine WL (ι := {t : Nat // t ≤ 64}) [2, 3, 4, 5, 6] [2, 3, 6] (fun ⟨t, ht⟩ => [(15, .dat (iD t)), (7, .dat (wD (roundsM (wa (Qj (wz b) k) 64) (blocksM iv8 (wz b) k) t).a)), (8, .dat (wD (roundsM (wa (Qj (wz b) k) 64) (blocksM iv8 (wz b) k) t).b)), (9, .dat (wD (roundsM (wa (Qj (wz b) k) 64) (blocksM iv8 (wz b) k) t).c)), (10, .dat (wD (roundsM (wa (Qj (wz b) k) 64) (blocksM iv8 (wz b) k) t).d)), (11, .dat (wD (roundsM (wa (Qj (wz b) k) 64) (blocksM iv8 (wz b) k) t).e)), (12, .dat (wD (roundsM (wa (Qj (wz b) k) 64) (blocksM iv8 (wz b) k) t).f)), (13, .dat (wD (roundsM (wa (Qj (wz b) k) 64) (blocksM iv8 (wz b) k) t).g)), (14, .dat (wD (roundsM (wa (Qj (wz b) k) 64) (blocksM iv8 (wz b) k) t).h))]) (fun ⟨t, ht⟩ => []) (fun ⟨t, ht⟩ => 64 - t) (⟨0, by omega⟩) ?_
  rintro ⟨t, ht⟩
  refine LA ?_
  apply z6
  refine WS [2, 3, 4, 5, 6, 7, 8, 9, 10, 11, 12, 13, 14, 15, 52] [2, 3, 6] ?_
  refine WI ?_ ?_ <;> intro hb
  ·have hk := X6 kH t (by rw [zeo]; omega)
   have hw := X6 (wa (Qj (wz b) k) 64) t (by rw [yh]; omega)
   have hE := And.intro hE (And.intro hk (And.intro hw (And.intro (roundsM.eq_2 (wa (Qj (wz b) k) 64) (blocksM iv8 (wz b) k) t) (And.intro zzi (And.intro zzj (And.intro zzk (And.intro zzl (And.intro zzm (And.intro zzn (And.intro zzo (And.intro zzp (And.intro xM.eq_1 (And.intro yM.eq_1 (And.intro bs0.eq_1 bs1.eq_1))))))))))))))
   apply z9
   apply z7
   apply z6
   apply zc
   apply wn [2, 3, 4, 5, 6, 7, 8, 9, 10, 11, 12, 13, 15, 16] [2, 3, 6] [0, 1, 2, 3, 4, 5, 6, 7, 8, 9, 10, 11, 12, 13, 14, 15, 16, 17, 18, 19, 20, 21, 22, 23, 24, 25, 26, 27] []
   ·rw [hP]; kernel_rfl
   ·exact hR
   ·kernel_rfl
   ·(repeat (apply PickL.cons; exact rfl)); exact PickL.nil _
   ·refine RN ?_
    refine CU (z02 G _ 6 6 rfl (by omega)) ?_
    refine CU (z02 G _ 11 11 rfl (by omega)) ?_
    refine CU (z02 G _ 25 25 rfl (by omega)) ?_
    exact SC
   apply zu [2, 3, 4, 5, 6, 7, 8, 9, 10, 11, 12, 13, 15, 16, 17] [2, 3, 6]
   ·refine RN ?_
    refine CU (z02 G _ 2 2 rfl (by omega)) ?_
    refine CU (z02 G _ 13 13 rfl (by omega)) ?_
    refine CU (z02 G _ 22 22 rfl (by omega)) ?_
    exact SC
   refine WS [2, 3, 4, 5, 6, 7, 8, 9, 10, 11, 12, 14, 15, 16, 17] [2, 3, 6] ?_
   refine WS [2, 3, 4, 5, 6, 7, 8, 9, 10, 11, 13, 14, 15, 16, 17] [2, 3, 6] ?_
   refine WS [2, 3, 4, 5, 6, 7, 8, 9, 10, 12, 13, 14, 15, 16, 17] [2, 3, 6] ?_
   refine WS [2, 3, 4, 5, 6, 7, 8, 9, 11, 12, 13, 14, 15, 16, 17] [2, 3, 6] ?_
   refine WS [2, 3, 4, 5, 6, 7, 8, 10, 11, 12, 13, 14, 15, 16, 17] [2, 3, 6] ?_
   refine WS [2, 3, 4, 5, 6, 7, 9, 10, 11, 12, 13, 14, 15, 16, 17] [2, 3, 6] ?_
   refine WS [2, 3, 4, 5, 6, 8, 9, 10, 11, 12, 13, 14, 15, 16, 17] [2, 3, 6] ?_
   refine WQ [2, 3, 4, 5, 6, 7, 8, 9, 10, 11, 12, 13, 14, 15] [2, 3, 6] ?_
   apply zg
   apply z7
   refine WQ [2, 3, 4, 5, 6, 7, 8, 9, 10, 11, 12, 13, 14, 15] [2, 3, 6] ?_
   refine WN (⟨t + 1, by omega⟩)
  ·apply zn
   apply zh
   have hend : t = 64 := by omega
   subst hend
   apply ze
   apply zw
   apply z7
   have hE := And.intro hE (And.intro (blocksM.eq_2 iv8 (wz b) k) (And.intro compM.eq_1 (And.intro addS.eq_1 h64b)))
   refine WQ [2, 3, 4, 5] [2, 3] ?_
   apply zg
   apply z7
   refine WQ [2, 3, 4, 5] [2, 3] ?_
   refine WN (⟨k + 1, by omega⟩)
 ·apply zn
  apply zh
  have hend : k = n := by omega
  subst hend
  apply ze
  apply zw
  apply z7
  refine WS [2, 3, 18] [2, 3, 18] ?_
  apply z6
  rw [zww, zzr]
  have hfin : bsD (outL (blocksM iv8 (wz b) k) 32) = bsD (z5t b) := by rw [zlt]; unfold z5t; rw [hn, Nat.mul_div_cancel_left _ (by omega)]
  have hsl : (sL (blocksM iv8 (wz b) k)).length = 8 := rfl
  have hE := And.intro hE (And.intro hsl (z0n (blocksM iv8 (wz b) k)))
  refine WS [2, 3, 18, 19] [2, 3, 18] ?_
  apply zc
  refine WL (ι := {i : Nat // i ≤ 32}) [2, 3, 18] [2, 3] (fun ⟨i, hi⟩ => [(19, .dat (iD i))]) (fun ⟨i, hi⟩ => [(18, ⟨32, [.dat (bsD (outL (blocksM iv8 (wz b) k) i))]⟩)]) (fun ⟨i, hi⟩ => 32 - i) (⟨0, by omega⟩) ?_
  rintro ⟨i, hi⟩
  refine LA ?_
  apply z6
  refine WS [2, 3, 18, 19, 148] [2, 3, 18] ?_
  refine WI ?_ ?_ <;> intro hb
  ·have q1 : IntKind.i64.wrap ((i : Int).tdiv 4) = ((i / 4 : Nat) : Int) := by rw [Int.tdiv_eq_ediv_of_nonneg (by omega), IntWalk.i64_in _ (by omega)]; omega
   have q2 : (i : Int).tmod 4 = ((i % 4 : Nat) : Int) := by rw [Int.tmod_eq_emod_of_nonneg (by omega)]; omega
   have q3 : IntKind.i64.wrap (8 * ((i % 4 : Nat) : Int)) = ((8 * (i % 4) : Nat) : Int) := by rw [IntWalk.i64_in _ (by omega)]; omega
   have q4 : IntKind.i64.wrap (24 - ((8 * (i % 4) : Nat) : Int)) = ((24 - 8 * (i % 4) : Nat) : Int) := by rw [IntWalk.i64_in _ (by omega)]; omega
   have g1 := X6 (sL (blocksM iv8 (wz b) k)) (i / 4) (by rw [hsl]; omega)
   have t1 := zkd (outL (blocksM iv8 (wz b) k) i) i (by rw [z0n]; omega)
   have hE := And.intro hE (And.intro q1 (And.intro q2 (And.intro q3 (And.intro q4 (And.intro g1 (And.intro t1 (And.intro (outL.eq_2 (blocksM iv8 (wz b) k) i) (outB.eq_1 (blocksM iv8 (wz b) k) i))))))))
   apply z9
   apply z7
   apply z6
   apply zc
   refine WQ [2, 3, 18, 19] [2, 3, 18] ?_
   apply zg
   apply z7
   refine WQ [2, 3, 18, 19] [2, 3, 18] ?_
   refine WN (⟨i + 1, by omega⟩)
  ·apply zn
   apply zh
   have hend : i = 32 := by omega
   subst hend
   apply ze
   apply zw
   apply z7
   rw [hfin]
   refine WS [2] [2] ?_
   apply za
   exact E0
end Go.Proofs.YtabjaaonfaejmaaGreatDoor

namespace Go.Proofs.YtabjaaonfaejmaaGreatDoor
open Go.Av
def v4 (s : S8) : AV := .dat (.agg [wD s.a, wD s.b, wD s.c, wD s.d])
def e4 (s : S8) : AV := .dat (.agg [wD s.e, wD s.f, wD s.g, wD s.h])
def z4 : AV := .dat (.agg [.int .u32 0, .int .u32 0, .int .u32 0, .int .u32 0])
def cEv (s : S8) : List (Nat × Nat × AV) := [(0, 15, .isl 2 8 0 0 4 8), (1, 16, .ptr 2 8 0 0), (2, 17, v4 s), (3, 18, .isl 2 8 0 4 4 4), (4, 19, .ptr 2 8 0 4), (5, 20, e4 s), (6, 6, .ptr 6 4 0 0), (7, 7, .ptr 7 4 0 0)]
def cOv (s : S8) : List (Nat × Nat × AObj) := [(8, 6, ⟨4, [v4 s]⟩), (9, 7, ⟨4, [e4 s]⟩), (6, 6, ⟨4, [z4]⟩), (7, 7, ⟨4, [z4]⟩)]
theorem q07 (G) (x : W32) : zo Tryz.prog G 114 [wD x, iD 6, iD 11, iD 25] [wD (bs1 x)] := zrp G x 6 11 25 (by omega) (by omega) (by omega)
theorem q06 (G) (x : W32) : zo Tryz.prog G 114 [wD x, iD 2, iD 13, iD 22] [wD (bs0 x)] := zrp G x 2 13 22 (by omega) (by omega) (by omega)
set_option maxRecDepth 100000 in
set_option maxHeartbeats 1000000 in
theorem zg6 (G) (hgk : G.lookup 1 = some (wsD kH)) (s : S8) (b : List Int) (hib : isB b) (hl : b.length = 64) : zo Tryz.prog G 81 [s8D s, wm b] [s8D (compM s b)] := by
 skip
 skip
 refine GI [] [] [] Tryz.func81 Tryz.ntmps81 fun F hP hG hN hR hA => ?_
 have hE := And.intro @Tryz.results81 (And.intro @hgk (And.intro @zl7 (And.intro @z6f (And.intro @zeo (And.intro @yh (And.intro @zkw (And.intro @Int.toNat_natCast (And.intro @z8v (And.intro @zq4 (And.intro @zx8 (@ze5)))))))))))
 refine WS [1, 2, 4] [2, 4] ?_
 have hc := gvF hP hG (zi2 G b hib hl)
 refine WSc [2, 4, 5] [2, 4, 5] ?_
 refine ze3 [2, 4, 5, 6, 7] [2, 4, 5, 6, 7] (jD (cEv s) (cOv s)) (e := [(2, .ptr 2 8 0 0), (4, .ptr 4 8 0 0), (5, .ptr 5 64 0 0), (6, .ptr 6 4 0 0), (7, .ptr 7 4 0 0)]) (o := [(2, ⟨8, [.dat (s8D s)]⟩), (4, ⟨8, [.dat (.agg [.int .u32 0, .int .u32 0, .int .u32 0, .int .u32 0, .int .u32 0, .int .u32 0, .int .u32 0, .int .u32 0])]⟩), (5, ⟨64, [.dat (wsD (wa b 64))]⟩), (6, ⟨4, [.dat (.agg [wD s.a, wD s.b, wD s.c, wD s.d])]⟩), (7, ⟨4, [.dat (.agg [wD s.e, wD s.f, wD s.g, wD s.h])]⟩)]) (by rw [hP]; kernel_rfl) (by kernel_rfl) (by kernel_rfl) ?_ (fun D hD => zem (by simp only [cEv, List.forall_mem_cons]; simp [hD]) (by simp only [cOv, List.forall_mem_cons]; simp [hD])) ⟨rfl, rfl⟩ ?_
 ·intro D i' o ho hD hdep hcd
  have fix6 := z6k (id := 6) (e := [(2, .ptr 2 8 0 0), (4, .ptr 4 8 0 0), (5, .ptr 5 64 0 0)]) (o := [(2, ⟨8, [.dat (s8D s)]⟩), (4, ⟨8, [.dat (.agg [.int .u32 0, .int .u32 0, .int .u32 0, .int .u32 0, .int .u32 0, .int .u32 0, .int .u32 0, .int .u32 0])]⟩), (5, ⟨64, [.dat (wsD (wa b 64))]⟩)]) (by simp [AV.kill]) (by simp [AV.kill])
  have fix7 := z6k (id := 7) (e := [(2, .ptr 2 8 0 0), (4, .ptr 4 8 0 0), (5, .ptr 5 64 0 0)]) (o := [(2, ⟨8, [.dat (s8D s)]⟩), (4, ⟨8, [.dat (.agg [.int .u32 0, .int .u32 0, .int .u32 0, .int .u32 0, .int .u32 0, .int .u32 0, .int .u32 0, .int .u32 0])]⟩), (5, ⟨64, [.dat (wsD (wa b 64))]⟩)]) (by simp [AV.kill]) (by simp [AV.kill])
  generalize hst : ASt.of _ _ = st0 at fix6 fix7 ⊢
  have s2 : st0.env 2 = .ptr 2 8 0 0 := by rw [← hst]; rfl
  have o2 : st0.objs 2 = some ⟨8, [.dat (s8D s)]⟩ := by rw [← hst]; rfl
  clear hst
  have hi10 : i' < 10 := (List.getElem?_eq_some_iff.1 ho).1
  have hcs : i' = 0 ∨ i' = 1 ∨ i' = 2 ∨ i' = 3 ∨ i' = 4 ∨ i' = 5 ∨ i' = 6 ∨ i' = 7 ∨ i' = 8 ∨ i' = 9 := by omega
  rcases hcs with rfl | rfl | rfl | rfl | rfl | rfl | rfl | rfl | rfl | rfl
  ·simp only [List.getElem?_cons_zero, List.getElem?_cons_succ, Option.some.injEq] at ho
   subst ho
   have f0 : (jD (cEv s) (cOv s) st0 D).env 2 = .ptr 2 8 0 0 := (z9x (by simp [cEv])).trans s2
   rw [← z4f (i := 0) (d := 15) (v := .isl 2 8 0 0 4 8) (by simp [cEv]) (by simp [cEv]) (by simp [cEv]) (by simp [cOv])]
   generalize jD (cEv s) (cOv s) st0 D = st1 at *
   refine xa (ops := #[]) rfl ?_
   simp (maxSteps := 2000000) (disch := omega) only [qq, avA, zl, zp, seval, ↓List.forall_mem_cons, Op.operands, hA, tiA, hE, f0]
   all_goals exact SC
  ·simp only [List.getElem?_cons_zero, List.getElem?_cons_succ, Option.some.injEq] at ho
   subst ho
   have f0 : (jD (cEv s) (cOv s) st0 D).env 15 = .isl 2 8 0 0 4 8 := jm (i := 0) (hdep ⟨0, .data⟩ (by simp) rfl) (by simp [cEv]) (by simp [cEv])
   rw [← z4f (i := 1) (d := 16) (v := .ptr 2 8 0 0) (by simp [cEv]) (by simp [cEv]) (by simp [cEv]) (by simp [cOv])]
   generalize jD (cEv s) (cOv s) st0 D = st1 at *
   refine xa (ops := #[]) rfl ?_
   simp (maxSteps := 2000000) (disch := omega) only [qq, avA, zl, zp, seval, ↓List.forall_mem_cons, Op.operands, hA, tiA, hE, f0]
   all_goals exact SC
  ·simp only [List.getElem?_cons_zero, List.getElem?_cons_succ, Option.some.injEq] at ho
   subst ho
   have f0 : (jD (cEv s) (cOv s) st0 D).env 16 = .ptr 2 8 0 0 := jm (i := 1) (hdep ⟨1, .data⟩ (by simp) rfl) (by simp [cEv]) (by simp [cEv])
   have f1 : (jD (cEv s) (cOv s) st0 D).objs 2 = some ⟨8, [.dat (s8D s)]⟩ := (z9y (by simp [cOv])).trans o2
   have f2 := v4.eq_1 s
   rw [← z4f (i := 2) (d := 17) (v := v4 s) (by simp [cEv]) (by simp [cEv]) (by simp [cEv]) (by simp [cOv])]
   generalize jD (cEv s) (cOv s) st0 D = st1 at *
   refine xa (ops := #[]) rfl ?_
   simp (maxSteps := 2000000) (disch := omega) only [qq, avA, zl, zp, seval, ↓List.forall_mem_cons, Op.operands, hA, tiA, hE, f0, f1, f2]
   all_goals exact SC
  ·simp only [List.getElem?_cons_zero, List.getElem?_cons_succ, Option.some.injEq] at ho
   subst ho
   have f0 : (jD (cEv s) (cOv s) st0 D).env 2 = .ptr 2 8 0 0 := (z9x (by simp [cEv])).trans s2
   rw [← z4f (i := 3) (d := 18) (v := .isl 2 8 0 4 4 4) (by simp [cEv]) (by simp [cEv]) (by simp [cEv]) (by simp [cOv])]
   generalize jD (cEv s) (cOv s) st0 D = st1 at *
   refine xa (ops := #[]) rfl ?_
   simp (maxSteps := 2000000) (disch := omega) only [qq, avA, zl, zp, seval, ↓List.forall_mem_cons, Op.operands, hA, tiA, hE, f0]
   all_goals exact SC
  ·simp only [List.getElem?_cons_zero, List.getElem?_cons_succ, Option.some.injEq] at ho
   subst ho
   have f0 : (jD (cEv s) (cOv s) st0 D).env 18 = .isl 2 8 0 4 4 4 := jm (i := 3) (hdep ⟨3, .data⟩ (by simp) rfl) (by simp [cEv]) (by simp [cEv])
   rw [← z4f (i := 4) (d := 19) (v := .ptr 2 8 0 4) (by simp [cEv]) (by simp [cEv]) (by simp [cEv]) (by simp [cOv])]
   generalize jD (cEv s) (cOv s) st0 D = st1 at *
   refine xa (ops := #[]) rfl ?_
   simp (maxSteps := 2000000) (disch := omega) only [qq, avA, zl, zp, seval, ↓List.forall_mem_cons, Op.operands, hA, tiA, hE, f0]
   all_goals exact SC
  ·simp only [List.getElem?_cons_zero, List.getElem?_cons_succ, Option.some.injEq] at ho
   subst ho
   have f0 : (jD (cEv s) (cOv s) st0 D).env 19 = .ptr 2 8 0 4 := jm (i := 4) (hdep ⟨4, .data⟩ (by simp) rfl) (by simp [cEv]) (by simp [cEv])
   have f1 : (jD (cEv s) (cOv s) st0 D).objs 2 = some ⟨8, [.dat (s8D s)]⟩ := (z9y (by simp [cOv])).trans o2
   have f2 := e4.eq_1 s
   rw [← z4f (i := 5) (d := 20) (v := e4 s) (by simp [cEv]) (by simp [cEv]) (by simp [cEv]) (by simp [cOv])]
   generalize jD (cEv s) (cOv s) st0 D = st1 at *
   refine xa (ops := #[]) rfl ?_
   simp (maxSteps := 2000000) (disch := omega) only [qq, avA, zl, zp, seval, ↓List.forall_mem_cons, Op.operands, hA, tiA, hE, f0, f1, f2]
   all_goals exact SC
  ·simp only [List.getElem?_cons_zero, List.getElem?_cons_succ, Option.some.injEq] at ho
   subst ho
   have d8 : D 8 = false := by
    cases h8 : D 8
    ·rfl
    ·have := hcd 8 _ rfl h8 ⟨6, .data⟩ (by simp) rfl
     rw [hD] at this; cases this
   rw [← zlj (i := 6) (d := 6) (id := 6) (v := .ptr 6 4 0 0) (o := ⟨4, [z4]⟩) (by simp [cEv]) (by simp [cEv]) (by simp [cEv]) (by simp [cOv, z3w, d8])]
   rw [← z27 (zjh fix6 (by simp [cEv, v4, e4, AV.kill, hD]) (by simp [cOv, v4, e4, z4, AV.kill]))]
   exact z8p (i := { size := 4, bytes := 16, zero := some [.dat (.int .u32 0), .dat (.int .u32 0), .dat (.int .u32 0), .dat (.int .u32 0)], tk := .array 4 79 }) (z := z4) rfl rfl (by rw [hN]; omega) (by rw [hP]; exact ti160) rfl rfl rfl
  ·simp only [List.getElem?_cons_zero, List.getElem?_cons_succ, Option.some.injEq] at ho
   subst ho
   have d8 : D 9 = false := by
    cases h8 : D 9
    ·rfl
    ·have := hcd 9 _ rfl h8 ⟨7, .data⟩ (by simp) rfl
     rw [hD] at this; cases this
   rw [← zlj (i := 7) (d := 7) (id := 7) (v := .ptr 7 4 0 0) (o := ⟨4, [z4]⟩) (by simp [cEv]) (by simp [cEv]) (by simp [cEv]) (by simp [cOv, z3w, d8])]
   rw [← z27 (zjh fix7 (by simp [cEv, v4, e4, AV.kill, hD]) (by simp [cOv, v4, e4, z4, AV.kill]))]
   exact z8p (i := { size := 4, bytes := 16, zero := some [.dat (.int .u32 0), .dat (.int .u32 0), .dat (.int .u32 0), .dat (.int .u32 0)], tk := .array 4 79 }) (z := z4) rfl rfl (by rw [hN]; omega) (by rw [hP]; exact ti160) rfl rfl rfl
  ·simp only [List.getElem?_cons_zero, List.getElem?_cons_succ, Option.some.injEq] at ho
   have ho2 := ho
   subst ho
   have da := hdep ⟨6, .data⟩ (by simp) rfl
   have fa : (jD (cEv s) (cOv s) st0 D).env 6 = .ptr 6 4 0 0 := jm (i := 6) da (by simp [cEv]) (by simp [cEv])
   have fv : (jD (cEv s) (cOv s) st0 D).env 17 = v4 s := jm (i := 2) (hdep ⟨2, .data⟩ (by simp) rfl) (by simp [cEv]) (by simp [cEv])
   have fo : (jD (cEv s) (cOv s) st0 D).objs 6 = some ⟨4, [z4]⟩ := by simp [jD, cOv, z19, hD, da]
   rw [← zji (i := 8) (id := 6) (o := ⟨4, [v4 s]⟩) (by simp [cOv, z3w]) (by simp [cEv])]
   have he : evA (jD (cEv s) (cOv s) st0 D).env (.tmp 17) = v4 s := fv
   have e : (⟨4, [v4 s]⟩ : AObj) = ⟨4, [z4].set 0 (storeW (evA (jD (cEv s) (cOv s) st0 D).env (.tmp 17)) 0 (([z4][0]?).getD .junk))⟩ := by rw [he]; rfl
   rw [e]
   exact zb5 (ob := ⟨4, [z4]⟩) rfl rfl (by rw [hP]; exact ti160) fa fo rfl (by simp) (by rw [he]; rfl) (by rw [he]; rfl) (by simp [z4, AV.cells])
  ·simp only [List.getElem?_cons_zero, List.getElem?_cons_succ, Option.some.injEq] at ho
   have ho2 := ho
   subst ho
   have da := hdep ⟨7, .data⟩ (by simp) rfl
   have fa : (jD (cEv s) (cOv s) st0 D).env 7 = .ptr 7 4 0 0 := jm (i := 7) da (by simp [cEv]) (by simp [cEv])
   have fv : (jD (cEv s) (cOv s) st0 D).env 20 = e4 s := jm (i := 5) (hdep ⟨5, .data⟩ (by simp) rfl) (by simp [cEv]) (by simp [cEv])
   have fo : (jD (cEv s) (cOv s) st0 D).objs 7 = some ⟨4, [z4]⟩ := by simp [jD, cOv, z19, hD, da]
   rw [← zji (i := 9) (id := 7) (o := ⟨4, [e4 s]⟩) (by simp [cOv, z3w]) (by simp [cEv])]
   have he : evA (jD (cEv s) (cOv s) st0 D).env (.tmp 20) = e4 s := fv
   have e : (⟨4, [e4 s]⟩ : AObj) = ⟨4, [z4].set 0 (storeW (evA (jD (cEv s) (cOv s) st0 D).env (.tmp 20)) 0 (([z4][0]?).getD .junk))⟩ := by rw [he]; rfl
   rw [e]
   exact zb5 (ob := ⟨4, [z4]⟩) rfl rfl (by rw [hP]; exact ti160) fa fo rfl (by simp) (by rw [he]; rfl) (by rw [he]; rfl) (by simp [z4, AV.cells])
 apply z6
 refine WS [2, 4, 5, 6, 7, 21, 22] [2, 4, 5, 6, 7] ?_
 apply zc
 refine WL (ι := {t : Nat // t ≤ 64}) [2, 4, 5, 6, 7, 21] [2, 4, 5] (fun ⟨t, ht⟩ => [(22, .dat (iD t))]) (fun ⟨t, ht⟩ => [(6, ⟨4, [.dat (.agg [wD (roundsM (wa b 64) s t).a, wD (roundsM (wa b 64) s t).b, wD (roundsM (wa b 64) s t).c, wD (roundsM (wa b 64) s t).d])]⟩), (7, ⟨4, [.dat (.agg [wD (roundsM (wa b 64) s t).e, wD (roundsM (wa b 64) s t).f, wD (roundsM (wa b 64) s t).g, wD (roundsM (wa b 64) s t).h])]⟩)]) (fun ⟨t, ht⟩ => 64 - t) (⟨0, by omega⟩) ?_
 rintro ⟨t, ht⟩
 refine LA ?_
 refine WS [2, 4, 5, 6, 7, 21, 22, 23] [2, 4, 5, 6, 7] ?_
 apply z6
 refine WI ?_ ?_ <;> intro hb
 ·have hk := X6 kH t (by rw [zeo]; omega)
  have hw := X6 (wa b 64) t (by rw [yh]; omega)
  have hE := And.intro hE (And.intro hk (And.intro hw (And.intro (roundsM.eq_2 (wa b 64) s t) (And.intro zzi (And.intro zzj (And.intro zzk (And.intro zzl (And.intro zzm (And.intro zzn (And.intro zzo (And.intro zzp (And.intro xM.eq_1 yM.eq_1))))))))))))
  apply z9
  apply z7
  apply z6
  apply zc
  refine WS [2, 4, 5, 6, 7, 8, 9, 21, 22] [2, 4, 5, 6, 7] ?_
  apply wn [2, 4, 5, 6, 7, 10, 21, 22] [2, 4, 5, 6, 7] [0, 1, 2, 3, 4, 5, 6, 7, 8, 9, 10, 11, 12, 13, 14, 15, 16, 17, 18, 19, 20, 21, 22, 23, 24, 25] []
  ·rw [hP]; kernel_rfl
  ·exact hR
  ·kernel_rfl
  ·(repeat (apply PickL.cons; exact rfl)); exact PickL.nil _
  ·refine RN ?_
   refine CU (q07 G _) ?_
   exact SC
  apply wn [2, 4, 5, 6, 7, 10, 11, 21, 22] [2, 4, 5, 6, 7] [0, 1, 2, 3, 4, 5, 6, 7, 8, 9, 10, 11, 12, 13, 14, 15, 16, 17, 18, 19, 20, 21] []
  ·rw [hP]; kernel_rfl
  ·exact hR
  ·kernel_rfl
  ·(repeat (apply PickL.cons; exact rfl)); exact PickL.nil _
  ·refine RN ?_
   refine CU (q06 G _) ?_
   exact SC
  refine WS [2, 4, 5, 6, 7, 10, 11, 21, 22] [2, 4, 5, 6, 7] ?_
  refine WQ [2, 4, 5, 6, 7, 21, 22] [2, 4, 5, 6, 7] ?_
  apply zg
  apply z7
  refine WQ [2, 4, 5, 6, 7, 21, 22] [2, 4, 5, 6, 7] ?_
  refine WN (⟨t + 1, by omega⟩)
 ·apply zn
  apply zh
  have hend : t = 64 := by omega
  subst hend
  apply ze
  apply zw
  apply z7
  apply z6
  have hE := And.intro hE (And.intro (fun i => z08 s (roundsM (wa b 64) s 64) i) (And.intro (show (vL (roundsM (wa b 64) s 64)).length = 4 from rfl) (And.intro (show (eL (roundsM (wa b 64) s 64)).length = 4 from rfl) (@List.length_set W32))))
  rw [zzr, q0a, q03]
  refine WS [2, 4, 6, 7, 94] [2, 4, 6, 7] ?_
  apply zc
  refine WL (ι := {i : Nat // i ≤ 4}) [2, 4, 6, 7] [4, 6, 7] (fun ⟨i, hi⟩ => [(94, .dat (iD i))]) (fun ⟨i, hi⟩ => [(2, ⟨8, [.dat (wsD (addL s (roundsM (wa b 64) s 64) i))]⟩)]) (fun ⟨i, hi⟩ => 4 - i) (⟨0, by omega⟩) ?_
  rintro ⟨i, hi⟩
  refine LA ?_
  refine WS [2, 4, 6, 7, 94, 95] [2, 4, 6, 7] ?_
  apply z6
  refine WI ?_ ?_ <;> intro hb
  ·have h4 : IntKind.i64.wrap ((i : Int) + 4) = ((i + 4 : Nat) : Int) := by rw [IntWalk.i64_in _ (by omega)]; omega
   have g1 := X6 (addL s (roundsM (wa b 64) s 64) i) i (by rw [z08]; omega)
   have g2 := X6 (vL (roundsM (wa b 64) s 64)) i (by show i < 4; omega)
   have g3 := X6 (eL (roundsM (wa b 64) s 64)) i (by show i < 4; omega)
   have g4 := fun y => X6 ((addL s (roundsM (wa b 64) s 64) i).set i y) (i + 4) (by rw [List.length_set, z08]; omega)
   have t1 := zt0 (addL s (roundsM (wa b 64) s 64) i) i (by rw [z08]; omega)
   have t2 := fun y => zt0 ((addL s (roundsM (wa b 64) s 64) i).set i y) (i + 4) (by rw [List.length_set, z08]; omega)
   have hE := And.intro hE (And.intro h4 (And.intro g1 (And.intro g2 (And.intro g3 (And.intro g4 (And.intro t1 (And.intro t2 (addL.eq_2 s (roundsM (wa b 64) s 64) i))))))))
   apply z9
   apply z7
   apply z6
   apply zc
   refine WS [2, 4, 6, 7, 12, 94] [2, 4, 6, 7] ?_
   refine WD [2, 4, 6, 7, 12, 94] [2, 4, 6, 7] [0, 1, 2, 3, 4, 5, 6, 7, 8] [] ?_
   refine WDQ [2, 4, 6, 7, 94] [2, 4, 6, 7] [0, 1, 2, 3, 4, 5, 6, 7, 8, 9] [] ?_
   apply zg
   apply z7
   refine WQ [2, 4, 6, 7, 94] [2, 4, 6, 7] ?_
   refine WN (⟨i + 1, by omega⟩)
  ·apply zn
   apply zh
   have hend : i = 4 := by omega
   subst hend
   apply ze
   apply zw
   apply z7
   rw [zx0]
   refine WS [4] [4] ?_
   apply za
   exact E0
def bkF (M blk : List Int) (n0 : Nat) : Nat → List Int
 | 0 => blk
 | j + 1 => (bkF M blk n0 j).set ((n0 + j) % 64) (M.getD (n0 + j) 0)
theorem z0z (M blk : List Int) (n0 : Nat) : ∀ j, (bkF M blk n0 j).length = blk.length
 | 0 => rfl
 | j + 1 => by simp [bkF, z0z M blk n0 j]
def z40 (M : List Int) (n : Nat) (blk : List Int) : Prop := blk.length = 64 ∧ ∀ i, i < n % 64 → blk.getD i 0 = M.getD (64 * (n / 64) + i) 0
theorem z4y (l : List Int) (i k : Nat) (x : Int) (hi : i < l.length) : (l.set i x).getD k 0 = if k = i then x else l.getD k 0 := by
 simp only [List.getD_eq_getElem?_getD, List.getElem?_set]
 by_cases h : i = k
 ·subst h; simp [hi]
 ·simp [h, Ne.symm h]
theorem zij {M blk : List Int} {n0 : Nat} (h : z40 M n0 blk) : ∀ j i, i < 64 → (i < (n0 + j) % 64 → (bkF M blk n0 j).getD i 0 = M.getD (64 * ((n0 + j) / 64) + i) 0) ∧ (0 < j → (n0 + j) % 64 = 0 → (bkF M blk n0 j).getD i 0 = M.getD (64 * ((n0 + j) / 64 - 1) + i) 0)
 | 0, i, hi => ⟨fun h1 => h.2 i h1, fun h0 => absurd h0 (Nat.lt_irrefl 0)⟩
 | j + 1, i, hi => by
  have ih := zij h j i hi
  have hl : (n0 + j) % 64 < (bkF M blk n0 j).length := by rw [z0z, h.1]; omega
  simp only [bkF]
  rw [z4y _ _ _ _ hl]
  constructor
  ·intro h1
   by_cases he : i = (n0 + j) % 64
   ·rw [if_pos he]
    congr 1
    omega
   ·rw [if_neg he, ih.1 (by omega)]
    congr 2
    omega
  ·intro _ h1
   by_cases he : i = (n0 + j) % 64
   ·rw [if_pos he]
    congr 1
    omega
   ·rw [if_neg he, ih.1 (by omega)]
    congr 2
    omega
theorem zx5 {M blk : List Int} {n0 : Nat} (h : z40 M n0 blk) (j : Nat) : z40 M (n0 + j) (bkF M blk n0 j) :=
 ⟨by rw [z0z]; exact h.1, fun i hi => (zij h j i (by omega)).1 hi⟩
theorem zq3 {M blk : List Int} {n0 j : Nat} (h : z40 M n0 blk) (hj : 0 < j) (h0 : (n0 + j) % 64 = 0) (hl : n0 + j ≤ M.length) : bkF M blk n0 j = Qj M ((n0 + j) / 64 - 1) := by
 have hlen : (bkF M blk n0 j).length = 64 := by rw [z0z]; exact h.1
 have hb : (Qj M ((n0 + j) / 64 - 1)).length = 64 := ze4 (by omega)
 refine List.ext_getElem (by rw [hlen, hb]) fun i h1 h2 => ?_
 have h3 := (zij h j i (by omega)).2 hj h0
 have e1 : (bkF M blk n0 j).getD i 0 = (bkF M blk n0 j)[i] := by simp [h1]
 rw [← e1, h3]
 have h4 : 64 * ((n0 + j) / 64 - 1) + i < M.length := by omega
 simp only [Qj, List.getElem_take, List.getElem_drop]
 simp [h4]
theorem zc7 {M blk : List Int} {n0 : Nat} (hb : blk.length = 64) (j : Nat) : ∀ k, (n0 + j) % 64 + k ≤ 64 → n0 + j + k ≤ M.length →
  bkF M blk n0 (j + k) = (bkF M blk n0 j).take ((n0 + j) % 64) ++ (M.drop (n0 + j)).take k ++ (bkF M blk n0 j).drop ((n0 + j) % 64 + k)
 | 0, _, _ => by simp
 | k + 1, h1, h2 => by
  have ih := zc7 (M := M) (n0 := n0) hb j k (by omega) (by omega)
  have hlen : (bkF M blk n0 j).length = 64 := by rw [z0z]; exact hb
  rw [← Nat.add_assoc]
  simp only [bkF]
  rw [ih]
  have hm : (n0 + (j + k)) % 64 = (n0 + j) % 64 + k := by omega
  have hA : ((bkF M blk n0 j).take ((n0 + j) % 64)).length = (n0 + j) % 64 := by rw [List.length_take]; omega
  have hB : ((M.drop (n0 + j)).take k).length = k := by rw [List.length_take, List.length_drop]; omega
  rw [hm, List.set_append_right _ _ (by rw [List.length_append, hA, hB]; exact Nat.le_refl _), List.length_append, hA, hB, Nat.sub_self]
  have hd : (bkF M blk n0 j).drop ((n0 + j) % 64 + k) = (bkF M blk n0 j)[(n0 + j) % 64 + k]'(by omega) :: (bkF M blk n0 j).drop ((n0 + j) % 64 + k + 1) := List.drop_eq_getElem_cons (by omega)
  rw [hd, List.set_cons_zero]
  have ht : (M.drop (n0 + j)).take (k + 1) = (M.drop (n0 + j)).take k ++ [M.getD (n0 + (j + k)) 0] := by
   rw [List.take_add_one, List.getElem?_drop, List.getElem?_eq_getElem (show n0 + j + k < M.length by omega)]
   have : n0 + j + k < M.length := by omega
   simp [← Nat.add_assoc, this]
  rw [ht]
  simp [Nat.add_assoc]
theorem ztq (m t : List Int) {k : Nat} (h : 64 * k + 64 ≤ m.length) : Qj (m ++ t) k = Qj m k := by
 unfold Qj
 rw [List.drop_append_of_le_length (by omega), List.take_append_of_le_length (by rw [List.length_drop]; omega)]
theorem z8u (s : S8) (m t : List Int) : ∀ k, 64 * k ≤ m.length → blocksM s (m ++ t) k = blocksM s m k
 | 0, _ => rfl
 | k + 1, h => by
  simp only [blocksM]
  rw [z8u s m t k (by omega), ztq m t (by omega)]
theorem zfx {m t blk : List Int} (h : z40 m m.length blk) : z40 (m ++ t) m.length blk :=
 ⟨h.1, fun i hi => by
   rw [h.2 i hi]
   have : 64 * (m.length / 64) + i < m.length := by omega
   simp [List.getElem?_append_left this]⟩
theorem zfy {blk : List Int} (h : blk.length = 64) : z40 [] 0 blk := ⟨h, fun i hi => by simp at hi⟩
def ka (s : ByteArray) (p : Nat) : ByteArray := s.extract p s.size
theorem zvi (s : ByteArray) : ka s 0 = s := by simp [ka]
theorem zap (s : ByteArray) (p : Nat) : (ka s p).size = s.size - p := by simp [ka]
theorem zvj (s : ByteArray) (p : Nat) : yu (ka s p) = (yu s).drop p := by
 unfold yu ka
 rw [← List.map_drop]
 congr 1
 rw [ByteArray.data_extract, Array.toList_extract, List.extract_eq_take_drop, List.take_of_length_le (by simp)]
theorem zo7 (s : ByteArray) (p k : Nat) : (ka s p).extract k (ka s p).size = ka s (p + k) := by
 rw [zap]
 unfold ka
 rw [ByteArray.extract_extract]
 congr 1
 omega
abbrev z3z (s : S8) (blk : List Int) (n : Nat) : Dat := .agg (wD s.a :: wD s.b :: wD s.c :: wD s.d :: wD s.e :: wD s.f :: wD s.g :: wD s.h :: (blk.map u8D ++ [.int .u64 n]))
abbrev stD (m blk : List Int) : Dat := z3z (blocksM iv8 m (m.length / 64)) blk m.length
section
variable {blk : List Int} (h : blk.length = 64)
include h
theorem zkh (x : AV) : (List.map AV.dat (List.map u8D blk) ++ [x])[64]?.getD .junk = x := by
 rw [List.getElem?_append_right (by simp [h])]
 simp [h]
theorem zfc (x : AV) : List.take 64 (List.map AV.dat (List.map u8D blk) ++ [x]) = List.map AV.dat (List.map u8D blk) := by
 rw [List.take_append_of_le_length (by simp [h])]
 exact List.take_of_length_le (by simp [h])
theorem zkg (x : AV) : List.take 65 (List.map AV.dat (List.map u8D blk) ++ [x]) = List.map AV.dat (List.map u8D blk) ++ [x] := List.take_of_length_le (by simp [h])
theorem zfb (x : AV) : List.drop 65 (List.map AV.dat (List.map u8D blk) ++ [x]) = [] := List.drop_of_length_le (by simp [h])
end
theorem zt4 {blk : List Int} (h : blk.length = 64) (x : Dat) : List.take 64 (List.map u8D blk ++ [x]) = List.map u8D blk := by
 rw [List.take_append_of_le_length (by simp [h])]
 exact List.take_of_length_le (by simp [h])
theorem zwt (blk : List Int) (n : Int) : zl (List.map AV.dat (List.map u8D blk) ++ [.dat (.int .u64 n)]) = some (List.map u8D blk ++ [.int .u64 n]) := by
 have e : List.map AV.dat (List.map u8D blk) ++ [AV.dat (.int .u64 n)] = (List.map u8D blk ++ [Dat.int .u64 n]).map AV.dat := by simp
 rw [e]
 exact zea _ fun d hd => by
  simp only [List.mem_append, List.mem_map, List.mem_singleton] at hd
  rcases hd with ⟨y, _, rfl⟩ | rfl <;> rfl
theorem zw8 (s : S8) {blk : List Int} (h : blk.length = 64) (n : Nat) (at_ k : Nat) (hk : at_ + k ≤ 64) (c : List Int) :
  Dat.agg (List.take (8 + at_) (wD s.a :: wD s.b :: wD s.c :: wD s.d :: wD s.e :: wD s.f :: wD s.g :: wD s.h :: (blk.map u8D ++ [.int .u64 n])) ++ c.map (Dat.int .u8) ++ List.drop (8 + at_ + k) (wD s.a :: wD s.b :: wD s.c :: wD s.d :: wD s.e :: wD s.f :: wD s.g :: wD s.h :: (blk.map u8D ++ [.int .u64 n])))
   = z3z s (blk.take at_ ++ c ++ blk.drop (at_ + k)) n := by
 have e1 : 8 + at_ = at_ + 1 + 1 + 1 + 1 + 1 + 1 + 1 + 1 := by omega
 have e2 : 8 + at_ + k = (at_ + k) + 1 + 1 + 1 + 1 + 1 + 1 + 1 + 1 := by omega
 rw [e2, e1]
 simp only [List.take_succ_cons, List.drop_succ_cons, List.cons_append]
 rw [List.take_append_of_le_length (by rw [List.length_map]; omega), List.drop_append_of_le_length (by rw [List.length_map]; omega)]
 simp only [z3z, List.map_append, List.map_take, List.map_drop, List.append_assoc]
theorem zw9 (s : S8) (l : List AV) {k : Nat} (h : k < 8) : ((AV.dat (wD s.a) :: AV.dat (wD s.b) :: AV.dat (wD s.c) :: AV.dat (wD s.d) :: AV.dat (wD s.e) :: AV.dat (wD s.f) :: AV.dat (wD s.g) :: AV.dat (wD s.h) :: l)[k]?).getD .junk = .dat (wD ((sL s).getD k 0#32)) := by
 have hk : k = 0 ∨ k = 1 ∨ k = 2 ∨ k = 3 ∨ k = 4 ∨ k = 5 ∨ k = 6 ∨ k = 7 := by omega
 rcases hk with rfl | rfl | rfl | rfl | rfl | rfl | rfl | rfl <;> rfl
theorem zpl {M blk : List Int} {n0 : Nat} {text : ByteArray} (hb : blk.length = 64) (hM : M.length = n0 + text.size) (ht : yu text = M.drop n0) {p a k : Nat} (ha : a = (n0 + p) % 64) (hk : k = min (text.size - p) (64 - a)) (hp : p ≤ text.size) :
  (bkF M blk n0 p).take a ++ (yu (ka text p)).take (64 - a) ++ (bkF M blk n0 p).drop (a + k) = bkF M blk n0 (p + k) := by
 have e : yu (ka text p) = M.drop (n0 + p) := by rw [zvj, ht, List.drop_drop]
 have e2 : (M.drop (n0 + p)).take (64 - a) = (M.drop (n0 + p)).take k := by
  rw [List.take_eq_take_iff, List.length_drop]
  omega
 rw [e, e2, zc7 hb p k (by omega) (by omega), ← ha]
theorem zo8 (s : ByteArray) : ka s s.size = ⟨#[]⟩ := by
 apply ByteArray.ext
 rw [ka, ByteArray.data_extract]
 apply Array.eq_empty_of_size_eq_zero
 simp
def z8 : S8 := ⟨0, 0, 0, 0, 0, 0, 0, 0⟩
theorem zwe : mkAgg (List.replicate 8 (AV.dat (.int .u32 0)) ++ List.replicate 64 (AV.dat (.int .u8 0)) ++ List.replicate 1 (AV.dat (.int .u64 0))) = .dat (z3z z8 y64 0) := by rfl
theorem zdy (m : List Int) (text : ByteArray) : (m ++ yu text).length = m.length + text.size := by rw [List.length_append, j8]
set_option maxRecDepth 100000 in
set_option maxHeartbeats 1000000 in
theorem zq0 (G) : zo Tryz.prog G 36 [] [stD [] y64] := by
 skip
 refine GI [] [] [] Tryz.func36 Tryz.ntmps36 fun F hP hG hN hR hA => ?_
 have hE := @Tryz.results36
 refine WS [0] [0] ?_
 refine WS [0] [0] ?_
 apply za
 exact E0
set_option maxRecDepth 100000 in
set_option maxHeartbeats 1000000 in
theorem zpk (G) (hgk : G.lookup 1 = some (wsD kH)) (M blk : List Int) (n0 : Nat) (hb0 : z40 M n0 blk) (text : ByteArray) (hib : isB M) (hM : M.length = n0 + text.size) (ht : yu text = M.drop n0) (hl : M.length ≤ 2199023255552) : zo Tryz.prog G 37 [z3z (blocksM iv8 M (n0 / 64)) blk n0, .str text] [z3z (blocksM iv8 M ((n0 + text.size) / 64)) (bkF M blk n0 text.size) (n0 + text.size)] := by
 have hbl : ∀ p, (bkF M blk n0 p).length = 64 := fun p => by rw [z0z]; exact hb0.1
 skip
 skip
 refine GI [] [] [] Tryz.func37 Tryz.ntmps37 fun F hP hG hN hR hA => ?_
 have hE := And.intro @Tryz.results37 (And.intro @hbl (And.intro @hb0.1 (And.intro @Int.toNat_natCast (And.intro @Nat.add_zero (And.intro (bkF.eq_1 M blk n0) (And.intro @zvi (And.intro (fun q => zkh (hbl q)) (And.intro (fun q => zfc (hbl q)) (And.intro (fun q => zkg (hbl q)) (And.intro (fun q => zfb (hbl q)) (@zwt)))))))))))
 apply zu [1, 2, 4] [2, 4]
 ·simp (maxSteps := 2000000) (disch := omega) only [qq, avA, zl, zp, seval, ↓List.forall_mem_cons, Op.operands, hA, tiA, hE, ↓zwe, -List.reduceReplicate]
  exact SC
 apply z6
 apply zc
 refine WL (ι := {p : Nat // p ≤ text.size}) [2, 4] [4] (fun ⟨p, hp⟩ => [(1, .dat (.str (ka text p)))]) (fun ⟨p, hp⟩ => [(2, ⟨73, [.dat (z3z (blocksM iv8 M ((n0 + p) / 64)) (bkF M blk n0 p) (n0 + p))]⟩)]) (fun ⟨p, hp⟩ => text.size - p) (⟨0, by omega⟩) ?_
 rintro ⟨p, hp⟩
 refine LA ?_
 have hrs := zap text p
 apply z6
 refine WS [1, 2, 4, 8] [2, 4] ?_
 refine WI ?_ ?_ <;> intro hb
 ·have hlt : p < text.size := by
   rcases Nat.lt_or_ge p text.size with h | h
   ·exact h
   ·exfalso
    have : p = text.size := by omega
    subst this
    exact hb (by rw [zo8])
  obtain ⟨a, ha⟩ : ∃ a, a = (n0 + p) % 64 := ⟨_, rfl⟩
  obtain ⟨k, hk⟩ : ∃ k, k = min (text.size - p) (64 - a) := ⟨_, rfl⟩
  have q1 : IntKind.i64.wrap (((n0 + p : Nat) : Int).tmod 64) = ((a : Nat) : Int) := by rw [Int.tmod_eq_emod_of_nonneg (by omega), IntWalk.i64_in _ (by omega)]; omega
  have hmk : min (ka text p).size (64 - a) = k := by rw [hrs]; exact hk.symm
  have hcut : (ka text p).extract k (ka text p).size = ka text (p + k) := zo7 text p k
  have q4 : IntKind.u64.wrap ((k : Nat) : Int) = ((k : Nat) : Int) := IntWalk.u64_in _ (by omega)
  have q5 : IntKind.u64.wrap (((n0 + p : Nat) : Int) + ((k : Nat) : Int)) = ((n0 + (p + k) : Nat) : Int) := by rw [IntWalk.u64_in _ (by omega)]; omega
  have q6 : IntKind.i64.wrap (((a : Nat) : Int) + ((k : Nat) : Int)) = ((a + k : Nat) : Int) := by rw [IntWalk.i64_in _ (by omega)]; omega
  have hcp := zw8 (blocksM iv8 M ((n0 + p) / 64)) (hbl p) (n0 + p) a k (by omega) ((yu (ka text p)).take (64 - a))
  rw [zpl hb0.1 hM ht ha hk hp] at hcp
  have hE := And.intro hE (And.intro q1 (And.intro hcut (And.intro q4 (And.intro q5 q6))))
  apply z9
  apply z7
  apply zc
  refine WS [1, 2, 4, 5] [2, 4] ?_
  refine qo ?_
  apply qz
  ·(iterate 4 apply Seg.cons); exact Seg.nil _
  ·refine RK ?_
   exact SC
  refine ws rfl (zqe rfl rfl (by rw [hN]; omega) (by rw [hP]; exact ti47) rfl (by rw [hP]; exact ti5) rfl rfl rfl rfl rfl rfl (by simp only [List.length_cons, List.length_append, List.length_map, List.length_nil, hbl]; omega)) ?_
  rw [zab, ww, hmk]
  rw [hcp]
  apply vi [1, 2, 4, 5, 6] [2, 4]
  ·refine RN ?_
   exact SC
  refine WS [1, 2, 4, 5, 6] [2, 4] ?_
  refine WS [1, 2, 4, 5, 6] [2, 4] ?_
  refine WS [1, 2, 4, 30] [2, 4] ?_
  refine WI ?_ ?_ <;> intro hb
  ·have hdiv : (n0 + (p + k)) / 64 = (n0 + p) / 64 + 1 := by omega
   have hfull : bkF M blk n0 (p + k) = Qj M ((n0 + p) / 64) := by rw [zq3 hb0 (by omega) (by omega) (by omega), hdiv, Nat.add_sub_cancel]
   have hlb : (Qj M ((n0 + p) / 64)).length = 64 := ze4 (by omega)
   have hE := And.intro hE (And.intro hdiv (And.intro hfull (And.intro hlb (And.intro (zt4 hlb) (And.intro (zkh hlb) (And.intro (zfc hlb) (And.intro (zkg hlb) (And.intro (zfb hlb) (blocksM.eq_2 iv8 M ((n0 + p) / 64))))))))))
   apply z0y [1, 2, 4] [2, 4] [0, 1, 2, 3, 4, 5, 6] []
   ·rw [hP]; kernel_rfl
   ·exact hR
   ·kernel_rfl
   ·(repeat (apply PickL.cons; exact rfl)); exact PickL.nil _
   ·refine RN ?_
    (repeat' refine And.intro ?_ ?_) <;> try exact SD
    refine CallC.use (gvF hP hG (zg6 G hgk (blocksM iv8 M ((n0 + p) / 64)) (Qj M ((n0 + p) / 64)) (zlh hib _) hlb)) (by simp only [xe, qg, qa, xu, qx, vg, xk, xx, xt, vf, xw, xh, xy, avA, zl, zp, seval, ↓List.forall_mem_cons, Op.operands, hE] <;> rfl) ?_
    try simp (maxSteps := 2000000) (disch := omega) only [qq, avA, zl, zp, seval, ↓List.forall_mem_cons, Op.operands, hA, tiA, hE]
    exact SC
   apply zg
   refine WN (⟨p + k, by omega⟩)
  ·have hdiv : (n0 + (p + k)) / 64 = (n0 + p) / 64 := by omega
   have hE := And.intro hE hdiv
   apply z9
   apply zg
   refine WN (⟨p + k, by omega⟩)
 ·apply zn
  apply zh
  have hend : p = text.size := by
   have h1 : ka text p = ⟨#[]⟩ := z5r hb
   have h2 := congrArg ByteArray.size h1
   rw [hrs] at h2
   have h3 : (⟨#[]⟩ : ByteArray).size = 0 := rfl
   omega
  subst hend
  apply ze
  apply zw
  apply z7
  apply zu [4] [4]
  ·simp (maxSteps := 2000000) (disch := omega) only [qq, avA, zl, zp, seval, ↓List.forall_mem_cons, Op.operands, hA, tiA, hE, zfl]
   exact SC
  apply za
  exact E0
theorem zx1 (G) (hgk : G.lookup 1 = some (wsD kH)) (m blk : List Int) (hb0 : z40 m m.length blk) (text : ByteArray) (hib : isB m) (hl : m.length + text.size ≤ 2199023255552) : zo Tryz.prog G 37 [stD m blk, .str text] [stD (m ++ yu text) (bkF (m ++ yu text) blk m.length text.size)] := by
 have h := zpk G hgk (m ++ yu text) blk m.length (zfx hb0) text (zlg hib (zuk text)) (zdy m text) (by simp) (by rw [zdy]; exact hl)
 rw [z8u iv8 m (yu text) _ (by omega)] at h
 have e := zdy m text
 show zo Tryz.prog G 37 [z3z (blocksM iv8 m (m.length / 64)) blk m.length, .str text] [z3z (blocksM iv8 (m ++ yu text) ((m ++ yu text).length / 64)) (bkF (m ++ yu text) blk m.length text.size) ((m ++ yu text).length : Nat)]
 rw [e]
 exact h
end Go.Proofs.YtabjaaonfaejmaaGreatDoor

