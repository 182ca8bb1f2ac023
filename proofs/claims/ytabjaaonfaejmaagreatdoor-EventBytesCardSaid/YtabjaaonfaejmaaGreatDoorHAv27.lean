/- A part of the proof. -/
import Derived.Test.YtabjaaonfaejmaaGreatDoorHAv26
set_option linter.all false
namespace Go.Av
mutual
theorem z0h (d e : Nat) : ∀ x : AV, (x.kill d).kill e = (x.kill e).kill d
 | .junk => rfl
 | .dat _ => rfl
 | .agg l => by simp only [AV.kill]; rw [z16 d e l]
 | .tup l => by simp only [AV.kill]; rw [z16 d e l]
 | .osl i es off len => by
  simp only [AV.kill]
  by_cases h1 : i = d <;> by_cases h2 : i = e <;> simp [h1, h2, AV.kill] <;> (subst_vars; simp_all [AV.kill])
 | .nils => rfl
 | .lits _ => rfl
 | .ptr i es k off => by
  simp only [AV.kill]
  by_cases h1 : i = d <;> by_cases h2 : i = e <;> simp [h1, h2, AV.kill] <;> (subst_vars; simp_all [AV.kill])
 | .gl _ _ => rfl
 | .rp _ _ => rfl
 | .fn f caps => by simp only [AV.kill]; rw [z16 d e caps]
 | .cond b v => by simp only [AV.kill]; rw [z0h d e v]
 | .raw _ => rfl
 | .mp i => by
  simp only [AV.kill]
  by_cases h1 : i = d <;> by_cases h2 : i = e <;> simp [h1, h2, AV.kill] <;> (subst_vars; simp_all [AV.kill])
 | .isl i es k off len cap => by
  simp only [AV.kill]
  by_cases h1 : i = d <;> by_cases h2 : i = e <;> simp [h1, h2, AV.kill] <;> (subst_vars; simp_all [AV.kill])
theorem z16 (d e : Nat) : ∀ l : List AV, killL e (killL d l) = killL d (killL e l)
 | [] => rfl
 | v :: l => by simp only [killL]; rw [z0h d e v, z16 d e l]
end
theorem NM.of_kill (d : Nat) (st : ASt) : NM d (st.kill d) := by
 refine ⟨fun n => kw d _, by simp [ASt.kill], fun i o h => ?_⟩
 simp only [ASt.kill] at h
 split at h
 ·simp at h
 ·rw [Option.map_eq_some_iff] at h
  obtain ⟨o', _, rfl⟩ := h
  simp only [List.map_map]
  apply List.map_congr_left
  intro x _
  exact kw d x
theorem NM.kill {d : Nat} {st : ASt} (h : NM d st) (e : Nat) : NM d (st.kill e) := by
 refine ⟨fun n => ?_, ?_, fun i o ho => ?_⟩
 ·simp only [ASt.kill]; rw [z0h, h.1 n]
 ·simp only [ASt.kill]; split
  ·rfl
  ·rw [h.2.1]; rfl
 ·simp only [ASt.kill] at ho
  split at ho
  ·simp at ho
  ·rw [Option.map_eq_some_iff] at ho
   obtain ⟨o', ho', rfl⟩ := ho
   have := h.2.2 i o' ho'
   simp only [List.map_map]
   conv => rhs; rw [← this]
   simp only [List.map_map]
   apply List.map_congr_left
   intro x _
   exact z0h e d x
theorem NM.dropO {d : Nat} {st : ASt} (h : NM d st) (old : Option Nat) : NM d (st.dropO old) := by
 cases old with
 | none => exact h
 | some q =>
  refine ⟨h.1, ?_, fun k o ho => ?_⟩
  ·simp only [ASt.dropO, ASt.drop, q9]
   split
   ·rfl
   ·exact h.2.1
  ·simp only [ASt.dropO, ASt.drop, q9] at ho
   split at ho
   ·simp at ho
   ·exact h.2.2 k o ho
theorem zmj {objs : Nat → Option AObj} {x : AV} {size d : Nat} {old : Option Nat} {olds : List AV} (hf : ∀ i o, objs i = some o → o.elems.map (AV.kill d) = o.elems) (h : baseA objs size x = some (old, olds)) : olds.map (AV.kill d) = olds := by
 unfold baseA at h
 split at h <;> try (simp at h; done)
 ·simp only [Option.some.injEq, Prod.mk.injEq] at h
  obtain ⟨_, rfl⟩ := h
  rfl
 ·rename_i id es off len
  cases ho : objs id with
  | none => simp [ho] at h
  | some o =>
   simp only [ho] at h
   split at h <;> try (simp at h; done)
   simp only [Option.some.injEq, Prod.mk.injEq] at h
   obtain ⟨_, rfl⟩ := h
   exact z8e fun c hc => j1 (hf id o ho) c (List.mem_of_mem_drop (List.mem_of_mem_take hc))
theorem NM.app {d e : Nat} {st : ASt} {size : Nat} {old : Option Nat} {elems : List AV} (h : NM e st) (hne : d ≠ e) (hel : elems.map (AV.kill e) = elems) : NM e (appSt st d size old elems) := by
 refine NM.put (NM.obj ((h.dropO old).kill d) hne ?_) (by simp [AV.kill, hne])
 simp only [List.map_map]
 conv => rhs; rw [← hel]
 simp only [List.map_map]
 apply List.map_congr_left
 intro x _
 exact z0h d e x
def isM (F : FC) (o : Oper) : Prop := isC F.rows F.lits F.apps o = true ∨ Zg F.rows F.lits F.apps o = true
def Dst (F : FC) (x y : Oper) : Prop := (isM F x ∨ isM F y) → ∀ d, x.dst = some d → y.dst ≠ some d
theorem z57 {F : FC} {ops : Array Oper} {x y : Oper} {st st' : ASt} (h : Eff F ops x st st') (hx : NMo F x st) (hy : NMo F y st) (hd : Dst F x y) : NMo F y st' := fun hc d hyd => by
 refine h.nm hx (fun e => ?_) (hy hc d hyd)
 exact hd (.inr hc) d e hyd
def zbv (o : Oper) : Bool := o.guard.isNone && match o.op with
 | .store _ _ _ => o.dst.isNone
 | _ => false
def X8 (o : Oper) : Bool := o.guard.isNone && match o.op with
 | .move _ | .assign _ | .indexAddr _ _ _ | .fieldAddr _ _ _ | .binOp _ _ _ _ _ | .unOp _ _ _ | .extract _ _ | .nilCheck _ | .sliceToArrayPointer _ _ => o.dst.isSome
 | _ => false
theorem zjg {rows lits apps : List Nat} {o : Oper} (h : zbv o = true) : ¬ Zg rows lits apps o = true := by
 intro h2
 unfold zbv at h
 unfold Zg at h2
 simp only [Bool.and_eq_true] at h h2
 obtain ⟨_, h⟩ := h
 obtain ⟨_, h2⟩ := h2
 split at h <;> try (simp at h; done)
 rename_i hop
 split at h2 <;> try (simp at h2; done)
 rw [hop] at h2
 simp at h2
theorem zjf {F : FC} {o : Oper} (h : X8 o = true) : z5z F o := by
 refine .inl ?_
 unfold X8 at h
 unfold isN
 simp only [Bool.and_eq_true] at h
 obtain ⟨_, h⟩ := h
 split at h <;> first | (simp at h; done) | (rename_i hop; rw [hop]; exact h)
theorem znn {F : FC} {o : Oper} (h : X8 o = true) : isC F.rows F.lits F.apps o = false := by
 unfold X8 at h
 unfold isC
 simp only [Bool.and_eq_true] at h
 obtain ⟨_, h⟩ := h
 split at h <;> first | (simp at h; done) | (rename_i hop; cases o.dst <;> simp [hop])
theorem zra {F : FC} {o : Oper} (h : zbv o = true) : ¬ z5z F o := by
 obtain ⟨dst, op, ty, pos, aft, gd⟩ := o
 cases op <;> simp [zbv] at h
 rintro (h2 | h2)
 ·simp [isN] at h2
 ·simp only [isC, h.2] at h2
  simp at h2
theorem zvd {F : FC} {o : Oper} (h : X8 o = true) (f g : Nat → Option AObj) (ρ : Operand → AV) : opV F f ρ o.op = opV F g ρ o.op := by
 unfold X8 at h
 simp only [Bool.and_eq_true] at h
 obtain ⟨_, h⟩ := h
 split at h <;> first | (simp at h; done) | (rename_i hop; rw [hop]; rfl)
theorem zdj {F : FC} {ops : Array Oper} {o : Oper} (h : X8 o = true) (st : ASt) (K : ASt → Prop) : ve F ops o st K = ((dstOK F o.dst ∧ (opV F st.objs (evA st.env) o.op).1) ∧ K (st.put o.dst (opV F st.objs (evA st.env) o.op).2)) := by
 obtain ⟨dst, op, ty, pos, aft, gd⟩ := o
 unfold X8 at h
 simp only [Bool.and_eq_true] at h
 obtain ⟨hg, h⟩ := h
 cases gd with
 | some _ => simp at hg
 | none => cases op <;> first | (simp at h; done) | rfl
theorem zno {F : FC} {o : Oper} (h : X8 o = true) : ¬ isM F o := by
 rintro (h2 | h2)
 ·rw [znn h] at h2; cases h2
 ·unfold X8 at h
  unfold Zg at h2
  simp only [Bool.and_eq_true] at h
  obtain ⟨_, h⟩ := h
  split at h <;> first | (simp at h; done) | (rename_i hop; cases hd : o.dst <;> simp [hop, hd] at h2)
theorem zp7 {F : FC} {ops : Array Oper} {j i : Oper} (hj : zbv j = true) (hi : X8 i = true) (hf : Free ops j i) {st : ASt} {K : ASt → Prop} (h : ve F ops j st fun st' => ve F ops i st' K) : ve F ops i st fun st' => ve F ops j st' K := by
 rw [zdj hi]
 obtain ⟨dst, op, ty, pos, aft, gd⟩ := j
 cases op <;> simp [zbv] at hj
 rename_i t ad x
 obtain ⟨rfl, rfl⟩ := hj
 have hag : Agree ops ⟨none, .store t ad x, ty, pos, aft, none⟩ st.env (st.put i.dst (opV F st.objs (evA st.env) i.op).2).env := Free.agree fun q hq => hf.2 q hq
 have hea : evA (st.put i.dst (opV F st.objs (evA st.env) i.op).2).env ad = evA st.env ad := (hag.evA ad (by simp [Op.operands])).symm
 have hex : evA (st.put i.dst (opV F st.objs (evA st.env) i.op).2).env x = evA st.env x := (hag.evA x (by simp [Op.operands])).symm
 have hobj : (st.put i.dst (opV F st.objs (evA st.env) i.op).2).objs = st.objs := by cases i.dst <;> rfl
 unfold ve jv at h ⊢
 simp only [hea, hex, hobj] at h ⊢
 cases hti : ti F.P t with
 | none => simp [hti] at h
 | some ii =>
  cases hev : evA st.env ad <;> simp only [hti, hev] at h ⊢ <;> try (exact h.elim)
  rename_i id es k off
  cases ho : st.objs id with
  | none => simp [ho] at h
  | some ob =>
   simp only [ho] at h ⊢
   obtain ⟨h1, h2⟩ := h
   have h2' : ve F ops i (st.obj id ⟨es, ob.elems.set k (storeW (evA st.env x) off ((ob.elems[k]?).getD .junk))⟩) K := h2
   rw [zdj hi, zvd hi (st.obj id ⟨es, ob.elems.set k (storeW (evA st.env x) off ((ob.elems[k]?).getD .junk))⟩).objs st.objs] at h2'
   refine ⟨h2'.1, h1, ?_⟩
   rw [z5c]
   exact h2'.2
def z25 (o : Oper) : Bool := o.guard.isNone && match o.op with
 | .move _ | .assign _ | .indexAddr _ _ _ | .fieldAddr _ _ _ | .binOp _ _ _ _ _ | .unOp _ _ _ | .extract _ _ | .load _ _ | .slice _ _ _ _ _ | .nilCheck _ | .sliceToArrayPointer _ _ => o.dst.isSome
 | _ => false
theorem zli {F : FC} {o : Oper} (h : z25 o = true) : isN F.rows F.lits o = true := by
 unfold z25 at h
 unfold isN
 simp only [Bool.and_eq_true] at h
 obtain ⟨_, h⟩ := h
 split at h <;> first | (simp at h; done) | (rename_i hop; rw [hop]; exact h)
theorem zum {F : FC} {o : Oper} (h : z25 o = true) : ¬ isM F o := by
 unfold z25 at h
 simp only [Bool.and_eq_true] at h
 obtain ⟨_, h⟩ := h
 rintro (h2 | h2)
 ·unfold isC at h2
  split at h <;> first | (simp at h; done) | (rename_i hop; cases hd : o.dst <;> simp [hop, hd] at h2)
 ·unfold Zg at h2
  split at h <;> first | (simp at h; done) | (rename_i hop; cases hd : o.dst <;> simp [hop, hd] at h2)
theorem ztg {F : FC} {ops : Array Oper} {o : Oper} (h : z25 o = true) (e : Nat → AV) (objs : Nat → Option AObj) (v : AV) : z4q F ops o e objs v = ((opV F objs (evA e) o.op).1 ∧ v = (opV F objs (evA e) o.op).2) := by
 obtain ⟨dst, op, ty, pos, aft, gd⟩ := o
 unfold z25 at h
 simp only [Bool.and_eq_true] at h
 obtain ⟨hg, h⟩ := h
 cases gd with
 | some _ => simp at hg
 | none => cases op <;> first | (simp at h; done) | rfl
theorem zmh {st : ASt} {d size : Nat} {old : Option Nat} {es : List AV} {e : Option Nat} {v : AV} (he : e ≠ some d) (hv : v.kill d = v) : appSt (st.put e v) d size old es = (appSt st d size old es).put e v := by
 cases e with
 | none => rfl
 | some e =>
  have hed : e ≠ d := fun h => he (by rw [h])
  cases old <;>
  ·unfold appSt ASt.dropO ASt.put ASt.obj ASt.kill ASt.drop
   simp only
   congr 1
   funext n
   simp only [q9]
   by_cases h1 : n = d
   ·have : n ≠ e := fun h => hed (h ▸ h1)
    simp [h1, hed, this, show ¬ d = e from fun h => hed h.symm]
   ·by_cases h2 : n = e
    ·simp [h2, hed, hv]
    ·simp [h1, h2]
theorem zwi {F : FC} {ops : Array Oper} {j : Oper} (hj : Zg F.rows F.lits F.apps j = true) {st : ASt} {K : ASt → Prop} (h : ve F ops j st K) : ve F ops j st fun st' => K st' ∧ ∀ e, j.dst ≠ some e → NM e st → NM e st' := by
 obtain ⟨dst, op, ty, pos, aft, gd⟩ := j
 unfold Zg at hj
 simp only [Bool.and_eq_true] at hj
 obtain ⟨hg, hj⟩ := hj
 cases gd with
 | some _ => simp at hg
 | none =>
 cases dst with
 | none => simp at hj
 | some d =>
  simp only at hj
  split at hj <;> try (simp at hj; done)
  rename_i s x t t'
  simp only [Bool.and_eq_true, Bool.not_eq_true'] at hj
  obtain ⟨⟨hrow, happ⟩, hlit⟩ := hj
  have hlit' : d ∉ F.lits := by simpa using hlit
  unfold ve jv at h ⊢
  simp only at h ⊢
  cases hti : ti F.P t with
  | none => simp [hti] at h
  | some a =>
   cases hti' : ti F.P t' with
   | none => simp [hti, hti'] at h
   | some a' =>
    simp only [hti, hti'] at h ⊢
    cases hk : a.tk <;> simp only [hk] at h ⊢ <;> try (exact h.elim)
    cases hk' : a'.tk.srcK <;> simp only [hk'] at h ⊢ <;> try (exact h.elim)
    rename_i e1 e2
    cases htj : ti F.P e1 with
    | none => simp [htj] at h
    | some jj =>
     simp only [htj, if_neg hlit'] at h ⊢
     cases hz : zeroA jj with
     | none => simp [hz] at h
     | some z =>
      cases hb : baseA st.objs jj.size (evA st.env s) with
      | none => simp [hz, hb] at h
      | some bo =>
       obtain ⟨old, olds⟩ := bo
       cases hx : srcA st.objs (evA st.env x) with
       | none => simp [hz, hb, hx] at h
       | some xs =>
        simp only [hz, hb, hx] at h ⊢
        refine ⟨h.1, h.2, fun e he hn => hn.app (fun q => he (by rw [q])) ?_⟩
        rw [List.map_append, zmj hn.2.2 hb, zb3 hn.2.2 hx]
theorem zx2 {F : FC} {ops : Array Oper} {j i : Oper} (hj : Zg F.rows F.lits F.apps j = true) (hi : z25 i = true) (hf : Free ops j i) {st : ASt} {K : ASt → Prop} (hm : NMo F j st) (h : ve F ops j st fun st' => ve F ops i st' K) : ve F ops i st fun st' => ve F ops j st' K := by
 have hni : isN F.rows F.lits i = true := zli hi
 have hmj := hm (.inr hj)
 obtain ⟨dst, op, ty, pos, aft, gd⟩ := j
 unfold Zg at hj
 simp only [Bool.and_eq_true] at hj
 obtain ⟨hg, hj⟩ := hj
 cases gd with
 | some _ => simp at hg
 | none =>
 cases dst with
 | none => simp at hj
 | some d =>
  simp only at hj
  split at hj <;> try (simp at hj; done)
  rename_i s x t t'
  simp only [Bool.and_eq_true, Bool.not_eq_true'] at hj
  obtain ⟨⟨hrow, happ⟩, hlit⟩ := hj
  have hlit' : d ∉ F.lits := by simpa using hlit
  have hnm := hmj d rfl
  have hide : i.dst ≠ some d := (hf.1 d rfl).2
  unfold ve jv at h
  simp only at h
  cases hti : ti F.P t with
  | none => simp [hti] at h
  | some a =>
   cases hti' : ti F.P t' with
   | none => simp [hti, hti'] at h
   | some a' =>
    simp only [hti, hti'] at h
    cases hk : a.tk <;> simp only [hk] at h <;> try (exact h.elim)
    cases hk' : a'.tk.srcK <;> simp only [hk'] at h <;> try (exact h.elim)
    rename_i e1 e2
    cases htj : ti F.P e1 with
    | none => simp [htj] at h
    | some jj =>
     simp only [htj, if_neg hlit'] at h
     cases hz : zeroA jj with
     | none => simp [hz] at h
     | some z =>
      cases hb : baseA st.objs jj.size (evA st.env s) with
      | none => simp [hz, hb] at h
      | some bo =>
       obtain ⟨old, olds⟩ := bo
       cases hx : srcA st.objs (evA st.env x) with
       | none => simp [hz, hb, hx] at h
       | some xs =>
        simp only [hz, hb, hx] at h
        obtain ⟨hcond, h2⟩ := h
        obtain ⟨v, hv, hd, hK⟩ := (zf9 hni).1 h2
        -- the value ahead of the append
        have hdrop : (st.dropO old).env = st.env := by cases old <;> rfl
        have hnmd : NM d (st.dropO old) := by
         refine ⟨fun n => by rw [hdrop]; exact hnm.1 n, ?_, fun k o ho => ?_⟩
         ·cases old with
          | none => exact hnm.2.1
          | some q =>
           simp only [ASt.dropO, ASt.drop, q9]
           split
           ·rfl
           ·exact hnm.2.1
         ·cases old with
          | none => exact hnm.2.2 k o ho
          | some q =>
           simp only [ASt.dropO, ASt.drop, q9] at ho
           split at ho
           ·simp at ho
           ·exact hnm.2.2 k o ho
        have hag : Agree ops i (appSt st d jj.size old (olds ++ xs)).env st.env := fun q hq => by
         have hqd : q ≠ d := fun e => (hf.1 d rfl).1 (e ▸ hq)
         simp only [appSt, ASt.put, ASt.obj, q9, if_neg hqd, ASt.kill, hdrop]
         exact hnm.1 q
        have v1 := Xn hag hv
        have hoff : zbq d (st.dropO old).objs (appSt st d jj.size old (olds ++ xs)).objs := fun q hq => by
         unfold appSt
         rw [hnmd.kill_eq]
         simp only [ASt.put, ASt.obj, q9, if_neg hq]
        have v2 := (zbg hoff hnm.1 hnmd.elems).1 v1
        have hsub : Sub (st.dropO old).objs st.objs := fun q o ho => by
         cases old with
         | none => exact ho
         | some w =>
          simp only [ASt.dropO, ASt.drop, q9] at ho
          split at ho
          ·simp at ho
          ·exact ho
        have v3 : z4q F ops i st.env st.objs v := by
         rw [ztg hi] at v2 ⊢
         rw [zs3 hsub v2.1]
         exact v2
        have hvk : v.kill d = v := zib hnm.1 hnm.2.2 v3
        refine (zf9 hni).2 ⟨v, v3, hd, ?_⟩
        have hag2 : Agree ops ⟨some d, .call ⟨.builtin .append, ⟨[s, x]⟩, ⟨[t, t']⟩⟩, ty, pos, aft, none⟩ st.env (st.put i.dst v).env := Free.agree fun q hq => hf.2 q hq
        have hes : evA (st.put i.dst v).env s = evA st.env s := (hag2.evA s (by simp [Op.operands, Call.operands])).symm
        have hex : evA (st.put i.dst v).env x = evA st.env x := (hag2.evA x (by simp [Op.operands, Call.operands])).symm
        have hobj : (st.put i.dst v).objs = st.objs := by cases i.dst <;> rfl
        unfold ve jv
        simp only [hti, hti', hk, hk', htj, if_neg hlit', hz, hes, hex, hobj, hb, hx]
        refine ⟨hcond, ?_⟩
        rw [zmh hide hvk]
        exact hK
theorem Qc {F : FC} {ops : Array Oper} {i : Oper} (hgi : z5z F i) : ∀ (pre : List Oper) (post : List Oper) (st : ASt) (K : ASt → Prop), (∀ j ∈ pre, (z5z F j ∨ (zbv j = true ∧ X8 i = true) ∨ (Zg F.rows F.lits F.apps j = true ∧ z25 i = true)) ∧ Free ops j i ∧ Dst F j i) → pre.Pairwise (fun x y => Dst F x y ∧ (isM F y → z5z F x ∨ Zg F.rows F.lits F.apps x = true)) → (∀ j ∈ pre, NMo F j st) → NMo F i st →
  zi F ops (pre ++ i :: post) st K → zi F ops (i :: (pre ++ post)) st K
 | [], post, st, K, _, _, _, _, h => h
 | j :: pre, post, st, K, hj, hp, hm, hmi, h => by
  obtain ⟨hgj, hfj, hdj⟩ := hj j (by simp)
  have hmj := hm j (by simp)
  have hpp := List.pairwise_cons.1 hp
  simp only [List.cons_append, zi] at h ⊢
  rcases hgj with hgj | ⟨hsj, hri⟩ | ⟨haj, hvi⟩
  ·obtain ⟨st', h1, h2⟩ := (Zy hgj hmj).1 h
   have hm' : ∀ q ∈ pre, NMo F q st' := fun q hq => z57 h1 hmj (hm q (by simp [hq])) (hpp.1 q hq).1
   have hmi' : NMo F i st' := z57 h1 hmj hmi hdj
   have h3 := Qc hgi pre post st' K (fun q hq => hj q (by simp [hq])) hpp.2 hm' hmi' h2
   simp only [zi] at h3
   obtain ⟨st'', h4, h5⟩ := (Zy hgi hmi').1 h3
   obtain ⟨s1, h6, h7⟩ := h1.swap hfj hmj hmi h4
   have hdij : Dst F i j := fun hc d hd e => hdj hc.symm d e hd
   have hmj1 : NMo F j s1 := z57 h6 hmi hmj hdij
   exact (Zy hgi hmi).2 ⟨s1, h6, (Zy hgj hmj1).2 ⟨st'', h7, h5⟩⟩
  ·refine zp7 hsj hri hfj (Xl (fun st' h2 => ?_) h)
   have hm' : ∀ q ∈ pre, NMo F q st' := fun q hq hc => ((hpp.1 q hq).2 hc).elim (fun h => absurd h (zra hsj)) (fun h => absurd h (zjg hsj))
   have hmi' : NMo F i st' := fun hc => absurd hc (zno hri)
   exact Qc hgi pre post st' K (fun q hq => hj q (by simp [hq])) hpp.2 hm' hmi' h2
  ·refine zx2 haj hvi hfj hmj (Xl (fun st' h2 => ?_) (zwi haj h))
   obtain ⟨h2, h2n⟩ := h2
   have hm' : ∀ q ∈ pre, NMo F q st' := fun q hq hc d hd => h2n d (fun e => (hpp.1 q hq).1 (.inl (.inr haj)) d e hd) (hm q (by simp [hq]) hc d hd)
   have hmi' : NMo F i st' := fun hc => absurd hc (zum hvi)
   exact Qc hgi pre post st' K (fun q hq => hj q (by simp [hq])) hpp.2 hm' hmi' h2
def zko (acc : List Nat) (o : Oper) : Nat := o.after.toList.foldl (fun s e => if Region.binds .any e then s ||| 2 ^ e.on ||| acc.getD e.on 0 else s) 0
def z61 : List Oper → List Nat → List Nat
 | [], acc => acc
 | o :: l, acc => z61 l (acc ++ [zko acc o])
theorem z1u : ∀ (l : List Oper) (acc : List Nat) (i : Nat), i < acc.length → (z61 l acc).getD i 0 = acc.getD i 0
 | [], acc, i, _ => rfl
 | o :: l, acc, i, h => by
  simp only [z61]
  rw [z1u l _ i (by simp; omega)]
  simp [List.getD_eq_getElem?_getD, List.getElem?_append_left h]
theorem zcr (acc : List Nat) (a : Nat) : ∀ (l : List Edge) (s : Nat), (l.foldl (fun s e => if Region.binds .any e then s ||| 2 ^ e.on ||| acc.getD e.on 0 else s) s).testBit a = true →
  s.testBit a = true ∨ ∃ e ∈ l, Region.binds .any e = true ∧ (a = e.on ∨ (acc.getD e.on 0).testBit a = true)
 | [], s, h => .inl h
 | e :: l, s, h => by
  simp only [List.foldl_cons] at h
  rcases zcr acc a l _ h with h | ⟨e', he', h⟩
  ·split at h
   ·rename_i hb
    simp only [Nat.testBit_or, Bool.or_eq_true, Nat.testBit_two_pow, decide_eq_true_eq] at h
    rcases h with (h | h) | h
    ·exact .inl h
    ·exact .inr ⟨e, by simp, hb, .inl h.symm⟩
    ·exact .inr ⟨e, by simp, hb, .inr h⟩
   ·exact .inl h
  ·exact .inr ⟨e', by simp [he'], h⟩
theorem zfu : ∀ (l : List Oper) (acc : List Nat) (i : Nat) (o : Oper), l[i]? = some o → ∀ a, ((z61 l acc).getD (acc.length + i) 0).testBit a = true →
  ∃ e ∈ o.after.toList, Region.binds .any e = true ∧ (a = e.on ∨ (e.on < acc.length + i ∧ ((z61 l acc).getD e.on 0).testBit a = true))
 | [], acc, i, o, h, a, _ => by simp at h
 | x :: l, acc, i, o, h, a, hb => by
  cases i with
  | zero =>
   simp at h
   subst h
   simp only [z61] at hb ⊢
   rw [Nat.add_zero, z1u l _ _ (by simp)] at hb
   simp only [List.getD_eq_getElem?_getD, List.getElem?_concat_length, Option.getD_some] at hb
   rcases zcr acc a _ 0 hb with h | ⟨e, he, hbe, h⟩
   ·simp at h
   ·refine ⟨e, he, hbe, ?_⟩
    rcases h with h | h
    ·exact .inl h
    ·by_cases hlt : e.on < acc.length
     ·refine .inr ⟨by omega, ?_⟩
      rw [z1u l _ _ (by simp; omega)]
      simp only [List.getD_eq_getElem?_getD, List.getElem?_append_left hlt] at h ⊢
      exact h
     ·simp only [List.getD_eq_getElem?_getD, List.getElem?_eq_none (Nat.le_of_not_lt hlt)] at h
      simp at h
  | succ i =>
   simp only [z61] at hb ⊢
   have := zfu l (acc ++ [zko acc x]) i o (by simpa using h) a (by simpa [Nat.add_assoc, Nat.add_comm 1] using hb)
   simpa [Nat.add_assoc, Nat.add_comm 1] using this
theorem zft {ops : Array Oper} {R : List Nat} (hcl : ∀ i o, ops[i]? = some o → i ∉ R → ∀ e ∈ o.after.toList, Region.binds .any e = true → e.on ∉ R) (hsz : ∀ i ∈ R, i < ops.size) :
  ∀ (i : Nat) (o : Oper), ops[i]? = some o → (∀ e ∈ o.after.toList, Region.binds .any e = true → e.on ∉ R) → ∀ a, ((z61 ops.toList []).getD i 0).testBit a = true → a ∉ R := by
 intro i
 induction i using Nat.strongRecOn with
 | _ i ih =>
  intro o ho hd a hb
  obtain ⟨e, he, hbe, h⟩ := zfu ops.toList [] i o (by simpa using ho) a (by simpa using hb)
  rcases h with rfl | ⟨hlt, h⟩
  ·exact hd e he hbe
  ·simp only [List.length_nil, Nat.zero_add] at hlt
   have hoi : i < ops.size := (Array.getElem?_eq_some_iff.1 ho).1
   have hoe : ops[e.on]? = some ops[e.on] := Array.getElem?_eq_getElem (by omega)
   exact ih e.on hlt _ hoe (hcl e.on _ hoe (hd e he hbe)) a h
def zgp (rows lits apps : List Nat) (o : Oper) : Bool := isN rows lits o || isC rows lits apps o
theorem z4a {F : FC} {o : Oper} (h : zgp F.rows F.lits F.apps o = true) : z5z F o := by
 unfold zgp at h
 simp only [Bool.or_eq_true] at h
 exact h
def zlu (rows lits apps : List Nat) (ops : Array Oper) (bef : List Nat) (a b : Nat) : Bool :=
 match ops[a]?, ops[b]? with
 | some x, some y => (x.after.toList.all fun e => !Region.binds .any e || e.on != b) &&
   ((bef.getD b 0).testBit a || (zgp rows lits apps x && zgp rows lits apps y && x.apart ops y) || (zbv x && X8 y && x.apart ops y) || (Zg rows lits apps x && z25 y && x.apart ops y)) &&
   (!(isC rows lits apps x || Zg rows lits apps x || (isC rows lits apps y || Zg rows lits apps y)) || x.dst.isNone || x.dst != y.dst) && (!(isC rows lits apps y || Zg rows lits apps y) || zgp rows lits apps x || Zg rows lits apps x)
 | _, _ => false
def z00 (f : Nat → Nat → Bool) : List Nat → Bool
 | [] => true
 | a :: l => l.all (f a) && z00 f l
theorem vy {f : Nat → Nat → Bool} : ∀ {l : List Nat}, z00 f l = true → l.Pairwise fun a b => f a b = true
 | [], _ => .nil
 | a :: l, h => by
  simp only [z00, Bool.and_eq_true] at h
  exact .cons (List.all_eq_true.1 h.1) (vy h.2)
def Xf (rows lits apps : List Nat) (ops : Array Oper) (perm : List Nat) : Bool :=
 decide (perm.length = ops.size) && perm.all (fun i => decide (i < ops.size)) && z00 (fun a b => a != b) perm &&
 perm.all (fun i => match ops[i]? with
  | some o => o.after.toList.all fun e => !Region.binds .any e || (e.on != i && decide (e.on < ops.size))
  | none => false) &&
 z00 (zlu rows lits apps ops (z61 ops.toList [])) perm && (List.range ops.size).all (fun i => perm.contains i)
end Go.Av

