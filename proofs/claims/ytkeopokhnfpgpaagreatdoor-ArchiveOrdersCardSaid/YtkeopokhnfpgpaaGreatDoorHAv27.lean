/- A part of the proof. -/
import Derived.Test.YtkeopokhnfpgpaaGreatDoorHAv26
set_option linter.all false
namespace Go.Av
mutual
theorem Zp (d e : Nat) : ∀ x : AV, (x.kill d).kill e = (x.kill e).kill d
 | .junk => rfl
 | .dat _ => rfl
 | .agg l => by simp only [AV.kill]; rw [Xf d e l]
 | .tup l => by simp only [AV.kill]; rw [Xf d e l]
 | .osl i es off len => by
  simp only [AV.kill]
  by_cases h1 : i = d <;> by_cases h2 : i = e <;> simp [h1, h2, AV.kill] <;> (subst_vars; simp_all [AV.kill])
 | .nils => rfl
 | .lits _ => rfl
 | .ptr i es k off => by
  simp only [AV.kill]
  by_cases h1 : i = d <;> by_cases h2 : i = e <;> simp [h1, h2, AV.kill] <;> (subst_vars; simp_all [AV.kill])
 | .gl _ _ => rfl
 | .rp _ _ => rfl
 | .fn f caps => by simp only [AV.kill]; rw [Xf d e caps]
 | .cond b v => by simp only [AV.kill]; rw [Zp d e v]
 | .raw _ => rfl
 | .mp i => by
  simp only [AV.kill]
  by_cases h1 : i = d <;> by_cases h2 : i = e <;> simp [h1, h2, AV.kill] <;> (subst_vars; simp_all [AV.kill])
 | .isl i es k off len cap => by
  simp only [AV.kill]
  by_cases h1 : i = d <;> by_cases h2 : i = e <;> simp [h1, h2, AV.kill] <;> (subst_vars; simp_all [AV.kill])
theorem Xf (d e : Nat) : ∀ l : List AV, killL e (killL d l) = killL d (killL e l)
 | [] => rfl
 | v :: l => by simp only [killL]; rw [Zp d e v, Xf d e l]
end
theorem NM.of_kill (d : Nat) (st : ASt) : NM d (st.kill d) := by
 refine ⟨fun n => jd d _, by simp [ASt.kill], fun i o h => ?_⟩
 simp only [ASt.kill] at h
 split at h
 ·simp at h
 ·rw [Option.map_eq_some_iff] at h
  obtain ⟨o', _, rfl⟩ := h
  simp only [List.map_map]
  apply List.map_congr_left
  intro x _
  exact jd d x
theorem NM.kill {d : Nat} {st : ASt} (h : NM d st) (e : Nat) : NM d (st.kill e) := by
 refine ⟨fun n => ?_, ?_, fun i o ho => ?_⟩
 ·simp only [ASt.kill]; rw [Zp, h.1 n]
 ·simp only [ASt.kill]; split
  ·rfl
  ·rw [h.2.1]; rfl
 ·simp only [ASt.kill] at ho
  split at ho
  ·simp at ho
  ·rw [Option.map_eq_some_iff] at ho
   obtain ⟨o', ho', rfl⟩ := ho
   have := h.2.2 i o' ho'
   simp only [List.map_map]
   conv => rhs; rw [← this]
   simp only [List.map_map]
   apply List.map_congr_left
   intro x _
   exact Zp e d x
theorem NM.dropO {d : Nat} {st : ASt} (h : NM d st) (old : Option Nat) : NM d (st.dropO old) := by
 cases old with
 | none => exact h
 | some q =>
  refine ⟨h.1, ?_, fun k o ho => ?_⟩
  ·simp only [ASt.dropO, ASt.drop, zq]
   split
   ·rfl
   ·exact h.2.1
  ·simp only [ASt.dropO, ASt.drop, zq] at ho
   split at ho
   ·simp at ho
   ·exact h.2.2 k o ho
theorem zk5 {objs : Nat → Option AObj} {x : AV} {size d : Nat} {old : Option Nat} {olds : List AV} (hf : ∀ i o, objs i = some o → o.elems.map (AV.kill d) = o.elems) (h : baseA objs size x = some (old, olds)) : olds.map (AV.kill d) = olds := by
 unfold baseA at h
 split at h <;> try (simp at h; done)
 ·simp only [Option.some.injEq, Prod.mk.injEq] at h
  obtain ⟨_, rfl⟩ := h
  rfl
 ·rename_i id es off len
  cases ho : objs id with
  | none => simp [ho] at h
  | some o =>
   simp only [ho] at h
   split at h <;> try (simp at h; done)
   simp only [Option.some.injEq, Prod.mk.injEq] at h
   obtain ⟨_, rfl⟩ := h
   exact z5s fun c hc => vp (hf id o ho) c (List.mem_of_mem_drop (List.mem_of_mem_take hc))
theorem NM.app {d e : Nat} {st : ASt} {size : Nat} {old : Option Nat} {elems : List AV} (h : NM e st) (hne : d ≠ e) (hel : elems.map (AV.kill e) = elems) : NM e (appSt st d size old elems) := by
 refine NM.put (NM.obj ((h.dropO old).kill d) hne ?_) (by simp [AV.kill, hne])
 simp only [List.map_map]
 conv => rhs; rw [← hel]
 simp only [List.map_map]
 apply List.map_congr_left
 intro x _
 exact Zp d e x
def isM (F : FC) (o : Oper) : Prop := isC F.rows F.lits F.apps o = true ∨ Q1 F.rows F.lits F.apps o = true
def Dst (F : FC) (x y : Oper) : Prop := (isM F x ∨ isM F y) → ∀ d, x.dst = some d → y.dst ≠ some d
theorem z31 {F : FC} {ops : Array Oper} {x y : Oper} {st st' : ASt} (h : Eff F ops x st st') (hx : NMo F x st) (hy : NMo F y st) (hd : Dst F x y) : NMo F y st' := fun hc d hyd => by
 refine h.nm hx (fun e => ?_) (hy hc d hyd)
 exact hd (.inr hc) d e hyd
def z8t (o : Oper) : Bool := o.guard.isNone && match o.op with
 | .store _ _ _ => o.dst.isNone
 | _ => false
def Qh (o : Oper) : Bool := o.guard.isNone && match o.op with
 | .move _ | .assign _ | .indexAddr _ _ _ | .fieldAddr _ _ _ | .binOp _ _ _ _ _ | .unOp _ _ _ | .extract _ _ | .nilCheck _ | .sliceToArrayPointer _ _ => o.dst.isSome
 | _ => false
theorem zgy {rows lits apps : List Nat} {o : Oper} (h : z8t o = true) : ¬ Q1 rows lits apps o = true := by
 intro h2
 unfold z8t at h
 unfold Q1 at h2
 simp only [Bool.and_eq_true] at h h2
 obtain ⟨_, h⟩ := h
 obtain ⟨_, h2⟩ := h2
 split at h <;> try (simp at h; done)
 rename_i hop
 split at h2 <;> try (simp at h2; done)
 rw [hop] at h2
 simp at h2
theorem zgx {F : FC} {o : Oper} (h : Qh o = true) : z3p F o := by
 refine .inl ?_
 unfold Qh at h
 unfold isN
 simp only [Bool.and_eq_true] at h
 obtain ⟨_, h⟩ := h
 split at h <;> first | (simp at h; done) | (rename_i hop; rw [hop]; exact h)
theorem zky {F : FC} {o : Oper} (h : Qh o = true) : isC F.rows F.lits F.apps o = false := by
 unfold Qh at h
 unfold isC
 simp only [Bool.and_eq_true] at h
 obtain ⟨_, h⟩ := h
 split at h <;> first | (simp at h; done) | (rename_i hop; cases o.dst <;> simp [hop])
theorem zp4 {F : FC} {o : Oper} (h : z8t o = true) : ¬ z3p F o := by
 obtain ⟨dst, op, ty, pos, aft, gd⟩ := o
 cases op <;> simp [z8t] at h
 rintro (h2 | h2)
 ·simp [isN] at h2
 ·simp only [isC, h.2] at h2
  simp at h2
theorem zu5 {F : FC} {o : Oper} (h : Qh o = true) (f g : Nat → Option AObj) (ρ : Operand → AV) : opV F f ρ o.op = opV F g ρ o.op := by
 unfold Qh at h
 simp only [Bool.and_eq_true] at h
 obtain ⟨_, h⟩ := h
 split at h <;> first | (simp at h; done) | (rename_i hop; rw [hop]; rfl)
theorem zas {F : FC} {ops : Array Oper} {o : Oper} (h : Qh o = true) (st : ASt) (K : ASt → Prop) : wn F ops o st K = ((dstOK F o.dst ∧ (opV F st.objs (evA st.env) o.op).1) ∧ K (st.put o.dst (opV F st.objs (evA st.env) o.op).2)) := by
 obtain ⟨dst, op, ty, pos, aft, gd⟩ := o
 unfold Qh at h
 simp only [Bool.and_eq_true] at h
 obtain ⟨hg, h⟩ := h
 cases gd with
 | some _ => simp at hg
 | none => cases op <;> first | (simp at h; done) | rfl
theorem zkz {F : FC} {o : Oper} (h : Qh o = true) : ¬ isM F o := by
 rintro (h2 | h2)
 ·rw [zky h] at h2; cases h2
 ·unfold Qh at h
  unfold Q1 at h2
  simp only [Bool.and_eq_true] at h
  obtain ⟨_, h⟩ := h
  split at h <;> first | (simp at h; done) | (rename_i hop; cases hd : o.dst <;> simp [hop, hd] at h2)
theorem zml {F : FC} {ops : Array Oper} {j i : Oper} (hj : z8t j = true) (hi : Qh i = true) (hf : Free ops j i) {st : ASt} {K : ASt → Prop} (h : wn F ops j st fun st' => wn F ops i st' K) : wn F ops i st fun st' => wn F ops j st' K := by
 rw [zas hi]
 obtain ⟨dst, op, ty, pos, aft, gd⟩ := j
 cases op <;> simp [z8t] at hj
 rename_i t ad x
 obtain ⟨rfl, rfl⟩ := hj
 have hag : Agree ops ⟨none, .store t ad x, ty, pos, aft, none⟩ st.env (st.put i.dst (opV F st.objs (evA st.env) i.op).2).env := Free.agree fun q hq => hf.2 q hq
 have hea : evA (st.put i.dst (opV F st.objs (evA st.env) i.op).2).env ad = evA st.env ad := (hag.evA ad (by simp [Op.operands])).symm
 have hex : evA (st.put i.dst (opV F st.objs (evA st.env) i.op).2).env x = evA st.env x := (hag.evA x (by simp [Op.operands])).symm
 have hobj : (st.put i.dst (opV F st.objs (evA st.env) i.op).2).objs = st.objs := by cases i.dst <;> rfl
 unfold wn j3 at h ⊢
 simp only [hea, hex, hobj] at h ⊢
 cases hti : ti F.P t with
 | none => simp [hti] at h
 | some ii =>
  cases hev : evA st.env ad <;> simp only [hti, hev] at h ⊢ <;> try (exact h.elim)
  rename_i id es k off
  cases ho : st.objs id with
  | none => simp [ho] at h
  | some ob =>
   simp only [ho] at h ⊢
   obtain ⟨h1, h2⟩ := h
   have h2' : wn F ops i (st.obj id ⟨es, ob.elems.set k (storeW (evA st.env x) off ((ob.elems[k]?).getD .junk))⟩) K := h2
   rw [zas hi, zu5 hi (st.obj id ⟨es, ob.elems.set k (storeW (evA st.env x) off ((ob.elems[k]?).getD .junk))⟩).objs st.objs] at h2'
   refine ⟨h2'.1, h1, ?_⟩
   rw [z33]
   exact h2'.2
def z0h (o : Oper) : Bool := o.guard.isNone && match o.op with
 | .move _ | .assign _ | .indexAddr _ _ _ | .fieldAddr _ _ _ | .binOp _ _ _ _ _ | .unOp _ _ _ | .extract _ _ | .load _ _ | .slice _ _ _ _ _ | .nilCheck _ | .sliceToArrayPointer _ _ => o.dst.isSome
 | _ => false
theorem zj4 {F : FC} {o : Oper} (h : z0h o = true) : isN F.rows F.lits o = true := by
 unfold z0h at h
 unfold isN
 simp only [Bool.and_eq_true] at h
 obtain ⟨_, h⟩ := h
 split at h <;> first | (simp at h; done) | (rename_i hop; rw [hop]; exact h)
theorem ztm {F : FC} {o : Oper} (h : z0h o = true) : ¬ isM F o := by
 unfold z0h at h
 simp only [Bool.and_eq_true] at h
 obtain ⟨_, h⟩ := h
 rintro (h2 | h2)
 ·unfold isC at h2
  split at h <;> first | (simp at h; done) | (rename_i hop; cases hd : o.dst <;> simp [hop, hd] at h2)
 ·unfold Q1 at h2
  split at h <;> first | (simp at h; done) | (rename_i hop; cases hd : o.dst <;> simp [hop, hd] at h2)
theorem zs1 {F : FC} {ops : Array Oper} {o : Oper} (h : z0h o = true) (e : Nat → AV) (objs : Nat → Option AObj) (v : AV) : z2i F ops o e objs v = ((opV F objs (evA e) o.op).1 ∧ v = (opV F objs (evA e) o.op).2) := by
 obtain ⟨dst, op, ty, pos, aft, gd⟩ := o
 unfold z0h at h
 simp only [Bool.and_eq_true] at h
 obtain ⟨hg, h⟩ := h
 cases gd with
 | some _ => simp at hg
 | none => cases op <;> first | (simp at h; done) | rfl
theorem zk3 {st : ASt} {d size : Nat} {old : Option Nat} {es : List AV} {e : Option Nat} {v : AV} (he : e ≠ some d) (hv : v.kill d = v) : appSt (st.put e v) d size old es = (appSt st d size old es).put e v := by
 cases e with
 | none => rfl
 | some e =>
  have hed : e ≠ d := fun h => he (by rw [h])
  cases old <;>
  ·unfold appSt ASt.dropO ASt.put ASt.obj ASt.kill ASt.drop
   simp only
   congr 1
   funext n
   simp only [zq]
   by_cases h1 : n = d
   ·have : n ≠ e := fun h => hed (h ▸ h1)
    simp [h1, hed, this, show ¬ d = e from fun h => hed h.symm]
   ·by_cases h2 : n = e
    ·simp [h2, hed, hv]
    ·simp [h1, h2]
theorem zvc {F : FC} {ops : Array Oper} {j : Oper} (hj : Q1 F.rows F.lits F.apps j = true) {st : ASt} {K : ASt → Prop} (h : wn F ops j st K) : wn F ops j st fun st' => K st' ∧ ∀ e, j.dst ≠ some e → NM e st → NM e st' := by
 obtain ⟨dst, op, ty, pos, aft, gd⟩ := j
 unfold Q1 at hj
 simp only [Bool.and_eq_true] at hj
 obtain ⟨hg, hj⟩ := hj
 cases gd with
 | some _ => simp at hg
 | none =>
 cases dst with
 | none => simp at hj
 | some d =>
  simp only at hj
  split at hj <;> try (simp at hj; done)
  rename_i s x t t'
  simp only [Bool.and_eq_true, Bool.not_eq_true'] at hj
  obtain ⟨⟨hrow, happ⟩, hlit⟩ := hj
  have hlit' : d ∉ F.lits := by simpa using hlit
  unfold wn j3 at h ⊢
  simp only at h ⊢
  cases hti : ti F.P t with
  | none => simp [hti] at h
  | some a =>
   cases hti' : ti F.P t' with
   | none => simp [hti, hti'] at h
   | some a' =>
    simp only [hti, hti'] at h ⊢
    cases hk : a.tk <;> simp only [hk] at h ⊢ <;> try (exact h.elim)
    cases hk' : a'.tk.srcK <;> simp only [hk'] at h ⊢ <;> try (exact h.elim)
    rename_i e1 e2
    cases htj : ti F.P e1 with
    | none => simp [htj] at h
    | some jj =>
     simp only [htj, if_neg hlit'] at h ⊢
     cases hz : zeroA jj with
     | none => simp [hz] at h
     | some z =>
      cases hb : baseA st.objs jj.size (evA st.env s) with
      | none => simp [hz, hb] at h
      | some bo =>
       obtain ⟨old, olds⟩ := bo
       cases hx : srcA st.objs (evA st.env x) with
       | none => simp [hz, hb, hx] at h
       | some xs =>
        simp only [hz, hb, hx] at h ⊢
        refine ⟨h.1, h.2, fun e he hn => hn.app (fun q => he (by rw [q])) ?_⟩
        rw [List.map_append, zk5 hn.2.2 hb, z82 hn.2.2 hx]
theorem zvx {F : FC} {ops : Array Oper} {j i : Oper} (hj : Q1 F.rows F.lits F.apps j = true) (hi : z0h i = true) (hf : Free ops j i) {st : ASt} {K : ASt → Prop} (hm : NMo F j st) (h : wn F ops j st fun st' => wn F ops i st' K) : wn F ops i st fun st' => wn F ops j st' K := by
 have hni : isN F.rows F.lits i = true := zj4 hi
 have hmj := hm (.inr hj)
 obtain ⟨dst, op, ty, pos, aft, gd⟩ := j
 unfold Q1 at hj
 simp only [Bool.and_eq_true] at hj
 obtain ⟨hg, hj⟩ := hj
 cases gd with
 | some _ => simp at hg
 | none =>
 cases dst with
 | none => simp at hj
 | some d =>
  simp only at hj
  split at hj <;> try (simp at hj; done)
  rename_i s x t t'
  simp only [Bool.and_eq_true, Bool.not_eq_true'] at hj
  obtain ⟨⟨hrow, happ⟩, hlit⟩ := hj
  have hlit' : d ∉ F.lits := by simpa using hlit
  have hnm := hmj d rfl
  have hide : i.dst ≠ some d := (hf.1 d rfl).2
  unfold wn j3 at h
  simp only at h
  cases hti : ti F.P t with
  | none => simp [hti] at h
  | some a =>
   cases hti' : ti F.P t' with
   | none => simp [hti, hti'] at h
   | some a' =>
    simp only [hti, hti'] at h
    cases hk : a.tk <;> simp only [hk] at h <;> try (exact h.elim)
    cases hk' : a'.tk.srcK <;> simp only [hk'] at h <;> try (exact h.elim)
    rename_i e1 e2
    cases htj : ti F.P e1 with
    | none => simp [htj] at h
    | some jj =>
     simp only [htj, if_neg hlit'] at h
     cases hz : zeroA jj with
     | none => simp [hz] at h
     | some z =>
      cases hb : baseA st.objs jj.size (evA st.env s) with
      | none => simp [hz, hb] at h
      | some bo =>
       obtain ⟨old, olds⟩ := bo
       cases hx : srcA st.objs (evA st.env x) with
       | none => simp [hz, hb, hx] at h
       | some xs =>
        simp only [hz, hb, hx] at h
        obtain ⟨hcond, h2⟩ := h
        obtain ⟨v, hv, hd, hK⟩ := (zcd hni).1 h2
        -- the value ahead of the append
        have hdrop : (st.dropO old).env = st.env := by cases old <;> rfl
        have hnmd : NM d (st.dropO old) := by
         refine ⟨fun n => by rw [hdrop]; exact hnm.1 n, ?_, fun k o ho => ?_⟩
         ·cases old with
          | none => exact hnm.2.1
          | some q =>
           simp only [ASt.dropO, ASt.drop, zq]
           split
           ·rfl
           ·exact hnm.2.1
         ·cases old with
          | none => exact hnm.2.2 k o ho
          | some q =>
           simp only [ASt.dropO, ASt.drop, zq] at ho
           split at ho
           ·simp at ho
           ·exact hnm.2.2 k o ho
        have hag : Agree ops i (appSt st d jj.size old (olds ++ xs)).env st.env := fun q hq => by
         have hqd : q ≠ d := fun e => (hf.1 d rfl).1 (e ▸ hq)
         simp only [appSt, ASt.put, ASt.obj, zq, if_neg hqd, ASt.kill, hdrop]
         exact hnm.1 q
        have v1 := Qs hag hv
        have hoff : z8n d (st.dropO old).objs (appSt st d jj.size old (olds ++ xs)).objs := fun q hq => by
         unfold appSt
         rw [hnmd.kill_eq]
         simp only [ASt.put, ASt.obj, zq, if_neg hq]
        have v2 := (z8f hoff hnm.1 hnmd.elems).1 v1
        have hsub : Sub (st.dropO old).objs st.objs := fun q o ho => by
         cases old with
         | none => exact ho
         | some w =>
          simp only [ASt.dropO, ASt.drop, zq] at ho
          split at ho
          ·simp at ho
          ·exact ho
        have v3 : z2i F ops i st.env st.objs v := by
         rw [zs1 hi] at v2 ⊢
         rw [zqi hsub v2.1]
         exact v2
        have hvk : v.kill d = v := zfn hnm.1 hnm.2.2 v3
        refine (zcd hni).2 ⟨v, v3, hd, ?_⟩
        have hag2 : Agree ops ⟨some d, .call ⟨.builtin .append, ⟨[s, x]⟩, ⟨[t, t']⟩⟩, ty, pos, aft, none⟩ st.env (st.put i.dst v).env := Free.agree fun q hq => hf.2 q hq
        have hes : evA (st.put i.dst v).env s = evA st.env s := (hag2.evA s (by simp [Op.operands, Call.operands])).symm
        have hex : evA (st.put i.dst v).env x = evA st.env x := (hag2.evA x (by simp [Op.operands, Call.operands])).symm
        have hobj : (st.put i.dst v).objs = st.objs := by cases i.dst <;> rfl
        unfold wn j3
        simp only [hti, hti', hk, hk', htj, if_neg hlit', hz, hes, hex, hobj, hb, hx]
        refine ⟨hcond, ?_⟩
        rw [zk3 hide hvk]
        exact hK
theorem jp {F : FC} {ops : Array Oper} {i : Oper} (hgi : z3p F i) : ∀ (pre : List Oper) (post : List Oper) (st : ASt) (K : ASt → Prop), (∀ j ∈ pre, (z3p F j ∨ (z8t j = true ∧ Qh i = true) ∨ (Q1 F.rows F.lits F.apps j = true ∧ z0h i = true)) ∧ Free ops j i ∧ Dst F j i) → pre.Pairwise (fun x y => Dst F x y ∧ (isM F y → z3p F x ∨ Q1 F.rows F.lits F.apps x = true)) → (∀ j ∈ pre, NMo F j st) → NMo F i st →
  zh F ops (pre ++ i :: post) st K → zh F ops (i :: (pre ++ post)) st K
 | [], post, st, K, _, _, _, _, h => h
 | j :: pre, post, st, K, hj, hp, hm, hmi, h => by
  obtain ⟨hgj, hfj, hdj⟩ := hj j (by simp)
  have hmj := hm j (by simp)
  have hpp := List.pairwise_cons.1 hp
  simp only [List.cons_append, zh] at h ⊢
  rcases hgj with hgj | ⟨hsj, hri⟩ | ⟨haj, hvi⟩
  ·obtain ⟨st', h1, h2⟩ := (Q7 hgj hmj).1 h
   have hm' : ∀ q ∈ pre, NMo F q st' := fun q hq => z31 h1 hmj (hm q (by simp [hq])) (hpp.1 q hq).1
   have hmi' : NMo F i st' := z31 h1 hmj hmi hdj
   have h3 := jp hgi pre post st' K (fun q hq => hj q (by simp [hq])) hpp.2 hm' hmi' h2
   simp only [zh] at h3
   obtain ⟨st'', h4, h5⟩ := (Q7 hgi hmi').1 h3
   obtain ⟨s1, h6, h7⟩ := h1.swap hfj hmj hmi h4
   have hdij : Dst F i j := fun hc d hd e => hdj hc.symm d e hd
   have hmj1 : NMo F j s1 := z31 h6 hmi hmj hdij
   exact (Q7 hgi hmi).2 ⟨s1, h6, (Q7 hgj hmj1).2 ⟨st'', h7, h5⟩⟩
  ·refine zml hsj hri hfj (Qn (fun st' h2 => ?_) h)
   have hm' : ∀ q ∈ pre, NMo F q st' := fun q hq hc => ((hpp.1 q hq).2 hc).elim (fun h => absurd h (zp4 hsj)) (fun h => absurd h (zgy hsj))
   have hmi' : NMo F i st' := fun hc => absurd hc (zkz hri)
   exact jp hgi pre post st' K (fun q hq => hj q (by simp [hq])) hpp.2 hm' hmi' h2
  ·refine zvx haj hvi hfj hmj (Qn (fun st' h2 => ?_) (zvc haj h))
   obtain ⟨h2, h2n⟩ := h2
   have hm' : ∀ q ∈ pre, NMo F q st' := fun q hq hc d hd => h2n d (fun e => (hpp.1 q hq).1 (.inl (.inr haj)) d e hd) (hm q (by simp [hq]) hc d hd)
   have hmi' : NMo F i st' := fun hc => absurd hc (ztm hvi)
   exact jp hgi pre post st' K (fun q hq => hj q (by simp [hq])) hpp.2 hm' hmi' h2
def zij (acc : List Nat) (o : Oper) : Nat := o.after.toList.foldl (fun s e => if Region.binds .any e then s ||| 2 ^ e.on ||| acc.getD e.on 0 else s) 0
def z3t : List Oper → List Nat → List Nat
 | [], acc => acc
 | o :: l, acc => z3t l (acc ++ [zij acc o])
theorem z07 : ∀ (l : List Oper) (acc : List Nat) (i : Nat), i < acc.length → (z3t l acc).getD i 0 = acc.getD i 0
 | [], acc, i, _ => rfl
 | o :: l, acc, i, h => by
  simp only [z3t]
  rw [z07 l _ i (by simp; omega)]
  simp [List.getD_eq_getElem?_getD, List.getElem?_append_left h]
theorem z9p (acc : List Nat) (a : Nat) : ∀ (l : List Edge) (s : Nat), (l.foldl (fun s e => if Region.binds .any e then s ||| 2 ^ e.on ||| acc.getD e.on 0 else s) s).testBit a = true →
  s.testBit a = true ∨ ∃ e ∈ l, Region.binds .any e = true ∧ (a = e.on ∨ (acc.getD e.on 0).testBit a = true)
 | [], s, h => .inl h
 | e :: l, s, h => by
  simp only [List.foldl_cons] at h
  rcases z9p acc a l _ h with h | ⟨e', he', h⟩
  ·split at h
   ·rename_i hb
    simp only [Nat.testBit_or, Bool.or_eq_true, Nat.testBit_two_pow, decide_eq_true_eq] at h
    rcases h with (h | h) | h
    ·exact .inl h
    ·exact .inr ⟨e, by simp, hb, .inl h.symm⟩
    ·exact .inr ⟨e, by simp, hb, .inr h⟩
   ·exact .inl h
  ·exact .inr ⟨e', by simp [he'], h⟩
theorem zcy : ∀ (l : List Oper) (acc : List Nat) (i : Nat) (o : Oper), l[i]? = some o → ∀ a, ((z3t l acc).getD (acc.length + i) 0).testBit a = true →
  ∃ e ∈ o.after.toList, Region.binds .any e = true ∧ (a = e.on ∨ (e.on < acc.length + i ∧ ((z3t l acc).getD e.on 0).testBit a = true))
 | [], acc, i, o, h, a, _ => by simp at h
 | x :: l, acc, i, o, h, a, hb => by
  cases i with
  | zero =>
   simp at h
   subst h
   simp only [z3t] at hb ⊢
   rw [Nat.add_zero, z07 l _ _ (by simp)] at hb
   simp only [List.getD_eq_getElem?_getD, List.getElem?_concat_length, Option.getD_some] at hb
   rcases z9p acc a _ 0 hb with h | ⟨e, he, hbe, h⟩
   ·simp at h
   ·refine ⟨e, he, hbe, ?_⟩
    rcases h with h | h
    ·exact .inl h
    ·by_cases hlt : e.on < acc.length
     ·refine .inr ⟨by omega, ?_⟩
      rw [z07 l _ _ (by simp; omega)]
      simp only [List.getD_eq_getElem?_getD, List.getElem?_append_left hlt] at h ⊢
      exact h
     ·simp only [List.getD_eq_getElem?_getD, List.getElem?_eq_none (Nat.le_of_not_lt hlt)] at h
      simp at h
  | succ i =>
   simp only [z3t] at hb ⊢
   have := zcy l (acc ++ [zij acc x]) i o (by simpa using h) a (by simpa [Nat.add_assoc, Nat.add_comm 1] using hb)
   simpa [Nat.add_assoc, Nat.add_comm 1] using this
theorem zcx {ops : Array Oper} {R : List Nat} (hcl : ∀ i o, ops[i]? = some o → i ∉ R → ∀ e ∈ o.after.toList, Region.binds .any e = true → e.on ∉ R) (hsz : ∀ i ∈ R, i < ops.size) :
  ∀ (i : Nat) (o : Oper), ops[i]? = some o → (∀ e ∈ o.after.toList, Region.binds .any e = true → e.on ∉ R) → ∀ a, ((z3t ops.toList []).getD i 0).testBit a = true → a ∉ R := by
 intro i
 induction i using Nat.strongRecOn with
 | _ i ih =>
  intro o ho hd a hb
  obtain ⟨e, he, hbe, h⟩ := zcy ops.toList [] i o (by simpa using ho) a (by simpa using hb)
  rcases h with rfl | ⟨hlt, h⟩
  ·exact hd e he hbe
  ·simp only [List.length_nil, Nat.zero_add] at hlt
   have hoi : i < ops.size := (Array.getElem?_eq_some_iff.1 ho).1
   have hoe : ops[e.on]? = some ops[e.on] := Array.getElem?_eq_getElem (by omega)
   exact ih e.on hlt _ hoe (hcl e.on _ hoe (hd e he hbe)) a h
def zdt (rows lits apps : List Nat) (o : Oper) : Bool := isN rows lits o || isC rows lits apps o
theorem z25 {F : FC} {o : Oper} (h : zdt F.rows F.lits F.apps o = true) : z3p F o := by
 unfold zdt at h
 simp only [Bool.or_eq_true] at h
 exact h
def zjg (rows lits apps : List Nat) (ops : Array Oper) (bef : List Nat) (a b : Nat) : Bool :=
 match ops[a]?, ops[b]? with
 | some x, some y => (x.after.toList.all fun e => !Region.binds .any e || e.on != b) &&
   ((bef.getD b 0).testBit a || (zdt rows lits apps x && zdt rows lits apps y && x.apart ops y) || (z8t x && Qh y && x.apart ops y) || (Q1 rows lits apps x && z0h y && x.apart ops y)) &&
   (!(isC rows lits apps x || Q1 rows lits apps x || (isC rows lits apps y || Q1 rows lits apps y)) || x.dst.isNone || x.dst != y.dst) && (!(isC rows lits apps y || Q1 rows lits apps y) || zdt rows lits apps x || Q1 rows lits apps x)
 | _, _ => false
def Zd (f : Nat → Nat → Bool) : List Nat → Bool
 | [] => true
 | a :: l => l.all (f a) && Zd f l
theorem kq {f : Nat → Nat → Bool} : ∀ {l : List Nat}, Zd f l = true → l.Pairwise fun a b => f a b = true
 | [], _ => .nil
 | a :: l, h => by
  simp only [Zd, Bool.and_eq_true] at h
  exact .cons (List.all_eq_true.1 h.1) (kq h.2)
def z0m (rows lits apps : List Nat) (ops : Array Oper) (perm : List Nat) : Bool :=
 decide (perm.length = ops.size) && perm.all (fun i => decide (i < ops.size)) && Zd (fun a b => a != b) perm &&
 perm.all (fun i => match ops[i]? with
  | some o => o.after.toList.all fun e => !Region.binds .any e || (e.on != i && decide (e.on < ops.size))
  | none => false) &&
 Zd (zjg rows lits apps ops (z3t ops.toList [])) perm && (List.range ops.size).all (fun i => perm.contains i)
end Go.Av

