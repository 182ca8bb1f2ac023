/- A part of the proof. -/
import Derived.Test.YtkeopokhnfpgpaaGreatDoorHAv38
set_option linter.all false
namespace Go.Av
def AList (F : FC) (ops : Array Oper) (l : List Oper) (Q : Exit → ASt → Prop) (st : ASt) : Prop :=
 ∀ (a : Act) (w : World), Sim F st a w → wpListIn F.fence 0 F.P ops (fun e a' w' => ∃ st', Q e st' ∧ SimX F e st' a' w') l a w
theorem z11 {F : FC} {id : Nat} {l : List Oper} {Q : Exit → ASt → Prop} {st : ASt} (h : AList F l.toArray l Q st) : AWp F (.region id l.toArray false) Q st :=
 fun a w hs => wpIn_region_lit (h a w hs)
theorem wp {F : FC} {id : Nat} {l : List Oper} {y : Code} {Q : Exit → ASt → Prop} {st : ASt} (h : AList F l.toArray l (zcq F y Q) st) : AWp F (.seq (.region id l.toArray false) y) Q st :=
 z3 (z11 h)
theorem z5e {F : FC} {ops : Array Oper} {Q : Exit → Act → World → Prop} {l2 : List Oper} : ∀ (l : List Oper) (st : ASt) (K : ASt → Prop), zh F ops l st K → ∀ (a : Act) (w : World), Sim F st a w → (∀ st' a' w', K st' → Sim F st' a' w' → wpListIn F.fence 0 F.P ops Q l2 a' w') → wpListIn F.fence 0 F.P ops Q (l ++ l2) a w
 | [], st, K, h, a, w, hs, hK => hK st a w h hs
 | o :: rest, st, K, h, a, w, hs, hK => by
  simp only [zh] at h
  have hnext : ∀ st' a' w', zh F ops rest st' K → Sim F st' a' w' → wpListIn F.fence 0 F.P ops Q (rest ++ l2) a' w' := fun st' a' w' h1 h2 => z5e rest st' K h1 a' w' h2 hK
  unfold wn at h
  rw [List.cons_append]
  unfold wpListIn
  split at h
  ·rename_i hg
   rw [if_pos (by simp [Region.wanted, hg])]
   exact (Qo h hs hnext)
  ·rename_i j want hg
   split at h <;> try (exact h.elim)
   rename_i g hgv
   obtain ⟨hdf, β, S, hsim⟩ := hs
   have hgs := j9 (a := a) hsim.env hgv
   cases hgb : g
   ·rw [if_neg (by simp only [Region.wanted, hg, hgs, hgb]; simp)]
    exact ⟨fun _ _ => trivial, zcc hgb h ⟨hdf, β, S, hsim⟩ hnext⟩
   ·rw [if_pos (by simp only [Region.wanted, hg, hgs, hgb])]
    exact (z7y hgb h ⟨hdf, β, S, hsim⟩ hnext)
def Seg : List Oper → List Oper → List Oper → Prop := fun l l1 l2 => l = l1 ++ l2
theorem Seg.nil (l : List Oper) : Seg l [] l := rfl
theorem Seg.cons {o : Oper} {l l1 l2 : List Oper} (h : Seg l l1 l2) : Seg (o :: l) (o :: l1) l2 := by
 unfold Seg at h ⊢
 rw [h, List.cons_append]
def zn2 (e : List (Nat × AV)) (o : List (Nat × AObj)) (st : ASt) : Prop := st = .of e o
theorem wz {F : FC} {ops : Array Oper} {l l1 l2 : List Oper} {Q : Exit → ASt → Prop} {st : ASt} {e : List (Nat × AV)} {o : List (Nat × AObj)} (hs : Seg l l1 l2) (h : zh F ops l1 st (zn2 e o)) (k : AList F ops l2 Q (.of e o)) : AList F ops l Q st := fun a w hsim => by
 unfold Seg at hs
 subst hs
 exact z5e l1 st _ h a w hsim fun st' a' w' hk hs' => k a' w' (hk ▸ hs')
theorem wg {F : FC} {ops : Array Oper} (ns ids : List Nat) {l : List Oper} {Q : Exit → ASt → Prop} {st : ASt} {e : List (Nat × AV)} {o : List (Nat × AObj)} (h : zh F ops l st (Kept ns ids e o)) (k : Q .normal (.of e o)) : AList F ops l Q st := fun a w hsim => by
 refine Xq l st _ h a w hsim fun st' a' w' hk hs' => ⟨_, k, ?_⟩
 have := Le.keep F st' ns ids a' w' hs'
 unfold ASt.keep at this
 rw [hk.1, hk.2] at this
 exact this
theorem zcl {β : zg} {S : Nat → Nat → Prop} {w : World} {v : Value} (h : RepA β S w .nils v) : RepA β S w (.dat (.sl [])) v := by
 simp only [RepA] at h
 obtain ⟨a, rfl⟩ := h
 simp only [RepA, RepX]
 exact ⟨1, a, 0, rfl, Nat.le_refl _, by simp [RepS]⟩
end Go.Av

