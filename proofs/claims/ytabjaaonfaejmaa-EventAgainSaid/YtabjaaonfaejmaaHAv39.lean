/- Regions in parts; what is built under a guard that is true. -/
import Derived.Test.YtabjaaonfaejmaaHAv38
set_option linter.all false
namespace Go.Av
def AList (F : FC) (ops : Array Oper) (l : List Oper) (Q : Exit → ASt → Prop) (st : ASt) : Prop :=
  ∀ (a : Act) (w : World), Sim F st a w → wpListIn F.fence 0 F.P ops (fun e a' w' => ∃ st', Q e st' ∧ SimX F e st' a' w') l a w
theorem aw_list {F : FC} {id : Nat} {l : List Oper} {Q : Exit → ASt → Prop} {st : ASt} (h : AList F l.toArray l Q st) : AWp F (.region id l.toArray false) Q st :=
  fun a w hs => wpIn_region_lit (h a w hs)
theorem aw_lists {F : FC} {id : Nat} {l : List Oper} {y : Code} {Q : Exit → ASt → Prop} {st : ASt} (h : AList F l.toArray l (QSeq F y Q) st) : AWp F (.seq (.region id l.toArray false) y) Q st :=
  aw_seq (aw_list h)
theorem runOps_part {F : FC} {ops : Array Oper} {Q : Exit → Act → World → Prop} {l2 : List Oper} : ∀ (l : List Oper) (st : ASt) (K : ASt → Prop), RunOps F ops l st K → ∀ (a : Act) (w : World), Sim F st a w → (∀ st' a' w', K st' → Sim F st' a' w' → wpListIn F.fence 0 F.P ops Q l2 a' w') → wpListIn F.fence 0 F.P ops Q (l ++ l2) a w
  | [], st, K, h, a, w, hs, hK => hK st a w h hs
  | o :: rest, st, K, h, a, w, hs, hK => by
    simp only [RunOps] at h
    have hnext : ∀ st' a' w', RunOps F ops rest st' K → Sim F st' a' w' → wpListIn F.fence 0 F.P ops Q (rest ++ l2) a' w' := fun st' a' w' h1 h2 => runOps_part rest st' K h1 a' w' h2 hK
    unfold RunOp at h
    rw [List.cons_append]
    unfold wpListIn
    split at h
    · rename_i hg
      rw [if_pos (by simp [Region.wanted, hg])]
      exact (runU_sound h hs hnext)
    · rename_i j want hg
      split at h <;> try (exact h.elim)
      rename_i g hgv
      obtain ⟨hdf, β, S, hsim⟩ := hs
      have hgs := guard_sound (a := a) hsim.env hgv
      cases hgb : g
      · rw [if_neg (by simp only [Region.wanted, hg, hgs, hgb]; simp)]
        exact ⟨fun _ _ => trivial, runG_no hgb h ⟨hdf, β, S, hsim⟩ hnext⟩
      · rw [if_pos (by simp only [Region.wanted, hg, hgs, hgb])]
        exact (runG_yes hgb h ⟨hdf, β, S, hsim⟩ hnext)
def Seg : List Oper → List Oper → List Oper → Prop := fun l l1 l2 => l = l1 ++ l2
theorem Seg.nil (l : List Oper) : Seg l [] l := rfl
theorem Seg.cons {o : Oper} {l l1 l2 : List Oper} (h : Seg l l1 l2) : Seg (o :: l) (o :: l1) l2 := by
  unfold Seg at h ⊢
  rw [h, List.cons_append]
def KeptS (e : List (Nat × AV)) (o : List (Nat × AObj)) (st : ASt) : Prop := st = .of e o
theorem al_seg {F : FC} {ops : Array Oper} {l l1 l2 : List Oper} {Q : Exit → ASt → Prop} {st : ASt} {e : List (Nat × AV)} {o : List (Nat × AObj)} (hs : Seg l l1 l2) (h : RunOps F ops l1 st (KeptS e o)) (k : AList F ops l2 Q (.of e o)) : AList F ops l Q st := fun a w hsim => by
  unfold Seg at hs
  subst hs
  exact runOps_part l1 st _ h a w hsim fun st' a' w' hk hs' => k a' w' (hk ▸ hs')
theorem al_last {F : FC} {ops : Array Oper} (ns ids : List Nat) {l : List Oper} {Q : Exit → ASt → Prop} {st : ASt} {e : List (Nat × AV)} {o : List (Nat × AObj)} (h : RunOps F ops l st (Kept ns ids e o)) (k : Q .normal (.of e o)) : AList F ops l Q st := fun a w hsim => by
  refine runOps_sound l st _ h a w hsim fun st' a' w' hk hs' => ⟨_, k, ?_⟩
  have := Le.keep F st' ns ids a' w' hs'
  unfold ASt.keep at this
  rw [hk.1, hk.2] at this
  exact this
theorem al_true {F : FC} {ops : Array Oper} {dst : Option Nat} {op : Op} {ty : TypeId} {pos : String} {aft : Array Edge} {j : Nat} {want : Bool} {l : List Oper} {Q : Exit → ASt → Prop} {st : ASt} {e : List (Nat × AV)} {o : List (Nat × AObj)}
    (hg : gvalA ops st.env j want = some true) (h : RunOps F ops [⟨dst, op, ty, pos, aft, none⟩] st (KeptS e o)) (k : AList F ops l Q (.of e o)) : AList F ops (⟨dst, op, ty, pos, aft, some (j, want)⟩ :: l) Q st := fun a w hsim => by
  unfold wpListIn
  have hgs : (yielded ops a.tmps j == some want) = true := by
    obtain ⟨hdf, β, S, hs⟩ := hsim
    exact guard_sound (a := a) hs.env hg
  rw [if_pos (by simp only [Region.wanted, hgs])]
  have h' : RunU F ⟨dst, op, ty, pos, aft, some (j, want)⟩ st (KeptS e o) := h
  exact (runU_sound h' hsim fun st' a' w' hk hs' => k a' w' (hk ▸ hs'))
theorem unN_rep {β : Places} {S : Nat → Nat → Prop} {w : World} {v : Value} (h : RepA β S w .nils v) : RepA β S w (.dat (.sl [])) v := by
  simp only [RepA] at h
  obtain ⟨a, rfl⟩ := h
  simp only [RepA, RepX]
  exact ⟨1, a, 0, rfl, Nat.le_refl _, by simp [RepS]⟩
end Go.Av

