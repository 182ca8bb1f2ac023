/- A part of the proof. -/
import Derived.Test.YtkeopokhnfpgpaaGreatDoorHAv45
set_option linter.all false
namespace Go.Av
theorem zm7 {P : Program} {w : World} {t e : TypeId} (hu : P.underlying t = some (.slice e)) (xo yo : Operand) (a : Option Addr) (n c : Nat) :
  (do eqGuard .eql t xo yo (.slice a n c) (.slice none 0 0); binOp .eql t (.slice a n c) (.slice none 0 0) : Sem Value).run P w = .ok (.bool a.isNone) w := by
 have h : (Op.equal t (.slice a n c) (.slice none 0 0)).run P w = .ok a.isNone w := by
  show (Op.equalIn (9999 + 1) t _ _).run P w = _
  unfold Op.equalIn
  cases a <;> simp [run_underlying hu]
 simp [eqGuard, binOp, h]
theorem Zg {F : FC} {ops : Array Oper} {o : Oper} {rest : List Oper} {Q : Exit → ASt → Prop} {st : ASt} {d : Nat} {x : Operand} {t yt e : TypeId} {i : TI} {l : List Dat} (hg : o.guard = none)
  (ho : o.op = .binOp .eql t x (.const (.slice none 0 0)) yt) (hdst : o.dst = some d) (hd : d < F.N) (ht : ti F.P t = some i) (hk : i.tk = .slice e) (hx : evA st.env x = .dat (.sl l))
  (k : ∀ b : Bool, (0 < l.length → b = false) → AList F ops rest Q (st.put (some d) (.dat (.bool b)))) : AList F ops (o :: rest) Q st := fun a w hs => by
 obtain ⟨hdf, β, S, hsim⟩ := hs
 obtain ⟨_, u1, _, hu1, _, _, _, hk1⟩ := ti_info ht
 rw [hk] at hk1
 have := wt hk1.symm
 subst this
 have ex := qj (a := a) hsim.env x
 rw [hx] at ex
 simp only [RepA, RepX] at ex
 obtain ⟨es, ad, cap, ex, hcap, hr⟩ := ex
 have hb : 0 < l.length → ad.isNone = false := fun h => by
  cases l with
  | nil => simp at h
  | cons d0 l0 =>
   obtain ⟨b, o, rfl, _, _⟩ := v7 hr (i := 0) (d := d0) (by simp)
   rfl
 unfold wpListIn
 rw [if_pos (by simp [Region.wanted, hg])]
 have hrun : (execOp a.eval o).run F.P w = .ok (.value (.bool ad.isNone)) w := by
  have hc : a.eval (.const (.slice none 0 0)) = .slice none 0 0 := rfl
  simp only [execOp, ho, ex, hc, Sem.run_bind]
  have := zm7 (P := F.P) (w := w) hu1 x (.const (.slice none 0 0)) ad l.length cap
  simp only [Sem.run_bind] at this
  rw [this]
  rfl
 refine za9 hrun ?_
 refine k ad.isNone hb _ _ ?_
 rw [hdst]
 exact ⟨hdf, β, S, by simpa [Act.put] using hsim.put hd (by simp only [RepA, RepX])⟩
end Go.Av

