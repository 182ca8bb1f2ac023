/- A part of the proof. -/
import Derived.Test.YtkeopokhnfpgpaaGreatDoorHAv49
set_option linter.all false
namespace Go.Av
def Z0 : List AV → Option (List Dat)
 | [] => some []
 | .dat d :: l => if d.isAgg = true then none else (Z0 l).map (d :: ·)
 | .nils :: l => (Z0 l).map (.sl [] :: ·)
 | _ :: _ => none
theorem z0c {β : zg} {S : Nat → Nat → Prop} {w : World} : ∀ {l : List AV} {ds : List Dat}, Z0 l = some ds → ds.length = l.length ∧ ∀ (j : Nat) (c c' : AV), l[j]? = some c → (ds.map AV.dat)[j]? = some c' → ∀ v, RepA β S w c v → RepA β S w c' v
 | [], ds, h => by
  simp only [Z0, Option.some.injEq] at h
  subst h
  exact ⟨rfl, fun j c c' hc => by simp at hc⟩
 | x :: l, ds, h => by
  have key : ∀ {d : Dat} {ds' : List Dat}, Z0 l = some ds' → ds = d :: ds' → (∀ v, RepA β S w x v → RepA β S w (.dat d) v) → ds.length = (x :: l).length ∧ ∀ (j : Nat) (c c' : AV), (x :: l)[j]? = some c → (ds.map AV.dat)[j]? = some c' → ∀ v, RepA β S w c v → RepA β S w c' v := fun {d ds'} h1 h2 h3 => by
   subst h2
   obtain ⟨q1, q2⟩ := z0c (β := β) (S := S) (w := w) h1
   refine ⟨by simp [q1], fun j c c' hc hc' => ?_⟩
   cases j with
   | zero =>
    simp only [List.getElem?_cons_zero, Option.some.injEq, List.map_cons] at hc hc'
    subst hc; subst hc'
    exact h3
   | succ j => exact q2 j c c' (by simpa using hc) (by simpa using hc')
  cases x <;> simp only [Z0] at h <;> try (cases h; done)
  ·split at h
   ·cases h
   ·cases h1 : Z0 l with
    | none => rw [h1] at h; cases h
    | some ds' =>
     rw [h1] at h
     simp only [Option.map_some, Option.some.injEq] at h
     exact key h1 h.symm fun v hv => hv
  ·cases h1 : Z0 l with
   | none => rw [h1] at h; cases h
   | some ds' =>
    rw [h1] at h
    simp only [Option.map_some, Option.some.injEq] at h
    exact key h1 h.symm fun v hv => zcl hv
theorem Le.aggD {F : FC} {st : ASt} {i es : Nat} {l : List AV} {ds : List Dat} (hi : st.objs i = some ⟨es, [.agg l]⟩) (h : Z0 l = some ds) : Le F st (st.obj i ⟨es, [.dat (.agg ds)]⟩) := fun a w ⟨hd, β, S, hs⟩ => by
 refine ⟨hd, β, S, hs.reobj hi rfl rfl (fun ks vs q => by simp at q) fun k x x' hx hx' => ?_⟩
 cases k with
 | succ k => simp at hx
 | zero =>
  simp only [List.getElem?_cons_zero, Option.some.injEq] at hx hx'
  subst hx; subst hx'
  obtain ⟨q1, q2⟩ := z0c (β := β) (S := S) (w := w) h
  exact ⟨by simp only [AV.cells]; simpa using q1, fun j c c' hc hc' => q2 j c c' hc (by simpa [AV.cells] using hc')⟩
theorem zbc {F : FC} (i : Nat) {c : Code} {Q : Exit → ASt → Prop} {e : List (Nat × AV)} {o : List (Nat × AObj)} {es : Nat} {l : List AV} {ds : List Dat} (hi : qm o i = some ⟨es, [.agg l]⟩) (hf : Z0 l = some ds) (h : AWp F c Q (.of e (setO i ⟨es, [.dat (.agg ds)]⟩ o))) : AWp F c Q (.of e o) :=
 AWp.le (Le.aggD hi hf) (by rw [z4f]; exact h)
end Go.Av

