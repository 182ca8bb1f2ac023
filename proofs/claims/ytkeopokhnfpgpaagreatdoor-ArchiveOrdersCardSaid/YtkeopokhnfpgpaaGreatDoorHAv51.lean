/- A part of the proof. -/
import Derived.Test.YtkeopokhnfpgpaaGreatDoorHAv50
set_option linter.all false
namespace Go.Av
def z1s : AV → Option AV
 | .dat d => some (.dat d)
 | .nils => some (.dat (.sl []))
 | .agg l => (Z0 l).map fun ds => .dat (.agg ds)
 | _ => none
def jo : List AV → Option (List AV)
 | [] => some []
 | x :: l => match z1s x, jo l with
  | some x', some l' => some (x' :: l')
  | _, _ => none
theorem zam {x x' : AV} (h : z1s x = some x') : ∀ n, jo (List.replicate n x) = some (List.replicate n x')
 | 0 => rfl
 | n + 1 => by rw [List.replicate_succ, jo, h, zam h n]; rfl
theorem zal : ∀ {l l' : List AV}, jo l = some l' → l'.length = l.length ∧ ∀ (k : Nat) (x x' : AV), l[k]? = some x → l'[k]? = some x' → z1s x = some x'
 | [], l', h => by
  simp only [jo, Option.some.injEq] at h
  subst h
  exact ⟨rfl, fun k x x' hx => by simp at hx⟩
 | y :: l, l', h => by
  rw [jo] at h
  split at h
  ·rename_i y' m hy hm
   simp only [Option.some.injEq] at h
   subst h
   obtain ⟨q1, q2⟩ := zal hm
   refine ⟨by simp [q1], fun k x x' hx hx' => ?_⟩
   cases k with
   | zero =>
    simp only [List.getElem?_cons_zero, Option.some.injEq] at hx hx'
    subst hx; subst hx'
    exact hy
   | succ k => exact q2 k x x' (by simpa using hx) (by simpa using hx')
  ·cases h
theorem zm2 {β : zg} {S : Nat → Nat → Prop} {w : World} {x x' : AV} (h : z1s x = some x') : x'.cells.length = x.cells.length ∧ ∀ (j : Nat) (c c' : AV), x.cells[j]? = some c → x'.cells[j]? = some c' → ∀ v, RepA β S w c v → RepA β S w c' v := by
 cases x <;> simp only [z1s] at h <;> try (cases h; done)
 ·simp only [Option.some.injEq] at h
  subst h
  exact ⟨rfl, fun j c c' hc hc' v hv => by rw [hc] at hc'; cases hc'; exact hv⟩
 ·rename_i l
  cases hf : Z0 l with
  | none => rw [hf] at h; cases h
  | some ds =>
   rw [hf] at h
   simp only [Option.map_some, Option.some.injEq] at h
   subst h
   obtain ⟨q1, q2⟩ := z0c (β := β) (S := S) (w := w) hf
   exact ⟨by simp only [AV.cells]; simpa using q1, fun j c c' hc hc' => q2 j c c' hc (by simpa [AV.cells] using hc')⟩
 ·simp only [Option.some.injEq] at h
  subst h
  refine ⟨rfl, fun j c c' hc hc' v hv => ?_⟩
  cases j with
  | succ j => simp [AV.cells] at hc
  | zero =>
   simp only [AV.cells, List.getElem?_cons_zero, Option.some.injEq] at hc hc'
   subst hc; subst hc'
   exact zcl hv
theorem Le.rowD {F : FC} {st : ASt} {i es : Nat} {l l' : List AV} (hi : st.objs i = some ⟨es, l⟩) (h : jo l = some l') : Le F st (st.obj i ⟨es, l'⟩) := fun a w ⟨hd, β, S, hs⟩ => by
 obtain ⟨q1, q2⟩ := zal h
 refine ⟨hd, β, S, hs.reobj hi rfl q1 (fun ks vs q => ?_) fun k x x' hx hx' => zm2 (q2 k x x' hx hx')⟩
 simp only [yy, AObj.mk.injEq] at q
 rw [q.2] at h
 simp [jo, z1s] at h
theorem zii {F : FC} (i : Nat) {c : Code} {Q : Exit → ASt → Prop} {e : List (Nat × AV)} {o : List (Nat × AObj)} {es : Nat} {l l' : List AV} (hi : qm o i = some ⟨es, l⟩) (hf : jo l = some l') (h : AWp F c Q (.of e (setO i ⟨es, l'⟩ o))) : AWp F c Q (.of e o) :=
 AWp.le (Le.rowD hi hf) (by rw [z4f]; exact h)
end Go.Av

