/- Operations that a walk meets one by one: a string's bytes as a new slice. -/
import Derived.Test.YtabjaaonfaejmaaHAv43
import Derived.Lib.ConvBytes
set_option linter.all false
namespace Go.Av
theorem al_step {F : FC} {ops : Array Oper} {o : Oper} {l : List Oper} {Q : Exit → ASt → Prop} {st st' : ASt} (hg : o.guard = none) (h : StepOK F o st st') (k : AList F ops l Q st') : AList F ops (o :: l) Q st := fun a w hs => by
  unfold wpListIn
  rw [if_pos (by simp [Region.wanted, hg])]
  exact (h a w hs _ _ fun a' w' hs' => k a' w' hs')
theorem Le.litD {F : FC} {st : ASt} (n : Nat) {l : List Dat} (hn : st.env n = .lits l) : Le F st (st.put (some n) (.dat (.sl l))) := fun a w ⟨hd, β, S, hs⟩ => by
  refine ⟨hd, β, S, hs.ext, hs.glob, hs.sub, hs.lt, hs.sep, hs.inj, hs.obj, fun k => ?_, hs.size⟩
  simp only [ASt.put, upd_apply]
  split
  · rename_i hk
    subst hk
    have h := hs.env k
    rw [hn] at h
    simp only [RepA] at h ⊢
    obtain ⟨es, x, h, hr⟩ := h
    rw [h]
    simp only [RepX]
    exact ⟨es, x, _, rfl, Nat.le_refl _, hr⟩
  · exact hs.env k
theorem aw_litD {F : FC} (n : Nat) {l : List Dat} {c : Code} {Q : Exit → ASt → Prop} {e : List (Nat × AV)} {o : List (Nat × AObj)} (hn : envL e n = .lits l) (h : AWp F c Q (.of ((n, .dat (.sl l)) :: e) o)) : AWp F c Q (.of e o) := h.le (Le.litD n hn)
theorem tr2 {α : Type} {f : α → Dat} (A B : List α) (n : Nat) (h : A.length + B.length ≤ n) : List.take n (List.map AV.dat (List.map f A) ++ List.map AV.dat (List.map f B)) = List.map AV.dat (List.map f A) ++ List.map AV.dat (List.map f B) := List.take_of_length_le (by simpa using h)
theorem tr3 {α : Type} {f : α → Dat} (A B C : List α) (n : Nat) (h : A.length + B.length + C.length ≤ n) : List.take n (List.map AV.dat (List.map f A) ++ List.map AV.dat (List.map f B) ++ List.map AV.dat (List.map f C)) = List.map AV.dat (List.map f A) ++ List.map AV.dat (List.map f B) ++ List.map AV.dat (List.map f C) := List.take_of_length_le (by simpa [Nat.add_assoc] using h)
theorem tr4 {α : Type} {f : α → Dat} (A B C D : List α) (n : Nat) (h : A.length + B.length + C.length + D.length ≤ n) : List.take n (List.map AV.dat (List.map f A) ++ List.map AV.dat (List.map f B) ++ List.map AV.dat (List.map f C) ++ List.map AV.dat (List.map f D)) = List.map AV.dat (List.map f A) ++ List.map AV.dat (List.map f B) ++ List.map AV.dat (List.map f C) ++ List.map AV.dat (List.map f D) := List.take_of_length_le (by simpa [Nat.add_assoc] using h)
theorem tr5 {α : Type} {f : α → Dat} (A B C D E : List α) (n : Nat) (h : A.length + B.length + C.length + D.length + E.length ≤ n) : List.take n (List.map AV.dat (List.map f A) ++ List.map AV.dat (List.map f B) ++ List.map AV.dat (List.map f C) ++ List.map AV.dat (List.map f D) ++ List.map AV.dat (List.map f E)) = List.map AV.dat (List.map f A) ++ List.map AV.dat (List.map f B) ++ List.map AV.dat (List.map f C) ++ List.map AV.dat (List.map f D) ++ List.map AV.dat (List.map f E) := List.take_of_length_le (by simpa [Nat.add_assoc] using h)
end Go.Av

