/- A part of the proof. -/
import Derived.Test.YtkeopokhnfpgpaaGreatDoorHAv37
set_option linter.all false
namespace Go.Av
def swapN (a b i : Nat) : Nat := if i = a then b else if i = b then a else i
theorem kr (a b i : Nat) : swapN a b (swapN a b i) = i := by
 unfold swapN
 by_cases h1 : i = a
 ·by_cases h2 : b = a <;> simp [h1, h2]
 ·by_cases h2 : i = b
  ·simp [h2]
  ·simp [h1, h2]
theorem zmm {a b i j : Nat} (h : swapN a b i = swapN a b j) : i = j := by rw [← kr a b i, h, kr]
def ASt.swap (st : ASt) (a b : Nat) : ASt := ⟨fun n => (st.env n).ren (swapN a b), fun i => (st.objs (swapN a b i)).map (AObj.ren (swapN a b))⟩
theorem SimB.swap {F : FC} {β : zg} {S : Nat → Nat → Prop} {st : ASt} {tm : Array Value} {w : World} (a b : Nat) (ha : a < F.N) (hb : b < F.N) (hs : SimB F β S st tm w) : SimB F (fun i => β (swapN a b i)) S (st.swap a b) tm w := by
 have hββ : (fun i => (fun i => β (swapN a b i)) (swapN a b i)) = β := by funext i; simp only [kr]
 have up : ∀ {i o}, (st.swap a b).objs i = some o → ∃ p, st.objs (swapN a b i) = some p ∧ o = p.ren (swapN a b) := fun {i o} h => by
  simp only [ASt.swap] at h
  cases hp : st.objs (swapN a b i) with
  | none => simp [hp] at h
  | some p => simp [hp] at h; exact ⟨p, rfl, h.symm⟩
 refine ⟨hs.ext, hs.glob, hs.sub, hs.lt, fun i o k s j ho hk => ?_, fun i i' o o' k s s' ho ho' hk hk' => ?_, fun i o ho => ?_, fun n => ?_, ⟨hs.size.1, fun i hi => ?_⟩⟩
 ·obtain ⟨p, hp, _⟩ := up ho
  exact hs.sep _ p k s j hp hk
 ·obtain ⟨p, hp, _⟩ := up ho
  obtain ⟨p', hp', _⟩ := up ho'
  exact zmm (hs.inj _ _ p p' k s s' hp hp' hk hk')
 ·obtain ⟨p, hp, rfl⟩ := up ho
  rcases hs.obj _ p hp with ⟨hn, he⟩ | ⟨k, s, arr, e, hk, hw, hh, hz, hel⟩ | ⟨b', en, ck, ks, vs, q1, q2, q3, q4, q5⟩
  rotate_left 2
  ·exact .inr (.inr ⟨b', en, ck, ks, vs, q1, q2, q3, z3b.2 q4, q5⟩)
  ·exact .inl ⟨hn, by simp [AObj.ren, he]⟩
  ·refine .inr (.inl ⟨k, s, arr, e, hk, hw, hh, by simpa [AObj.ren] using hz, fun j x hx => ?_⟩)
   simp only [AObj.ren, List.getElem?_map] at hx
   cases hy : p.elems[j]? with
   | none => simp [hy] at hx
   | some y =>
    simp only [hy, Option.map_some, Option.some.injEq] at hx
    subst hx
    obtain ⟨h3, h4⟩ := hel j y hy
    rw [z14]
    refine ⟨by simpa [AObj.ren] using h3, ?_⟩
    rw [MemC.ren, hββ]
    exact h4
 ·simp only [ASt.swap]
  rw [RepA.ren, hββ]
  exact hs.env n
 ·have : swapN a b i = i := by
   unfold swapN
   rw [if_neg (by omega), if_neg (by omega)]
  simp only [this]
  exact hs.size.2 i hi
theorem Le.swap {F : FC} {st : ASt} (a b : Nat) (ha : a < F.N) (hb : b < F.N) : Le F st (st.swap a b) := fun _ _ ⟨hd, _, _, hs⟩ => ⟨hd, _, _, hs.swap a b ha hb⟩
def renE (a b : Nat) : List (Nat × AV) → List (Nat × AV)
 | [] => []
 | (k, v) :: l => (k, v.ren (swapN a b)) :: renE a b l
def renO (a b : Nat) : List (Nat × AObj) → List (Nat × AObj)
 | [] => []
 | (k, o) :: l => (swapN a b k, ⟨o.es, o.elems.map (AV.ren (swapN a b))⟩) :: renO a b l
theorem z9h (a b n : Nat) : ∀ l, y0 (renE a b l) n = (y0 l n).ren (swapN a b)
 | [] => by simp [renE, y0, AV.ren]
 | (k, v) :: l => by
  simp only [renE, y0, z9h a b n l]
  split <;> rfl
theorem za5 (a b n : Nat) : ∀ l, qm (renO a b l) n = (qm l (swapN a b n)).map (AObj.ren (swapN a b))
 | [] => by simp [renO, qm]
 | (k, o) :: l => by
  simp only [renO, qm, za5 a b n l]
  by_cases h : n = swapN a b k
  ·rw [if_pos h, if_pos (by rw [h, kr])]; rfl
  ·rw [if_neg h, if_neg (fun e => h (by rw [← e, kr]))]
theorem zju (a b : Nat) (e : List (Nat × AV)) (o : List (Nat × AObj)) : (ASt.of e o).swap a b = .of (renE a b e) (renO a b o) := by
 unfold ASt.swap ASt.of
 congr 1
 ·funext n; rw [z9h]
 ·funext n; rw [za5]
theorem yj {F : FC} (a b : Nat) {c : Code} {Q : Exit → ASt → Prop} {e : List (Nat × AV)} {o : List (Nat × AObj)} (ha : a < F.N) (hb : b < F.N) (h : AWp F c Q (.of (renE a b e) (renO a b o))) : AWp F c Q (.of e o) :=
 AWp.le (Le.swap a b ha hb) (by rw [zju]; exact h)
theorem z5x {α : Type} (f : α → Dat) (l : List α) (m : Nat → Nat) : ((l.map f).map AV.dat).map (AV.ren m) = (l.map f).map AV.dat := by
 simp [List.map_map, Function.comp_def, AV.ren]
theorem zbd {F : FC} {c : Operand} {x y : Code} {Q : Exit → ASt → Prop} {st : ASt} (h : evA st.env c = .dat (.bool true)) (k : AWp F x Q st) : AWp F (.cond c x y) Q st :=
 zif (b := true) (by unfold zim; rw [h]; rfl) (fun _ => k) (fun h => by cases h)
end Go.Av

