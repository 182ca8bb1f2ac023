/- A part of the proof. -/
import Derived.Test.YtkeopokhnfpgpaaGreatDoorHAv40
import Derived.Test.YtkeopokhnfpgpaaGreatDoorHAvX2
set_option linter.all false
namespace Go.Av
theorem z5k {F : FC} {P : Program} {G : List (Nat × Dat)} (hP : F.P = P) (hG : F.G = G) {g : FuncId} {xs rs : List AV} {os os' : List (Nat × AObj)} (h : GivesX P G g xs os rs os') : GivesX F.P F.G g xs os rs os' := by rw [hP, hG]; exact h
theorem zlg {α : Type} (p : Nat → Bool) (f : α → Dat) (l : List α) : wl p ((l.map f).map .dat) = true := Xj p _
def z4h (p : Nat → Bool) : List (Nat × AObj) → Bool
 | [] => true
 | q :: l => wl p q.2.elems && z4h p l
theorem z7j {p : Nat → Bool} : ∀ {l : List (Nat × AObj)}, z4h p l = true → ∀ q ∈ l, wl p q.2.elems = true
 | [], _, q, h => by simp at h
 | r :: l, h, q, hq => by
  simp only [z4h, Bool.and_eq_true] at h
  rcases List.mem_cons.1 hq with rfl | hq
  ·exact h.1
  ·exact z7j h.2 q hq
def z6q (objs : Nat → Option AObj) (m : Nat → Nat) : List (Nat × AObj) → Prop
 | [] => True
 | p :: l => objs (m p.1) = some (p.2.ren m) ∧ z6q objs m l
theorem z9t {objs : Nat → Option AObj} {m : Nat → Nat} : ∀ {l : List (Nat × AObj)}, z6q objs m l → ∀ p ∈ l, objs (m p.1) = some (p.2.ren m)
 | [], _, p, h => by simp at h
 | r :: l, h, q, hq => by
  simp only [z6q] at h
  rcases List.mem_cons.1 hq with rfl | hq
  ·exact h.1
  ·exact z9t h.2 q hq
def zwp (m : Nat → Nat) (l : List Nat) : Bool := l.all fun i => l.all fun j => !(m i == m j) || i == j
theorem zp0 {m : Nat → Nat} {l : List Nat} (h : zwp m l = true) : ∀ i ∈ l, ∀ j ∈ l, m i = m j → i = j := fun i hi j hj e => by
 simp only [zwp, List.all_eq_true] at h
 have := h i hi j hj
 simpa [e] using this
theorem vw {F : FC} {objs : Nat → Option AObj} {m : Nat → Nat} {news : List Nat} {os os' : List (Nat × AObj)} {N : Nat} (hN : F.N = N) (h : z6q objs m os)
  (hb : (zwp m (news ++ os.map (·.1)) && (os'.map (·.1)).all (fun i => (news ++ os.map (·.1)).contains i) && news.all (fun i => decide (m i < N)) && news.all (fun i => !(os.map (·.1)).contains i)) = true) : LentX F objs m news os os' := by
 simp only [Bool.and_eq_true] at hb
 obtain ⟨⟨⟨h1, h2⟩, h3⟩, h4⟩ := hb
 refine ⟨z9t h, zp0 h1, fun i hi => ?_, fun i hi => ?_, fun i hi => ?_⟩
 ·have := List.all_eq_true.1 h2 i hi
  simpa using this
 ·have := List.all_eq_true.1 h3 i hi
  rw [hN]
  simpa using this
 ·have := List.all_eq_true.1 h4 i hi
  simpa using this
theorem z8r {P : Program} {G : List (Nat × Dat)} {f : FuncId} {fn : Func} {c : Code} {xs rs : List AV} {os os' : List (Nat × AObj)} (rows lits apps : List Nat) (hf : P.funcs[f]? = some fn) (hb : fn.body = some c) (hname : (fn.name == "runtime.NumGoroutine") = false) (hn : xs.length ≤ fn.ntmps)
  (hid : (os.all (fun p => decide (fn.ntmps ≤ p.1)) && os'.all (fun p => !decide (fn.ntmps ≤ p.1) || (os.map (·.1)).contains p.1)) = true) (hrs : wl (kl os') rs = true) (hos : z4h (kl os') os' = true)
  (h : ∀ F : FC, F.P = P → F.G = G → F.N = fn.ntmps → (F.rows = rows ∧ F.lits = lits ∧ F.apps = apps ∧ PinM F (os.map (·.1))) → AWp F c (vk F fn.results.toList rs os') (.of (initL 0 xs) os)) : GivesX P G f xs os rs os' := by
 simp only [Bool.and_eq_true] at hid
 refine zbo rows lits apps hf hb hname hn (fun p hp => ?_) (fun p hp h => ?_) hrs (z7j hos) fun F h1 h2 h3 h4 => ?_
 ·simpa using List.all_eq_true.1 hid.1 p hp
 ·have := List.all_eq_true.1 hid.2 p hp
  simpa [h] using this
 ·rw [z34]; exact h F h1 h2 h3 h4
theorem znf (m : Nat → Nat) (news : List Nat) (os os' : List (Nat × AObj)) (st : ASt) : st.backX m news os os' = ((st.kills m news).drops m os).objsM m os' := rfl
theorem zh0 (m : Nat → Nat) (st : ASt) : st.kills m [] = st := rfl
theorem ze2 (m : Nat → Nat) (i : Nat) (l : List Nat) (st : ASt) : st.kills m (i :: l) = (st.kill (m i)).kills m l := rfl
theorem zgi (m : Nat → Nat) (st : ASt) : st.drops m [] = st := rfl
theorem zdk (m : Nat → Nat) (p : Nat × AObj) (l : List (Nat × AObj)) (st : ASt) : st.drops m (p :: l) = (st.drop (m p.1)).drops m l := rfl
def avX := And.intro @znf (And.intro @zh0 (And.intro @ze2 (And.intro @zgi (And.intro @zdk (And.intro @zlf (And.intro @zhi (And.intro @AObj.ren.eq_def (And.intro @renL.eq_1 (And.intro @renL.eq_2 (And.intro @zlo (And.intro @zln @zlq)))))))))))
theorem X3 {F : FC} (id : Nat) {c : Code} {Q : Exit → ASt → Prop} {e : List (Nat × AV)} {o : List (Nat × AObj)} {ob : AObj} {ds : List Dat} {L : List Nat} {r : Bool} (hM : PinM F L r) (ho : qm o id = some ob) (hd : vz ob.elems = some ds) (hL : L.all (fun i => i != id && (qm o i).isSome) = true) (h : AWp F c Q (.of (frzE id ob.es ds e) (frzO id ob.es ds o))) : AWp F c Q (.of e o) :=
 AWp.le (Le.frz' (id := id) (fun b hb => by
  rcases hM.1 b hb with h | ⟨i, hi, hN, hs⟩
  ·exact .inl h
  have := List.all_eq_true.1 hL i hi
  simp only [Bool.and_eq_true, bne_iff_ne] at this
  exact .inr ⟨i, this.1, Option.isSome_iff_exists.1 this.2, hN, hs⟩) ho hd) (by rw [zbn]; exact h)
theorem qq : z0t [] [] = True := by simp [z0t]
theorem qi (x : AV) (xs : List AV) (r : AV) (rs : List AV) : z0t (x :: xs) (r :: rs) = ((x = r ∨ ∃ d, r = .dat d ∧ wb (fun _ => none) 6 x = some d) ∧ z0t xs rs) := by
 simp only [z0t, List.cons.injEq, eq_iff_iff]
 constructor
 ·rintro ⟨r', rs', ⟨rfl, rfl⟩, h1, h2⟩; exact ⟨h1, h2⟩
 ·rintro ⟨h1, h2⟩; exact ⟨r, rs, ⟨rfl, rfl⟩, h1, h2⟩
def avA := And.intro @TK.srcK.eq_def (And.intro @zf3 (And.intro @nilA.eq_def (And.intro @zx1 (And.intro @arrA.eq_def (And.intro @binS.eq_def (And.intro @z3l (And.intro @avD (And.intro @zyt (And.intro @zyr (And.intro @zys (And.intro @ne_eq.{1} (And.intro @eq_self.{1} (And.intro @if_true.{1} (And.intro @if_false.{1} (And.intro @forall_eq.{1} (And.intro @forall_eq_or_imp.{1} (And.intro @ite_self.{1} (And.intro @forall_const.{1} (@implies_true.{1})))))))))))))))))))
end Go.Av

