/- A part of the proof. -/
import Derived.Test.YtabjaaonfaejmaaGreatDoorHAv40
import Derived.Test.YtabjaaonfaejmaaGreatDoorHAvX2
set_option linter.all false
namespace Go.Av
theorem zuf {F : FC} {P : Program} {G : List (Nat × Dat)} (hP : F.P = P) (hG : F.G = G) {g : FuncId} {xs rs : List AV} {os os' : List (Nat × AObj)} (h : GivesX P G g xs os rs os') : GivesX F.P F.G g xs os rs os' := by rw [hP, hG]; exact h
theorem yq {α : Type} (p : Nat → Bool) (f : α → Dat) (l : List α) : v7 p ((l.map f).map .dat) = true := wx p _
def je (p : Nat → Bool) : List (Nat × AObj) → Bool
 | [] => true
 | q :: l => v7 p q.2.elems && je p l
theorem Xd {p : Nat → Bool} : ∀ {l : List (Nat × AObj)}, je p l = true → ∀ q ∈ l, v7 p q.2.elems = true
 | [], _, q, h => by simp at h
 | r :: l, h, q, hq => by
  simp only [je, Bool.and_eq_true] at h
  rcases List.mem_cons.1 hq with rfl | hq
  ·exact h.1
  ·exact Xd h.2 q hq
def yc (objs : Nat → Option AObj) (m : Nat → Nat) : List (Nat × AObj) → Prop
 | [] => True
 | p :: l => objs (m p.1) = some (p.2.ren m) ∧ yc objs m l
theorem zcv {objs : Nat → Option AObj} {m : Nat → Nat} : ∀ {l : List (Nat × AObj)}, yc objs m l → ∀ p ∈ l, objs (m p.1) = some (p.2.ren m)
 | [], _, p, h => by simp at h
 | r :: l, h, q, hq => by
  simp only [yc] at h
  rcases List.mem_cons.1 hq with rfl | hq
  ·exact h.1
  ·exact zcv h.2 q hq
def zxy (m : Nat → Nat) (l : List Nat) : Bool := l.all fun i => l.all fun j => !(m i == m j) || i == j
theorem zr6 {m : Nat → Nat} {l : List Nat} (h : zxy m l = true) : ∀ i ∈ l, ∀ j ∈ l, m i = m j → i = j := fun i hi j hj e => by
 simp only [zxy, List.all_eq_true] at h
 have := h i hi j hj
 simpa [e] using this
theorem qv {F : FC} {objs : Nat → Option AObj} {m : Nat → Nat} {news : List Nat} {os os' : List (Nat × AObj)} {N : Nat} (hN : F.N = N) (h : yc objs m os)
  (hb : (zxy m (news ++ os.map (·.1)) && (os'.map (·.1)).all (fun i => (news ++ os.map (·.1)).contains i) && news.all (fun i => decide (m i < N)) && news.all (fun i => !(os.map (·.1)).contains i)) = true) : LentX F objs m news os os' := by
 simp only [Bool.and_eq_true] at hb
 obtain ⟨⟨⟨h1, h2⟩, h3⟩, h4⟩ := hb
 refine ⟨zcv h, zr6 h1, fun i hi => ?_, fun i hi => ?_, fun i hi => ?_⟩
 ·have := List.all_eq_true.1 h2 i hi
  simpa using this
 ·have := List.all_eq_true.1 h3 i hi
  rw [hN]
  simpa using this
 ·have := List.all_eq_true.1 h4 i hi
  simpa using this
theorem z3t {P : Program} {G : List (Nat × Dat)} {f : FuncId} {fn : Func} {c : Code} {xs rs : List AV} {os os' : List (Nat × AObj)} (rows lits apps : List Nat) (hf : P.funcs[f]? = some fn) (hb : fn.body = some c) (hname : (fn.name == "runtime.NumGoroutine") = false) (hn : xs.length ≤ fn.ntmps)
  (hid : (os.all (fun p => decide (fn.ntmps ≤ p.1)) && os'.all (fun p => !decide (fn.ntmps ≤ p.1) || (os.map (·.1)).contains p.1)) = true) (hrs : v7 (v6 os') rs = true) (hos : je (v6 os') os' = true)
  (h : ∀ F : FC, F.P = P → F.G = G → F.N = fn.ntmps → (F.rows = rows ∧ F.lits = lits ∧ F.apps = apps ∧ PinM F (os.map (·.1))) → AWp F c (vv F fn.results.toList rs os') (.of (initL 0 xs) os)) : GivesX P G f xs os rs os' := by
 simp only [Bool.and_eq_true] at hid
 refine zej rows lits apps hf hb hname hn (fun p hp => ?_) (fun p hp h => ?_) hrs (Xd hos) fun F h1 h2 h3 h4 => ?_
 ·simpa using List.all_eq_true.1 hid.1 p hp
 ·have := List.all_eq_true.1 hid.2 p hp
  simpa [h] using this
 ·rw [z0m]; exact h F h1 h2 h3 h4
theorem zpx (m : Nat → Nat) (news : List Nat) (os os' : List (Nat × AObj)) (st : ASt) : st.backX m news os os' = ((st.kills m news).drops m os).objsM m os' := rfl
theorem zjj (m : Nat → Nat) (st : ASt) : st.kills m [] = st := rfl
theorem zgy (m : Nat → Nat) (i : Nat) (l : List Nat) (st : ASt) : st.kills m (i :: l) = (st.kill (m i)).kills m l := rfl
theorem ziw (m : Nat → Nat) (st : ASt) : st.drops m [] = st := rfl
theorem zgi (m : Nat → Nat) (p : Nat × AObj) (l : List (Nat × AObj)) (st : ASt) : st.drops m (p :: l) = (st.drop (m p.1)).drops m l := rfl
def avX := And.intro @zpx (And.intro @zjj (And.intro @zgy (And.intro @ziw (And.intro @zgi (And.intro @zny (And.intro @zjt (And.intro @AObj.ren.eq_def (And.intro @renL.eq_1 (And.intro @renL.eq_2 (And.intro @zoa (And.intro @zo9 @zoc)))))))))))
theorem z0w {F : FC} (id : Nat) {c : Code} {Q : Exit → ASt → Prop} {e : List (Nat × AV)} {o : List (Nat × AObj)} {ob : AObj} {ds : List Dat} {L : List Nat} {r : Bool} (hM : PinM F L r) (ho : qm o id = some ob) (hd : j6 ob.elems = some ds) (hL : L.all (fun i => i != id && (qm o i).isSome) = true) (h : AWp F c Q (.of (frzE id ob.es ds e) (frzO id ob.es ds o))) : AWp F c Q (.of e o) :=
 AWp.le (Le.frz' (id := id) (fun b hb => by
  rcases hM.1 b hb with h | ⟨i, hi, hN, hs⟩
  ·exact .inl h
  have := List.all_eq_true.1 hL i hi
  simp only [Bool.and_eq_true, bne_iff_ne] at this
  exact .inr ⟨i, this.1, Option.isSome_iff_exists.1 this.2, hN, hs⟩) ho hd) (by rw [zjb]; exact h)
theorem qt : z2k [] [] = True := by simp [z2k]
theorem qi (x : AV) (xs : List AV) (r : AV) (rs : List AV) : z2k (x :: xs) (r :: rs) = ((x = r ∨ ∃ d, r = .dat d ∧ vc (fun _ => none) 6 x = some d) ∧ z2k xs rs) := by
 simp only [z2k, List.cons.injEq, eq_iff_iff]
 constructor
 ·rintro ⟨r', rs', ⟨rfl, rfl⟩, h1, h2⟩; exact ⟨h1, h2⟩
 ·rintro ⟨h1, h2⟩; exact ⟨r, rs, ⟨rfl, rfl⟩, h1, h2⟩
def avA := And.intro @TK.srcK.eq_def (And.intro @zhs (And.intro @nilA.eq_def (And.intro @zyd (And.intro @arrA.eq_def (And.intro @binS.eq_def (And.intro @zbf (And.intro @avD (And.intro @q02 (And.intro @q00 (And.intro @q01 (And.intro @ne_eq.{1} (And.intro @eq_self.{1} (And.intro @if_true.{1} (And.intro @if_false.{1} (And.intro @forall_eq.{1} (And.intro @forall_eq_or_imp.{1} (And.intro @ite_self.{1} (And.intro @forall_const.{1} (@implies_true.{1})))))))))))))))))))
end Go.Av

