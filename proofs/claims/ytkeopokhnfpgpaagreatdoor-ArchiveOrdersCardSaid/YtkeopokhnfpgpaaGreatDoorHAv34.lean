/- A part of the proof. -/
import Derived.Test.YtkeopokhnfpgpaaGreatDoorHAv33
set_option linter.all false
namespace Go.Av
def fndA : Dat → AV
 | .fn f caps => .fn f (caps.map .dat)
 | d => .dat d
theorem zxx {β : zg} {S : Nat → Nat → Prop} {w : World} : ∀ {l : List Dat} {vs : List Value}, RepV S w l vs → RepAL β S w (l.map .dat) vs
 | [], vs, h => by simpa [RepV, RepAL] using h
 | d :: l, vs, h => by
  simp only [RepV] at h
  obtain ⟨v, vs', rfl, h1, h2⟩ := h
  simp only [List.map_cons, RepAL]
  exact ⟨v, vs', rfl, by simpa [RepA] using h1, zxx h2⟩
theorem zol {β : zg} {S : Nat → Nat → Prop} {w : World} {d : Dat} {v : Value} (h : RepA β S w (.dat d) v) : RepA β S w (fndA d) v := by
 cases d <;> try exact h
 simp only [RepA, RepX, Rep1, fndA] at h ⊢
 obtain ⟨vs, h1, h2⟩ := h
 exact ⟨vs, h1, zxx h2⟩
theorem Le.fnd (F : FC) (args : List Dat) : Le F (.init args) (.of (initL 0 (args.map fndA)) []) := fun a w ⟨hd, β, S, hs⟩ => by
 rw [← z34]
 refine ⟨hd, β, S, hs.ext, hs.glob, hs.sub, hs.lt, hs.sep, hs.inj, fun id o h => by simp [ASt.initM, qm] at h, fun n => ?_, hs.size⟩
 have h := hs.env n
 simp only [ASt.init, ziz, ASt.initM, Av.initM, List.getElem?_map] at h ⊢
 cases hn : args[n]? with
 | none => simp [RepA]
 | some d =>
  simp only [hn] at h
  exact zol h
theorem vq {P : Program} {G : List (Nat × Dat)} {f : FuncId} {fn : Func} {c : Code} {args rs : List Dat} (rows lits apps : List Nat) (hf : P.funcs[f]? = some fn) (hb : fn.body = some c) (hname : (fn.name == "runtime.NumGoroutine") = false) (hn : args.length ≤ fn.ntmps)
  (h : ∀ F : FC, F.P = P → F.G = G → F.N = fn.ntmps → (F.rows = rows ∧ F.lits = lits ∧ F.apps = apps ∧ TopF F) → AWp F c (kj F fn.results.toList rs) (.of (initL 0 (args.map fndA)) [])) : zl P G f args rs :=
 z54 rows lits apps hf hb hname hn fun F hP hG hN hR => (h F hP hG hN hR).le (Le.fnd F args)
theorem gvF {F : FC} {P : Program} {G : List (Nat × Dat)} (hP : F.P = P) (hG : F.G = G) {g : FuncId} {ds rs : List Dat} (h : zl P G g ds rs) : zl F.P F.G g ds rs := by rw [hP, hG]; exact h
end Go.Av

