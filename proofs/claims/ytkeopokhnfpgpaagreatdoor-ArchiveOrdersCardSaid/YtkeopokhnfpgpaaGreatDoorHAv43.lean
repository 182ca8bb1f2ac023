/- A part of the proof. -/
import Derived.Test.YtkeopokhnfpgpaaGreatDoorHAv42
set_option linter.all false
namespace Go.Av
theorem zah {β : zg} {S : Nat → Nat → Prop} {w : World} : ∀ {l : List Dat} {us : List Value}, RepV S w l us → RepAL β S w (l.map .dat) us
 | [], us, h => by simpa [RepV, RepAL] using h
 | d :: l, us, h => by
  simp only [RepV] at h
  obtain ⟨u, us', rfl, h1, h2⟩ := h
  simp only [List.map_cons, RepAL]
  exact ⟨u, us', rfl, by simpa only [RepA] using h1, zah h2⟩
theorem zs2 {F : FC} {β : zg} {S : Nat → Nat → Prop} {st : ASt} {tm : Array Value} {w : World} (hs : SimB F β S st tm w) : ∀ {rs : List AV} {ds : List Dat} {vs : List Value}, km (wb st.objs 6) rs = some ds → RepAL β S w rs vs → RepV (Ze st β S) w ds vs
 | [], ds, vs, h, hr => by
  simp only [km, Option.some.injEq] at h
  subst h
  simpa [RepV, RepAL] using hr
 | x :: rs, ds, vs, h, hr => by
  simp only [km] at h
  split at h <;> try (simp at h; done)
  rename_i d ds' hd hds
  simp only [Option.some.injEq] at h
  subst h
  simp only [RepAL] at hr
  obtain ⟨v, vs', rfl, h1, h2⟩ := hr
  simp only [RepV]
  exact ⟨v, vs', rfl, (kd hs 6 x d hd).1 v h1, zs2 hs hds h2⟩
theorem GivesX.gives {P : Program} {G : List (Nat × Dat)} {f : FuncId} {args ds : List Dat} {rs : List AV} {os' : List (Nat × AObj)} (h : GivesX P G f (args.map .dat) [] rs os') (hv : km (wb (qm os') 6) rs = some ds) : zl P G f args ds := by
 obtain ⟨⟨hf, _, _⟩, hc⟩ := h
 refine ⟨hf, fun w S vals hlt hg hr => ?_⟩
 have hs : SimB (FC0 P G w [] (fun _ => none) S) (fun _ => none) S (.os []) #[] w :=
  ⟨Ext.refl _ _, fun p hp => ⟨(hg p hp).1, fun ⟨_, _, _, h, _⟩ => by simp [qm] at h, (hg p hp).2⟩, fun b i h => .inl h, hlt, fun _ _ _ _ _ h => by simp [ASt.os, qm] at h, fun _ _ _ _ _ _ _ h => by simp [ASt.os, qm] at h,
    fun _ _ h => by simp [ASt.os, qm] at h, fun n => by simp [ASt.os, RepA], ⟨by simp [FC0], fun _ _ => rfl⟩⟩
 refine (hc w (fun _ => none) S vals hs (zah hr)).mono fun e w' h => ?_
 obtain ⟨v, β', S', rfl, hS, _, hs', hret⟩ := h
 have hM : ∀ b, ¬ MB [] (fun _ => none) b := fun b ⟨_, _, _, h, _⟩ => by simp [qm] at h
 have hext : Ext (fun _ => False) w w' := ⟨hs'.ext.os, hs'.ext.tape, hs'.ext.output, hs'.ext.size, fun k hk _ => hs'.ext.block k hk (hM k), hs'.ext.shape⟩
 have hkeep : Keeps (Ze (.os os') β' S') (fun b i => S b i ∨ (w.heap.size ≤ b ∧ b < w'.heap.size)) w' w' := Keeps.wider w' fun b i hA => by
  rcases hA with hA | ⟨id, o, s, ho, hb⟩
  ·rcases hs'.sub b i hA with h | h | h
   ·exact .inl h
   ·exact .inr ⟨h, hs'.lt b i hA⟩
   ·exact h.elim
  ·refine .inr ⟨?_, hs'.block_lt ho hb⟩
   rcases hs'.obj id o ho with ⟨hn, _⟩ | ⟨b', s', arr, e, hb', hw, _⟩ | hm
   ·rw [hn] at hb; cases hb
   ·rw [hb'] at hb
    simp only [Option.some.injEq, Prod.mk.injEq] at hb
    obtain ⟨rfl, rfl⟩ := hb
    exact hw.elim (fun h => h) fun h => (hM _ h).elim
   ·exact (hm.place hb).1.elim (fun h => h) fun h => (hM _ h).elim
 refine ⟨v, rfl, hext, ?_⟩
 unfold RetRA at hret
 unfold Qa
 match rs, hv, hret with
 | [r], hv, hret =>
  simp only [km] at hv
  split at hv <;> try (simp at hv; done)
  rename_i d ds' hd hds
  simp only [Option.some.injEq] at hv hds
  subst hv; subst hds
  exact RepX.mono hkeep _ _ ((kd hs' 6 r d hd).1 v hret)
 | [], hv, ⟨vs, h1, h2⟩ =>
  simp only [km, Option.some.injEq] at hv
  subst hv
  exact ⟨vs, h1, RepV.mono hkeep _ _ (zs2 hs' (rs := []) rfl h2)⟩
 | r :: r2 :: rs, hv, ⟨vs, h1, h2⟩ =>
  have h3 := RepV.mono hkeep _ _ (zs2 hs' hv h2)
  have hlen : ∃ d d2 l, ds = d :: d2 :: l := by
   simp only [km] at hv
   split at hv <;> try (simp at hv; done)
   rename_i d ds' hd hds
   split at hds <;> try (simp at hds; done)
   simp only [Option.some.injEq] at hv hds
   exact ⟨_, _, _, by rw [← hv, ← hds]⟩
  obtain ⟨d, d2, l, rfl⟩ := hlen
  exact ⟨vs, h1, h3⟩
theorem GivesX.row {P : Program} {G : List (Nat × Dat)} {f : FuncId} {args : List Dat} {i es len : Nat} {α : Type} {g : α → Dat} {l : List α} (h : GivesX P G f (args.map .dat) [] [.osl i es 0 len] [(i, ⟨es, (l.map g).map .dat⟩)]) (hl : len = l.length) : zl P G f args [.sl (l.map g)] := by
 refine h.gives ?_
 have ht : ((l.map g).map AV.dat).take len = (l.map g).map AV.dat := List.take_of_length_le (by simp [hl])
 simp only [q9, qh, xk, qm, if_true, List.drop_zero, ht, xr]
 rw [if_pos (by simp [hl])]
 rfl
end Go.Av

