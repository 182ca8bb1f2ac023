/- Views of rows that are made in parts. -/
import Derived.Test.YtabjaaonfaejmaaGreatDoorHAv53
set_option linter.all false
namespace Go.Av
theorem vL_c1 (f : AV → Option Dat) (a : Dat) (l : List Dat) : viewL f (.dat a :: l.map AV.dat) = some (a :: l) := by
  have h := datE_map (a :: l)
  simp only [List.map_cons] at h
  simp [viewL, h]
theorem vL_c2 (f : AV → Option Dat) (a b : Dat) (l : List Dat) : viewL f (.dat a :: .dat b :: l.map AV.dat) = some (a :: b :: l) := by
  have h := datE_map (a :: b :: l)
  simp only [List.map_cons] at h
  simp [viewL, h]
theorem vL_two (f : AV → Option Dat) (A B : List Dat) : viewL f (A.map AV.dat ++ B.map AV.dat) = some (A ++ B) := by
  have h := datE_map (A ++ B)
  simp only [List.map_append] at h
  simp [viewL, h]
theorem vL_two1 (f : AV → Option Dat) (A : List Dat) (b : Dat) (B : List Dat) : viewL f (A.map AV.dat ++ .dat b :: B.map AV.dat) = some (A ++ b :: B) := by
  have h := datE_map (A ++ b :: B)
  simp only [List.map_append, List.map_cons] at h
  simp [viewL, h]
/-- A pointer to data, as data. -/
theorem Le.rpD {F : FC} {st : ASt} (n : Nat) {d : Dat} (hn : st.env n = .rp d 0) : Le F st (st.put (some n) (.dat (.ref d))) := fun a w ⟨hd, β, S, hs⟩ => by
  refine ⟨hd, β, S, hs.ext, hs.glob, hs.sub, hs.lt, hs.sep, hs.inj, hs.obj, fun k => ?_, hs.size⟩
  simp only [ASt.put, upd_apply]
  split
  · rename_i hk
    subst hk
    have h := hs.env k
    rw [hn] at h
    simp only [RepA] at h ⊢
    obtain ⟨b, o, h, hr⟩ := h
    rw [h]
    simp only [RepX]
    exact ⟨b, o, rfl, hr⟩
  · exact hs.env k
theorem aw_rpD {F : FC} (n : Nat) {d : Dat} {c : Code} {Q : Exit → ASt → Prop} {e : List (Nat × AV)} {o : List (Nat × AObj)} (hn : envL e n = .rp d 0) (h : AWp F c Q (.of ((n, .dat (.ref d)) :: e) o)) : AWp F c Q (.of e o) := h.le (Le.rpD n hn)
end Go.Av

