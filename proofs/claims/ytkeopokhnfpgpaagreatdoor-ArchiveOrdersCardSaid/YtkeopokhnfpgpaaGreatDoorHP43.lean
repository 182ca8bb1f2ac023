/- A part of the proof. -/
import Derived.Test.YtkeopokhnfpgpaaGreatDoorHAv42
import Derived.IntWalk
import Derived.Test.YtkeopokhnfpgpaaGreatDoorHAv52
import Derived.Test.YtkeopokhnfpgpaaGreatDoorHAv50
import Derived.Test.YtkeopokhnfpgpaaGreatDoorRows
import Derived.WalkKit
import Derived.ProofKit
import Derived.OpenShut
import Derived.WideKeyArgs
import Derived.Deep.DeepHandedRow
import Derived.Lib.LaidTab
import Derived.Test.YtkeopokhnfpgpaaGreatDoorCards
import Derived.Test.YtkeopokhnfpgpaaGreatDoorTie
import Derived.Stop.LaidErr
import Derived.ChangeMaps5
import Derived.KernelRfl
import Derived.Test.YtkeopokhnfpgpaaGreatDoorHP1
import Derived.Test.YtkeopokhnfpgpaaGreatDoorHAv43
import Derived.Test.YtkeopokhnfpgpaaGreatDoorHAv44
import Derived.Test.YtkeopokhnfpgpaaGreatDoorHAv46
import Derived.Test.YtkeopokhnfpgpaaGreatDoorChecked
import Derived.Lib.Strings
import Derived.Lib.Slices
import Derived.Lib.Walk
import Derived.Lib.Bytealg
import Derived.Lib.IndexLaws
import Derived.Test.YtkeopokhnfpgpaaGreatDoorHAv45
import Derived.Test.YtkeopokhnfpgpaaGreatDoorHAv53
set_option linter.all false
namespace Go.Proofs.YtkeopokhnfpgpaaGreatDoor
open Go.Av
structure NameM where
 By : Int
 Seq : Int
 deriving DecidableEq, Inhabited
structure IdM where
 By : Int
 Seq : Int
 K : Int
 deriving DecidableEq, Inhabited
structure SpotM where
 Volume : Int
 Article : Int
 Index : Int
 deriving DecidableEq, Inhabited
structure OpM where
 Kind : Int
 At : IdM
 To : IdM
 Spot : SpotM
 N : Int
 Form : Int
 Lang : Int
 Text : ByteArray
 Texts : List ByteArray
 Pairs : List (Int × Int)
 Refs : List IdM
 deriving Inhabited
structure TermM where
 Name : ByteArray
 Kind : Int
 Lang : Int
 See : ByteArray
 Broader : List ByteArray
 deriving Inhabited
structure PostM where
 ID : IdM
 Path : List ByteArray
 Main : Bool
 deriving Inhabited
structure EventM where
 By : Int
 Seq : Int
 Tick : Int
 Kind : Int
 Refs : List NameM
 Op : OpM
 Term : TermM
 ID : IdM
 Posts : List PostM
 N : Int
 deriving Inhabited
abbrev bD (b : Bool) : Dat := .bool b
abbrev sD (s : ByteArray) : Dat := .str s
abbrev ssD (l : List ByteArray) : Dat := .sl (l.map .str)
abbrev u8D (n : Int) : Dat := .int .u8 n
abbrev z3m (l : List Int) : Dat := .sl (l.map u8D)
abbrev zx (n : NameM) : Dat := .agg [iD n.By, iD n.Seq]
abbrev qc (l : List NameM) : Dat := .sl (l.map zx)
abbrev idD (i : IdM) : Dat := .agg [iD i.By, iD i.Seq, iD i.K]
abbrev zdy (l : List IdM) : Dat := .sl (l.map idD)
abbrev zaa (p : Int × Int) : Dat := .agg [iD p.1, iD p.2]
abbrev z4k (l : List (Int × Int)) : Dat := .sl (l.map zaa)
abbrev opD (o : OpM) : Dat := .agg [iD o.Kind, iD o.At.By, iD o.At.Seq, iD o.At.K, iD o.To.By, iD o.To.Seq, iD o.To.K, iD o.Spot.Volume, iD o.Spot.Article, iD o.Spot.Index, iD o.N, iD o.Form, iD o.Lang, sD o.Text, ssD o.Texts, z4k o.Pairs, zdy o.Refs]
abbrev zjv (t : TermM) : Dat := .agg [sD t.Name, iD t.Kind, iD t.Lang, sD t.See, ssD t.Broader]
abbrev z39 (p : PostM) : Dat := .agg [iD p.ID.By, iD p.ID.Seq, iD p.ID.K, ssD p.Path, bD p.Main]
abbrev qs (l : List PostM) : Dat := .sl (l.map z39)
abbrev zc (e : EventM) : Dat := .agg [iD e.By, iD e.Seq, iD e.Tick, iD e.Kind, qc e.Refs,
 iD e.Op.Kind, iD e.Op.At.By, iD e.Op.At.Seq, iD e.Op.At.K, iD e.Op.To.By, iD e.Op.To.Seq, iD e.Op.To.K, iD e.Op.Spot.Volume, iD e.Op.Spot.Article, iD e.Op.Spot.Index, iD e.Op.N, iD e.Op.Form, iD e.Op.Lang, sD e.Op.Text, ssD e.Op.Texts, z4k e.Op.Pairs, zdy e.Op.Refs,
 sD e.Term.Name, iD e.Term.Kind, iD e.Term.Lang, sD e.Term.See, ssD e.Term.Broader, iD e.ID.By, iD e.ID.Seq, iD e.ID.K, qs e.Posts, iD e.N]
abbrev zz (l : List EventM) : Dat := .sl (l.map zc)
theorem zt {α : Type} [Inhabited α] {p : α → Prop} {l : List α} (h : ∀ x ∈ l, p x) {i : Nat} (hi : i < l.length) : p (l.getD i default) := by
 rw [List.getD_eq_getElem?_getD, List.getElem?_eq_getElem hi]
 exact h _ (List.getElem_mem hi)
def zp (n m : Int) : Int := (if n < 0 then -(n + 1) else n).tmod m
theorem zu {n m : Int} (hm : 0 < m) : 0 ≤ zp n m ∧ zp n m < m := by
 unfold zp
 have h : 0 ≤ (if n < 0 then -(n + 1) else n) := by split <;> omega
 exact ⟨Int.tmod_nonneg _ h, Int.tmod_lt_of_pos _ hm⟩
def atM (l : List Int) (i m : Int) : Int := if i < 0 ∨ (l.length : Int) ≤ i then 0 else zp (l.getD i.toNat default) m
theorem xc {l : List Int} {i m : Int} (hm : 0 < m) : 0 ≤ atM l i m ∧ atM l i m < m := by
 unfold atM
 split
 ·omega
 ·exact zu hm
def ym (n : NameM) : Bool := decide (0 ≤ n.By) && decide (n.By < 6) && decide (0 ≤ n.Seq) && decide (n.Seq ≤ 63)
def z0k (a b : NameM) : Bool := if a.By ≠ b.By then decide (a.By < b.By) else decide (a.Seq < b.Seq)
def wa (n m : Int) : Bool := decide (0 ≤ n) && decide (n ≤ m)
def evName (e : EventM) : NameM := ⟨e.By, e.Seq⟩
def xl (a b : EventM) : Bool := if a.Tick ≠ b.Tick then decide (a.Tick < b.Tick) else z0k (evName a) (evName b)
def qf {α : Type} (f : α → α → Bool) : List α → List α → Bool
 | [], [] => true
 | x :: a, y :: b => f x y && qf f a b
 | _, _ => false
theorem v6 {α : Type} {f : α → α → Bool} : ∀ {a b : List α}, a.length ≠ b.length → qf f a b = false
 | [], [], h => absurd rfl h
 | x :: a, y :: b, h => by
  have := v6 (f := f) (a := a) (b := b) (by simpa using h)
  simp [qf, this]
 | [], _ :: _, _ => rfl
 | _ :: _, [], _ => rfl
theorem v5 {α : Type} [Inhabited α] {f : α → α → Bool} : ∀ {a b : List α} (i : Nat), i < a.length → a.length = b.length → f (a.getD i default) (b.getD i default) = false → qf f a b = false
 | [], _, _, h, _, _ => by simp at h
 | _ :: _, [], _, _, h, _ => by simp at h
 | x :: a, y :: b, 0, _, _, h => by simp at h; simp [qf, h]
 | x :: a, y :: b, i + 1, h1, h2, h => by
  have := v5 (f := f) (a := a) (b := b) i (by simpa using h1) (by simpa using h2) (by simpa using h)
  simp [qf, this]
theorem xj {α : Type} [Inhabited α] {f : α → α → Bool} : ∀ {a b : List α}, a.length = b.length → (∀ i, i < a.length → f (a.getD i default) (b.getD i default) = true) → qf f a b = true
 | [], [], _, _ => rfl
 | [], _ :: _, h, _ => by simp at h
 | _ :: _, [], h, _ => by simp at h
 | x :: a, y :: b, hl, h => by
  have h0 := h 0 (by simp)
  have h1 := xj (f := f) (a := a) (b := b) (by simpa using hl) fun i hi => by simpa using h (i + 1) (by simpa using hi)
  simp at h0
  simp [qf, h0, h1]
theorem xa {p : Nat → Prop} {i : Nat} (h : ∀ j, j < i → p j) (hi : p i) : ∀ j, j < i + 1 → p j := fun j hj => by
 rcases Nat.lt_or_eq_of_le (Nat.lt_succ_iff.1 hj) with h1 | h1
 ·exact h j h1
 ·exact h1 ▸ hi
def qa (a b : NameM) : Bool := a.By == b.By && a.Seq == b.Seq
def qp (a b : IdM) : Bool := a.By == b.By && a.Seq == b.Seq && a.K == b.K
def z0v (a b : SpotM) : Bool := a.Volume == b.Volume && a.Article == b.Article && a.Index == b.Index
def qx (a b : ByteArray) : Bool := decide (a = b)
theorem z3k {a b : ByteArray} (h : a.toList = b.toList) : a = b := by
 rw [ByteArray.toList_eq, ByteArray.toList_eq] at h
 cases a; cases b
 simp only at h
 congr
 exact Array.ext' h
theorem Xt (a b : ByteArray) : (a.toList == b.toList) = qx a b := by
 unfold qx
 by_cases h : a = b
 ·subst h; simp
 ·have : a.toList ≠ b.toList := fun e => h (z3k e)
  simp [h, this]
def je (t u : TermM) : Bool := qx t.Name u.Name && t.Kind == u.Kind && t.Lang == u.Lang && qx t.See u.See && qf qx t.Broader u.Broader
def xg (p q : PostM) : Bool := qp p.ID q.ID && p.Main == q.Main && qf qx p.Path q.Path
def xw (x y : Int × Int) : Bool := x.1 == y.1 && x.2 == y.2
def jq (o p : OpM) : Bool := o.Kind == p.Kind && qp o.At p.At && qp o.To p.To && z0v o.Spot p.Spot && o.N == p.N && o.Form == p.Form && o.Lang == p.Lang && qx o.Text p.Text &&
 qf qx o.Texts p.Texts && qf xw o.Pairs p.Pairs && qf qp o.Refs p.Refs
structure UsesM where
 op : Bool := false
 term : Bool := false
 id : Bool := false
 posts : Bool := false
 n : Bool := false
abbrev zyo (u : UsesM) : Dat := .agg [bD u.op, bD u.term, bD u.id, bD u.posts, bD u.n]
def ofM (k : Int) : UsesM := if k = 0 then { op := true } else if k = 2 then { term := true } else if k = 3 ∨ k = 4 then { id := true, posts := true } else if k = 5 ∨ k = 6 then { id := true, n := true } else {}
def wordsL : List ByteArray := [⟨#[97, 110, 110, 97]⟩, ⟨#[114, 111, 109, 101]⟩, ⟨#[107, 105, 110, 103]⟩, ⟨#[107, 105, 110, 103, 32, 97, 110, 110, 97]⟩, ⟨#[111, 100, 101]⟩, ⟨#[108, 121, 114, 101, 32, 111, 102, 32, 114, 111, 109, 101]⟩, ⟨#[120, 32, 49, 50]⟩, ⟨#[116, 104, 101, 32, 101, 110, 100, 46]⟩]
def wordM (n : Int) : ByteArray := wordsL.getD (zp n 8).toNat default
def idM (n : Int) : IdM := ⟨n.tmod 4, (n.tdiv 4).tmod 8, (n.tdiv 32).tmod 3⟩
def yx (l : List Int) (at_ : Int) (i : Nat) : List ByteArray := (List.range i).map fun (j : Nat) => wordM (atM l (at_ + (j : Int)) 64)
def jy {α : Type} (p : α → Bool) (l : List α) : Int := if l.findIdx p < l.length then (l.findIdx p : Int) else -1
theorem k7 {α : Type} [Inhabited α] {p : α → Bool} {l : List α} {i : Nat} (hi : i < l.length) (h : p (l.getD i default) = true) (hn : ∀ j, j < i → p (l.getD j default) = false) : jy p l = i := by
 have e : ∀ j (h : j < l.length), l.getD j default = l[j] := fun j h => by rw [List.getD_eq_getElem?_getD, List.getElem?_eq_getElem h]; rfl
 have : l.findIdx p = i := (List.findIdx_eq hi).2 ⟨by rw [← e i hi]; exact h, fun j hj => by rw [← e j (by omega)]; simpa using hn j hj⟩
 unfold jy
 rw [this, if_pos hi]
theorem jz {α : Type} [Inhabited α] {p : α → Bool} {l : List α} (hn : ∀ j, j < l.length → p (l.getD j default) = false) : jy p l = -1 := by
 have e : ∀ j (h : j < l.length), l.getD j default = l[j] := fun j h => by rw [List.getD_eq_getElem?_getD, List.getElem?_eq_getElem h]; rfl
 have : l.findIdx p = l.length := List.findIdx_eq_length.2 fun x hx => by
  obtain ⟨j, hj, rfl⟩ := List.getElem_of_mem hx
  rw [← e j hj]
  simpa using hn j hj
 unfold jy
 rw [this, if_neg (by omega)]
theorem jb {α : Type} {p : α → Bool} {l : List α} : 0 ≤ jy p l ↔ l.any p = true := by
 unfold jy
 constructor
 ·intro h
  split at h
  ·rename_i hl
   rw [List.any_eq_true]
   exact ⟨l[l.findIdx p], List.getElem_mem hl, List.findIdx_getElem⟩
  ·omega
 ·intro h
  rw [List.any_eq_true] at h
  have := List.findIdx_lt_length.2 h
  rw [if_pos this]
  omega
theorem Qk {p : Nat → Prop} : ∀ j, j < 0 → p j := fun j h => absurd h (Nat.not_lt_zero j)
def z3y (m : Nat) : Nat := if m = 0 then 0 else z3y (m / 256) + 1
termination_by m
decreasing_by omega
theorem z9a : z3y 0 = 0 := by rw [z3y]; rfl
theorem zdj {m : Nat} (h : 0 < m) : z3y m = z3y (m / 256) + 1 := by rw [z3y]; rw [if_neg (by omega)]
theorem zdi (m : Nat) : ∀ j, z3y (m / 256 ^ j) = z3y m - j
 | 0 => by simp
 | j + 1 => by
  rw [Nat.pow_succ, ← Nat.div_div_eq_div_mul]
  have ih := zdi m j
  by_cases h : m / 256 ^ j = 0
  ·rw [h] at ih ⊢
   simp only [Nat.zero_div, z9a] at ih ⊢
   omega
  ·rw [zdj (Nat.pos_of_ne_zero h)] at ih
   omega
theorem z6e (m j : Nat) : 0 < m / 256 ^ j ↔ j < z3y m := by
 have h := zdi m j
 constructor
 ·intro h1
  rw [zdj h1] at h
  omega
 ·intro h1
  rcases Nat.eq_zero_or_pos (m / 256 ^ j) with h2 | h2
  ·rw [h2, z9a] at h; omega
  ·exact h2
theorem zt1 {m k : Nat} (h : m < 256 ^ k) : z3y m ≤ k := by
 rcases Nat.lt_or_ge k (z3y m) with h1 | h1
 ·have := (z6e m k).2 h1
  rw [Nat.div_eq_of_lt h] at this
  omega
 ·exact h1
theorem zwi {m : Nat} (h : m < 18446744073709551616) : z3y m ≤ 8 := zt1 (by simpa using h)
def kp (n : Int) : Int := if n < 0 then -1 - n else n
theorem Qj {n : Int} (h : I64 n) : 0 ≤ kp n ∧ kp n < 9223372036854775808 := by
 unfold kp
 unfold I64 at h
 split <;> omega
def vd (n b : Int) : Int := if n < 0 then 255 - b else b
def kM (n : Int) : Nat := z3y (kp n).toNat
theorem Zo {n : Int} (h : I64 n) : kM n ≤ 8 := zwi (by have := Qj h; omega)
def digM (n : Int) (i : Nat) : Int := vd n (((kp n).toNat / 256 ^ i % 256 : Nat) : Int)
def z48 (n : Int) (j : Nat) : List Int := vd n (128 + kM n) :: (List.range j).map fun i => digM n (kM n - 1 - i)
def yq (n : Int) : List Int := z48 n (kM n)
theorem zj1 (n : Int) : yq n = z48 n (kM n) := rfl
theorem z9x (n : Int) : z48 n 0 = [vd n (128 + kM n)] := rfl
theorem z9w (n : Int) (j : Nat) : z48 n (j + 1) = z48 n j ++ [digM n (kM n - 1 - j)] := by simp [z48, List.range_succ]
theorem Qf (n : Int) (j : Nat) : (z48 n j).length = j + 1 := by simp [z48]
theorem wd (n : Int) : (yq n).length = kM n + 1 := Qf _ _
theorem zs7 (n b : Int) (h : 0 ≤ b ∧ b ≤ 255) : IntKind.u8.wrap ((BitVec.ofInt IntKind.u8.bits b ^^^ BitVec.ofInt IntKind.u8.bits (vd n 0)).toNat : Int) = vd n b := by
 have h0 : ∀ b : Fin 256, IntKind.u8.wrap ((BitVec.ofInt IntKind.u8.bits (b.val : Int) ^^^ BitVec.ofInt IntKind.u8.bits 0).toNat : Int) = b.val := by decide +kernel
 have h1 : ∀ b : Fin 256, IntKind.u8.wrap ((BitVec.ofInt IntKind.u8.bits (b.val : Int) ^^^ BitVec.ofInt IntKind.u8.bits 255).toNat : Int) = 255 - b.val := by decide +kernel
 have hb : b = ((⟨b.toNat, by omega⟩ : Fin 256).val : Int) := by simp; omega
 unfold vd
 rw [hb]
 split
 ·exact h1 _
 ·exact h0 _
theorem ztx {n : Int} (h : I64 n) (hn : n < 0) : IntKind.u64.wrap ((BitVec.ofInt IntKind.u64.bits IntKind.u64.max ^^^ BitVec.ofInt IntKind.u64.bits (IntKind.u64.wrap n)).toNat : Int) = kp n := by
 unfold I64 at h
 have e1 : IntKind.u64.wrap n = 18446744073709551616 + n := by unfold IntKind.wrap; simp [IntKind.bits, IntKind.signed]; omega
 have e2 : BitVec.ofInt 64 18446744073709551615 = BitVec.allOnes 64 := by decide
 rw [e1]
 show IntKind.u64.wrap ((BitVec.ofInt 64 18446744073709551615 ^^^ BitVec.ofInt 64 (18446744073709551616 + n)).toNat : Int) = kp n
 rw [e2, BitVec.allOnes_xor, BitVec.toNat_not, BitVec.toNat_ofInt]
 unfold kp
 rw [if_pos hn, IntWalk.u64_in _ (by omega)]
 omega
theorem zqc {n : Int} (h : I64 n) (hn : n < 0) : IntKind.u64.wrap ((BitVec.ofInt IntKind.u64.bits (if IntKind.u64.signed = true then -1 else IntKind.u64.max) ^^^ BitVec.ofInt IntKind.u64.bits (IntKind.u64.wrap n)).toNat : Int) = kp n := ztx h hn
theorem zb7 (x : Nat) : IntKind.u8.wrap (x : Int) = ((x % 256 : Nat) : Int) := by
 rw [IntKind.wrap_u8]
 omega
theorem z4t {m : Int} {j : Nat} (h0 : 0 ≤ m) (hj : j < 8) : Int.fdiv m (2 ^ (min (8 * (j : Int)).toNat IntKind.u64.bits)) = ((m.toNat / 256 ^ j : Nat) : Int) := by
 obtain ⟨k, rfl⟩ := Int.eq_ofNat_of_zero_le h0
 rw [show min (8 * (j : Int)).toNat IntKind.u64.bits = 8 * j by simp only [IntKind.bits]; omega, Int.toNat_natCast, Int.fdiv_eq_ediv_of_nonneg _ (Int.pow_nonneg (by omega)), show (2 : Int) ^ (8 * j) = ((256 ^ j : Nat) : Int) by rw [Int.pow_mul]; simp]
 exact (Int.natCast_ediv k (256 ^ j)).symm
def Xx (l : List Int) (i : Nat) : List Int := yq l.length ++ (Xl l i).flatMap yq
def intsM (l : List Int) : List Int := Xx l l.length
def x4 (s : ByteArray) : List Int := yq s.size ++ vj s
def Qq (l : List ByteArray) (i : Nat) : List Int := yq l.length ++ (Xl l i).flatMap x4
def strsM (l : List ByteArray) : List Int := Qq l l.length
def vl (o : OpM) : List Int := [o.Kind, o.At.By, o.At.Seq, o.At.K, o.To.By, o.To.Seq, o.To.K, o.Spot.Volume, o.Spot.Article, o.Spot.Index, o.N, o.Form, o.Lang]
def pairI (p : Int × Int) : List Int := [p.1, p.2]
def idI (r : IdM) : List Int := [r.By, r.Seq, r.K]
def nameI (r : NameM) : List Int := [r.By, r.Seq]
def wr {α : Type} (f : α → List Int) (l : List α) (i : Nat) : List Int := (Xl l i).flatMap f
theorem X9 {α : Type} (f : α → List Int) (l : List α) : wr f l 0 = [] := rfl
theorem vy {α : Type} (f : α → List Int) (l : List α) : wr f l l.length = l.flatMap f := by simp [wr, z0n]
theorem jx {α : Type} [Inhabited α] (f : α → List Int) (l : List α) (i : Nat) (h : i < l.length) : wr f l (i + 1) = wr f l i ++ f (l.getD i default) := by simp [wr, z1h l i h]
theorem jv {α : Type} {f : α → List Int} {k : Nat} (hf : ∀ x, (f x).length = k) (l : List α) (i : Nat) (h : i ≤ l.length) : (wr f l i).length = k * i := by
 have : ∀ q : List α, (q.flatMap f).length = k * q.length := fun q => by
  induction q with
  | nil => simp
  | cons x q ih => rw [List.flatMap_cons, List.length_append, ih, hf, List.length_cons, Nat.mul_succ]; omega
 rw [wr, this, z0o l i h]
def opB (o : OpM) : List Int := intsM (vl o) ++ x4 o.Text ++ strsM o.Texts ++ intsM (o.Pairs.flatMap pairI) ++ intsM (o.Refs.flatMap idI)
def zbp (i : IdM) : Prop := I64 i.By ∧ I64 i.Seq ∧ I64 i.K
structure OkOp (o : OpM) : Prop where
 head : ∀ x ∈ vl o, I64 x
 pairs : ∀ p ∈ o.Pairs, I64 p.1 ∧ I64 p.2
 refs : ∀ r ∈ o.Refs, zbp r
 text : o.Text.size ≤ 900000
 texts : ∀ s ∈ o.Texts, s.size ≤ 900000
 ntexts : o.Texts.length ≤ 100000
 npairs : o.Pairs.length ≤ 100000
 nrefs : o.Refs.length ≤ 100000
 all : (opB o).length ≤ 1000000
def isB (b : List Int) : Prop := ∀ x ∈ b, 0 ≤ x ∧ x ≤ 255
theorem zdr {n b : Int} (h : 0 ≤ b ∧ b ≤ 255) : 0 ≤ vd n b ∧ vd n b ≤ 255 := by
 unfold vd
 split <;> omega
theorem ztj {b : List Int} (h : isB b) (i : Nat) : 0 ≤ b.getD i default ∧ b.getD i default ≤ 255 := by
 by_cases hi : i < b.length
 ·exact zt h hi
 ·rw [List.getD_eq_getElem?_getD, List.getElem?_eq_none (by omega)]
  exact ⟨Int.le_refl _, by decide⟩
theorem zv5 (l : List Int) (i : Nat) : List.take i (List.map u8D l) = List.map u8D (List.take i l) := List.map_take.symm
theorem zv4 (l : List Int) (i : Nat) : List.drop i (List.map u8D l) = List.map u8D (List.drop i l) := List.map_drop.symm
abbrev W32 := BitVec 32
abbrev wD (x : W32) : Dat := .int .u32 x.toNat
def kx (x : W32) (n : Nat) : W32 := x >>> n ||| x <<< (32 - n)
def kH : List W32 := [
 0x428a2f98, 0x71374491, 0xb5c0fbcf, 0xe9b5dba5, 0x3956c25b, 0x59f111f1, 0x923f82a4, 0xab1c5ed5,
 0xd807aa98, 0x12835b01, 0x243185be, 0x550c7dc3, 0x72be5d74, 0x80deb1fe, 0x9bdc06a7, 0xc19bf174,
 0xe49b69c1, 0xefbe4786, 0x0fc19dc6, 0x240ca1cc, 0x2de92c6f, 0x4a7484aa, 0x5cb0a9dc, 0x76f988da,
 0x983e5152, 0xa831c66d, 0xb00327c8, 0xbf597fc7, 0xc6e00bf3, 0xd5a79147, 0x06ca6351, 0x14292967,
 0x27b70a85, 0x2e1b2138, 0x4d2c6dfc, 0x53380d13, 0x650a7354, 0x766a0abb, 0x81c2c92e, 0x92722c85,
 0xa2bfe8a1, 0xa81a664b, 0xc24b8b70, 0xc76c51a3, 0xd192e819, 0xd6990624, 0xf40e3585, 0x106aa070,
 0x19a4c116, 0x1e376c08, 0x2748774c, 0x34b0bcb5, 0x391c0cb3, 0x4ed8aa4a, 0x5b9cca4f, 0x682e6ff3,
 0x748f82ee, 0x78a5636f, 0x84c87814, 0x8cc70208, 0x90befffa, 0xa4506ceb, 0xbef9a3f7, 0xc67178f2]
structure S8 where
 a : W32
 b : W32
 c : W32
 d : W32
 e : W32
 f : W32
 g : W32
 h : W32
 deriving Inhabited
def S8.l (s : S8) : List W32 := [s.a, s.b, s.c, s.d, s.e, s.f, s.g, s.h]
def iv8 : S8 := ⟨0x6a09e667, 0xbb67ae85, 0x3c6ef372, 0xa54ff53a, 0x510e527f, 0x9b05688c, 0x1f83d9ab, 0x5be0cd19⟩
def z67 (b : List Int) (i : Nat) : W32 := BitVec.ofInt 32 (b.getD i default)
def zs5 (b : List Int) (t : Nat) : W32 := z67 b (4 * t) <<< 24 ||| z67 b (4 * t + 1) <<< 16 ||| z67 b (4 * t + 2) <<< 8 ||| z67 b (4 * t + 3)
def wordP (b : List Int) (t : Nat) : Nat → W32
 | 0 => 0#32
 | j + 1 => wordP b t j <<< 8 ||| z67 b (4 * t + j)
theorem zv8 (b : List Int) (t : Nat) : wordP b t 4 = zs5 b t := by
 simp only [wordP, zs5, BitVec.shiftLeft_or_distrib, ← BitVec.shiftLeft_add]
 have h0 : 0#32 <<< (8 + 8 + 8 + 8) = 0#32 := by decide
 rw [h0, BitVec.zero_or]
 rfl
def sg0 (x : W32) : W32 := kx x 7 ^^^ kx x 18 ^^^ x >>> 3
def sg1 (x : W32) : W32 := kx x 17 ^^^ kx x 19 ^^^ x >>> 10
def zeh (b : List Int) (l : List W32) (t : Nat) : W32 :=
 if t < 16 then zs5 b t else l.getD (t - 16) 0#32 + sg0 (l.getD (t - 15) 0#32) + l.getD (t - 7) 0#32 + sg1 (l.getD (t - 2) 0#32)
def wq (b : List Int) : Nat → List W32
 | 0 => []
 | t + 1 => wq b t ++ [zeh b (wq b t) t]
theorem ye (b : List Int) : ∀ t, (wq b t).length = t
 | 0 => rfl
 | t + 1 => by simp [wq, ye b t]
def bs0 (x : W32) : W32 := kx x 2 ^^^ kx x 13 ^^^ kx x 22
def bs1 (x : W32) : W32 := kx x 6 ^^^ kx x 11 ^^^ kx x 25
def xM (s : S8) (k w : W32) : W32 := s.h + bs1 s.e + (s.e &&& s.f ^^^ ~~~s.e &&& s.g) + k + w
def yM (s : S8) : W32 := bs0 s.a + (s.a &&& s.b ^^^ s.a &&& s.c ^^^ s.b &&& s.c)
def Xp (s : S8) (k w : W32) : S8 := ⟨xM s k w + yM s, s.a, s.b, s.c, s.d + xM s k w, s.e, s.f, s.g⟩
def roundsM (w : List W32) (s : S8) : Nat → S8
 | 0 => s
 | t + 1 => Xp (roundsM w s t) (kH.getD t 0#32) (w.getD t 0#32)
def zxn (s t : S8) : S8 := ⟨s.a + t.a, s.b + t.b, s.c + t.c, s.d + t.d, s.e + t.e, s.f + t.f, s.g + t.g, s.h + t.h⟩
def zvg (s : S8) (b : List Int) : S8 := zxn s (roundsM (wq b 64) s 64)
def z3u (m : List Int) (k : Nat) : List Int := (m.drop (64 * k)).take 64
def blocksM (s : S8) (m : List Int) : Nat → S8
 | 0 => s
 | k + 1 => zvg (blocksM s m k) (z3u m k)
def ze5 (n : Nat) : List Int := (List.range 8).map fun i => ((8 * n / 2 ^ (56 - 8 * i) % 256 : Nat) : Int)
def yh (n : Nat) : Nat := (119 - n % 64) % 64
def z1o (b : List Int) : List Int := b ++ 128 :: (List.replicate (yh b.length) 0 ++ ze5 b.length)
def zqk (s : S8) : List Int := (List.range 32).map fun i => (((s.l.getD (i / 4) 0#32).toNat / 2 ^ (24 - 8 * (i % 4)) % 256 : Nat) : Int)
def zv0 (b : List Int) : List Int := zqk (blocksM iv8 (z1o b) ((z1o b).length / 64))
theorem znk (x y : W32) : IntKind.u32.wrap ((x.toNat : Int) + (y.toNat : Int)) = ((x + y).toNat : Int) := by
 rw [IntKind.wrap_u32, BitVec.toNat_add]
 omega
theorem yc (x : W32) : BitVec.ofInt IntKind.u32.bits (x.toNat : Int) = x := by
 show BitVec.ofInt 32 (x.toNat : Int) = x
 apply BitVec.eq_of_toNat_eq
 have := x.isLt
 rw [BitVec.toNat_ofInt]
 omega
theorem Xu (x : BitVec IntKind.u32.bits) : IntKind.u32.wrap (x.toNat : Int) = (x.toNat : Int) := by
 have := x.isLt
 have hb : (2 : Nat) ^ IntKind.u32.bits = 4294967296 := rfl
 rw [hb] at this
 exact IntWalk.u32_in _ (by omega)
theorem zg1 (x y : W32) : IntKind.u32.wrap ((BitVec.ofInt IntKind.u32.bits (x.toNat : Int) ^^^ BitVec.ofInt IntKind.u32.bits (y.toNat : Int)).toNat : Int) = ((x ^^^ y).toNat : Int) := by
 rw [yc, yc, Xu]
 rfl
theorem zw4 (x y : W32) : IntKind.u32.wrap ((BitVec.ofInt IntKind.u32.bits (x.toNat : Int) &&& BitVec.ofInt IntKind.u32.bits (y.toNat : Int)).toNat : Int) = ((x &&& y).toNat : Int) := by
 rw [yc, yc, Xu]
 rfl
theorem zve (x y : W32) : IntKind.u32.wrap ((BitVec.ofInt IntKind.u32.bits (x.toNat : Int) ||| BitVec.ofInt IntKind.u32.bits (y.toNat : Int)).toNat : Int) = ((x ||| y).toNat : Int) := by
 rw [yc, yc, Xu]
 rfl
theorem zhj : BitVec.ofInt IntKind.u32.bits 4294967295 = (BitVec.allOnes 32 : W32) := by rfl
theorem zsm (x : W32) : IntKind.u32.wrap ((BitVec.ofInt IntKind.u32.bits (x.toNat : Int) ^^^ BitVec.ofInt IntKind.u32.bits 4294967295).toNat : Int) = ((~~~x).toNat : Int) := by
 rw [yc, zhj, Xu]
 show ((x ^^^ BitVec.allOnes 32).toNat : Int) = _
 rw [BitVec.xor_allOnes]
theorem zw5 (x : W32) : IntKind.u32.wrap ((BitVec.ofInt IntKind.u32.bits (if IntKind.u32.signed = true then -1 else IntKind.u32.max) ^^^ BitVec.ofInt IntKind.u32.bits (x.toNat : Int)).toNat : Int) = ((~~~x).toNat : Int) := by
 have : (if IntKind.u32.signed = true then (-1 : Int) else IntKind.u32.max) = 4294967295 := rfl
 rw [this, BitVec.xor_comm]
 exact zsm x
theorem znl (x : W32) (n : Nat) (h : n ≤ 32) : IntKind.u32.wrap ((x.toNat : Int) * 2 ^ min n IntKind.u32.bits) = ((x <<< n).toNat : Int) := by
 have hb : IntKind.u32.bits = 32 := rfl
 rw [hb, Nat.min_eq_left h, IntKind.wrap_u32, BitVec.toNat_shiftLeft, Nat.shiftLeft_eq]
 have e : ((x.toNat * 2 ^ n : Nat) : Int) = (x.toNat : Int) * 2 ^ n := by push_cast; rfl
 rw [← e]
 omega
theorem zg0 (x : W32) (n : Nat) (h : n ≤ 32) : (x.toNat : Int).fdiv (2 ^ min n IntKind.u32.bits) = ((x >>> n).toNat : Int) := by
 have hb : IntKind.u32.bits = 32 := rfl
 have e : ((2 ^ n : Nat) : Int) = (2 : Int) ^ n := by push_cast; rfl
 rw [hb, Nat.min_eq_left h, BitVec.toNat_ushiftRight, Nat.shiftRight_eq_div_pow, ← e, Int.fdiv_eq_ediv_of_nonneg _ (Int.natCast_nonneg _)]
 rfl
abbrev wsD (l : List W32) : Dat := .agg (l.map wD)
abbrev bsD (l : List Int) : Dat := .agg (l.map u8D)
theorem zhd (l : List Dat) : mkAgg (l.map AV.dat) = .dat (.agg l) ∨ ∃ d ∈ l, d.isAgg = true := by
 by_cases h : ∃ d ∈ l, d.isAgg = true
 ·exact .inr h
 ·left
  have : zk (l.map AV.dat) = some l := by
   induction l with
   | nil => rfl
   | cons d l ih =>
    have hd : d.isAgg = false := by
     cases hq : d.isAgg
     ·rfl
     ·exact absurd ⟨d, by simp, hq⟩ h
    have := ih fun ⟨x, hx, hq⟩ => h ⟨x, by simp [hx], hq⟩
    simp only [List.map_cons, zk, hd, this, Option.map_some]
    rfl
  unfold mkAgg
  rw [this]
theorem zq0 (l : List W32) : mkAgg ((l.map wD).map AV.dat) = .dat (wsD l) := by
 rcases zhd (l.map wD) with h | ⟨d, hd, hq⟩
 ·exact h
 ·obtain ⟨x, _, rfl⟩ := List.mem_map.1 hd
  simp [Dat.isAgg] at hq
theorem zvb (n : Nat) : mkAgg (List.replicate n (AV.dat (.int .u32 0))) = .dat (wsD (List.replicate n 0)) := by
 rw [← zq0, List.map_replicate, List.map_replicate]
 rfl
def z64 : List W32 := List.replicate 64 0#32
def y64 : List Int := List.replicate 64 0
theorem zv9 : z64.length = 64 := by simp [z64]
theorem zcn : y64.length = 64 := by simp [y64]
theorem zfq : mkAgg (List.replicate 64 (AV.dat (.int .u32 0))) = .dat (wsD z64) := zvb 64
theorem z0g (l : List W32) (k : Nat) (h : k < l.length) : (((l.map wD).map AV.dat)[k]?).getD .junk = .dat (wD (l.getD k 0#32)) := by
 simp [h]
theorem zh2 (l : List W32) : ((l.map wD).map AV.dat).length = l.length := by simp
theorem zbs (l : List Int) : ((l.map u8D).map AV.dat).length = l.length := by simp
theorem zsl {b : List Int} (h : isB b) (i : Nat) : IntKind.u32.wrap (b.getD i default) = ((z67 b i).toNat : Int) := by
 have := ztj h i
 rw [IntWalk.u32_in _ (by omega)]
 unfold z67
 rw [BitVec.toNat_ofInt]
 omega
def Xs (b : List Int) (t : Nat) (x : W32) : List W32 := wq b t ++ x :: List.replicate (63 - t) 0#32
theorem z81 (b : List Int) {t : Nat} (h : t < 64) (x : W32) : (Xs b t x).length = 64 := by
 simp [Xs, ye]; omega
theorem zrg (b : List Int) {t : Nat} (x : W32) : (Xs b t x).getD t 0#32 = x := by
 simp [Xs, ye]
theorem zrh (b : List Int) {t k : Nat} (h : k < t) (x : W32) : (Xs b t x).getD k 0#32 = (wq b t).getD k 0#32 := by
 simp [Xs, List.getElem?_append_left (show k < (wq b t).length by rw [ye]; exact h)]
def z8x (b : List Int) (t : Nat) : List W32 := wq b t ++ List.replicate (64 - t) 0#32
theorem zx9 (b : List Int) {t : Nat} (h : t < 64) : z8x b t = Xs b t 0#32 := by
 unfold z8x Xs
 rw [show 64 - t = (63 - t) + 1 from by omega, List.replicate_succ]
theorem zau (b : List Int) {t : Nat} (h : t < 64) : z8x b (t + 1) = Xs b t (zeh b (wq b t) t) := by
 unfold z8x Xs
 rw [show 64 - (t + 1) = 63 - t from by omega, wq]
 simp
theorem zx8 (b : List Int) : z8x b 0 = z64 := rfl
theorem zus (b : List Int) : z8x b 64 = wq b 64 := by simp [z8x]
theorem ldA (b : List Int) {t k : Nat} (h : t < 64) (hk : k < t) (x : W32) : (((Xs b t x).map wD).map AV.dat)[k]?.getD .junk = .dat (wD ((wq b t).getD k 0#32)) := by
 rw [z0g _ _ (by rw [z81 b h]; omega), zrh b hk]
theorem ldT (b : List Int) {t : Nat} (h : t < 64) (x : W32) : (((Xs b t x).map wD).map AV.dat)[t]?.getD .junk = .dat (wD x) := by
 rw [z0g _ _ (by rw [z81 b h]; omega), zrg b]
theorem stA (b : List Int) (t : Nat) (x y : W32) : List.take t (Xs b t x) ++ y :: List.drop (t + 1) (Xs b t x) = Xs b t y := by
 unfold Xs
 rw [List.take_append_of_le_length (by rw [ye]; exact Nat.le_refl _), List.take_of_length_le (by rw [ye]; exact Nat.le_refl _)]
 rw [List.drop_append, ye, List.drop_of_length_le (by rw [ye]; omega)]
 simp
theorem zbi (l : List Dat) (h : ∀ d ∈ l, d.isAgg = false) : zk (l.map AV.dat) = some l := by
 induction l with
 | nil => rfl
 | cons d l ih =>
  have h1 := h d (by simp)
  have h2 := ih fun x hx => h x (by simp [hx])
  simp only [List.map_cons, zk, h1, h2, Option.map_some]
  rfl
theorem zvj (A B : List W32) (x : W32) : zk ((A.map wD).map AV.dat ++ [AV.dat (.int .u32 (x.toNat : Int))] ++ (B.map wD).map AV.dat) = some ((A ++ x :: B).map wD) := by
 have : (A.map wD).map AV.dat ++ [AV.dat (.int .u32 (x.toNat : Int))] ++ (B.map wD).map AV.dat = ((A ++ x :: B).map wD).map AV.dat := by simp
 rw [this]
 exact zbi _ fun d hd => by obtain ⟨y, _, rfl⟩ := List.mem_map.1 hd; rfl
theorem zio (A B : List Int) (x : Int) : zk ((A.map u8D).map AV.dat ++ [AV.dat (.int .u8 x)] ++ (B.map u8D).map AV.dat) = some ((A ++ x :: B).map u8D) := by
 have : (A.map u8D).map AV.dat ++ [AV.dat (.int .u8 x)] ++ (B.map u8D).map AV.dat = ((A ++ x :: B).map u8D).map AV.dat := by simp
 rw [this]
 exact zbi _ fun d hd => by obtain ⟨y, _, rfl⟩ := List.mem_map.1 hd; rfl
def ppM (b : List Int) (j : Nat) : List Int := b ++ 128 :: List.replicate j 0
theorem zu9 (b : List Int) (j : Nat) : (ppM b j).length = b.length + 1 + j := by simp [ppM]; omega
def qpM (b : List Int) (i : Nat) : List Int := ppM b (yh b.length) ++ (ze5 b.length).take i
theorem z0j (n : Nat) : (ze5 n).length = 8 := by simp [ze5]
theorem zua (b : List Int) (i : Nat) (h : i ≤ 8) : (qpM b i).length = b.length + 1 + yh b.length + i := by
 simp [qpM, zu9, z0j, Nat.min_eq_left h]
theorem zyh (b : List Int) : qpM b 8 = z1o b := by
 unfold qpM z1o ppM
 rw [List.take_of_length_le (by rw [z0j]; exact Nat.le_refl _)]
 simp
theorem zqn (b : List Int) : (z1o b).length = b.length + 1 + yh b.length + 8 := by rw [← zyh, zua b 8 (by omega)]
theorem z8m (n : Nat) : yh n < 64 ∧ (n + 1 + yh n) % 64 = 56 := by unfold yh; omega
theorem zpi (n i : Nat) (h : i < 8) (hn : n ≤ 281474976710656) : IntKind.u8.wrap (((8 * n : Nat) : Int).fdiv (2 ^ min (56 - 8 * i) IntKind.u64.bits)) = ((8 * n / 2 ^ (56 - 8 * i) % 256 : Nat) : Int) := by
 have hb : IntKind.u64.bits = 64 := rfl
 have e : ((2 ^ (56 - 8 * i) : Nat) : Int) = (2 : Int) ^ (56 - 8 * i) := by push_cast; rfl
 rw [hb, Nat.min_eq_left (by omega), ← e, Int.fdiv_eq_ediv_of_nonneg _ (Int.natCast_nonneg _), IntKind.wrap_u8]
 omega
abbrev s8D (s : S8) : Dat := .agg [wD s.a, wD s.b, wD s.c, wD s.d, wD s.e, wD s.f, wD s.g, wD s.h]
def sL (s : S8) : List W32 := s.l
def vL (s : S8) : List W32 := [s.a, s.b, s.c, s.d]
def eL (s : S8) : List W32 := [s.e, s.f, s.g, s.h]
theorem zzb (s : S8) : s8D s = wsD (sL s) := rfl
theorem zzd (s : S8) : Dat.agg [wD s.a, wD s.b, wD s.c, wD s.d] = wsD (vL s) := rfl
theorem zyw (s : S8) : Dat.agg [wD s.e, wD s.f, wD s.g, wD s.h] = wsD (eL s) := rfl
theorem zz3 (s : S8) (k w : W32) : (Xp s k w).a = xM s k w + yM s := rfl
theorem zz4 (s : S8) (k w : W32) : (Xp s k w).b = s.a := rfl
theorem zz5 (s : S8) (k w : W32) : (Xp s k w).c = s.b := rfl
theorem zz6 (s : S8) (k w : W32) : (Xp s k w).d = s.c := rfl
theorem zz7 (s : S8) (k w : W32) : (Xp s k w).e = s.d + xM s k w := rfl
theorem zz8 (s : S8) (k w : W32) : (Xp s k w).f = s.e := rfl
theorem zz9 (s : S8) (k w : W32) : (Xp s k w).g = s.f := rfl
theorem zza (s : S8) (k w : W32) : (Xp s k w).h = s.g := rfl
theorem zt7 (l : List W32) : (l.map wD).all Dat.flat = true := by simp [Dat.flat]
theorem zp8 : kH.length = 64 := rfl
def addL (s r : S8) : Nat → List W32
 | 0 => sL s
 | i + 1 => ((addL s r i).set i ((addL s r i).getD i 0#32 + (vL r).getD i 0#32)).set (i + 4) (((addL s r i).set i ((addL s r i).getD i 0#32 + (vL r).getD i 0#32)).getD (i + 4) 0#32 + (eL r).getD i 0#32)
theorem Zf (s r : S8) : ∀ i, (addL s r i).length = 8
 | 0 => rfl
 | i + 1 => by simp [addL, Zf s r i]
theorem zvt (s r : S8) : wsD (addL s r 4) = s8D (zxn s r) := rfl
theorem zri (l : List W32) (k : Nat) (h : k < l.length) (y : W32) : List.take k l ++ y :: List.drop (k + 1) l = l.set k y := by
 rw [List.set_eq_take_append_cons_drop, if_pos h]
theorem zxa (l : List Int) (k : Nat) (h : k < l.length) (y : Int) : List.take k l ++ y :: List.drop (k + 1) l = l.set k y := by
 rw [List.set_eq_take_append_cons_drop, if_pos h]
def y32 : List Int := List.replicate 32 0
theorem zyp : Dat.agg [.int .u8 0, .int .u8 0, .int .u8 0, .int .u8 0, .int .u8 0, .int .u8 0, .int .u8 0, .int .u8 0, .int .u8 0, .int .u8 0, .int .u8 0, .int .u8 0, .int .u8 0, .int .u8 0, .int .u8 0, .int .u8 0, .int .u8 0, .int .u8 0, .int .u8 0, .int .u8 0, .int .u8 0, .int .u8 0, .int .u8 0, .int .u8 0, .int .u8 0, .int .u8 0, .int .u8 0, .int .u8 0, .int .u8 0, .int .u8 0, .int .u8 0, .int .u8 0] = bsD y32 := rfl
def outB (s : S8) (i : Nat) : Int := (((sL s).getD (i / 4) 0#32 >>> (24 - 8 * (i % 4))).toNat % 256 : Nat)
def outL (s : S8) : Nat → List Int
 | 0 => y32
 | i + 1 => (outL s i).set i (outB s i)
theorem z37 (s : S8) : ∀ i, (outL s i).length = 32
 | 0 => rfl
 | i + 1 => by simp [outL, z37 s i]
theorem zu7 (s : S8) (i : Nat) : outB s i = (((s.l.getD (i / 4) 0#32).toNat / 2 ^ (24 - 8 * (i % 4)) % 256 : Nat) : Int) := by
 unfold outB sL
 rw [BitVec.toNat_ushiftRight, Nat.shiftRight_eq_div_pow]
theorem zep (s : S8) : ∀ (i k : Nat), i ≤ 32 → (outL s i)[k]? = if k < i then some (outB s k) else if k < 32 then some 0 else none
 | 0, k, _ => by
  simp only [outL, y32, List.getElem?_replicate, Nat.not_lt_zero, if_false]
 | i + 1, k, h => by
  simp only [outL, List.getElem?_set, z37]
  rw [zep s i k (by omega)]
  by_cases h1 : i = k
  ·subst h1
   rw [if_pos rfl, if_pos (by omega), if_pos (by omega)]
  ·rw [if_neg h1]
   by_cases h2 : k < i
   ·rw [if_pos h2, if_pos (by omega)]
   ·have h3 : ¬ k < i + 1 := by omega
    rw [if_neg h2, if_neg h3]
theorem zu8 (s : S8) : outL s 32 = zqk s := by
 apply List.ext_getElem?
 intro k
 rw [zep s 32 k (by omega)]
 unfold zqk
 rw [List.getElem?_map]
 by_cases h : k < 32
 ·rw [if_pos h, List.getElem?_eq_getElem (by simpa using h)]
  simp only [List.getElem_range, Option.map_some, zu7]
 ·rw [if_neg h, if_neg h, List.getElem?_eq_none (by simpa using h)]
  rfl
theorem zw6 (x : W32) : IntKind.u8.wrap (x.toNat : Int) = ((x.toNat % 256 : Nat) : Int) := by
 rw [IntKind.wrap_u8]; omega
theorem zik {m : List Int} {k : Nat} (h : 64 * k + 64 ≤ m.length) : (z3u m k).length = 64 := by
 unfold z3u; rw [List.length_take, List.length_drop]; omega
theorem zti {m : List Int} (h : isB m) (k : Nat) : isB (z3u m k) := fun x hx => h x (List.mem_of_mem_drop (List.mem_of_mem_take hx))
theorem ztk (s : ByteArray) : isB (vj s) := by
 intro x hx
 obtain ⟨b, _, rfl⟩ := List.mem_map.1 hx
 have := b.toNat_lt
 omega
theorem zql (s : S8) : (zqk s).length = 32 := by simp [zqk]
theorem zfh (b : List Int) : (zv0 b).length = 32 := zql _
theorem z2m (l : List Int) : (vv l).size = l.length := by
 show (List.map (fun n : Int => UInt8.ofNat n.toNat) l).toArray.size = l.length
 simp
theorem zj3 {a b : List Int} (ha : isB a) (hb : isB b) : isB (a ++ b) := fun x hx => (List.mem_append.1 hx).elim (ha x) (hb x)
open Go.Av Go.ChangeShapes Go.WideShapes Go.ChangeAt Go.RowKit
abbrev Old (w : World) : Nat → Nat → Prop := fun b _ => b < w.heap.size
theorem z95 {w : World} {a : Addr} {v : Value} (h : w.cell? a = some v) : a.spot = none ∧ a.block < w.heap.size := by
 unfold World.cell? at h
 split at h
 ·rename_i c e f hb
  split at h
  ·cases h
  ·rename_i hs
   exact ⟨by simpa using hs, (Array.getElem?_eq_some_iff.1 hb).1⟩
 ·cases h
theorem z90 {a : Addr} (h : a.spot = none) (n : Nat) : a.add n = ⟨a.block, a.off + n, none⟩ := by
 obtain ⟨b, o, s⟩ := a
 simp only at h
 subst h
 exact wo b o n
theorem zn6 {a : Addr} (h : (a.add 0).spot = none) : a.spot = none := by
 obtain ⟨b, o, s⟩ := a
 cases s with
 | none => rfl
 | some s => simp [Addr.add] at h
theorem zxk {n : Int} (h : (Lit.int .i64 n).wf = true) : I64 n := by
 simp only [Lit.wf, Bool.and_eq_true, decide_eq_true_eq] at h
 unfold I64
 have h1 : IntKind.i64.min = -9223372036854775808 := by decide
 have h2 : IntKind.i64.max = 9223372036854775807 := by decide
 omega
theorem zey {w : World} {b : Nat} (hb : b < w.heap.size) : ∀ (zs : List Int) (off : Nat), (∀ i, i < zs.length → w.cell? ⟨b, off + i, none⟩ = some (.int .i64 (zs.getD i 0))) → RepS (Old w) w 1 (zs.map iD) (some ⟨b, off, none⟩)
 | [], _, _ => by simp [RepS]
 | z :: zs, off, h => by
  simp only [List.map_cons, RepS]
  refine ⟨b, off, rfl, by simp, ?_, zey hb zs (off + 1) fun i hi => ?_⟩
  ·have := h 0 (by simp)
   simp only [RepAt]
   exact ⟨hb, by simpa using this⟩
  ·have := h (i + 1) (by simp; omega)
   rw [show off + 1 + i = off + (i + 1) by omega]
   simpa using this
section
variable {H : Type} {enc : TypeId × Value → H} {P : Program} {w : World}
theorem zrj {r : Reach} {base : Nat} {t e : TypeId} {v : Value} (ht : P.underlying t = some (.slice e)) (hv : Value.okWide P w r base t v) : ∃ a len cap, v = .slice a len cap := by
 simp only [Value.okWide, ht, Cell.okWide, Cell.ok] at hv
 cases v <;> simp at hv
 exact ⟨_, _, _, rfl⟩
theorem zj2 {r : Reach} {base : Nat} {t e : TypeId} {v : Value} {d : DataW H} {ps : List MemPlace} {sp : Nat → Bool} {held : Bool} (ht : P.underlying t = some (.slice e)) (he : P.underlying e = some (.int .i64)) (hc : P.cellsOf e = 1)
  (hv : Value.okWide P w r base t v) (hd : DataW.Trod enc P w 0 sp held t v d ps) : ∃ zs : List Int, (∀ z ∈ zs, I64 z) ∧ RepX (Old w) w (isD zs) v := by
 obtain ⟨a, len, cap, rfl⟩ := zrj ht hv
 obtain ⟨fuel, hd⟩ := hd
 rcases open_ints ht he hc hd with ⟨h1, _⟩ | ⟨a', len', cap', zs, h1, _, hl, _, hz, _, hcell, hwf⟩
 ·simp [Value.cells] at h1
  obtain ⟨rfl, rfl, rfl⟩ := h1
  refine ⟨[], by simp, ?_⟩
  simp only [RepX]
  exact ⟨1, none, 0, rfl, by simp, by simp [RepS]⟩
 ·simp [Value.cells] at h1
  obtain ⟨rfl, rfl, rfl⟩ := h1
  have hlz : len ≤ zs.length := by rw [hz]; split <;> omega
  refine ⟨zs.take len, fun z hz' => zxk (hwf z (List.mem_of_mem_take hz')), ?_⟩
  simp only [RepX]
  refine ⟨1, some a', cap, by simp [Nat.min_eq_left hlz], by simp [Nat.min_eq_left hlz, hl], ?_⟩
  cases zs with
  | nil => simp [RepS]
  | cons z zs =>
   obtain ⟨hs, hb⟩ := z95 (hcell 0 (by simp))
   have hs := zn6 hs
   rw [z90 hs 0] at hb
   simp only at hb
   have ha : a' = ⟨a'.block, a'.off, none⟩ := by
    obtain ⟨b, o, s⟩ := a'
    simp only at hs
    subst hs
    rfl
   rw [ha]
   refine zey hb _ _ fun i hi => ?_
   have h2 := hcell i (by simp at hi; simp; omega)
   rw [z90 hs i] at h2
   rw [h2]
   simp at hi
   simp [List.getD_eq_getElem?_getD, List.getElem?_take, show i < len by omega]
theorem zfb {w' : World} (h : Ext (fun _ => False) w w') {p : MemPlace} (hp : p.block < w.heap.size) : w.sameAt w' p := by
 have hb := h.block p.block hp (fun f => f)
 cases p with
 | cell b off =>
  simp only [MemPlace.block] at hb
  simp only [World.sameAt, World.cell?, hb]
 | map b =>
  simp only [MemPlace.block] at hb
  simpa only [World.sameAt] using hb
theorem z91 (hl : laidOutB P = true) {w' : World} {sp' : Nat → Bool} (hx : Ext (fun _ => False) w w') : ∀ {ts : List TypeId} {vs : List Value} {ds : List (DataW H)} {ps : List MemPlace}, (∀ t ∈ ts, P.readableRec t = true ∧ t < P.types.size) → DataW.TrodAll enc P w 0 (fun _ => true) true ts vs ds ps → (∀ p ∈ ps, p.block < w.heap.size) → (∀ p ∈ ps, sp' p.block = true) → DataW.TrodAll enc P w' 0 sp' true ts vs ds ps
 | [], [], [], _, _, h, _, _ => h
 | _ :: _, _ :: _, _ :: _, _, ht, ⟨p, q, h1, h2, e⟩, hb, hs => ⟨p, q,
   WideElems.Trod_stays hl (ht _ (List.mem_cons.2 (Or.inl rfl))).1 (ht _ (List.mem_cons.2 (Or.inl rfl))).2 h1 (fun x hx' => zfb hx (hb x (by rw [e]; exact List.mem_append_left _ hx'))) (fun x hx' => hs x (by rw [e]; exact List.mem_append_left _ hx')),
   z91 hl hx (fun t h => ht t (List.mem_cons.2 (Or.inr h))) h2 (fun x hx' => hb x (by rw [e]; exact List.mem_append_right _ hx')) (fun x hx' => hs x (by rw [e]; exact List.mem_append_right _ hx')), e⟩
theorem zgs {w' : World} (h : Ext (fun _ => False) w w') {a : Addr} (ha : a.block < w.heap.size) : w'.frozen? a = w.frozen? a := by
 simp only [World.frozen?, h.block a.block ha (fun f => f)]
theorem zpa {w' : World} (h : Ext (fun _ => False) w w') (may : MemPlace → Prop) : w.keptBut w' may := by
 refine ⟨h.os, h.output, fun i hi => ?_⟩
 rw [h.block i hi (fun f => f)]
 cases w.heap[i]? with
 | none => rfl
 | some o => cases o with
  | cells c t fr => exact ⟨rfl, rfl, rfl, fun _ _ => rfl⟩
  | map es clock => exact .inr ⟨rfl, rfl⟩
  | _ => rfl
theorem zes {f : Func} {s : ChangeSpec} {apart fresh handsOn again : Bool} {W W' : World} {args : Array Value} {ds gs : List (DataW H)} {before : List MemPlace} (hl : laidOutB P = true)
  (hrd : ∀ t ∈ f.params.toList, P.readableRec t = true ∧ t < P.types.size) {tb : TypeId} (hres : f.resultTypes = #[tb]) (htb : P.underlying tb = some .bool)
  (hvars : s.vars = []) (hfn : s.fn H ds = { results := [.lit (.bool true)], args := ds })
  (hW : DataW.Whole enc P f.params.toList s.vars apart W args.toList ds gs before) (hx : Ext (fun _ => False) W W') :
  s.post enc P f apart fresh handsOn again W args (.bool true) W' := by
 have hW0 := hW
 obtain ⟨p, q, hA, hV, hpq, hz, hn⟩ := hW
 rw [hvars] at hV
 obtain ⟨rfl, rfl⟩ := trodVars_none hV
 simp only [List.append_nil] at hpq
 subst hpq
 have hlt : ∀ x ∈ before, x.block < W.heap.size := fun x h => hW0.lt x h
 have hold : ∀ x ∈ before, (fun b => decide (b < W.heap.size)) x.block = true := fun x h => by simpa using hlt x h
 have hR : ∀ (b : Nat) (sp : Nat → Bool) (hd : Bool), DataW.TrodAll enc P W' b sp hd f.resultTypes.toList ((Value.bool true).resultList f.resultTypes.size) [.lit (.bool true)] [] := fun b sp hd => by
  rw [hres]
  exact trodAll_cons_mk (shut_bool htb _) trodAll_mk0
 have hAr : ∀ sp : Nat → Bool, (∀ x ∈ before, sp x.block = true) → DataW.TrodAll enc P W' 0 sp true f.params.toList args.toList ds before := fun sp hs => z91 hl hx hrd hA hlt hs
 refine ⟨ds, [], before, [], before, [], hW0, ?_, ?_, ?_, ?_, fun _ => ?_⟩
 ·rw [List.append_nil, hfn]; exact hR _ _ _
 ·rw [List.append_nil, hfn]; exact hAr _ hold
 ·rw [List.append_nil, hfn, hvars]; rfl
 ·exact zpa hx _
 ·refine ⟨?_, [.lit (.bool true)] ++ ds, [], ([] ++ before) ++ [], ⟨[] ++ before, [], trodAll_append (hAr _ (fun _ _ => rfl)) (hR _ _ _), ?_, rfl, ?_, ?_⟩, ?_⟩
  ·exact ok_one hres rfl (okWide_bool_mk htb _)
  ·rw [hvars]; rfl
  ·intro b off hp
   have hp : MemPlace.cell b off ∈ before := by simpa using hp
   rw [zgs hx (hlt _ hp)]
   exact hz b off hp
  ·intro ha
   simpa using hn ha
  ·intro x hx' _
   simpa using hx'
end
open Go.Av Go.ChangeShapes Go.WideShapes Go.ChangeAt Go.RowKit
theorem zz2 : ownKnob Tryz.prog.godebug = none := by kernel_rfl
theorem znq : Tryz.prog.cellsOf 3 = 1 := by kernel_rfl
theorem zy0 : laidOutB Tryz.prog = true := by kernel_rfl
theorem ziw : Tryz.prog.globalNamed "passim/hash.constants" = some 1 := by kernel_rfl
theorem zwn : (Tryz.prog.globals[1]?).map (·.type) = some 188 := by kernel_rfl
theorem znp : Tryz.prog.cellsOf 188 = 64 := by kernel_rfl
theorem zno : Tryz.prog.cellsOf 174 = 1 := by kernel_rfl
def kZ : List Int := kH.map fun x => (x.toNat : Int)
theorem zxw : (Rows.laid_passim_hash_constants : DataW Unit) = Lib.tabData .u32 kZ := by kernel_rfl
theorem zjo {w : World} {g : Nat} {k : IntKind} : ∀ (zs : List Int) (off : Nat), (∀ i, i < zs.length → w.cell? ⟨g, off + i, none⟩ = some (.int k (zs.getD i 0))) → RepC (fun b _ => b = g) w (zs.map (Dat.int k)) g off
 | [], _, _ => by simp [RepC]
 | z :: zs, off, h => by
  simp only [List.map_cons, RepC, Rep1]
  refine ⟨⟨trivial, _, by simpa using h 0 (by simp), rfl⟩, zjo zs (off + 1) fun i hi => ?_⟩
  have := h (i + 1) (by simp; omega)
  rw [show off + 1 + i = off + (i + 1) by omega]
  simpa using this
theorem zxl : wsD kH = .agg (kZ.map (Dat.int .u32)) := by
 unfold kZ
 rw [List.map_map]
 rfl
theorem zt9 {W : World} {name : String} {g : Nat} (h : Lib.TabIs Tryz.prog W name .u32 kZ) (hg : Tryz.prog.globalNamed name = some g) : g < W.heap.size ∧ RepC (fun b _ => b = g) W (wsD kH).cells g 0 := by
 have hl : kZ.length = 64 := rfl
 have c0 := h.cell hg 0 (by omega)
 refine ⟨(z95 c0).2, ?_⟩
 rw [zxl, Dat.cells_agg]
 refine zjo kZ 0 fun i hi => ?_
 rw [Nat.zero_add]
 exact h.cell hg i hi
def gK : List (Nat × Dat) := [(1, wsD kH)]
theorem gK1 : gK.lookup 1 = some (wsD kH) := rfl
theorem zyy {W : World} (h : laidMetH Tryz.prog [("passim/hash.constants", Rows.laid_passim_hash_constants)] W) : GOK gK W := by
 have h' : laidMet Tryz.prog [("passim/hash.constants", Rows.laid_passim_hash_constants)] W := h
 rw [zxw] at h'
 have t1 : Lib.TabIs Tryz.prog W "passim/hash.constants" .u32 kZ := Lib.tabIs_of_head (rest := []) ziw zwn Tryz.underlying188 Tryz.underlying174 zno znp h'
 intro p hp
 simp only [gK, List.mem_cons, List.not_mem_nil, or_false] at hp
 subst hp
 exact zt9 t1 ziw
theorem ti2 : ti Tryz.prog 2 = some ⟨1, 8, some [.dat (.int .i64 0)], .int .i64⟩ := by kernel_rfl
theorem ti3 : ti Tryz.prog 3 = some ⟨1, 8, some [.dat (.int .i64 0)], .int .i64⟩ := by kernel_rfl
theorem ti4 : ti Tryz.prog 4 = some ⟨1, 1, some [.dat (.bool false)], .bool⟩ := by kernel_rfl
theorem ti5 : ti Tryz.prog 5 = some ⟨1, 1, some [.dat (.int .u8 0)], .int .u8⟩ := by kernel_rfl
theorem ti6 : ti Tryz.prog 6 = some ⟨1, 1, some [.dat (.int .u8 0)], .int .u8⟩ := by kernel_rfl
theorem ti7 : ti Tryz.prog 7 = some ⟨4, 24, some [.dat (.int .i64 0), .dat (.int .i64 0), .dat (.bool false), .dat (.int .u8 0)], .struct [(0, 2), (1, 3), (2, 4), (3, 6)]⟩ := by kernel_rfl
theorem ti8 : ti Tryz.prog 8 = some ⟨4, 24, some [.dat (.int .i64 0), .dat (.int .i64 0), .dat (.bool false), .dat (.int .u8 0)], .struct [(0, 2), (1, 3), (2, 4), (3, 6)]⟩ := by kernel_rfl
theorem ti9 : ti Tryz.prog 9 = some ⟨1, 16, some [.dat (.str ⟨#[]⟩)], .str⟩ := by kernel_rfl
theorem ti10 : ti Tryz.prog 10 = some ⟨1, 16, some [.dat (.str ⟨#[]⟩)], .str⟩ := by kernel_rfl
theorem ti11 : ti Tryz.prog 11 = some ⟨1, 16, some [.dat (.str ⟨#[]⟩)], .str⟩ := by kernel_rfl
theorem ti12 : ti Tryz.prog 12 = some ⟨1, 8, some [.dat (.int .u64 0)], .int .u64⟩ := by kernel_rfl
theorem ti13 : ti Tryz.prog 13 = some ⟨2, 24, some [.dat (.str ⟨#[]⟩), .dat (.int .u64 0)], .struct [(0, 9), (1, 12)]⟩ := by kernel_rfl
theorem ti14 : ti Tryz.prog 14 = some ⟨2, 24, some [.dat (.str ⟨#[]⟩), .dat (.int .u64 0)], .struct [(0, 9), (1, 12)]⟩ := by kernel_rfl
theorem ti15 : ti Tryz.prog 15 = some ⟨1, 8, some [.dat .nilp], .ptr 220⟩ := by kernel_rfl
theorem ti16 : ti Tryz.prog 16 = some ⟨1, 8, some [.dat .nilp], .ptr 223⟩ := by kernel_rfl
theorem ti17 : ti Tryz.prog 17 = some ⟨1, 8, some [.dat .nilp], .ptr 231⟩ := by kernel_rfl
theorem ti18 : ti Tryz.prog 18 = some ⟨1, 8, some [.dat .nilp], .struct [(0, 17)]⟩ := by kernel_rfl
theorem ti19 : ti Tryz.prog 19 = some ⟨1, 8, some [.dat .nilp], .struct [(0, 17)]⟩ := by kernel_rfl
theorem ti20 : ti Tryz.prog 20 = some ⟨1, 16, some [.dat .nilI], .iface⟩ := by kernel_rfl
theorem ti21 : ti Tryz.prog 21 = some ⟨1, 4, some [.dat (.int .i32 0)], .int .i32⟩ := by kernel_rfl
theorem ti22 : ti Tryz.prog 22 = some ⟨1, 24, some [.nils], .slice 3⟩ := by kernel_rfl
theorem ti23 : ti Tryz.prog 23 = some ⟨1, 24, some [.nils], .slice 42⟩ := by kernel_rfl
theorem ti24 : ti Tryz.prog 24 = some ⟨2, 32, some [.dat (.int .i64 0), .nils], .struct [(0, 3), (1, 23)]⟩ := by kernel_rfl
theorem ti25 : ti Tryz.prog 25 = some ⟨2, 32, some [.dat (.int .i64 0), .nils], .struct [(0, 3), (1, 23)]⟩ := by kernel_rfl
theorem ti28 : ti Tryz.prog 28 = some ⟨1, 24, some [.nils], .slice 81⟩ := by kernel_rfl
theorem ti29 : ti Tryz.prog 29 = some ⟨3, 24, some [.dat (.int .i64 0), .dat (.int .i64 0), .dat (.int .i64 0)], .struct [(0, 3), (1, 3), (2, 3)]⟩ := by kernel_rfl
theorem ti30 : ti Tryz.prog 30 = some ⟨3, 24, some [.dat (.int .i64 0), .dat (.int .i64 0), .dat (.int .i64 0)], .struct [(0, 3), (1, 3), (2, 3)]⟩ := by kernel_rfl
theorem ti31 : ti Tryz.prog 31 = some ⟨3, 24, some [.dat (.int .i64 0), .dat (.int .i64 0), .dat (.int .i64 0)], .struct [(0, 3), (1, 3), (2, 3)]⟩ := by kernel_rfl
theorem ti32 : ti Tryz.prog 32 = some ⟨3, 24, some [.dat (.int .i64 0), .dat (.int .i64 0), .dat (.int .i64 0)], .struct [(0, 3), (1, 3), (2, 3)]⟩ := by kernel_rfl
theorem ti33 : ti Tryz.prog 33 = some ⟨1, 24, some [.nils], .slice 9⟩ := by kernel_rfl
theorem ti34 : ti Tryz.prog 34 = some ⟨1, 24, some [.nils], .slice 156⟩ := by kernel_rfl
theorem ti35 : ti Tryz.prog 35 = some ⟨1, 24, some [.nils], .slice 30⟩ := by kernel_rfl
theorem ti36 : ti Tryz.prog 36 = some ⟨17, 192, some [.dat (.int .i64 0), .dat (.int .i64 0), .dat (.int .i64 0), .dat (.int .i64 0), .dat (.int .i64 0), .dat (.int .i64 0), .dat (.int .i64 0), .dat (.int .i64 0), .dat (.int .i64 0), .dat (.int .i64 0), .dat (.int .i64 0), .dat (.int .i64 0), .dat (.int .i64 0), .dat (.str ⟨#[]⟩), .nils, .nils, .nils], .struct [(0, 3), (1, 30), (4, 30), (7, 32), (10, 3), (11, 3), (12, 3), (13, 9), (14, 33), (15, 34), (16, 35)]⟩ := by kernel_rfl
theorem ti37 : ti Tryz.prog 37 = some ⟨17, 192, some [.dat (.int .i64 0), .dat (.int .i64 0), .dat (.int .i64 0), .dat (.int .i64 0), .dat (.int .i64 0), .dat (.int .i64 0), .dat (.int .i64 0), .dat (.int .i64 0), .dat (.int .i64 0), .dat (.int .i64 0), .dat (.int .i64 0), .dat (.int .i64 0), .dat (.int .i64 0), .dat (.str ⟨#[]⟩), .nils, .nils, .nils], .struct [(0, 3), (1, 30), (4, 30), (7, 32), (10, 3), (11, 3), (12, 3), (13, 9), (14, 33), (15, 34), (16, 35)]⟩ := by kernel_rfl
theorem ti38 : ti Tryz.prog 38 = some ⟨5, 72, some [.dat (.str ⟨#[]⟩), .dat (.int .i64 0), .dat (.int .i64 0), .dat (.str ⟨#[]⟩), .nils], .struct [(0, 9), (1, 3), (2, 3), (3, 9), (4, 33)]⟩ := by kernel_rfl
theorem ti39 : ti Tryz.prog 39 = some ⟨5, 72, some [.dat (.str ⟨#[]⟩), .dat (.int .i64 0), .dat (.int .i64 0), .dat (.str ⟨#[]⟩), .nils], .struct [(0, 9), (1, 3), (2, 3), (3, 9), (4, 33)]⟩ := by kernel_rfl
theorem ti40 : ti Tryz.prog 40 = some ⟨1, 24, some [.nils], .slice 116⟩ := by kernel_rfl
theorem ti41 : ti Tryz.prog 41 = some ⟨32, 376, some [.dat (.int .i64 0), .dat (.int .i64 0), .dat (.int .i64 0), .dat (.int .i64 0), .nils, .dat (.int .i64 0), .dat (.int .i64 0), .dat (.int .i64 0), .dat (.int .i64 0), .dat (.int .i64 0), .dat (.int .i64 0), .dat (.int .i64 0), .dat (.int .i64 0), .dat (.int .i64 0), .dat (.int .i64 0), .dat (.int .i64 0), .dat (.int .i64 0), .dat (.int .i64 0), .dat (.str ⟨#[]⟩), .nils, .nils, .nils, .dat (.str ⟨#[]⟩), .dat (.int .i64 0), .dat (.int .i64 0), .dat (.str ⟨#[]⟩), .nils, .dat (.int .i64 0), .dat (.int .i64 0), .dat (.int .i64 0), .nils, .dat (.int .i64 0)], .struct [(0, 3), (1, 3), (2, 3), (3, 3), (4, 28), (5, 37), (22, 39), (27, 30), (30, 40), (31, 3)]⟩ := by kernel_rfl
theorem ti42 : ti Tryz.prog 42 = some ⟨32, 376, some [.dat (.int .i64 0), .dat (.int .i64 0), .dat (.int .i64 0), .dat (.int .i64 0), .nils, .dat (.int .i64 0), .dat (.int .i64 0), .dat (.int .i64 0), .dat (.int .i64 0), .dat (.int .i64 0), .dat (.int .i64 0), .dat (.int .i64 0), .dat (.int .i64 0), .dat (.int .i64 0), .dat (.int .i64 0), .dat (.int .i64 0), .dat (.int .i64 0), .dat (.int .i64 0), .dat (.str ⟨#[]⟩), .nils, .nils, .nils, .dat (.str ⟨#[]⟩), .dat (.int .i64 0), .dat (.int .i64 0), .dat (.str ⟨#[]⟩), .nils, .dat (.int .i64 0), .dat (.int .i64 0), .dat (.int .i64 0), .nils, .dat (.int .i64 0)], .struct [(0, 3), (1, 3), (2, 3), (3, 3), (4, 28), (5, 37), (22, 39), (27, 30), (30, 40), (31, 3)]⟩ := by kernel_rfl
theorem ti43 : ti Tryz.prog 43 = some ⟨1, 8, some [.dat (.int .i64 0)], .int .i64⟩ := by kernel_rfl
theorem ti47 : ti Tryz.prog 47 = some ⟨1, 8, some [.dat .nilp], .ptr 103⟩ := by kernel_rfl
theorem ti51 : ti Tryz.prog 51 = some ⟨1, 24, some [.nils], .slice 68⟩ := by kernel_rfl
theorem ti59 : ti Tryz.prog 59 = some ⟨1, 24, some [.nils], .slice 112⟩ := by kernel_rfl
theorem ti65 : ti Tryz.prog 65 = some ⟨16, 16, some [.dat (.int .u8 0), .dat (.int .u8 0), .dat (.int .u8 0), .dat (.int .u8 0), .dat (.int .u8 0), .dat (.int .u8 0), .dat (.int .u8 0), .dat (.int .u8 0), .dat (.int .u8 0), .dat (.int .u8 0), .dat (.int .u8 0), .dat (.int .u8 0), .dat (.int .u8 0), .dat (.int .u8 0), .dat (.int .u8 0), .dat (.int .u8 0)], .array 16 5⟩ := by kernel_rfl
theorem ti66 : ti Tryz.prog 66 = some ⟨16, 16, some [.dat (.int .u8 0), .dat (.int .u8 0), .dat (.int .u8 0), .dat (.int .u8 0), .dat (.int .u8 0), .dat (.int .u8 0), .dat (.int .u8 0), .dat (.int .u8 0), .dat (.int .u8 0), .dat (.int .u8 0), .dat (.int .u8 0), .dat (.int .u8 0), .dat (.int .u8 0), .dat (.int .u8 0), .dat (.int .u8 0), .dat (.int .u8 0)], .array 16 5⟩ := by kernel_rfl
theorem ti67 : ti Tryz.prog 67 = some ⟨17, 24, some [.dat (.int .i64 0), .dat (.int .u8 0), .dat (.int .u8 0), .dat (.int .u8 0), .dat (.int .u8 0), .dat (.int .u8 0), .dat (.int .u8 0), .dat (.int .u8 0), .dat (.int .u8 0), .dat (.int .u8 0), .dat (.int .u8 0), .dat (.int .u8 0), .dat (.int .u8 0), .dat (.int .u8 0), .dat (.int .u8 0), .dat (.int .u8 0), .dat (.int .u8 0)], .struct [(0, 3), (1, 66)]⟩ := by kernel_rfl
theorem ti68 : ti Tryz.prog 68 = some ⟨17, 24, some [.dat (.int .i64 0), .dat (.int .u8 0), .dat (.int .u8 0), .dat (.int .u8 0), .dat (.int .u8 0), .dat (.int .u8 0), .dat (.int .u8 0), .dat (.int .u8 0), .dat (.int .u8 0), .dat (.int .u8 0), .dat (.int .u8 0), .dat (.int .u8 0), .dat (.int .u8 0), .dat (.int .u8 0), .dat (.int .u8 0), .dat (.int .u8 0), .dat (.int .u8 0)], .struct [(0, 3), (1, 66)]⟩ := by kernel_rfl
theorem ti71 : ti Tryz.prog 71 = some ⟨1, 24, some [.nils], .slice 23⟩ := by kernel_rfl
theorem ti80 : ti Tryz.prog 80 = some ⟨2, 16, some [.dat (.int .i64 0), .dat (.int .i64 0)], .struct [(0, 3), (1, 3)]⟩ := by kernel_rfl
theorem ti81 : ti Tryz.prog 81 = some ⟨2, 16, some [.dat (.int .i64 0), .dat (.int .i64 0)], .struct [(0, 3), (1, 3)]⟩ := by kernel_rfl
theorem ti101 : ti Tryz.prog 101 = some ⟨1, 8, some [.raw (.map none)], .map 81 42⟩ := by kernel_rfl
theorem ti102 : ti Tryz.prog 102 = some ⟨2, 32, some [.nils, .raw (.map none)], .struct [(0, 22), (1, 101)]⟩ := by kernel_rfl
theorem ti103 : ti Tryz.prog 103 = some ⟨2, 32, some [.nils, .raw (.map none)], .struct [(0, 22), (1, 101)]⟩ := by kernel_rfl
theorem ti112 : ti Tryz.prog 112 = some ⟨17, 24, some [.dat (.int .i64 0), .dat (.int .u8 0), .dat (.int .u8 0), .dat (.int .u8 0), .dat (.int .u8 0), .dat (.int .u8 0), .dat (.int .u8 0), .dat (.int .u8 0), .dat (.int .u8 0), .dat (.int .u8 0), .dat (.int .u8 0), .dat (.int .u8 0), .dat (.int .u8 0), .dat (.int .u8 0), .dat (.int .u8 0), .dat (.int .u8 0), .dat (.int .u8 0)], .struct [(0, 3), (1, 66)]⟩ := by kernel_rfl
theorem ti115 : ti Tryz.prog 115 = some ⟨5, 56, some [.dat (.int .i64 0), .dat (.int .i64 0), .dat (.int .i64 0), .nils, .dat (.bool false)], .struct [(0, 30), (3, 33), (4, 4)]⟩ := by kernel_rfl
theorem ti116 : ti Tryz.prog 116 = some ⟨5, 56, some [.dat (.int .i64 0), .dat (.int .i64 0), .dat (.int .i64 0), .nils, .dat (.bool false)], .struct [(0, 30), (3, 33), (4, 4)]⟩ := by kernel_rfl
theorem ti117 : ti Tryz.prog 117 = some ⟨1, 24, some [.nils], .slice 5⟩ := by kernel_rfl
theorem ti129 : ti Tryz.prog 129 = some ⟨5, 5, some [.dat (.bool false), .dat (.bool false), .dat (.bool false), .dat (.bool false), .dat (.bool false)], .struct [(0, 4), (1, 4), (2, 4), (3, 4), (4, 4)]⟩ := by kernel_rfl
theorem ti130 : ti Tryz.prog 130 = some ⟨5, 5, some [.dat (.bool false), .dat (.bool false), .dat (.bool false), .dat (.bool false), .dat (.bool false)], .struct [(0, 4), (1, 4), (2, 4), (3, 4), (4, 4)]⟩ := by kernel_rfl
theorem ti156 : ti Tryz.prog 156 = some ⟨2, 16, some [.dat (.int .i64 0), .dat (.int .i64 0)], .array 2 3⟩ := by kernel_rfl
theorem ti163 : ti Tryz.prog 163 = some ⟨32, 32, some [.dat (.int .u8 0), .dat (.int .u8 0), .dat (.int .u8 0), .dat (.int .u8 0), .dat (.int .u8 0), .dat (.int .u8 0), .dat (.int .u8 0), .dat (.int .u8 0), .dat (.int .u8 0), .dat (.int .u8 0), .dat (.int .u8 0), .dat (.int .u8 0), .dat (.int .u8 0), .dat (.int .u8 0), .dat (.int .u8 0), .dat (.int .u8 0), .dat (.int .u8 0), .dat (.int .u8 0), .dat (.int .u8 0), .dat (.int .u8 0), .dat (.int .u8 0), .dat (.int .u8 0), .dat (.int .u8 0), .dat (.int .u8 0), .dat (.int .u8 0), .dat (.int .u8 0), .dat (.int .u8 0), .dat (.int .u8 0), .dat (.int .u8 0), .dat (.int .u8 0), .dat (.int .u8 0), .dat (.int .u8 0)], .array 32 5⟩ := by kernel_rfl
theorem ti174 : ti Tryz.prog 174 = some ⟨1, 4, some [.dat (.int .u32 0)], .int .u32⟩ := by kernel_rfl
theorem ti175 : ti Tryz.prog 175 = some ⟨8, 32, some [.dat (.int .u32 0), .dat (.int .u32 0), .dat (.int .u32 0), .dat (.int .u32 0), .dat (.int .u32 0), .dat (.int .u32 0), .dat (.int .u32 0), .dat (.int .u32 0)], .array 8 174⟩ := by kernel_rfl
theorem ti176 : ti Tryz.prog 176 = some ⟨64, 64, some (List.replicate 64 (.dat (.int .u8 0))), .array 64 5⟩ := by kernel_rfl
theorem ti177 : ti Tryz.prog 177 = some ⟨1, 8, some [.dat (.int .u64 0)], .int .u64⟩ := by kernel_rfl
theorem ti178 : ti Tryz.prog 178 = some ⟨73, 104, some (List.replicate 8 (.dat (.int .u32 0)) ++ List.replicate 64 (.dat (.int .u8 0)) ++ List.replicate 1 (.dat (.int .u64 0))), .struct [(0, 175), (8, 176), (72, 177)]⟩ := by kernel_rfl
theorem ti179 : ti Tryz.prog 179 = some ⟨73, 104, some (List.replicate 8 (.dat (.int .u32 0)) ++ List.replicate 64 (.dat (.int .u8 0)) ++ List.replicate 1 (.dat (.int .u64 0))), .struct [(0, 175), (8, 176), (72, 177)]⟩ := by kernel_rfl
theorem ti188 : ti Tryz.prog 188 = some ⟨64, 256, some (List.replicate 64 (.dat (.int .u32 0))), .array 64 174⟩ := by kernel_rfl
theorem ti193 : ti Tryz.prog 193 = some ⟨1, 24, some [.nils], .slice 117⟩ := by kernel_rfl
theorem ti197 : ti Tryz.prog 197 = some ⟨1, 24, some [.nils], .slice 206⟩ := by kernel_rfl
theorem ti202 : ti Tryz.prog 202 = some ⟨1, 8, some [.dat (.int .u64 0)], .int .u64⟩ := by kernel_rfl
theorem ti205 : ti Tryz.prog 205 = some ⟨3, 24, some [.dat (.int .i64 0), .dat (.int .i64 0), .dat (.int .i64 0)], .struct [(0, 3), (1, 3), (2, 3)]⟩ := by kernel_rfl
theorem ti206 : ti Tryz.prog 206 = some ⟨3, 24, some [.dat (.int .i64 0), .dat (.int .i64 0), .dat (.int .i64 0)], .struct [(0, 3), (1, 3), (2, 3)]⟩ := by kernel_rfl
theorem ti207 : ti Tryz.prog 207 = some ⟨1, 24, some [.nils], .slice 33⟩ := by kernel_rfl
theorem ti209 : ti Tryz.prog 209 = some ⟨4, 16, some [.dat (.int .u32 0), .dat (.int .u32 0), .dat (.int .u32 0), .dat (.int .u32 0)], .array 4 174⟩ := by kernel_rfl
theorem ti210 : ti Tryz.prog 210 = some ⟨1, 24, some [.nils], .slice 174⟩ := by kernel_rfl
theorem ti212 : ti Tryz.prog 212 = some ⟨1, 24, some [.nils], .slice 215⟩ := by kernel_rfl
theorem ti215 : ti Tryz.prog 215 = some ⟨3, 24, some [.dat (.int .i64 0), .dat (.int .i64 0), .dat (.int .i64 0)], .struct [(0, 3), (1, 3), (2, 3)]⟩ := by kernel_rfl
theorem ti219 : ti Tryz.prog 219 = some ⟨4, 40, some [.dat .nilp, .dat .nilp, .dat .nilp, .dat (.str ⟨#[]⟩)], .struct [(0, 17), (1, 17), (2, 17), (3, 9)]⟩ := by kernel_rfl
theorem ti220 : ti Tryz.prog 220 = some ⟨4, 40, some [.dat .nilp, .dat .nilp, .dat .nilp, .dat (.str ⟨#[]⟩)], .struct [(0, 17), (1, 17), (2, 17), (3, 9)]⟩ := by kernel_rfl
theorem ti221 : ti Tryz.prog 221 = some ⟨0, 0, some [], .array 0 16⟩ := by kernel_rfl
theorem ti222 : ti Tryz.prog 222 = some ⟨0, 0, some [], .struct [(0, 221)]⟩ := by kernel_rfl
theorem ti223 : ti Tryz.prog 223 = some ⟨0, 0, some [], .struct [(0, 221)]⟩ := by kernel_rfl
theorem ti224 : ti Tryz.prog 224 = some ⟨1, 1, some [.dat (.int .u8 0)], .int .u8⟩ := by kernel_rfl
theorem ti225 : ti Tryz.prog 225 = some ⟨1, 1, some [.dat (.int .u8 0)], .int .u8⟩ := by kernel_rfl
theorem ti227 : ti Tryz.prog 227 = some ⟨1, 8, some [.dat .nilp], .ptr 5⟩ := by kernel_rfl
theorem ti228 : ti Tryz.prog 228 = some ⟨1, 4, some [.dat (.int .i32 0)], .int .i32⟩ := by kernel_rfl
theorem ti229 : ti Tryz.prog 229 = some ⟨1, 4, some [.dat (.int .i32 0)], .int .i32⟩ := by kernel_rfl
theorem ti230 : ti Tryz.prog 230 = some ⟨11, 48, some [.dat (.int .u64 0), .dat (.int .u64 0), .dat (.int .u32 0), .dat (.int .u8 0), .dat (.int .u8 0), .dat (.int .u8 0), .dat (.int .u8 0), .raw .nilFunc, .dat .nilp, .dat (.int .i32 0), .dat (.int .i32 0)], .struct [(0, 12), (1, 12), (2, 174), (3, 224), (4, 5), (5, 5), (6, 225), (7, 226), (8, 227), (9, 228), (10, 229)]⟩ := by kernel_rfl
theorem ti231 : ti Tryz.prog 231 = some ⟨11, 48, some [.dat (.int .u64 0), .dat (.int .u64 0), .dat (.int .u32 0), .dat (.int .u8 0), .dat (.int .u8 0), .dat (.int .u8 0), .dat (.int .u8 0), .raw .nilFunc, .dat .nilp, .dat (.int .i32 0), .dat (.int .i32 0)], .struct [(0, 12), (1, 12), (2, 174), (3, 224), (4, 5), (5, 5), (6, 225), (7, 226), (8, 227), (9, 228), (10, 229)]⟩ := by kernel_rfl
theorem ti232 : ti Tryz.prog 232 = some ⟨1, 8, some [.dat .nilp], .other⟩ := by kernel_rfl
theorem tiA : type_of% (And.intro (And.intro (And.intro (And.intro (And.intro (And.intro (And.intro (ti2) (ti3)) (ti4)) (And.intro (And.intro (ti5) (ti6)) (ti7))) (And.intro (And.intro (And.intro (ti8) (ti9)) (ti10)) (And.intro (And.intro (ti11) (ti12)) (ti13)))) (And.intro (And.intro (And.intro (And.intro (ti14) (ti15)) (ti16)) (And.intro (And.intro (ti17) (ti18)) (ti19))) (And.intro (And.intro (And.intro (ti20) (ti21)) (ti22)) (And.intro (ti23) (ti24))))) (And.intro (And.intro (And.intro (And.intro (And.intro (ti25) (ti28)) (ti29)) (And.intro (And.intro (ti30) (ti31)) (ti32))) (And.intro (And.intro (And.intro (ti33) (ti34)) (ti35)) (And.intro (And.intro (ti36) (ti37)) (ti38)))) (And.intro (And.intro (And.intro (And.intro (ti39) (ti40)) (ti41)) (And.intro (And.intro (ti42) (ti43)) (ti47))) (And.intro (And.intro (And.intro (ti51) (ti59)) (ti65)) (And.intro (ti66) (ti67)))))) (And.intro (And.intro (And.intro (And.intro (And.intro (And.intro (ti68) (ti71)) (ti80)) (And.intro (And.intro (ti81) (ti101)) (ti102))) (And.intro (And.intro (And.intro (ti103) (ti112)) (ti115)) (And.intro (And.intro (ti116) (ti117)) (ti129)))) (And.intro (And.intro (And.intro (And.intro (ti130) (ti156)) (ti163)) (And.intro (And.intro (ti174) (ti175)) (ti176))) (And.intro (And.intro (And.intro (ti177) (ti178)) (ti179)) (And.intro (ti188) (ti193))))) (And.intro (And.intro (And.intro (And.intro (And.intro (ti197) (ti202)) (ti205)) (And.intro (And.intro (ti206) (ti207)) (ti209))) (And.intro (And.intro (And.intro (ti210) (ti212)) (ti215)) (And.intro (ti219) (ti220)))) (And.intro (And.intro (And.intro (And.intro (ti221) (ti222)) (ti223)) (And.intro (And.intro (ti224) (ti225)) (ti227))) (And.intro (And.intro (And.intro (ti228) (ti229)) (ti230)) (And.intro (ti231) (ti232))))))) := (And.intro (And.intro (And.intro (And.intro (And.intro (And.intro (And.intro (ti2) (ti3)) (ti4)) (And.intro (And.intro (ti5) (ti6)) (ti7))) (And.intro (And.intro (And.intro (ti8) (ti9)) (ti10)) (And.intro (And.intro (ti11) (ti12)) (ti13)))) (And.intro (And.intro (And.intro (And.intro (ti14) (ti15)) (ti16)) (And.intro (And.intro (ti17) (ti18)) (ti19))) (And.intro (And.intro (And.intro (ti20) (ti21)) (ti22)) (And.intro (ti23) (ti24))))) (And.intro (And.intro (And.intro (And.intro (And.intro (ti25) (ti28)) (ti29)) (And.intro (And.intro (ti30) (ti31)) (ti32))) (And.intro (And.intro (And.intro (ti33) (ti34)) (ti35)) (And.intro (And.intro (ti36) (ti37)) (ti38)))) (And.intro (And.intro (And.intro (And.intro (ti39) (ti40)) (ti41)) (And.intro (And.intro (ti42) (ti43)) (ti47))) (And.intro (And.intro (And.intro (ti51) (ti59)) (ti65)) (And.intro (ti66) (ti67)))))) (And.intro (And.intro (And.intro (And.intro (And.intro (And.intro (ti68) (ti71)) (ti80)) (And.intro (And.intro (ti81) (ti101)) (ti102))) (And.intro (And.intro (And.intro (ti103) (ti112)) (ti115)) (And.intro (And.intro (ti116) (ti117)) (ti129)))) (And.intro (And.intro (And.intro (And.intro (ti130) (ti156)) (ti163)) (And.intro (And.intro (ti174) (ti175)) (ti176))) (And.intro (And.intro (And.intro (ti177) (ti178)) (ti179)) (And.intro (ti188) (ti193))))) (And.intro (And.intro (And.intro (And.intro (And.intro (ti197) (ti202)) (ti205)) (And.intro (And.intro (ti206) (ti207)) (ti209))) (And.intro (And.intro (And.intro (ti210) (ti212)) (ti215)) (And.intro (ti219) (ti220)))) (And.intro (And.intro (And.intro (And.intro (ti221) (ti222)) (ti223)) (And.intro (And.intro (ti224) (ti225)) (ti227))) (And.intro (And.intro (And.intro (ti228) (ti229)) (ti230)) (And.intro (ti231) (ti232)))))))
theorem wh (G) (n m : Int) (hn : I64 n) (hm : 0 < m) (hmr : I64 m) : zl Tryz.prog G 24 [iD n, iD m] [iD (zp n m)] := by
 have hr := zu (n := n) hm
 unfold zp at hr ⊢
 unfold I64 at hn hmr
 skip
 refine GI [] [] [] Tryz.func24 Tryz.ntmps24 fun F hP hG hN hR hA => ?_
 have hE := @Tryz.results24
 refine WS [0, 1] [] ?_
 apply z3
 refine WS [0, 1, 6] [] ?_
 refine WI ?_ ?_ <;> intro hb
 ·rw [if_pos hb] at hr ⊢
  have e1 : IntKind.i64.wrap (n + 1) = n + 1 := IntWalk.i64_in _ (by omega)
  have e2 : IntKind.i64.wrap (0 - (n + 1)) = -(n + 1) := by rw [IntWalk.i64_in _ (by omega)]; omega
  apply yp [0, 1] []
  ·simp (maxSteps := 2000000) (disch := omega) only [wm, avA, zk, zo, seval, ↓List.forall_mem_cons, Op.operands, hA, tiA, hE, e1, e2]
   exact SC
  apply z5
  refine WS [4] [] ?_
  apply z9
  exact E0
 ·rw [if_neg (by omega)] at hr ⊢
  apply z6
  apply z5
  refine WS [4] [] ?_
  apply z9
  exact E0
theorem X0 (G) (n m : Int) : zl Tryz.prog G 75 [iD n, iD m] [bD (wa n m)] := by
 skip
 refine GI [] [] [] Tryz.func75 Tryz.ntmps75 fun F hP hG hN hR hA => ?_
 have hE := @Tryz.results75
 refine WS [0, 1] [] ?_
 refine WS [4] [] ?_
 apply z9
 simp only [kj, y6, vk, qq, qi, x5, vb, qh, q9, xn, qy, wy, xk, xq, xm, wx, xp, xr, w3, xx, avA, zk, zo, seval, ↓List.forall_mem_cons, Op.operands, hP, hG, tiA, hE, wa]
 all_goals try trivial
theorem z5a (G) (n : NameM) : zl Tryz.prog G 74 [zx n] [bD (ym n)] := by
 skip
 refine GI [] [] [] Tryz.func74 Tryz.ntmps74 fun F hP hG hN hR hA => ?_
 have hE := @Tryz.results74
 refine WS [1] [1] ?_
 refine WS [2] [] ?_
 apply z9
 simp only [kj, y6, vk, qq, qi, x5, vb, qh, q9, xn, qy, wy, xk, xq, xm, wx, xp, xr, w3, xx, avA, zk, zo, seval, ↓List.forall_mem_cons, Op.operands, hP, hG, tiA, hE, ym]
 all_goals try trivial
theorem zj8 (G) (a b : NameM) : zl Tryz.prog G 70 [zx a, zx b] [bD (z0k a b)] := by
 skip
 refine GI [] [] [] Tryz.func70 Tryz.ntmps70 fun F hP hG hN hR hA => ?_
 have hE := @Tryz.results70
 refine WS [2, 3] [2, 3] ?_
 apply z3
 refine WS [2, 3, 9] [2, 3] ?_
 refine WI ?_ ?_ <;> intro hb
 ·have hl : z0k a b = decide (a.By < b.By) := by unfold z0k; rw [if_pos hb]
  refine WS [4] [] ?_
  apply z9
  apply za
  simp only [kj, y6, vk, qq, qi, x5, vb, qh, q9, xn, qy, wy, xk, xq, xm, wx, xp, xr, w3, xx, avA, zk, zo, seval, ↓List.forall_mem_cons, Op.operands, hP, hG, tiA, hE, hl]
  all_goals try trivial
 ·have hl : z0k a b = decide (a.Seq < b.Seq) := by unfold z0k; rw [if_neg (by omega)]
  apply z6
  apply z5
  refine WS [4] [] ?_
  apply z9
  simp only [kj, y6, vk, qq, qi, x5, vb, qh, q9, xn, qy, wy, xk, xq, xm, wx, xp, xr, w3, xx, avA, zk, zo, seval, ↓List.forall_mem_cons, Op.operands, hP, hG, tiA, hE, hl]
  all_goals try trivial
theorem Xh (G) (e : EventM) : zl Tryz.prog G 71 [zc e] [zx (evName e)] := by
 skip
 refine GI [] [] [] Tryz.func71 Tryz.ntmps71 fun F hP hG hN hR hA => ?_
 have hE := @Tryz.results71
 refine WS [1, 2] [1, 2] ?_
 refine WS [2] [2] ?_
 apply z9
 simp only [kj, y6, vk, qq, qi, x5, vb, qh, q9, xn, qy, wy, xk, xq, xm, wx, xp, xr, w3, xx, avA, zk, zo, seval, ↓List.forall_mem_cons, Op.operands, hP, hG, tiA, hE, evName]
 all_goals try trivial
theorem z10 (G) (n : Int) (hn : I64 n) : GivesX Tryz.prog G 150 [.dat (iD n)] [] [.osl 45 1 0 (kM n + 1)] [(45, ⟨1, ((yq n).map u8D).map .dat⟩)] := by
 have hr := Qj hn
 have hk := Zo hn
 skip
 skip
 refine GX [29] [] [] Tryz.func150 Tryz.ntmps150 fun F hP hG hN hR hA => ?_
 have hE := And.intro @Tryz.results150 (And.intro @IntWalk.u64_in (And.intro @z9x (And.intro @z9w (And.intro @Qf (And.intro @zs7 (And.intro @IntWalk.u8_in (And.intro @digM.eq_1 (@zj1))))))))
 refine WS [0] [] ?_
 apply zne
 refine WS [0, 3, 4] [] ?_
 refine wv (.of [(3, .dat (.int .u64 (kp n))), (4, .dat (u8D (vd n 0)))] []) ?_ ?_
 ·refine WS [3, 4, 11] [] ?_
  refine WI ?_ ?_ <;> intro hb
  ·have h1 := zqc hn hb
   have h2 : vd n 0 = 255 := by unfold vd; rw [if_pos hb]; rfl
   have hE := And.intro hE (And.intro h1 h2)
   refine WQ [3, 4] [] ?_
   exact ML
  ·have h1 : kp n = n := by unfold kp; rw [if_neg (by omega)]
   have h2 : vd n 0 = 0 := by unfold vd; rw [if_neg (by omega)]
   have hE := And.intro hE (And.intro h1 h2)
   apply z6
   exact ML
 refine WS [3, 4, 5] [] ?_
 apply z3
 apply znb
 apply z5
 apply z3
 apply z7
 refine WL (ι := {k : Nat // kM n ≤ k ∧ k ≤ 8}) [3, 4] [] (fun ⟨k, hkk⟩ => [(5, .dat (iD k))]) (fun ⟨k, hkk⟩ => []) (fun ⟨k, hkk⟩ => k) (⟨8, by omega⟩) ?_
 rintro ⟨k, hkk⟩
 refine LA ?_
 obtain ⟨hk1, hk8⟩ := hkk
 apply z3
 refine WS [3, 4, 5, 15] [] ?_
 refine WI ?_ ?_ <;> intro hb
 ·have hs := z4t (m := kp n) (j := k - 1) hr.1 (by omega)
  rw [show ((k - 1 : Nat) : Int) = (k : Int) - 1 by omega] at hs
  have hd := z6e (kp n).toNat (k - 1)
  apply z6
  apply z5
  apply z7
  apply z3
  refine WS [3, 4, 5, 21] [] ?_
  refine WI ?_ ?_ <;> intro hb
  ·have hkk : k = kM n := by
    rw [hs] at hb
    have := hd.1 (by omega)
    unfold kM at *
    omega
   subst hkk
   apply zj
   apply zd
   apply zc2 (by decide)
   apply zb
   apply zn
   apply z5
   refine WS [3, 4, 5, 6] [29, 45] ?_
   apply z3
   refine WS [3, 4, 6, 7] [29, 45] ?_
   apply z7
   refine yj 29 45 (by omega) (by omega) ?_
   refine WL (ι := {j : Nat // j ≤ kM n}) [3, 4] [29, 44] (fun ⟨j, hj⟩ => [(6, .osl 45 1 0 (j + 1)), (7, .dat (iD (kM n - 1 - j)))]) (fun ⟨j, hj⟩ => [(45, ⟨1, ((z48 n j).map u8D).map .dat⟩)]) (fun ⟨j, hj⟩ => kM n - j) (⟨0, by omega⟩) ?_
   rintro ⟨j, hj⟩
   refine LA ?_
   have hl := Qf n j
   apply z3
   refine WS [3, 4, 6, 7, 33] [29, 44, 45] ?_
   refine WI ?_ ?_ <;> intro hb
   ·have hs2 := z4t (m := kp n) (j := kM n - 1 - j) hr.1 (by omega)
    rw [show ((kM n - 1 - j : Nat) : Int) = (kM n : Int) - 1 - j by omega] at hs2
    have h8 := zb7 ((kp n).toNat / 256 ^ (kM n - 1 - j))
    have hE := And.intro hE (And.intro hs2 h8)
    apply z6
    apply z5
    apply z3
    apply z7
    refine WQ [3, 4, 6, 7] [29, 44, 45] ?_
    apply ze
    apply z5
    refine WQ [3, 4, 6, 7] [29, 44, 45] ?_
    refine WN (⟨j + 1, by omega⟩)
   ·apply zj
    apply zd
    have hend : j = kM n := by omega
    subst hend
    apply zb
    apply zn
    apply z5
    refine WS [2] [29, 44, 45] ?_
    apply z9
    apply z5c
    exact E0
  ·have hkk : kM n ≤ k - 1 := by
    rw [hs] at hb
    have := mt hd.2 (by omega)
    unfold kM at *
    omega
   apply z6
   apply z5
   refine WQ [3, 4, 5] [] ?_
   apply ze
   refine WN (⟨k - 1, by omega⟩)
 ·apply zj
  apply zd
  apply zb
  apply zn
  apply z5
  refine WS [3, 4, 5, 6] [29, 45] ?_
  apply z3
  refine WS [3, 4, 6, 7] [29, 45] ?_
  apply z7
  refine yj 29 45 (by omega) (by omega) ?_
  refine WL (ι := {j : Nat // j ≤ kM n}) [3, 4] [29, 44] (fun ⟨j, hj⟩ => [(6, .osl 45 1 0 (j + 1)), (7, .dat (iD (kM n - 1 - j)))]) (fun ⟨j, hj⟩ => [(45, ⟨1, ((z48 n j).map u8D).map .dat⟩)]) (fun ⟨j, hj⟩ => kM n - j) (⟨0, by omega⟩) ?_
  rintro ⟨j, hj⟩
  refine LA ?_
  have hl := Qf n j
  apply z3
  refine WS [3, 4, 6, 7, 33] [29, 44, 45] ?_
  refine WI ?_ ?_ <;> intro hb
  ·have hs2 := z4t (m := kp n) (j := kM n - 1 - j) hr.1 (by omega)
   rw [show ((kM n - 1 - j : Nat) : Int) = (kM n : Int) - 1 - j by omega] at hs2
   have h8 := zb7 ((kp n).toNat / 256 ^ (kM n - 1 - j))
   have hE := And.intro hE (And.intro hs2 h8)
   apply z6
   apply z5
   apply z3
   apply z7
   refine WQ [3, 4, 6, 7] [29, 44, 45] ?_
   apply ze
   apply z5
   refine WQ [3, 4, 6, 7] [29, 44, 45] ?_
   refine WN (⟨j + 1, by omega⟩)
  ·apply zj
   apply zd
   have hend : j = kM n := by omega
   subst hend
   apply zb
   apply zn
   apply z5
   refine WS [2] [29, 44, 45] ?_
   apply z9
   apply z5c
   exact E0
theorem zg3 (s : ByteArray) : (x4 s).length = kM s.size + 1 + s.size := by simp [x4, wd, yf]
theorem z6x (l : List Int) : Xx l 0 = yq l.length := by simp [Xx, zae]
theorem z6w (l : List Int) (i : Nat) (h : i < l.length) : Xx l (i + 1) = Xx l i ++ yq (l.getD i default) := by
 simp [Xx, z1h l i h, List.flatMap_append, List.append_assoc]
theorem Q0 {α : Type} (f : α → List Int) (c : Nat) : ∀ l : List α, (∀ x ∈ l, (f x).length ≤ c) → (l.flatMap f).length ≤ c * l.length
 | [], _ => by simp
 | x :: l, h => by
  have h1 := h x (by simp)
  have h2 := Q0 f c l fun y hy => h y (by simp [hy])
  rw [List.flatMap_cons, List.length_append, List.length_cons, Nat.mul_succ]
  omega
theorem z77 {α : Type} {l : List α} {i : Nat} {x : α} (h : x ∈ Xl l i) : x ∈ l := List.mem_of_mem_take h
theorem yl {n : Int} (h : I64 n) : (yq n).length ≤ 9 := by
 rw [wd]
 have := Zo h
 omega
theorem z6v {l : List Int} (h : ∀ x ∈ l, I64 x) {i : Nat} (hi : i ≤ l.length) (hl : l.length ≤ 1000000) : (Xx l i).length ≤ 9 + 9 * i := by
 have h1 := Q0 yq 9 (Xl l i) fun x hx => yl (h x (z77 hx))
 have h2 : (yq (l.length : Int)).length ≤ 9 := yl (by unfold I64; omega)
 rw [z0o l i hi] at h1
 simp only [Xx, List.length_append]
 omega
theorem z89 (l : List ByteArray) : Qq l 0 = yq l.length := by simp [Qq, zae]
theorem z88 (l : List ByteArray) (i : Nat) (h : i < l.length) : Qq l (i + 1) = Qq l i ++ x4 (l.getD i default) := by
 simp [Qq, z1h l i h, List.flatMap_append, List.append_assoc]
theorem Zj {s : ByteArray} (h : s.size ≤ 1000000) : (x4 s).length ≤ 1000009 := by
 rw [zg3]
 have := Zo (n := s.size) (by unfold I64; omega)
 omega
theorem z87 {l : List ByteArray} (h : ∀ s ∈ l, s.size ≤ 1000000) {i : Nat} (hi : i ≤ l.length) (hl : l.length ≤ 1000000) : (Qq l i).length ≤ 9 + 1000009 * i := by
 have h1 := Q0 x4 1000009 (Xl l i) fun x hx => Zj (h x (z77 hx))
 have h2 : (yq (l.length : Int)).length ≤ 9 := yl (by unfold I64; omega)
 rw [z0o l i hi] at h1
 simp only [Qq, List.length_append]
 omega
theorem zcm (G) (n : Int) (hn : I64 n) : zl Tryz.prog G 150 [iD n] [z3m (yq n)] := (z10 G n hn).row (wd n).symm
theorem z8i (G) (s : ByteArray) (hs : s.size ≤ 1000000) : GivesX Tryz.prog G 118 [.dat (sD s)] [] [.osl 7 1 0 (x4 s).length] [(7, ⟨1, ((x4 s).map u8D).map .dat⟩)] := by
 have hk := Zo (n := s.size) (by unfold I64; omega)
 have hil := wd s.size
 skip
 skip
 skip
 refine GX [] [5] [] Tryz.func118 Tryz.ntmps118 fun F hP hG hN hR hA => ?_
 have hE := And.intro @Tryz.results118 (And.intro @IntWalk.i64_in (And.intro @yf (@wd)))
 refine WS [0] [5] ?_
 apply zm [2] [7, 5]
 ·refine RN ?_
  refine CX (fun _ => 5) [45] (z10 G s.size (by unfold I64; omega)) ?_
  exact SC
 apply z9
 simp only [kj, y6, vk, qq, qi, x5, vb, qh, q9, xn, qy, wy, xk, xq, xm, wx, xp, xr, w3, xx, avA, zk, zo, seval, ↓List.forall_mem_cons, Op.operands, hP, hG, tiA, hE, x4, List.length_append, List.map_append]
 all_goals try trivial
theorem zb5 (G) (s : ByteArray) (hs : s.size ≤ 1000000) : zl Tryz.prog G 118 [sD s] [z3m (x4 s)] := (z8i G s hs).row rfl
theorem zb6 (G) (l : List Int) (hl : ∀ x ∈ l, I64 x) (hn : l.length ≤ 1000000) : GivesX Tryz.prog G 116 [.dat (isD l)] [] [.osl 18 1 0 (intsM l).length] [(18, ⟨1, ((intsM l).map u8D).map .dat⟩)] := by
 have hk := Zo (n := l.length) (by unfold I64; omega)
 have hil := wd l.length
 skip
 skip
 skip
 refine GX [] [8, 17] [] Tryz.func116 Tryz.ntmps116 fun F hP hG hN hR hA => ?_
 have hE := And.intro @Tryz.results116 (And.intro @z6x (And.intro @wd (@intsM.eq_1)))
 refine WS [0] [18] ?_
 apply zm [0, 3] [18]
 ·refine RN ?_
  refine CX (fun _ => 18) [45] (z10 G l.length (by unfold I64; omega)) ?_
  exact SC
 apply z3
 refine WS [3, 9, 10, 11] [18] ?_
 apply z7
 refine WL (ι := {i : Nat // i ≤ l.length}) [9, 10] [] (fun ⟨i, hi⟩ => [(3, .osl 18 1 0 (Xx l i).length), (11, .dat (iD i))]) (fun ⟨i, hi⟩ => [(18, ⟨1, ((Xx l i).map u8D).map .dat⟩)]) (fun ⟨i, hi⟩ => l.length - i) (⟨0, by omega⟩) ?_
 rintro ⟨i, hi⟩
 refine LA ?_
 refine WS [3, 9, 10, 11, 12] [18] ?_
 apply z3
 refine WI ?_ ?_ <;> intro hb
 ·have hx := zt hl (i := i) (by omega)
  have hle := z6v hl hi hn
  have hkx := Zo hx
  have hixl := wd (l.getD i default)
  have hsc := z6w l i (by omega)
  have hE := And.intro hE hsc
  apply z6
  apply z5
  apply z3
  apply z7
  refine WS [3, 5, 9, 10, 11] [18] ?_
  apply yp [3, 9, 10, 11] [18]
  ·refine RN ?_
   refine CX (fun _ => 17) [45] (z10 G (l.getD i default) hx) ?_
   exact SC
  apply ze
  apply z5
  refine WQ [3, 9, 10, 11] [18] ?_
  refine WN (⟨i + 1, by omega⟩)
 ·apply zj
  apply zd
  have hend : i = l.length := by omega
  subst hend
  apply zb
  apply zn
  apply z5
  refine WS [2] [18] ?_
  apply z9
  exact E0
def mN (n : Int) (i : Nat) : Nat := (kp n).toNat / 256 ^ i
theorem ztv {n : Int} (h : I64 n) : (mN n 0 : Int) = kp n := by
 have := Qj h
 simp [mN]
 omega
theorem ztu (n : Int) (i : Nat) : mN n (i + 1) = mN n i / 256 := by simp [mN, Nat.pow_succ, Nat.div_div_eq_div_mul]
theorem zwt (n : Int) (i : Nat) : 0 < mN n i ↔ i < kM n := z6e _ _
theorem zwu (n : Int) (i : Nat) : Int.tdiv (mN n i : Int) 256 = (mN n (i + 1) : Int) := by
 rw [ztu, Int.tdiv_eq_ediv_of_nonneg (by omega)]
 omega
theorem zwv (n : Int) (i : Nat) : Int.tmod (mN n i : Int) 256 = ((mN n i % 256 : Nat) : Int) := by
 rw [Int.tmod_eq_emod_of_nonneg (by omega)]
 omega
theorem zvl {n : Int} (h : I64 n) (i : Nat) : mN n i < 9223372036854775808 := by
 have := Qj h
 have := Nat.div_le_self (kp n).toNat (256 ^ i)
 unfold mN
 omega
def z6d (n : Int) (i : Nat) : List Int := (List.range i).map fun j => ((mN n j % 256 : Nat) : Int)
theorem zki (n : Int) : z6d n 0 = [] := rfl
theorem zkh (n : Int) (i : Nat) : z6d n (i + 1) = z6d n i ++ [((mN n i % 256 : Nat) : Int)] := by simp [z6d, List.range_succ]
theorem zdh (n : Int) (i : Nat) : (z6d n i).length = i := by simp [z6d]
theorem zdg {n : Int} {i k : Nat} (h : i < k) : (z6d n k).getD i default = ((mN n i % 256 : Nat) : Int) := by
 simp [z6d, List.getD_eq_getElem?_getD, h]
theorem zt0 (n : Int) (i : Nat) : digM n i = vd n ((mN n i % 256 : Nat) : Int) := rfl
theorem z3f (G) (n : Int) (hn : I64 n) : GivesX Tryz.prog G 110 [.dat (iD n)] [] [.osl 57 1 0 (kM n + 1)] [(57, ⟨1, ((yq n).map u8D).map .dat⟩)] := by
 have hr := Qj hn
 have hk := Zo hn
 have hm0 := ztv hn
 unfold I64 at hn
 skip
 skip
 refine GX [] [] [] Tryz.func110 Tryz.ntmps110 fun F hP hG hN hR hA => ?_
 have hE := And.intro @Tryz.results110 (And.intro @IntWalk.i64_in (And.intro @IntWalk.u8_in (And.intro @z9x (And.intro @z9w (And.intro @Qf (And.intro @zt0 (And.intro @zj1 (And.intro @zki (And.intro @zkh (And.intro @zdh (And.intro @zwu (@zwv))))))))))))
 refine WS [0] [] ?_
 refine WS [0, 3] [] ?_
 refine wv (.of [(0, .dat (iD n)), (3, .dat (iD (kp n)))] []) ?_ ?_
 ·refine WS [0, 3, 11] [] ?_
  refine WI ?_ ?_ <;> intro hb
  ·have h1 : -1 - n = kp n := by unfold kp; rw [if_pos hb]
   have hE := And.intro hE h1
   refine WQ [0, 3] [] ?_
   exact ML
  ·have h1 : kp n = n := by unfold kp; rw [if_neg (by omega)]
   have hE := And.intro hE h1
   apply z6
   exact ML
 refine WS [0, 3, 4] [21] ?_
 apply z3
 apply z7
 refine xd 21 1 (by omega) ?_
 refine xy 4 21 1 rfl rfl ?_
 refine WL (ι := {i : Nat // i ≤ kM n}) [0] [20] (fun ⟨i, hi⟩ => [(3, .dat (iD (mN n i))), (4, .osl 21 1 0 i)]) (fun ⟨i, hi⟩ => [(21, ⟨1, ((z6d n i).map u8D).map .dat⟩)]) (fun ⟨i, hi⟩ => kM n - i) (⟨0, by omega⟩) ?_
 rintro ⟨i, hi⟩
 refine LA ?_
 have hl := zdh n i
 have hmi := zwt n i
 have hml := zvl hn i
 have hml2 := zvl hn (i + 1)
 apply z3
 refine WS [0, 3, 4, 15] [20, 21] ?_
 refine WI ?_ ?_ <;> intro hb
 ·apply z6
  apply z5
  apply z7
  refine WS [0, 3, 4] [20, 21] ?_
  refine WQ [0, 3, 4] [20, 21] ?_
  apply ze
  refine WN (⟨i + 1, by omega⟩)
 ·apply zj
  apply zd
  have hend : i = kM n := by omega
  subst hend
  apply zb
  apply zn
  apply z5
  refine WS [0, 4, 5] [20, 21] ?_
  refine WS [0, 4, 5, 6] [20, 21, 33, 39, 57] ?_
  apply z3
  refine WS [0, 4, 5, 6, 27] [20, 21, 33, 39, 57] ?_
  refine WI ?_ ?_ <;> intro hb
  ·have h3 : vd n (128 + (kM n : Int)) = 128 + (kM n : Int) := by unfold vd; rw [if_neg (by omega)]
   have hE := And.intro hE h3
   refine WQ [0, 4, 5, 6] [20, 21, 32, 33, 39, 57] ?_
   apply z5
   apply z3
   refine WS [0, 4, 6, 7] [20, 21, 32, 33, 38, 39, 57] ?_
   apply z7
   refine yj 33 57 (by omega) (by omega) ?_
   refine WL (ι := {j : Nat // j ≤ kM n}) [0, 4] [20, 21, 32, 33, 38, 39, 56] (fun ⟨j, hj⟩ => [(6, .osl 57 1 0 (j + 1)), (7, .dat (iD (kM n - 1 - j)))]) (fun ⟨j, hj⟩ => [(57, ⟨1, ((z48 n j).map u8D).map .dat⟩)]) (fun ⟨j, hj⟩ => kM n - j) (⟨0, by omega⟩) ?_
   rintro ⟨j, hj⟩
   refine LA ?_
   have hl2 := Qf n j
   apply z3
   refine WS [0, 4, 6, 7, 43] [20, 21, 32, 33, 38, 39, 56, 57] ?_
   refine WI ?_ ?_ <;> intro hb
   ·have hg : (z6d n (kM n)).getD ((kM n : Int) - 1 - j).toNat default = ((mN n (kM n - 1 - j) % 256 : Nat) : Int) := by
     rw [show ((kM n : Int) - 1 - j).toNat = kM n - 1 - j by omega]
     exact zdg (by omega)
    have hE := And.intro hE hg
    apply z6
    apply z5
    apply z3
    apply z7
    refine WS [0, 4, 6, 7, 8] [20, 21, 32, 33, 38, 39, 56, 57] ?_
    apply z3
    refine WS [0, 4, 6, 7, 8, 51] [20, 21, 32, 33, 38, 39, 56, 57] ?_
    refine WI ?_ ?_ <;> intro hb
    ·have h4 : ∀ x : Int, vd n x = 255 - x := fun x => by unfold vd; rw [if_pos (by omega)]
     have hE := And.intro hE h4
     refine WQ [0, 4, 6, 7, 8] [20, 21, 32, 33, 38, 39, 56, 57] ?_
     apply z5
     refine WQ [0, 4, 6, 7] [20, 21, 32, 33, 38, 39, 56, 57] ?_
     apply ze
     apply z5
     refine WQ [0, 4, 6, 7] [20, 21, 32, 33, 38, 39, 56, 57] ?_
     refine WN (⟨j + 1, by omega⟩)
    ·have h4 : ∀ x : Int, vd n x = x := fun x => by unfold vd; rw [if_neg (by omega)]
     have hE := And.intro hE h4
     apply z6
     apply z5
     refine WQ [0, 4, 6, 7] [20, 21, 32, 33, 38, 39, 56, 57] ?_
     apply ze
     apply z5
     refine WQ [0, 4, 6, 7] [20, 21, 32, 33, 38, 39, 56, 57] ?_
     refine WN (⟨j + 1, by omega⟩)
   ·apply zj
    apply zd
    have hend : j = kM n := by omega
    subst hend
    apply zb
    apply zn
    apply z5
    refine WS [2] [20, 21, 32, 33, 38, 39, 56, 57] ?_
    apply z9
    exact E0
  ·have h3 : vd n (128 + (kM n : Int)) = 127 - (kM n : Int) := by unfold vd; rw [if_pos (by omega)]; omega
   have hE := And.intro hE h3
   refine WQ [0, 4, 5, 6] [20, 21, 33, 38, 39, 57] ?_
   apply z5
   apply z3
   refine WS [0, 4, 6, 7] [20, 21, 32, 33, 38, 39, 57] ?_
   apply z7
   refine yj 39 57 (by omega) (by omega) ?_
   refine WL (ι := {j : Nat // j ≤ kM n}) [0, 4] [20, 21, 32, 33, 38, 39, 56] (fun ⟨j, hj⟩ => [(6, .osl 57 1 0 (j + 1)), (7, .dat (iD (kM n - 1 - j)))]) (fun ⟨j, hj⟩ => [(57, ⟨1, ((z48 n j).map u8D).map .dat⟩)]) (fun ⟨j, hj⟩ => kM n - j) (⟨0, by omega⟩) ?_
   rintro ⟨j, hj⟩
   refine LA ?_
   have hl2 := Qf n j
   apply z3
   refine WS [0, 4, 6, 7, 43] [20, 21, 32, 33, 38, 39, 56, 57] ?_
   refine WI ?_ ?_ <;> intro hb
   ·have hg : (z6d n (kM n)).getD ((kM n : Int) - 1 - j).toNat default = ((mN n (kM n - 1 - j) % 256 : Nat) : Int) := by
     rw [show ((kM n : Int) - 1 - j).toNat = kM n - 1 - j by omega]
     exact zdg (by omega)
    have hE := And.intro hE hg
    apply z6
    apply z5
    apply z3
    apply z7
    refine WS [0, 4, 6, 7, 8] [20, 21, 32, 33, 38, 39, 56, 57] ?_
    apply z3
    refine WS [0, 4, 6, 7, 8, 51] [20, 21, 32, 33, 38, 39, 56, 57] ?_
    refine WI ?_ ?_ <;> intro hb
    ·have h4 : ∀ x : Int, vd n x = 255 - x := fun x => by unfold vd; rw [if_pos (by omega)]
     have hE := And.intro hE h4
     refine WQ [0, 4, 6, 7, 8] [20, 21, 32, 33, 38, 39, 56, 57] ?_
     apply z5
     refine WQ [0, 4, 6, 7] [20, 21, 32, 33, 38, 39, 56, 57] ?_
     apply ze
     apply z5
     refine WQ [0, 4, 6, 7] [20, 21, 32, 33, 38, 39, 56, 57] ?_
     refine WN (⟨j + 1, by omega⟩)
    ·have h4 : ∀ x : Int, vd n x = x := fun x => by unfold vd; rw [if_neg (by omega)]
     have hE := And.intro hE h4
     apply z6
     apply z5
     refine WQ [0, 4, 6, 7] [20, 21, 32, 33, 38, 39, 56, 57] ?_
     apply ze
     apply z5
     refine WQ [0, 4, 6, 7] [20, 21, 32, 33, 38, 39, 56, 57] ?_
     refine WN (⟨j + 1, by omega⟩)
   ·apply zj
    apply zd
    have hend : j = kM n := by omega
    subst hend
    apply zb
    apply zn
    apply z5
    refine WS [2] [20, 21, 32, 33, 38, 39, 56, 57] ?_
    apply z9
    exact E0
theorem zoe : zdn Tryz.prog 156 := .inl (by unfold zoc; kernel_rfl)
theorem X7 : zdn Tryz.prog 81 := .inr (by unfold z5j; kernel_rfl)
theorem zbj : zbk Tryz.prog 30 := by unfold zbk; kernel_rfl
theorem zof : zbk Tryz.prog 32 := by unfold zbk; kernel_rfl
theorem z4q (G) (a b : List ByteArray) (ha : a.length ≤ 281474976710656) : zl Tryz.prog G 127 [.sl (a.map sD), .sl (b.map sD)] [bD (qf qx a b)] := by
 skip
 refine GI [] [] [] Tryz.func127 Tryz.ntmps127 fun F hP hG hN hR hA => ?_
 have hE := @Tryz.results127
 refine WS [0, 1] [] ?_
 apply z3
 refine WS [0, 1, 10] [] ?_
 refine WI ?_ ?_ <;> intro hb
 ·have hv : qf qx a b = false := v6 (by omega)
  have hE := And.intro hE hv
  refine WS [4] [] ?_
  apply z9
  apply za
  exact E0
 ·have hlen : a.length = b.length := by omega
  apply z6
  apply z5
  apply z3
  refine WS [0, 1, 5] [] ?_
  apply z7
  refine WL (ι := {i : Nat // i ≤ a.length ∧ ∀ j, j < i → qx (a.getD j default) (b.getD j default) = true}) [0, 1] [] (fun ⟨i, hih⟩ => [(5, .dat (iD i))]) (fun ⟨i, hih⟩ => []) (fun ⟨i, hih⟩ => a.length - i) (⟨0, by omega, fun j h => absurd h (Nat.not_lt_zero j)⟩) ?_
  rintro ⟨i, hih⟩
  refine LA ?_
  obtain ⟨hi, hall⟩ := id hih
  apply z3
  refine WS [0, 1, 5, 14] [] ?_
  refine WI ?_ ?_ <;> intro hb
  ·skip
   apply z6
   apply z5
   apply z3
   apply z7
   refine WD [0, 1, 5, 25] [] [0, 1, 2, 3, 4, 5, 6, 7, 8] [] ?_
   refine WI ?_ ?_ <;> intro hb
   ·have hv : qf qx a b = false := v5 i (by omega) hlen (by simp only [qx, decide_eq_false_iff_not]; exact fun h => hb (congrArg ByteArray.toList h))
    have hE := And.intro hE hv
    refine WS [4] [] ?_
    apply z9
    apply zf
    apply za
    apply zw
    apply zf
    apply za
    exact E0
   ·have hok : qx (a.getD i default) (b.getD i default) = true := (by simp only [qx, decide_eq_true_eq]; exact z3k hb)
    apply z6
    apply ze
    apply z5
    refine WQ [0, 1, 5] [] ?_
    refine WN (⟨i + 1, by omega, xa hih.2 hok⟩)
  ·apply zj
   apply zd
   obtain rfl : i = a.length := by omega
   have hv : qf qx a b = true := xj hlen hall
   have hE := And.intro hE hv
   apply zb
   apply zn
   apply z5
   refine WS [4] [] ?_
   apply z9
   exact E0
theorem zm3 (G) (a b : List (Int × Int)) (ha : a.length ≤ 281474976710656) : zl Tryz.prog G 129 [.sl (a.map zaa), .sl (b.map zaa)] [bD (qf xw a b)] := by
 skip
 skip
 refine GI [] [] [] Tryz.func129 Tryz.ntmps129 fun F hP hG hN hR hA => ?_
 have hE := And.intro @Tryz.results129 (@zoe)
 refine WS [0, 1] [] ?_
 apply z3
 refine WS [0, 1, 10] [] ?_
 refine WI ?_ ?_ <;> intro hb
 ·have hv : qf xw a b = false := v6 (by omega)
  have hE := And.intro hE hv
  refine WS [4] [] ?_
  apply z9
  apply za
  exact E0
 ·have hlen : a.length = b.length := by omega
  apply z6
  apply z5
  apply z3
  refine WS [0, 1, 5] [] ?_
  apply z7
  refine WL (ι := {i : Nat // i ≤ a.length ∧ ∀ j, j < i → xw (a.getD j default) (b.getD j default) = true}) [0, 1] [] (fun ⟨i, hih⟩ => [(5, .dat (iD i))]) (fun ⟨i, hih⟩ => []) (fun ⟨i, hih⟩ => a.length - i) (⟨0, by omega, fun j h => absurd h (Nat.not_lt_zero j)⟩) ?_
  rintro ⟨i, hih⟩
  refine LA ?_
  obtain ⟨hi, hall⟩ := id hih
  apply z3
  refine WS [0, 1, 5, 14] [] ?_
  refine WI ?_ ?_ <;> intro hb
  ·skip
   apply z6
   apply z5
   apply z3
   apply z7
   refine WD [0, 1, 5, 25] [] [0, 1, 2, 3, 4, 5, 6, 7, 8] [] ?_
   refine WI ?_ ?_ <;> intro hb
   ·have hv : qf xw a b = false := v5 i (by omega) hlen (by simpa [xw] using hb)
    have hE := And.intro hE hv
    refine WS [4] [] ?_
    apply z9
    apply zf
    apply za
    apply zw
    apply zf
    apply za
    exact E0
   ·have hok : xw (a.getD i default) (b.getD i default) = true := (by simpa [xw] using hb)
    apply z6
    apply ze
    apply z5
    refine WQ [0, 1, 5] [] ?_
    refine WN (⟨i + 1, by omega, xa hih.2 hok⟩)
  ·apply zj
   apply zd
   obtain rfl : i = a.length := by omega
   have hv : qf xw a b = true := xj hlen hall
   have hE := And.intro hE hv
   apply zb
   apply zn
   apply z5
   refine WS [4] [] ?_
   apply z9
   exact E0
theorem zlv (G) (a b : List NameM) (ha : a.length ≤ 281474976710656) : zl Tryz.prog G 83 [.sl (a.map zx), .sl (b.map zx)] [bD (qf qa a b)] := by
 skip
 skip
 refine GI [] [] [] Tryz.func83 Tryz.ntmps83 fun F hP hG hN hR hA => ?_
 have hE := And.intro @Tryz.results83 (@X7)
 refine WS [0, 1] [] ?_
 apply z3
 refine WS [0, 1, 10] [] ?_
 refine WI ?_ ?_ <;> intro hb
 ·have hv : qf qa a b = false := v6 (by omega)
  have hE := And.intro hE hv
  refine WS [4] [] ?_
  apply z9
  apply za
  exact E0
 ·have hlen : a.length = b.length := by omega
  apply z6
  apply z5
  apply z3
  refine WS [0, 1, 5] [] ?_
  apply z7
  refine WL (ι := {i : Nat // i ≤ a.length ∧ ∀ j, j < i → qa (a.getD j default) (b.getD j default) = true}) [0, 1] [] (fun ⟨i, hih⟩ => [(5, .dat (iD i))]) (fun ⟨i, hih⟩ => []) (fun ⟨i, hih⟩ => a.length - i) (⟨0, by omega, fun j h => absurd h (Nat.not_lt_zero j)⟩) ?_
  rintro ⟨i, hih⟩
  refine LA ?_
  obtain ⟨hi, hall⟩ := id hih
  apply z3
  refine WS [0, 1, 5, 14] [] ?_
  refine WI ?_ ?_ <;> intro hb
  ·skip
   apply z6
   apply z5
   apply z3
   apply z7
   refine WD [0, 1, 5, 25] [] [0, 1, 2, 3, 4, 5, 6, 7, 8] [] ?_
   refine WI ?_ ?_ <;> intro hb
   ·have hv : qf qa a b = false := v5 i (by omega) hlen (by simpa [qa] using hb)
    have hE := And.intro hE hv
    refine WS [4] [] ?_
    apply z9
    apply zf
    apply za
    apply zw
    apply zf
    apply za
    exact E0
   ·have hok : qa (a.getD i default) (b.getD i default) = true := (by simpa [qa] using hb)
    apply z6
    apply ze
    apply z5
    refine WQ [0, 1, 5] [] ?_
    refine WN (⟨i + 1, by omega, xa hih.2 hok⟩)
  ·apply zj
   apply zd
   obtain rfl : i = a.length := by omega
   have hv : qf qa a b = true := xj hlen hall
   have hE := And.intro hE hv
   apply zb
   apply zn
   apply z5
   refine WS [4] [] ?_
   apply z9
   exact E0
theorem zmc (G) (a b : List NameM) (ha : a.length ≤ 281474976710656) : zl Tryz.prog G 135 [.sl (a.map zx), .sl (b.map zx)] [bD (qf qa a b)] := by
 skip
 skip
 refine GI [] [] [] Tryz.func135 Tryz.ntmps135 fun F hP hG hN hR hA => ?_
 have hE := And.intro @Tryz.results135 (@X7)
 refine WS [0, 1] [] ?_
 apply z3
 refine WS [0, 1, 10] [] ?_
 refine WI ?_ ?_ <;> intro hb
 ·have hv : qf qa a b = false := v6 (by omega)
  have hE := And.intro hE hv
  refine WS [4] [] ?_
  apply z9
  apply za
  exact E0
 ·have hlen : a.length = b.length := by omega
  apply z6
  apply z5
  apply z3
  refine WS [0, 1, 12, 13] [] ?_
  apply z7
  refine WL (ι := {i : Nat // i ≤ a.length ∧ ∀ j, j < i → qa (a.getD j default) (b.getD j default) = true}) [0, 1, 12] [] (fun ⟨i, hih⟩ => [(13, .dat (iD i))]) (fun ⟨i, hih⟩ => []) (fun ⟨i, hih⟩ => a.length - i) (⟨0, by omega, fun j h => absurd h (Nat.not_lt_zero j)⟩) ?_
  rintro ⟨i, hih⟩
  refine LA ?_
  obtain ⟨hi, hall⟩ := id hih
  refine WS [0, 1, 12, 13, 14] [] ?_
  apply z3
  refine WI ?_ ?_ <;> intro hb
  ·skip
   apply z6
   apply z5
   apply z3
   apply z7
   refine WS [0, 1, 5, 12, 13] [] ?_
   refine WD [0, 1, 12, 13, 24] [] [0, 1, 2, 3, 4, 5, 6, 7, 8] [] ?_
   refine WI ?_ ?_ <;> intro hb
   ·have hv : qf qa a b = false := v5 i (by omega) hlen (by simpa [qa] using hb)
    have hE := And.intro hE hv
    refine WS [4] [] ?_
    apply z9
    apply zf
    apply za
    apply zw
    apply zf
    apply za
    exact E0
   ·have hok : qa (a.getD i default) (b.getD i default) = true := (by simpa [qa] using hb)
    apply z6
    apply ze
    apply z5
    refine WQ [0, 1, 12, 13] [] ?_
    refine WN (⟨i + 1, by omega, xa hih.2 hok⟩)
  ·apply zj
   apply zd
   obtain rfl : i = a.length := by omega
   have hv : qf qa a b = true := xj hlen hall
   have hE := And.intro hE hv
   apply zb
   apply zn
   apply z5
   refine WS [4] [] ?_
   apply z9
   exact E0
theorem z4u (G) (a b : List ByteArray) (ha : a.length ≤ 281474976710656) : zl Tryz.prog G 120 [.sl (a.map sD), .sl (b.map sD)] [bD (qf qx a b)] := by
 skip
 refine GI [] [] [] Tryz.func120 Tryz.ntmps120 fun F hP hG hN hR hA => ?_
 have hE := @Tryz.results120
 refine WS [0, 1] [] ?_
 apply z3
 refine WS [0, 1, 10] [] ?_
 refine WI ?_ ?_ <;> intro hb
 ·have hv : qf qx a b = false := v6 (by omega)
  have hE := And.intro hE hv
  refine WS [4] [] ?_
  apply z9
  apply za
  exact E0
 ·have hlen : a.length = b.length := by omega
  apply z6
  apply z5
  apply z3
  refine WS [0, 1, 12, 13] [] ?_
  apply z7
  refine WL (ι := {i : Nat // i ≤ a.length ∧ ∀ j, j < i → qx (a.getD j default) (b.getD j default) = true}) [0, 1, 12] [] (fun ⟨i, hih⟩ => [(13, .dat (iD i))]) (fun ⟨i, hih⟩ => []) (fun ⟨i, hih⟩ => a.length - i) (⟨0, by omega, fun j h => absurd h (Nat.not_lt_zero j)⟩) ?_
  rintro ⟨i, hih⟩
  refine LA ?_
  obtain ⟨hi, hall⟩ := id hih
  refine WS [0, 1, 12, 13, 14] [] ?_
  apply z3
  refine WI ?_ ?_ <;> intro hb
  ·skip
   apply z6
   apply z5
   apply z3
   apply z7
   refine WS [0, 1, 5, 12, 13] [] ?_
   refine WD [0, 1, 12, 13, 24] [] [0, 1, 2, 3, 4, 5, 6, 7, 8] [] ?_
   refine WI ?_ ?_ <;> intro hb
   ·have hv : qf qx a b = false := v5 i (by omega) hlen (by simp only [qx, decide_eq_false_iff_not]; exact fun h => hb (congrArg ByteArray.toList h))
    have hE := And.intro hE hv
    refine WS [4] [] ?_
    apply z9
    apply zf
    apply za
    apply zw
    apply zf
    apply za
    exact E0
   ·have hok : qx (a.getD i default) (b.getD i default) = true := (by simp only [qx, decide_eq_true_eq]; exact z3k hb)
    apply z6
    apply ze
    apply z5
    refine WQ [0, 1, 12, 13] [] ?_
    refine WN (⟨i + 1, by omega, xa hih.2 hok⟩)
  ·apply zj
   apply zd
   obtain rfl : i = a.length := by omega
   have hv : qf qx a b = true := xj hlen hall
   have hE := And.intro hE hv
   apply zb
   apply zn
   apply z5
   refine WS [4] [] ?_
   apply z9
   exact E0
theorem zmg (G) (a b : List (Int × Int)) (ha : a.length ≤ 281474976710656) : zl Tryz.prog G 121 [.sl (a.map zaa), .sl (b.map zaa)] [bD (qf xw a b)] := by
 skip
 skip
 refine GI [] [] [] Tryz.func121 Tryz.ntmps121 fun F hP hG hN hR hA => ?_
 have hE := And.intro @Tryz.results121 (@zoe)
 refine WS [0, 1] [] ?_
 apply z3
 refine WS [0, 1, 10] [] ?_
 refine WI ?_ ?_ <;> intro hb
 ·have hv : qf xw a b = false := v6 (by omega)
  have hE := And.intro hE hv
  refine WS [4] [] ?_
  apply z9
  apply za
  exact E0
 ·have hlen : a.length = b.length := by omega
  apply z6
  apply z5
  apply z3
  refine WS [0, 1, 12, 13] [] ?_
  apply z7
  refine WL (ι := {i : Nat // i ≤ a.length ∧ ∀ j, j < i → xw (a.getD j default) (b.getD j default) = true}) [0, 1, 12] [] (fun ⟨i, hih⟩ => [(13, .dat (iD i))]) (fun ⟨i, hih⟩ => []) (fun ⟨i, hih⟩ => a.length - i) (⟨0, by omega, fun j h => absurd h (Nat.not_lt_zero j)⟩) ?_
  rintro ⟨i, hih⟩
  refine LA ?_
  obtain ⟨hi, hall⟩ := id hih
  refine WS [0, 1, 12, 13, 14] [] ?_
  apply z3
  refine WI ?_ ?_ <;> intro hb
  ·skip
   apply z6
   apply z5
   apply z3
   apply z7
   refine WS [0, 1, 5, 12, 13] [] ?_
   refine WD [0, 1, 12, 13, 24] [] [0, 1, 2, 3, 4, 5, 6, 7, 8] [] ?_
   refine WI ?_ ?_ <;> intro hb
   ·have hv : qf xw a b = false := v5 i (by omega) hlen (by simpa [xw] using hb)
    have hE := And.intro hE hv
    refine WS [4] [] ?_
    apply z9
    apply zf
    apply za
    apply zw
    apply zf
    apply za
    exact E0
   ·have hok : xw (a.getD i default) (b.getD i default) = true := (by simpa [xw] using hb)
    apply z6
    apply ze
    apply z5
    refine WQ [0, 1, 12, 13] [] ?_
    refine WN (⟨i + 1, by omega, xa hih.2 hok⟩)
  ·apply zj
   apply zd
   obtain rfl : i = a.length := by omega
   have hv : qf xw a b = true := xj hlen hall
   have hE := And.intro hE hv
   apply zb
   apply zn
   apply z5
   refine WS [4] [] ?_
   apply z9
   exact E0
theorem zuv (G) (a b : List IdM) (ha : a.length ≤ 281474976710656) : zl Tryz.prog G 122 [.sl (a.map idD), .sl (b.map idD)] [bD (qf qp a b)] := by
 skip
 skip
 refine GI [] [] [] Tryz.func122 Tryz.ntmps122 fun F hP hG hN hR hA => ?_
 have hE := And.intro @Tryz.results122 (@zbj)
 refine WS [0, 1] [] ?_
 apply z3
 refine WS [0, 1, 10] [] ?_
 refine WI ?_ ?_ <;> intro hb
 ·have hv : qf qp a b = false := v6 (by omega)
  have hE := And.intro hE hv
  refine WS [4] [] ?_
  apply z9
  apply za
  exact E0
 ·have hlen : a.length = b.length := by omega
  apply z6
  apply z5
  apply z3
  refine WS [0, 1, 12, 13] [] ?_
  apply z7
  refine WL (ι := {i : Nat // i ≤ a.length ∧ ∀ j, j < i → qp (a.getD j default) (b.getD j default) = true}) [0, 1, 12] [] (fun ⟨i, hih⟩ => [(13, .dat (iD i))]) (fun ⟨i, hih⟩ => []) (fun ⟨i, hih⟩ => a.length - i) (⟨0, by omega, fun j h => absurd h (Nat.not_lt_zero j)⟩) ?_
  rintro ⟨i, hih⟩
  refine LA ?_
  obtain ⟨hi, hall⟩ := id hih
  refine WS [0, 1, 12, 13, 14] [] ?_
  apply z3
  refine WI ?_ ?_ <;> intro hb
  ·skip
   apply z6
   apply z5
   apply z3
   apply z7
   refine WS [0, 1, 5, 12, 13] [] ?_
   refine WD [0, 1, 12, 13, 24] [] [0, 1, 2, 3, 4, 5, 6, 7, 8] [] ?_
   refine WI ?_ ?_ <;> intro hb
   ·have hv : qf qp a b = false := v5 i (by omega) hlen (by simpa [qp] using hb)
    have hE := And.intro hE hv
    refine WS [4] [] ?_
    apply z9
    apply zf
    apply za
    apply zw
    apply zf
    apply za
    exact E0
   ·have hok : qp (a.getD i default) (b.getD i default) = true := (by simpa [qp] using hb)
    apply z6
    apply ze
    apply z5
    refine WQ [0, 1, 12, 13] [] ?_
    refine WN (⟨i + 1, by omega, xa hih.2 hok⟩)
  ·apply zj
   apply zd
   obtain rfl : i = a.length := by omega
   have hv : qf qp a b = true := xj hlen hall
   have hE := And.intro hE hv
   
   apply zb
   apply zn
   apply z5
   refine WS [4] [] ?_
   apply z9
   exact E0
theorem zn0 (G) (l : List ByteArray) (hl : ∀ s ∈ l, s.size ≤ 1000000) (hn : l.length ≤ 1000000) : GivesX Tryz.prog G 119 [.dat (ssD l)] [] [.osl 18 1 0 (strsM l).length] [(18, ⟨1, ((strsM l).map u8D).map .dat⟩)] := by
 have hk := Zo (n := l.length) (by unfold I64; omega)
 have hil := wd l.length
 skip
 skip
 skip
 refine GX [] [8, 17] [] Tryz.func119 Tryz.ntmps119 fun F hP hG hN hR hA => ?_
 have hE := And.intro @Tryz.results119 (And.intro @z89 (And.intro @wd (@strsM.eq_1)))
 refine WS [0] [18] ?_
 apply zm [0, 3] [18]
 ·refine RN ?_
  refine CX (fun _ => 18) [45] (z10 G l.length (by unfold I64; omega)) ?_
  exact SC
 apply z3
 refine WS [3, 9, 10, 11] [18] ?_
 apply z7
 refine WL (ι := {i : Nat // i ≤ l.length}) [9, 10] [] (fun ⟨i, hi⟩ => [(3, .osl 18 1 0 (Qq l i).length), (11, .dat (iD i))]) (fun ⟨i, hi⟩ => [(18, ⟨1, ((Qq l i).map u8D).map .dat⟩)]) (fun ⟨i, hi⟩ => l.length - i) (⟨0, by omega⟩) ?_
 rintro ⟨i, hi⟩
 refine LA ?_
 refine WS [3, 9, 10, 11, 12] [18] ?_
 apply z3
 refine WI ?_ ?_ <;> intro hb
 ·have hx := zt hl (i := i) (by omega)
  have hle := z87 hl hi hn
  have hixl := Zj hx
  have hsc := z88 l i (by omega)
  have hE := And.intro hE hsc
  apply z6
  apply z5
  apply z3
  apply z7
  refine WS [3, 5, 9, 10, 11] [18] ?_
  apply yp [3, 9, 10, 11] [18]
  ·refine RN ?_
   refine CX (fun _ => 17) [7] (z8i G (l.getD i default) hx) ?_
   exact SC
  apply ze
  apply z5
  refine WQ [3, 9, 10, 11] [18] ?_
  refine WN (⟨i + 1, by omega⟩)
 ·apply zj
  apply zd
  have hend : i = l.length := by omega
  subst hend
  apply zb
  apply zn
  apply z5
  refine WS [2] [18] ?_
  apply z9
  exact E0
theorem z3o (G) (l : List ByteArray) (hl : ∀ s ∈ l, s.size ≤ 1000000) (hn : l.length ≤ 1000000) : zl Tryz.prog G 119 [ssD l] [z3m (strsM l)] := (zn0 G l hl hn).row rfl
theorem Qt (G) (l : List Int) (hl : ∀ x ∈ l, I64 x) (hn : l.length ≤ 1000000) : zl Tryz.prog G 116 [isD l] [z3m (intsM l)] := (zb6 G l hl hn).row rfl
theorem z7m (G) (s : ByteArray) (hs : s.size ≤ 1000000) : GivesX Tryz.prog G 111 [.dat (sD s)] [] [.osl 8 1 0 (x4 s).length] [(8, ⟨1, ((x4 s).map u8D).map .dat⟩)] := by
 have hk := Zo (n := s.size) (by unfold I64; omega)
 have hil := wd s.size
 have hsl := yf s
 skip
 skip
 skip
 refine GX [] [5] [] Tryz.func111 Tryz.ntmps111 fun F hP hG hN hR hA => ?_
 have hE := And.intro @Tryz.results111 (And.intro @IntWalk.i64_in (And.intro @yf (@wd)))
 refine WS [0] [5] ?_
 refine wp ?_
 apply wz
 ·(iterate 4 apply Seg.cons); exact Seg.nil _
 ·refine RK ?_
  (repeat' refine And.intro ?_ ?_) <;> try exact SD
  refine CallC.useX (fun _ => 5) [57] (by simp [zcp, hR.2.1]) (z5k hP hG (z3f G s.size (by unfold I64; omega))) rfl (vw hN (by first | trivial | ((try simp only [z6q, AObj.ren, AV.ren, renL, z5x, List.map_cons, List.map_nil, z4d, z7e]) <;> ((repeat' apply And.intro) <;> first | trivial | rfl))) (by rfl)) ?_
  try simp (maxSteps := 2000000) (disch := omega) only [wm, avA, zk, zo, seval, ↓List.forall_mem_cons, Op.operands, hA, tiA, hE, zn2, avX]
  exact SC
 refine yi rfl (zgg rfl rfl (by rw [hN]; omega) (by rw [hP]; exact ti9) (by rw [hP]; exact ti117) rfl (by rw [hP]; exact ti5) rfl rfl) ?_
 rw [yr]
 apply wg [2] [8, 5]
 ·refine RN ?_
  exact SC
 apply z5
 apply z9
 simp only [kj, y6, vk, qq, qi, x5, vb, qh, q9, xn, qy, wy, xk, xq, xm, wx, xp, xr, w3, xx, avA, zk, zo, seval, ↓List.forall_mem_cons, Op.operands, hP, hG, tiA, hE, x4, List.length_append, List.map_append]
 all_goals try trivial
theorem zlk (G) (s : ByteArray) (hs : s.size ≤ 1000000) : zl Tryz.prog G 111 [sD s] [z3m (x4 s)] := (z7m G s hs).row rfl
theorem zaj (G) (l : List Int) (hl : ∀ x ∈ l, I64 x) (hn : l.length ≤ 1000000) : GivesX Tryz.prog G 107 [.dat (isD l)] [] [.osl 20 1 0 (intsM l).length] [(20, ⟨1, ((intsM l).map u8D).map .dat⟩)] := by
 have hk := Zo (n := l.length) (by unfold I64; omega)
 have hil := wd l.length
 skip
 skip
 skip
 refine GX [] [7, 19] [] Tryz.func107 Tryz.ntmps107 fun F hP hG hN hR hA => ?_
 have hE := And.intro @Tryz.results107 (And.intro @z6x (And.intro @wd (@intsM.eq_1)))
 refine WS [0] [20] ?_
 apply zm [0, 3] [20]
 ·refine RN ?_
  refine CX (fun _ => 20) [57] (z3f G l.length (by unfold I64; omega)) ?_
  exact SC
 apply z3
 refine WS [0, 3, 4] [20] ?_
 apply z7
 refine WL (ι := {i : Nat // i ≤ l.length}) [0] [] (fun ⟨i, hi⟩ => [(3, .osl 20 1 0 (Xx l i).length), (4, .dat (iD i))]) (fun ⟨i, hi⟩ => [(20, ⟨1, ((Xx l i).map u8D).map .dat⟩)]) (fun ⟨i, hi⟩ => l.length - i) (⟨0, by omega⟩) ?_
 rintro ⟨i, hi⟩
 refine LA ?_
 apply z3
 refine WS [0, 3, 4, 11] [20] ?_
 refine WI ?_ ?_ <;> intro hb
 ·have hx := zt hl (i := i) (by omega)
  have hle := z6v hl hi hn
  have hkx := Zo hx
  have hixl := wd (l.getD i default)
  have hsc := z6w l i (by omega)
  have hE := And.intro hE hsc
  apply z6
  apply z5
  apply z3
  apply z7
  apply yp [0, 3, 4] [20]
  ·refine RN ?_
   refine CX (fun _ => 19) [57] (z3f G (l.getD i default) hx) ?_
   exact SC
  apply ze
  apply z5
  refine WQ [0, 3, 4] [20] ?_
  refine WN (⟨i + 1, by omega⟩)
 ·apply zj
  apply zd
  have hend : i = l.length := by omega
  subst hend
  apply zb
  apply zn
  apply z5
  refine WS [2] [20] ?_
  apply z9
  exact E0
theorem zf1 (G) (l : List Int) (hl : ∀ x ∈ l, I64 x) (hn : l.length ≤ 1000000) : zl Tryz.prog G 107 [isD l] [z3m (intsM l)] := (zaj G l hl hn).row rfl
theorem zm5 (G) (l : List ByteArray) (hl : ∀ s ∈ l, s.size ≤ 1000000) (hn : l.length ≤ 1000000) : GivesX Tryz.prog G 109 [.dat (ssD l)] [] [.osl 20 1 0 (strsM l).length] [(20, ⟨1, ((strsM l).map u8D).map .dat⟩)] := by
 have hk := Zo (n := l.length) (by unfold I64; omega)
 have hil := wd l.length
 skip
 skip
 skip
 refine GX [] [7, 19] [] Tryz.func109 Tryz.ntmps109 fun F hP hG hN hR hA => ?_
 have hE := And.intro @Tryz.results109 (And.intro @z89 (And.intro @wd (@strsM.eq_1)))
 refine WS [0] [20] ?_
 apply zm [0, 3] [20]
 ·refine RN ?_
  refine CX (fun _ => 20) [57] (z3f G l.length (by unfold I64; omega)) ?_
  exact SC
 apply z3
 refine WS [0, 3, 4] [20] ?_
 apply z7
 refine WL (ι := {i : Nat // i ≤ l.length}) [0] [] (fun ⟨i, hi⟩ => [(3, .osl 20 1 0 (Qq l i).length), (4, .dat (iD i))]) (fun ⟨i, hi⟩ => [(20, ⟨1, ((Qq l i).map u8D).map .dat⟩)]) (fun ⟨i, hi⟩ => l.length - i) (⟨0, by omega⟩) ?_
 rintro ⟨i, hi⟩
 refine LA ?_
 apply z3
 refine WS [0, 3, 4, 11] [20] ?_
 refine WI ?_ ?_ <;> intro hb
 ·have hx := zt hl (i := i) (by omega)
  have hle := z87 hl hi hn
  have hixl := Zj hx
  have hsc := z88 l i (by omega)
  have hE := And.intro hE hsc
  apply z6
  apply z5
  apply z3
  apply z7
  apply yp [0, 3, 4] [20]
  ·refine RN ?_
   refine CX (fun _ => 19) [8] (z7m G (l.getD i default) hx) ?_
   exact SC
  apply ze
  apply z5
  refine WQ [0, 3, 4] [20] ?_
  refine WN (⟨i + 1, by omega⟩)
 ·apply zj
  apply zd
  have hend : i = l.length := by omega
  subst hend
  apply zb
  apply zn
  apply z5
  refine WS [2] [20] ?_
  apply z9
  exact E0
theorem zrd (G) (l : List ByteArray) (hl : ∀ s ∈ l, s.size ≤ 1000000) (hn : l.length ≤ 1000000) : zl Tryz.prog G 109 [ssD l] [z3m (strsM l)] := (zm5 G l hl hn).row rfl
theorem Qb (G) (l : List Int) (i m : Int) (hl : ∀ x ∈ l, I64 x) (hm : 0 < m) (hmr : I64 m) : zl Tryz.prog G 29 [isD l, iD i, iD m] [iD (atM l i m)] := by
 unfold atM
 skip
 refine GI [] [] [] Tryz.func29 Tryz.ntmps29 fun F hP hG hN hR hA => ?_
 have hE := @Tryz.results29
 refine WS [0, 1, 2] [] ?_
 apply z3
 refine WS [0, 1, 2, 14] [] ?_
 refine WI ?_ ?_ <;> intro hb
 ·rw [if_pos (by omega)]
  refine WS [6] [] ?_
  apply z9
  apply za
  exact E0
 ·rw [if_neg (by omega)]
  apply z6
  apply z5
  have hc := gvF hP hG (wh _ (l.getD i.toNat default) m (zt hl (by omega)) hm hmr)
  refine WSc [6] [] ?_
  apply z9
  exact E0
structure SzTerm (t : TermM) : Prop where
 broader : t.Broader.length ≤ 281474976710656
structure SzOp (o : OpM) : Prop where
 texts : o.Texts.length ≤ 281474976710656
 pairs : o.Pairs.length ≤ 281474976710656
 refs : o.Refs.length ≤ 281474976710656
theorem zcb (G) (a b : IdM) : zl Tryz.prog G 128 [idD a, idD b] [bD (qp a b)] := by
 skip
 refine GI [] [] [] Tryz.func128 Tryz.ntmps128 fun F hP hG hN hR hA => ?_
 have hE := @Tryz.results128
 refine WS [2, 3] [2, 3] ?_
 refine WS [4] [] ?_
 apply z9
 simp only [kj, y6, vk, qq, qi, x5, vb, qh, q9, xn, qy, wy, xk, xq, xm, wx, xp, xr, w3, xx, avA, zk, zo, seval, ↓List.forall_mem_cons, Op.operands, hP, hG, tiA, hE, qp]
 all_goals try trivial
theorem zug (G) (a b : List IdM) (ha : a.length ≤ 281474976710656) : zl Tryz.prog G 130 [zdy a, zdy b] [bD (qf qp a b)] := by
 skip
 refine GI [] [] [] Tryz.func130 Tryz.ntmps130 fun F hP hG hN hR hA => ?_
 have hE := @Tryz.results130
 refine WS [0, 1] [] ?_
 apply z3
 refine WS [0, 1, 10] [] ?_
 refine WI ?_ ?_ <;> intro hb
 ·have hv : qf qp a b = false := v6 (by omega)
  have hE := And.intro hE hv
  refine WS [4] [] ?_
  apply z9
  apply za
  exact E0
 ·have hlen : a.length = b.length := by omega
  apply z6
  apply z5
  apply z3
  refine WS [0, 1, 5] [] ?_
  apply z7
  refine WL (ι := {i : Nat // i ≤ a.length ∧ ∀ j, j < i → qp (a.getD j default) (b.getD j default) = true}) [0, 1] [] (fun ⟨i, hih⟩ => [(5, .dat (iD i))]) (fun ⟨i, hih⟩ => []) (fun ⟨i, hih⟩ => a.length - i) (⟨0, by omega, fun j h => absurd h (Nat.not_lt_zero j)⟩) ?_
  rintro ⟨i, hih⟩
  refine LA ?_
  obtain ⟨hi, hall⟩ := id hih
  apply z3
  refine WS [0, 1, 5, 14] [] ?_
  refine WI ?_ ?_ <;> intro hb
  ·apply z6
   apply z5
   apply z3
   apply z7
   apply w6 [0, 1, 5, 26] [] [0, 1, 2, 3, 4, 5, 6, 7, 8, 9] []
   ·rw [hP]; kernel_rfl
   ·exact hR
   ·kernel_rfl
   ·(repeat (apply PickL.cons; exact rfl)); exact PickL.nil _
   ·refine RN ?_
    refine CU (zcb G (a.getD i default) (b.getD i default)) ?_
    exact SC
   refine WI ?_ ?_ <;> intro hb
   ·have hv : qf qp a b = false := v5 i (by omega) hlen hb
    have hE := And.intro hE hv
    refine WS [4] [] ?_
    apply z9
    apply zf
    apply za
    apply zw
    apply zf
    apply za
    exact E0
   ·have hok : qp (a.getD i default) (b.getD i default) = true := hb
    apply z6
    apply ze
    apply z5
    refine WQ [0, 1, 5] [] ?_
    refine WN (⟨i + 1, by omega, xa hih.2 hok⟩)
  ·apply zj
   apply zd
   obtain rfl : i = a.length := by omega
   have hv : qf qp a b = true := xj hlen hall
   have hE := And.intro hE hv
   apply zb
   apply zn
   apply z5
   refine WS [4] [] ?_
   apply z9
   exact E0
theorem zfg (G) (t u : TermM) (ht : t.Broader.length ≤ 281474976710656) : zl Tryz.prog G 77 [zjv t, zjv u] [bD (je t u)] := by
 skip
 skip
 refine GI [] [] [] Tryz.func77 Tryz.ntmps77 fun F hP hG hN hR hA => ?_
 have hE := And.intro @Tryz.results77 (@Xt)
 refine WS [2, 3] [2, 3] ?_
 apply zm [4] []
 ·refine RN ?_
  refine CG (z4u G t.Broader u.Broader ht) ?_
  exact SC
 apply z9
 simp only [kj, y6, vk, qq, qi, x5, vb, qh, q9, xn, qy, wy, xk, xq, xm, wx, xp, xr, w3, xx, avA, zk, zo, seval, ↓List.forall_mem_cons, Op.operands, hP, hG, tiA, hE, je]
 all_goals try trivial
theorem zf8 (G) (t u : TermM) (ht : t.Broader.length ≤ 281474976710656) : zl Tryz.prog G 84 [zjv t, zjv u] [bD (je t u)] := by
 skip
 skip
 refine GI [] [] [] Tryz.func84 Tryz.ntmps84 fun F hP hG hN hR hA => ?_
 have hE := And.intro @Tryz.results84 (@Xt)
 refine WS [2, 3] [2, 3] ?_
 apply zm [4] []
 ·refine RN ?_
  refine CG (z4q G t.Broader u.Broader ht) ?_
  exact SC
 apply z9
 simp only [kj, y6, vk, qq, qi, x5, vb, qh, q9, xn, qy, wy, xk, xq, xm, wx, xp, xr, w3, xx, avA, zk, zo, seval, ↓List.forall_mem_cons, Op.operands, hP, hG, tiA, hE, je]
 all_goals try trivial
theorem zrp (G) (p q : PostM) (ht : p.Path.length ≤ 281474976710656) : zl Tryz.prog G 137 [z39 p, z39 q] [bD (xg p q)] := by
 skip
 skip
 refine GI [] [] [] Tryz.func137 Tryz.ntmps137 fun F hP hG hN hR hA => ?_
 have hE := And.intro @Tryz.results137 (@zbj)
 refine WS [2, 3] [2, 3] ?_
 apply zm [4] []
 ·refine RN ?_
  refine CG (z4u G p.Path q.Path ht) ?_
  exact SC
 apply z9
 simp only [kj, y6, vk, qq, qi, x5, vb, qh, q9, xn, qy, wy, xk, xq, xm, wx, xp, xr, w3, xx, avA, zk, zo, seval, ↓List.forall_mem_cons, Op.operands, hP, hG, tiA, hE, xg, qp]
 all_goals try trivial
theorem zrc (G) (p q : PostM) (ht : p.Path.length ≤ 281474976710656) : zl Tryz.prog G 82 [z39 p, z39 q] [bD (xg p q)] := by
 skip
 skip
 refine GI [] [] [] Tryz.func82 Tryz.ntmps82 fun F hP hG hN hR hA => ?_
 have hE := And.intro @Tryz.results82 (@zbj)
 refine WS [2, 3] [2, 3] ?_
 apply zm [4] []
 ·refine RN ?_
  refine CG (z4q G p.Path q.Path ht) ?_
  exact SC
 apply z9
 simp only [kj, y6, vk, qq, qi, x5, vb, qh, q9, xn, qy, wy, xk, xq, xm, wx, xp, xr, w3, xx, avA, zk, zo, seval, ↓List.forall_mem_cons, Op.operands, hP, hG, tiA, hE, xg, qp]
 all_goals try trivial
set_option maxRecDepth 100000 in
theorem zrl (G) (o p : OpM) (h : SzOp o) : zl Tryz.prog G 76 [opD o, opD p] [bD (jq o p)] := by
 skip
 skip
 refine GI [] [] [] Tryz.func76 Tryz.ntmps76 fun F hP hG hN hR hA => ?_
 have hE := And.intro @Tryz.results76 (And.intro @zbj (And.intro @zof (@Xt)))
 refine WS [2, 3] [2, 3] ?_
 refine zvz (by simp only [List.append_eq, List.cons_append, List.nil_append]; exact rfl) ?_
 apply zm [4] []
 ·refine RN ?_
  refine CG (z4u G o.Texts p.Texts h.texts) ?_
  refine CG (zmg G o.Pairs p.Pairs h.pairs) ?_
  refine CG (zuv G o.Refs p.Refs h.refs) ?_
  exact SC
 apply z9
 simp only [kj, y6, vk, qq, qi, x5, vb, qh, q9, xn, qy, wy, xk, xq, xm, wx, xp, xr, w3, xx, avA, zk, zo, seval, ↓List.forall_mem_cons, Op.operands, hP, hG, tiA, hE, jq, qp, z0v]
 all_goals try trivial
set_option maxRecDepth 100000 in
theorem zra (G) (o p : OpM) (h : SzOp o) : zl Tryz.prog G 85 [opD o, opD p] [bD (jq o p)] := by
 skip
 skip
 refine GI [] [] [] Tryz.func85 Tryz.ntmps85 fun F hP hG hN hR hA => ?_
 have hE := And.intro @Tryz.results85 (And.intro @zof (@Xt))
 refine WS [2, 3] [2, 3] ?_
 apply z3
 apply zm [2, 3, 53] [2, 3]
 ·refine RN ?_
  refine CG (zcb G o.At p.At) ?_
  refine CG (zcb G o.To p.To) ?_
  exact SC
 refine WI ?_ ?_ <;> intro hb
 ·have hv : jq o p = false := by
   unfold jq z0v
   grind
  have hE := And.intro hE hv
  refine WS [4] [] ?_
  apply z9
  apply za
  exact E0
 ·have hv : jq o p = (qx o.Text p.Text && qf qx o.Texts p.Texts && qf xw o.Pairs p.Pairs && qf qp o.Refs p.Refs) := by
   unfold jq z0v
   grind
  have hE := And.intro hE hv
  apply z6
  apply z5
  apply zm [4] []
  ·refine RN ?_
   refine CG (z4q G o.Texts p.Texts h.texts) ?_
   refine CG (zm3 G o.Pairs p.Pairs h.pairs) ?_
   refine CG (zug G o.Refs p.Refs h.refs) ?_
   exact SC
  apply z9
  exact E0
theorem zvm (G) (k : Int) : zl Tryz.prog G 72 [iD k] [zyo (ofM k)] := by
 skip
 refine GI [] [] [] Tryz.func72 Tryz.ntmps72 fun F hP hG hN hR hA => ?_
 have hE := @Tryz.results72
 refine WS [0, 2] [2] ?_
 apply z3
 refine WS [2, 3] [2] ?_
 apply z7
 refine WS [2, 3, 4] [2] ?_
 refine WI ?_ ?_ <;> intro hb
 ·refine WS [2] [2] ?_
  apply z9
  apply zf
  apply za
  refine EN ?_
  all_goals try trivial
  all_goals (simp [ofM, *])
 ·refine WS [2, 3, 7] [2] ?_
  refine WI ?_ ?_ <;> intro hb
  ·refine WS [2] [2] ?_
   apply z9
   apply zf
   apply za
   refine EN ?_
   all_goals try trivial
   all_goals (simp [ofM, *])
  ·apply z3
   refine WS [2, 3, 10] [2] ?_
   refine WI ?_ ?_ <;> intro hb
   ·apply z6
    apply z5
    refine zbd (by first | exact rfl | (simp only [z2s, z7h, Zm, z0a]; simp [*])) ?_
    refine WS [2] [2] ?_
    apply z9
    apply zf
    apply za
    refine EN ?_
    all_goals try trivial
    all_goals (simp [ofM, *])
   ·refine WQ [2, 3, 10] [2] ?_
    apply z5
    refine WI ?_ ?_ <;> intro hb
    ·refine WS [2] [2] ?_
     apply z9
     apply zf
     apply za
     refine EN ?_
     all_goals try trivial
     all_goals (simp [ofM, *])
    ·apply z3
     refine WS [2, 3, 14] [2] ?_
     refine WI ?_ ?_ <;> intro hb
     ·apply z6
      apply z5
      refine zbd (by first | exact rfl | (simp only [z2s, z7h, Zm, z0a]; simp [*])) ?_
      refine WS [2] [2] ?_
      apply z9
      apply zf
      apply za
      refine EN ?_
      all_goals try trivial
      all_goals (simp [ofM, *])
     ·refine WQ [2, 14] [2] ?_
      apply z5
      refine WI ?_ ?_ <;> intro hb
      ·refine WS [2] [2] ?_
       apply z9
       apply zf
       apply za
       refine EN ?_
       all_goals try trivial
       all_goals (simp [ofM, *])
      ·apply z6
       apply ze
       apply z5
       refine WS [2] [2] ?_
       apply z9
       refine EN ?_
       all_goals try trivial
       all_goals (simp [ofM, *])
theorem z3h (G) (n : NameM) : zl Tryz.prog G 144 [zx n] [bD (ym n)] := by
 skip
 refine GI [] [] [] Tryz.func144 Tryz.ntmps144 fun F hP hG hN hR hA => ?_
 have hE := @Tryz.results144
 refine WS [1] [1] ?_
 refine WS [2] [] ?_
 apply z9
 simp only [kj, y6, vk, qq, qi, x5, vb, qh, q9, xn, qy, wy, xk, xq, xm, wx, xp, xr, w3, xx, avA, zk, zo, seval, ↓List.forall_mem_cons, Op.operands, hP, hG, tiA, hE, ym]
 all_goals try trivial
 all_goals grind
theorem zqv (G) (a b : NameM) : zl Tryz.prog G 106 [zx a, zx b] [bD (z0k a b)] := by
 skip
 refine GI [] [] [] Tryz.func106 Tryz.ntmps106 fun F hP hG hN hR hA => ?_
 have hE := @Tryz.results106
 refine WS [2, 3] [2, 3] ?_
 refine WS [4] [] ?_
 apply z9
 simp only [kj, y6, vk, qq, qi, x5, vb, qh, q9, xn, qy, wy, xk, xq, xm, wx, xp, xr, w3, xx, avA, zk, zo, seval, ↓List.forall_mem_cons, Op.operands, hP, hG, tiA, hE, z0k]
 all_goals try trivial
 all_goals grind
theorem z3g (G) (e : EventM) : zl Tryz.prog G 89 [zc e] [zx (evName e)] := by
 skip
 refine GI [] [] [] Tryz.func89 Tryz.ntmps89 fun F hP hG hN hR hA => ?_
 have hE := @Tryz.results89
 refine WS [1, 2] [1, 2] ?_
 refine WS [2] [2] ?_
 apply z9
 simp only [kj, y6, vk, qq, qi, x5, vb, qh, q9, xn, qy, wy, xk, xq, xm, wx, xp, xr, w3, xx, avA, zk, zo, seval, ↓List.forall_mem_cons, Op.operands, hP, hG, tiA, hE, evName]
 all_goals try trivial
theorem z3s (G) (a b : EventM) : zl Tryz.prog G 31 [zc a, zc b] [bD (xl a b)] := by
 skip
 refine GI [] [] [] Tryz.func31 Tryz.ntmps31 fun F hP hG hN hR hA => ?_
 have hE := @Tryz.results31
 refine WS [2, 3] [2, 3] ?_
 apply z3
 refine WS [2, 3, 9] [2, 3] ?_
 refine WI ?_ ?_ <;> intro hb
 ·have hl : xl a b = decide (a.Tick < b.Tick) := by unfold xl; rw [if_pos hb]
  have hE := And.intro hE hl
  refine WS [4] [] ?_
  apply z9
  apply za
  exact E0
 ·have hl : xl a b = z0k (evName a) (evName b) := by unfold xl; rw [if_neg (by omega)]
  have hE := And.intro hE hl
  apply z6
  apply z5
  apply w6 [4] [] [0, 1, 2, 3, 4, 5] []
  ·rw [hP]; kernel_rfl
  ·exact hR
  ·kernel_rfl
  ·(repeat (apply PickL.cons; exact rfl)); exact PickL.nil _
  ·refine RN ?_
   refine CU (Xh G a) ?_
   refine CU (Xh G b) ?_
   refine CU (zj8 G (evName a) (evName b)) ?_
   exact SC
  apply z9
  exact E0
theorem Z9 (G) (n : Int) (hn : I64 n) : zl Tryz.prog G 59 [iD n] [sD (wordM n)] := by
 have hr := zu (n := n) (m := 8) (by omega)
 have hw : ([.str ⟨#[97, 110, 110, 97]⟩, .str ⟨#[114, 111, 109, 101]⟩, .str ⟨#[107, 105, 110, 103]⟩, .str ⟨#[107, 105, 110, 103, 32, 97, 110, 110, 97]⟩, .str ⟨#[111, 100, 101]⟩, .str ⟨#[108, 121, 114, 101, 32, 111, 102, 32, 114, 111, 109, 101]⟩, .str ⟨#[120, 32, 49, 50]⟩, .str ⟨#[116, 104, 101, 32, 101, 110, 100, 46]⟩] : List Dat) = wordsL.map Dat.str := rfl
 have hwl : wordsL.length = 8 := rfl
 skip
 skip
 refine GI [] [] [] Tryz.func59 Tryz.ntmps59 fun F hP hG hN hR hA => ?_
 have hE := And.intro @Tryz.results59 (And.intro (And.intro hw hwl) (@wordM.eq_1))
 refine WS [0] [] ?_
 refine WS [0, 3] [4] ?_
 have hc := gvF hP hG (wh G n 8 hn (by omega) (by unfold I64; omega))
 refine WSc [2] [] ?_
 apply z9
 exact E0
def zbg (a b : EventM) : Int := if xl a b = true then -1 else if xl b a = true then 1 else 0
theorem znx (a b : EventM) : zbg a b < 0 ↔ xl a b = true := by
 unfold zbg
 split
 ·simp [*]
 ·split <;> simp [*]
def swapM (l : List EventM) (j : Nat) : List EventM := (l.set j (l.getD (j - 1) default)).set (j - 1) (l.getD j default)
theorem zay (l : List EventM) (j : Nat) : (swapM l j).length = l.length := by simp [swapM]
def Qz (l : List EventM) : Nat → List EventM
 | 0 => l
 | j + 1 => if xl (l.getD (j + 1) default) (l.getD j default) = true then Qz (swapM l (j + 1)) j else l
theorem z9b (l : List EventM) : ∀ j (l : List EventM), (Qz l j).length = l.length
 | 0, _ => rfl
 | j + 1, l => by
  rw [Qz]
  split
  ·rw [z9b l j, zay]
  ·rfl
def z2t (l : List EventM) : Nat → List EventM
 | 0 => l
 | i + 1 => Qz (z2t l i) i
theorem Qe (l : List EventM) : ∀ i, (z2t l i).length = l.length
 | 0 => rfl
 | i + 1 => by rw [z2t, z9b (z2t l i) i, Qe l i]
def qv (l : List EventM) : List EventM := z2t l l.length
theorem zt2 {cur : List EventM} {j : Nat} (hj : 0 < j) (h : xl (cur.getD j default) (cur.getD (j - 1) default) = true) : Qz cur j = Qz (swapM cur j) (j - 1) := by
 obtain ⟨k, rfl⟩ : ∃ k, j = k + 1 := ⟨j - 1, by omega⟩
 rw [Qz, if_pos (by simpa using h)]
 rfl
theorem zkk {cur : List EventM} {j : Nat} (h : 0 < j → ¬ xl (cur.getD j default) (cur.getD (j - 1) default) = true) : Qz cur j = cur := by
 cases j with
 | zero => rfl
 | succ k => rw [Qz, if_neg (by simpa using h (by omega))]
theorem zwg (G) (a b : EventM) : zl Tryz.prog G 69 [zc a, zc b] [iD (zbg a b)] := by
 skip
 refine GI [] [] [] Tryz.func69 Tryz.ntmps69 fun F hP hG hN hR hA => ?_
 have hE := @Tryz.results69
 refine WS [2, 3] [2, 3] ?_
 apply z3
 apply z7
 have hc := gvF hP hG (z3s G a b)
 refine WSc [2, 3, 5] [2, 3] ?_
 refine WI ?_ ?_ <;> intro hb
 ·have hv : zbg a b = -1 := by unfold zbg; rw [if_pos hb]
  have hE := And.intro hE hv
  refine WS [4] [] ?_
  apply z9
  apply zf
  apply za
  exact E0
 ·have h0 : ¬ xl a b = true := by rw [hb]; exact Bool.false_ne_true
  have hc := gvF hP hG (z3s G b a)
  refine WSc [9] [] ?_
  refine WI ?_ ?_ <;> intro hb
  ·have hv : zbg a b = 1 := by unfold zbg; rw [if_neg h0, if_pos hb]
   have hE := And.intro hE hv
   refine WS [4] [] ?_
   apply z9
   apply zf
   apply za
   exact E0
  ·have hv : zbg a b = 0 := by unfold zbg; rw [if_neg h0, if_neg (by rw [hb]; exact Bool.false_ne_true)]
   have hE := And.intro hE hv
   apply z6
   apply ze
   apply z5
   refine WS [4] [] ?_
   apply z9
   exact E0
theorem zp5 (G) (l : List EventM) (hn : l.length ≤ 1000) : GivesX Tryz.prog G 148 [.osl 1000 32 0 l.length, .dat (iD 0), .dat (iD l.length), .fn 69 []] [(1000, ⟨32, (l.map zc).map .dat⟩)] [] [(1000, ⟨32, ((qv l).map zc).map .dat⟩)] := by
 skip
 skip
 skip
 refine GX [] [] [] Tryz.func148 Tryz.ntmps148 fun F hP hG hN hR hA => ?_
 have hE := And.intro @Tryz.results148 (And.intro @zcf (And.intro @List.length_set.{0} (@swapM.eq_1)))
 refine WS [0, 1, 2, 3, 8] [1000] ?_
 apply z7
 have h1 : z2t l 1 = l := rfl
 have hE := And.intro hE h1
 refine WL (ι := {i : Nat // 1 ≤ i ∧ (i ≤ l.length ∨ i = 1)}) [0, 1, 2, 3] [] (fun ⟨i, hi⟩ => [(8, .dat (iD i))]) (fun ⟨i, hi⟩ => [(1000, ⟨32, ((z2t l i).map zc).map .dat⟩)]) (fun ⟨i, hi⟩ => l.length - i) (⟨1, by omega⟩) ?_
 rintro ⟨i, hi⟩
 refine LA ?_
 obtain ⟨hi1, hi2⟩ := hi
 have hil := Qe l i
 apply z3
 refine WS [0, 1, 2, 3, 8, 14] [1000] ?_
 refine WI ?_ ?_ <;> intro hb
 ·apply z6
  apply z5
  apply z3
  apply z7
  refine WS [0, 1, 2, 3, 8, 9] [1000] ?_
  apply z7
  refine WL (ι := {p : Nat × List EventM // p.1 ≤ i ∧ p.2.length = l.length ∧ Qz p.2 p.1 = Qz (z2t l i) i}) [0, 1, 2, 3, 8] [] (fun ⟨⟨j, cur⟩, hp⟩ => [(9, .dat (iD j))]) (fun ⟨⟨j, cur⟩, hp⟩ => [(1000, ⟨32, (cur.map zc).map .dat⟩)]) (fun ⟨⟨j, cur⟩, hp⟩ => j) (⟨(i, z2t l i), by simp [hil]⟩) ?_
  rintro ⟨⟨j, cur⟩, hp⟩
  refine LA ?_
  obtain ⟨hp1, hp2, hp3⟩ := hp
  dsimp only at hp1 hp2 hp3
  have hj1 : ((j : Int) - 1).toNat = j - 1 := by omega
  have hE := And.intro hE hj1
  have hcn := znx (cur.getD j default) (cur.getD (j - 1) default)
  apply z3
  apply w6 [0, 1, 2, 3, 8, 9, 34] [1000] [0, 1, 2, 3, 4, 5, 6, 7, 8, 9, 10, 11, 12, 13, 14, 15, 16] []
  ·rw [hP]; kernel_rfl
  ·exact hR
  ·kernel_rfl
  ·(repeat (apply PickL.cons; exact rfl)); exact PickL.nil _
  ·refine RN ?_
   refine CG (zwg G (cur.getD j default) (cur.getD (j - 1) default)) ?_
   exact SC
  refine WI ?_ ?_ <;> intro hb
  ·have hbf := hcn.1 hb.2
   have hdn := zt2 (cur := cur) (j := j) (by omega) hbf
   have hls : (cur.set j (cur.getD (j - 1) default)).length = cur.length := by simp
   apply z6
   apply z5
   apply z3
   apply z7
   refine WDQ [0, 1, 2, 3, 8, 9] [1000] [0, 1, 5, 6, 7, 8, 9, 10, 11, 12, 13, 14, 15, 2, 3, 4, 16, 17] [] ?_
   apply ze
   apply z5
   refine WQ [0, 1, 2, 3, 8, 9] [1000] ?_
   refine WN (⟨(j - 1, swapM cur j), by dsimp only; exact ⟨by omega, by rw [zay]; exact hp2, by rw [← hdn]; exact hp3⟩⟩)
  ·have hdn : Qz cur j = cur := zkk fun h => mt hcn.2 (by grind)
   apply zj
   apply zd
   have hcur : cur = z2t l (i + 1) := by rw [z2t, ← hp3, hdn]
   subst hcur
   apply zb
   apply zn
   apply ze
   apply z5
   refine WQ [0, 1, 2, 3, 8] [1000] ?_
   refine WN (⟨i + 1, by omega⟩)
 ·apply zj
  apply zd
  have hlast : z2t l i = qv l := by
   unfold qv
   rcases hi2 with h | h
   ·rw [show i = l.length by omega]
   ·subst h
    rcases Nat.eq_zero_or_pos l.length with h0 | h0
    ·rw [h0]; rfl
    ·rw [show l.length = 1 by omega]
  have hE := And.intro hE hlast
  apply zb
  apply zn
  exact E0
theorem zmi (G) (l : List EventM) (hn : l.length < 20) : GivesX Tryz.prog G 115 [.osl 1000 32 0 l.length, .dat (iD l.length), .fn 69 []] [(1000, ⟨32, (l.map zc).map .dat⟩)] [] [(1000, ⟨32, ((qv l).map zc).map .dat⟩)] := by
 skip
 skip
 refine GX [] [27] [] Tryz.func115 Tryz.ntmps115 fun F hP hG hN hR hA => ?_
 have hE := @Tryz.results115
 refine WS [0, 1, 2, 6] [1000] ?_
 refine WS [0, 1, 2, 6, 7, 8] [1000] ?_
 apply z3
 apply z7
 refine WL (ι := Unit) [0, 1, 2, 6] [1000] (fun _u => [(7, .dat (iD 0)), (8, .dat (iD 20))]) (fun _u => []) (fun _u => 0) (()) ?_
 rintro _u
 refine LA ?_
 apply z3
 refine WS [0, 1, 2, 6, 7, 8, 13] [1000] ?_
 refine WI ?_ ?_ <;> intro hb
 ·exfalso
  omega --STOP
 ·apply zj
  apply zd
  apply zb
  apply zn
  apply z5
  apply zm [0, 1, 2, 6] [1000]
  ·refine RN ?_
   refine CX (fun _ => 1000) [] (zp5 G l (by omega)) ?_
   exact SC
  apply z7
  refine WL (ι := Unit) [0, 1, 2] [1000] (fun _u => [(6, .dat (iD 20))]) (fun _u => []) (fun _u => 0) (()) ?_
  rintro _u
  refine LA ?_
  apply z3
  refine WS [0, 1, 2, 6, 30] [1000] ?_
  refine WI ?_ ?_ <;> intro hb
  ·exfalso
   omega --STOP
  ·apply zj
   apply zd
   apply zb
   apply zn
   exact E0
theorem z1v (G) (l : List EventM) (hn : l.length < 20) : GivesX Tryz.prog G 68 [.osl 1000 32 0 l.length, .fn 69 []] [(1000, ⟨32, (l.map zc).map .dat⟩)] [] [(1000, ⟨32, ((qv l).map zc).map .dat⟩)] := by
 skip
 skip
 refine GX [] [8] [] Tryz.func68 Tryz.ntmps68 fun F hP hG hN hR hA => ?_
 have hE := @Tryz.results68
 apply yp [] [1000]
 ·refine RN ?_
  refine CX (fun _ => 1000) [] (zmi G l hn) ?_
  exact SC
 exact E0
theorem z97 (G) (l : List EventM) (hn : l.length ≤ 1000) : GivesX Tryz.prog G 67 [.dat (zz l)] [] [.osl 7 32 0 l.length] [(7, ⟨32, (l.map zc).map .dat⟩)] := by
 skip
 refine GX [] [] [] Tryz.func67 Tryz.ntmps67 fun F hP hG hN hR hA => ?_
 have hE := @Tryz.results67
 refine WS [0] [] ?_
 apply z3
 refine wp ?_
 apply wz
 ·(iterate 1 apply Seg.cons); exact Seg.nil _
 ·refine RK ?_
  exact SC
 refine Zg rfl rfl rfl (by rw [hN]; omega) (by rw [hP]; exact ti23) rfl rfl fun b hb0 => ?_
 rw [yr]
 apply wg [0, 4] []
 ·refine RN ?_
  exact SC
 refine WI ?_ ?_ <;> intro hb
 ·have hl0 : l = [] := by
   cases l with
   | nil => rfl
   | cons x l =>
    rw [hb0 (by simp)] at hb
    cases hb
  subst hl0
  refine WS [2] [7] ?_
  refine xd 7 32 (by omega) ?_
  refine xy 2 7 32 rfl rfl ?_
  apply z9
  apply za
  exact E0
 ·apply z6
  apply z5
  refine WS [2] [5, 7] ?_
  apply z9
  exact E0
theorem zjr (G) (l : List EventM) (hn : l.length < 20) : zl Tryz.prog G 30 [zz l] [zz (qv l)] := by
 have hsl : (qv l).length = l.length := Qe l _
 skip
 skip
 skip
 refine GI [] [5, 7] [] Tryz.func30 Tryz.ntmps30 fun F hP hG hN hR hA => ?_
 have hE := And.intro @Tryz.results30 (@hsl)
 refine WS [0] [5] ?_
 apply zm [3] [5]
 ·refine RN ?_
  refine CX (fun _ => 5) [7] (z97 G l (by omega)) ?_
  exact SC
 apply zm [3] [5]
 ·refine RN ?_
  refine CX (fun _ => 5) [] (z1v G l hn) ?_
  exact SC
 refine WS [2] [5] ?_
 apply z9
 exact E0
def wj (c : Int) : Int := if (97 ≤ c ∧ c ≤ 122) ∨ (65 ≤ c ∧ c ≤ 90) then 0 else if 48 ≤ c ∧ c ≤ 57 then 1 else if c = 64 then 3 else 2
def y7 (c : Int) : Int := if c = 32 then -1 else wj c
theorem z56 (c : Int) : 0 ≤ wj c ∧ wj c ≤ 3 := by
 unfold wj
 repeat' split
 all_goals omega
theorem zg5 (c : Int) : y7 c < 0 ↔ c = 32 := by
 have := z56 c
 unfold y7
 split <;> omega
theorem Qx {c : Int} (h : c ≠ 32) : y7 c = wj c := by unfold y7; rw [if_neg h]
theorem zh1 {c k : Int} (hk : k = 0 ∨ k = 1) (h : wj c = k) : y7 c = k := by
 rw [Qx, h]
 rintro rfl
 simp [wj] at h
 omega
theorem zg6 {c k : Int} (hk : 0 ≤ k) (h : y7 c = k) : wj c = k := by
 rw [← h, Qx]
 rintro rfl
 simp [y7] at h
 omega
abbrev zcs := Int × Int × Int
abbrev zmv (t : zcs) : Dat := .agg [iD t.1, iD t.2.1, iD t.2.2]
abbrev zvp (l : List zcs) : Dat := .sl (l.map zmv)
def kz (s : ByteArray) (i : Nat) : Int := y7 (ql s i)
def Qy (s : ByteArray) (i : Nat) : Prop := 0 < i ∧ 0 ≤ kz s i ∧ kz s i < 2 ∧ kz s (i - 1) = kz s i
instance (s : ByteArray) (i : Nat) : Decidable (Qy s i) := by unfold Qy; exact inferInstance
def z0w (l : List zcs) (e : Int) : List zcs := l.set (l.length - 1) ((l.getD (l.length - 1) default).1, e, (l.getD (l.length - 1) default).2.2)
def w5 (s : ByteArray) : Nat → List zcs
 | 0 => []
 | i + 1 => if kz s i < 0 then w5 s i else if Qy s i then z0w (w5 s i) (i + 1) else w5 s i ++ [((i : Int), (i : Int) + 1, kz s i)]
theorem z2h (l : List zcs) (e : Int) : (z0w l e).length = l.length := by simp [z0w]
theorem zhy (l : List zcs) (a b k e : Int) : z0w (l ++ [(a, b, k)]) e = l ++ [(a, e, k)] := by
 simp [z0w, List.getD_eq_getElem?_getD]
theorem zfk (s : ByteArray) : ∀ i, 0 ≤ kz s i → 0 < (w5 s (i + 1)).length
 | i, h => by
  rw [w5, if_neg (by omega)]
  split
  ·rename_i hc
   rw [z2h]
   obtain ⟨h1, h2, h3, h4⟩ := hc
   obtain ⟨j, rfl⟩ : ∃ j, i = j + 1 := ⟨i - 1, by omega⟩
   exact zfk s j (by simp only [Nat.add_sub_cancel] at h4; omega)
  ·simp
theorem zda {s : ByteArray} {i : Nat} (h : Qy s i) : 0 < (w5 s i).length := by
 obtain ⟨h1, h2, h3, h4⟩ := h
 obtain ⟨j, rfl⟩ : ∃ j, i = j + 1 := ⟨i - 1, by omega⟩
 exact zfk s j (by simp only [Nat.add_sub_cancel] at h4; omega)
theorem z8e (s : ByteArray) : ∀ i, (w5 s i).length ≤ i
 | 0 => by simp [w5]
 | i + 1 => by
  have := z8e s i
  rw [w5]
  split
  ·omega
  ·split
   ·rw [z2h]; omega
   ·simp; omega
theorem zi8 {s : ByteArray} {i : Nat} (h : ql s i = 32) : w5 s (i + 1) = w5 s i ∧ ¬ Qy s (i + 1) := by
 have h1 : kz s i < 0 := (zg5 _).2 h
 refine ⟨by rw [w5, if_pos h1], fun ⟨_, h2, _, h4⟩ => ?_⟩
 simp only [Nat.add_sub_cancel] at h4
 omega
theorem zfl {s : ByteArray} {a : Nat} {k : Int} (hb : ¬ Qy s a) (hk : kz s a = k) (h0 : 0 ≤ k) : ∀ t, a < t → (∀ j, a < j → j < t → k < 2 ∧ kz s j = k) → w5 s t = w5 s a ++ [((a : Int), (t : Int), k)]
 | 0, h, _ => by omega
 | t + 1, h, hj => by
  rcases Nat.lt_or_ge a t with h1 | h1
  ·have ih := zfl hb hk h0 t h1 fun j g1 g2 => hj j g1 (by omega)
   have ht := hj t h1 (by omega)
   have hp : kz s (t - 1) = k := by
    rcases Nat.lt_or_ge a (t - 1) with g | g
    ·exact (hj (t - 1) g (by omega)).2
    ·rw [show t - 1 = a by omega]; exact hk
   rw [w5, if_neg (by omega), if_pos ⟨by omega, by omega, by omega, by omega⟩, ih, zhy]
   simp
  ·obtain rfl : t = a := by omega
   rw [w5, if_neg (by omega), if_neg hb, hk]
   simp
theorem zmw {s : ByteArray} {a t : Nat} {k : Int} (hk : kz s a = k) (h0 : 0 ≤ k) (hat : a < t) (hj : ∀ j, a < j → j < t → k < 2 ∧ kz s j = k) (hs : ¬ (k < 2 ∧ kz s t = k)) : ¬ Qy s t := fun ⟨_, h2, h3, h4⟩ => by
 have hp : kz s (t - 1) = k := by
  rcases Nat.lt_or_ge a (t - 1) with g | g
  ·exact (hj (t - 1) g (by omega)).2
  ·rw [show t - 1 = a by omega]; exact hk
 exact hs ⟨by omega, by omega⟩
def goM (s : ByteArray) (k : Int) (t : Nat) : Prop := (k = 0 ∨ k = 1) ∧ t < s.size ∧ wj (ql s t) = k
instance (s : ByteArray) (k : Int) (t : Nat) : Decidable (goM s k t) := by unfold goM; exact inferInstance
def z1p (s : ByteArray) (k : Int) : Nat → Nat → Nat
 | 0, t => t
 | n + 1, t => if goM s k t then z1p s k n (t + 1) else t
def z22 (s : ByteArray) (i : Nat) : Nat := z1p s (wj (ql s i)) (s.size - (i + 1)) (i + 1)
theorem zuq {s : ByteArray} {k : Int} {t : Nat} (h : goM s k t) : z1p s k (s.size - t) t = z1p s k (s.size - (t + 1)) (t + 1) := by
 have h2 := h.2.1
 obtain ⟨n, hn⟩ : ∃ n, s.size - t = n + 1 := ⟨s.size - t - 1, by omega⟩
 rw [hn, z1p, if_pos h, show s.size - (t + 1) = n by omega]
theorem zm6 {s : ByteArray} {k : Int} {t : Nat} (h : ¬ goM s k t) (n : Nat) : z1p s k n t = t := by
 cases n with
 | zero => rfl
 | succ n => rw [z1p, if_neg h]
theorem zar (s : ByteArray) (k : Int) : ∀ n t, t + n = s.size → t ≤ z1p s k n t ∧ z1p s k n t ≤ s.size ∧ (∀ j, t ≤ j → j < z1p s k n t → goM s k j) ∧ ¬ goM s k (z1p s k n t)
 | 0, t, h => ⟨Nat.le_refl _, by simp [z1p]; omega, fun j h1 h2 => by simp [z1p] at h2; omega, fun h2 => by
   have := h2.2.1
   simp only [z1p] at this
   omega⟩
 | n + 1, t, h => by
  rw [z1p]
  split
  ·rename_i hg
   obtain ⟨h1, h2, h3, h4⟩ := zar s k n (t + 1) (by omega)
   refine ⟨by omega, h2, fun j g1 g2 => ?_, h4⟩
   rcases Nat.lt_or_ge t j with g | g
   ·exact h3 j g g2
   ·obtain rfl : t = j := by omega
    exact hg
  ·rename_i hg
   exact ⟨Nat.le_refl _, by omega, fun j g1 g2 => by omega, hg⟩
theorem z9f {s : ByteArray} {i : Nat} (h : i < s.size) : i < z22 s i ∧ z22 s i ≤ s.size ∧ (∀ j, i < j → j < z22 s i → goM s (wj (ql s i)) j) ∧ ¬ goM s (wj (ql s i)) (z22 s i) := by
 obtain ⟨h1, h2, h3, h4⟩ := zar s (wj (ql s i)) (s.size - (i + 1)) (i + 1) (by omega)
 exact ⟨by unfold z22; omega, h2, fun j g1 g2 => h3 j g1 g2, h4⟩
theorem zg2 {s : ByteArray} {i : Nat} (h : s.size ≤ i) : ql s i = 0 := by
 have : s.data[i]? = none := Array.getElem?_eq_none (by simpa using h)
 simp [ql, this]
theorem znw {s : ByteArray} {i : Nat} (h : s.size ≤ i) : kz s i = 2 := by
 unfold kz
 rw [zg2 h]
 rfl
theorem zrz {s : ByteArray} {i : Nat} (h : i < s.size) (hb : ¬ Qy s i) (hc : ql s i ≠ 32) : w5 s (z22 s i) = w5 s i ++ [((i : Int), (z22 s i : Int), wj (ql s i))] ∧ ¬ Qy s (z22 s i) := by
 obtain ⟨h1, h2, h3, h4⟩ := z9f h
 have hk : kz s i = wj (ql s i) := Qx hc
 have h0 := z56 (ql s i)
 have hj : ∀ j, i < j → j < z22 s i → wj (ql s i) < 2 ∧ kz s j = wj (ql s i) := fun j g1 g2 => by
  obtain ⟨k1, k2, k3⟩ := h3 j g1 g2
  exact ⟨by omega, zh1 k1 k3⟩
 refine ⟨zfl hb hk h0.1 _ h1 hj, zmw hk h0.1 h1 hj fun ⟨g1, g2⟩ => h4 ⟨by omega, ?_, zg6 h0.1 g2⟩⟩
 rcases Nat.lt_or_ge (z22 s i) s.size with g | g
 ·exact g
 ·rw [znw g] at g2
  omega
def badM (s : ByteArray) (i : Nat) : Bool := decide (ql s i < 32) || decide (126 < ql s i) || (ql s i == 32 && ((i : Int) == 0 || (i : Int) == (s.size : Int) - 1 || ql s (i - 1) == 32))
def qr (s : ByteArray) : Int := if 4096 < s.size then 4 else if (∃ i, i < s.size ∧ badM s i = true) ∨ s.size = 0 then 2 else if 256 < (w5 s s.size).length then 4 else 0
theorem zbr (G) (c : Int) : zl Tryz.prog G 162 [u8D c] [iD (wj c)] := by
 skip
 refine GI [] [] [] Tryz.func162 Tryz.ntmps162 fun F hP hG hN hR hA => ?_
 have hE := @Tryz.results162
 refine WS [0] [] ?_
 apply z3
 apply z7
 refine WS [0, 3] [] ?_
 refine WI ?_ ?_ <;> intro hb
 ·have hv : wj c = 0 := by unfold wj; rw [if_pos (by omega)]
  have hE := And.intro hE hv
  refine WS [2] [] ?_
  apply z9
  apply zf
  apply za
  exact E0
 ·refine WS [0, 18] [] ?_
  refine WI ?_ ?_ <;> intro hb
  ·have hv : wj c = 1 := by unfold wj; rw [if_neg (by omega), if_pos (by omega)]
   have hE := And.intro hE hv
   refine WS [2] [] ?_
   apply z9
   apply zf
   apply za
   exact E0
  ·refine WS [25] [] ?_
   refine WI ?_ ?_ <;> intro hb
   ·have hv : wj c = 3 := by unfold wj; rw [if_neg (by omega), if_neg (by omega), if_pos (by omega)]
    have hE := And.intro hE hv
    refine WS [2] [] ?_
    apply z9
    apply zf
    apply za
    exact E0
   ·have hv : wj c = 2 := by unfold wj; rw [if_neg (by omega), if_neg (by omega), if_neg (by omega)]
    have hE := And.intro hE hv
    apply z6
    apply ze
    apply z5
    refine WS [2] [] ?_
    apply z9
    exact E0
theorem zd8 (G) (c : Int) : zl Tryz.prog G 173 [u8D c] [iD (y7 c)] := by
 skip
 refine GI [] [] [] Tryz.func173 Tryz.ntmps173 fun F hP hG hN hR hA => ?_
 have hE := @Tryz.results173
 refine WS [0] [] ?_
 apply z3
 refine WS [0, 4] [] ?_
 refine WI ?_ ?_ <;> intro hb
 ·have hv : y7 c = -1 := by unfold y7; rw [if_pos (by omega)]
  have hE := And.intro hE hv
  refine WS [2] [] ?_
  apply z9
  apply za
  exact E0
 ·have h0 : y7 c = wj c := Qx (by omega)
  apply z6
  apply z5
  apply z3
  refine WS [0, 18] [] ?_
  refine WI ?_ ?_ <;> intro hb
  ·have hv : y7 c = 0 := by rw [h0]; unfold wj; rw [if_pos (by omega)]
   have hE := And.intro hE hv
   refine WS [2] [] ?_
   apply z9
   apply za
   exact E0
  ·apply z6
   apply z5
   apply z3
   refine WS [0, 24] [] ?_
   refine WI ?_ ?_ <;> intro hb
   ·have hv : y7 c = 1 := by rw [h0]; unfold wj; rw [if_neg (by omega), if_pos (by omega)]
    have hE := And.intro hE hv
    refine WS [2] [] ?_
    apply z9
    apply za
    exact E0
   ·apply z6
    apply z5
    apply z3
    refine WS [26] [] ?_
    refine WI ?_ ?_ <;> intro hb
    ·have hv : y7 c = 3 := by rw [h0]; unfold wj; rw [if_neg (by omega), if_neg (by omega), if_pos (by omega)]
     have hE := And.intro hE hv
     refine WS [2] [] ?_
     apply z9
     apply za
     exact E0
    ·have hv : y7 c = 2 := by rw [h0]; unfold wj; rw [if_neg (by omega), if_neg (by omega), if_neg (by omega)]
     have hE := And.intro hE hv
     apply z6
     apply z5
     refine WS [2] [] ?_
     apply z9
     exact E0
theorem zwk (G) (s : ByteArray) (i : Nat) (hi : i < s.size) (hs : s.size ≤ 281474976710656) : zl Tryz.prog G 161 [iD i, .ref (sD s)] [iD (z22 s i)] := by
 skip
 refine GI [] [] [] Tryz.func161 Tryz.ntmps161 fun F hP hG hN hR hA => ?_
 have hE := @Tryz.results161
 refine WS [0, 1] [] ?_
 have hc := gvF hP hG (zbr G (ql s i))
 refine WSc [0, 1, 4] [] ?_
 refine WS [1, 4, 5] [] ?_
 apply z3
 apply z7
 refine WL (ι := {t : Nat // i + 1 ≤ t ∧ t ≤ s.size ∧ z1p s (wj (ql s i)) (s.size - t) t = z22 s i}) [1, 4] [] (fun ⟨t, ht⟩ => [(5, .dat (iD t))]) (fun ⟨t, ht⟩ => []) (fun ⟨t, ht⟩ => s.size - t) (⟨i + 1, Nat.le_refl _, by omega, rfl⟩) ?_
 rintro ⟨t, ht⟩
 refine LA ?_
 obtain ⟨h1, h2, h3⟩ := id ht
 apply z3
 apply zm [1, 4, 5, 31] []
 ·refine RN ?_
  refine CG (zbr G (ql s t)) ?_
  exact SC
 refine WI ?_ ?_ <;> intro hb
 ·have hgo : goM s (wj (ql s i)) t := ⟨by omega, by omega, by omega⟩
  apply z6
  apply z5
  apply z7
  refine WQ [1, 4, 5] [] ?_
  apply ze
  refine WN (⟨t + 1, by omega, by omega, (zuq hgo).symm.trans ht.2.2⟩)
 ·have hgo : ¬ goM s (wj (ql s i)) t := fun ⟨g1, g2, g3⟩ => by omega
  have hv : z22 s i = t := by rw [← h3, zm6 hgo]
  have hE := And.intro hE hv
  apply zj
  apply zd
  apply zb
  apply zn
  apply z5
  refine WS [3] [] ?_
  apply z9
  exact E0
theorem zmk (T : List zcs) (e : Int) : (List.map AV.dat (List.map zmv T)).set ((T.length : Int) - 1).toNat (AV.dat (.agg [iD (T.getD ((T.length : Int) - 1).toNat default).1, iD e, iD (T.getD ((T.length : Int) - 1).toNat default).2.2])) = List.map AV.dat (List.map zmv (z0w T e)) := by
 unfold z0w
 rw [show ((T.length : Int) - 1).toNat = T.length - 1 by omega]
 exact zcf zmv T (T.length - 1) ((T.getD (T.length - 1) default).1, e, (T.getD (T.length - 1) default).2.2)
theorem zro (G) (s : ByteArray) (hs : s.size ≤ 281474976710656 / 100) : zl Tryz.prog G 154 [sD s] [zvp (w5 s s.size)] := by
 skip
 refine GI [] [] [] Tryz.func154 Tryz.ntmps154 fun F hP hG hN hR hA => ?_
 have hE := @Tryz.results154
 refine WS [1] [1] ?_
 refine WS [1, 3] [1, 30] ?_
 refine WS [1, 3, 4] [1, 30] ?_
 apply z3
 refine WS [1, 3, 4, 5] [1, 30] ?_
 apply z7
 refine xd 30 3 (by omega) ?_
 refine xy 3 30 3 rfl rfl ?_
 refine WL (ι := {i : Nat // i ≤ s.size ∧ ¬ Qy s i}) [1, 4] [1, 29] (fun ⟨i, hic⟩ => [(3, .osl 30 3 0 (w5 s i).length), (5, .dat (iD i))]) (fun ⟨i, hic⟩ => [(30, ⟨3, ((w5 s i).map zmv).map .dat⟩)]) (fun ⟨i, hic⟩ => s.size - i) (⟨0, by omega, fun h => by have := h.1; omega⟩) ?_
 rintro ⟨i, hic⟩
 refine LA ?_
 obtain ⟨hi, hnc⟩ := id hic
 have hl := z8e s i
 apply z3
 refine WS [1, 3, 4, 5, 11] [1, 29, 30] ?_
 refine WI ?_ ?_ <;> intro hb
 ·apply z6
  apply z5
  apply z7
  apply z3
  refine WS [1, 3, 4, 5, 15] [1, 29, 30] ?_
  refine WI ?_ ?_ <;> intro hb
  ·have hbl := zi8 (s := s) (i := i) (by omega)
   have hE := And.intro hE hbl.1
   refine WS [1, 3, 4, 5] [1, 29, 30] ?_
   apply zj
   apply zd
   apply zn
   refine WN (⟨i + 1, by omega, hbl.2⟩)
  ·have hen := zrz (s := s) (i := i) (by omega) hnc (by omega)
   have hsp := z9f (s := s) (i := i) (by omega)
   have hsz : (w5 s (z22 s i)).length = (w5 s i).length + 1 := by rw [hen.1]; simp
   have hE := And.intro hE (And.intro hen.1 hsz)
   apply z6
   apply z5
   apply zm [1, 3, 4, 5, 6] [1, 29, 30]
   ·refine RN ?_
    (repeat' refine And.intro ?_ ?_) <;> try exact SD
    refine CallC.use (gvF hP hG (zwk G s i (by omega) (by omega))) (by simp only [qu, qh, q9, xn, qy, wy, xk, xq, xm, wx, xp, xr, w3, avA, zk, zo, seval, ↓List.forall_mem_cons, Op.operands, hE] <;> rfl) ?_
    try simp (maxSteps := 2000000) (disch := omega) only [wm, avA, zk, zo, seval, ↓List.forall_mem_cons, Op.operands, hA, tiA, hE]
    exact SC
   have hc := gvF hP hG (zbr G (ql s i))
   refine WSc [1, 3, 4, 6] [1, 29, 30] ?_
   refine WQ [1, 3, 4, 5] [1, 29, 30] ?_
   apply ze
   refine WN (⟨z22 s i, hsp.2.1, hen.2⟩)
 ·apply zj
  apply zd
  obtain rfl : i = s.size := by omega
  apply zb
  apply zn
  apply z5
  refine WS [2] [29, 30] ?_
  apply z9
  exact E0
theorem zm4 (G) (s : ByteArray) (hs : s.size ≤ 281474976710656 / 100) : zl Tryz.prog G 166 [sD s] [zvp (w5 s s.size)] := by
 skip
 refine GI [] [] [] Tryz.func166 Tryz.ntmps166 fun F hP hG hN hR hA => ?_
 have hE := @Tryz.results166
 refine WS [0] [] ?_
 refine WS [0, 3] [54] ?_
 apply z3
 refine WS [0, 3, 4] [54] ?_
 apply z7
 refine xd 54 3 (by omega) ?_
 refine xy 3 54 3 rfl rfl ?_
 refine WL (ι := {i : Nat // i ≤ s.size}) [0] [53] (fun ⟨i, hi⟩ => [(3, .osl 54 3 0 (w5 s i).length), (4, .dat (iD i))]) (fun ⟨i, hi⟩ => [(54, ⟨3, ((w5 s i).map zmv).map .dat⟩)]) (fun ⟨i, hi⟩ => s.size - i) (⟨0, by omega⟩) ?_
 rintro ⟨i, hi⟩
 refine LA ?_
 have hl := z8e s i
 have hi1 : ((i : Int) - 1).toNat = i - 1 := by omega
 have hE := And.intro hE hi1
 apply z3
 refine WS [0, 3, 4, 10] [53, 54] ?_
 refine WI ?_ ?_ <;> intro hb
 ·apply z6
  apply z5
  apply z3
  apply z7
  have hc := gvF hP hG (zd8 G (ql s i))
  refine WSc [0, 3, 4, 5] [53, 54] ?_
  refine WS [0, 3, 4, 5, 6] [53, 54] ?_
  apply z3
  refine WS [0, 3, 4, 5, 6, 20] [53, 54] ?_
  refine WI ?_ ?_ <;> intro hb
  ·have hv : w5 s (i + 1) = w5 s i := by rw [w5, if_pos (show kz s i < 0 from hb)]
   have hE := And.intro hE hv
   apply zj
   apply zd
   apply zn
   apply z5
   refine WQ [0, 3, 4] [53, 54] ?_
   refine WN (⟨i + 1, by omega⟩)
  ·have hcl : ¬ kz s i < 0 := by unfold kz; omega
   apply z6
   apply z5
   apply z3
   apply zm [0, 3, 4, 5, 6, 39] [53, 54]
   ·refine RN ?_
    refine CG (zd8 G (ql s (i - 1))) ?_
    exact SC
   refine WI ?_ ?_ <;> intro hb
   ·have hc : Qy s i := by
     unfold Qy kz
     grind
    have hp := zda hc
    have hv : w5 s (i + 1) = z0w (w5 s i) (i + 1) := by rw [w5, if_neg hcl, if_pos hc]
    have hE := And.intro hE (And.intro hv (And.intro (z2h (w5 s i) (i + 1)) (zmk (w5 s i) (i + 1))))
    refine WS [0, 3, 4] [53, 54] ?_
    apply zj
    apply zd
    apply zn
    apply z5
    refine WQ [0, 3, 4] [53, 54] ?_
    refine WN (⟨i + 1, by omega⟩)
   ·have hc : ¬ Qy s i := by
     unfold Qy kz
     intro hc
     have hp := zda (s := s) (i := i) hc
     grind
    have hv : w5 s (i + 1) = w5 s i ++ [((i : Int), (i : Int) + 1, y7 (ql s i))] := by rw [w5, if_neg hcl, if_neg hc]; rfl
    have hvl : (w5 s (i + 1)).length = (w5 s i).length + 1 := by rw [hv]; simp
    have hE := And.intro hE (And.intro hv hvl)
    apply z6
    apply z5
    refine WQ [0, 3, 4] [53, 54] ?_
    apply ze
    apply z5
    refine WQ [0, 3, 4] [53, 54] ?_
    refine WN (⟨i + 1, by omega⟩)
 ·apply zj
  apply zd
  have hend : i = s.size := by omega
  subst hend
  apply zb
  apply zn
  apply z5
  refine WS [2] [53, 54] ?_
  apply z9
  exact E0
end Go.Proofs.YtkeopokhnfpgpaaGreatDoor

namespace Go.Proofs
set_option maxHeartbeats 1000000 in
set_option maxRecDepth 100000 in
theorem Tryz.stringslite_IndexByte (s : ByteArray) (c : Int) (w : World) :
  Calls Tryz.prog 168 #[.string s, .int .u8 c] w fun e w' => e = .returned (.int .i64 (Lib.indexByte s.data.toList c.toNat.toUInt8)) ∧ w' = w := by
 go_enter Tryz.func168, Tryz.ntmps168
 go_wp2
 rw [run_callFunc_extern Tryz.func174 (by kernel_rfl) (by kernel_rfl) (by kernel_rfl) (e := Extern.BytealgIndexByte.indexByte) (by kernel_rfl), Lib.run_indexByteString]
 simp only [Result.andThen]
 rw [Oper.upon_value]
 go_wp2
 go_ret
 exact ⟨rfl, rfl⟩
set_option maxHeartbeats 2000000 in
set_option maxRecDepth 100000 in
theorem Tryz.stringslite_Index_one (s : ByteArray) (c : UInt8) (w : World) :
  Calls Tryz.prog 160 #[.string s, .string ⟨#[c]⟩] w fun e w' => e = .returned (.int .i64 (Lib.indexByte s.data.toList c)) ∧ w' = w := by
 go_enter Tryz.func160, Tryz.ntmps160
 go_wp2_with (go_at_call 168; refine (Tryz.stringslite_IndexByte _ _ _).mono ?_; rintro e w' ⟨rfl, rfl⟩)
 ·have h : ([c] == s.toList) = true := by assumption
  go_ret
  refine ⟨?_, rfl⟩
  have e : s.data.toList = [c] := by rw [← Lib.toList_data]; exact (beq_iff_eq.1 h).symm
  rw [e]
  simp [Lib.indexByte]
 ·go_ret
  exact ⟨rfl, rfl⟩
set_option maxHeartbeats 1000000 in
theorem Tryz.strings_Index_one (s : ByteArray) (c : UInt8) (w : World) :
  Calls Tryz.prog 152 #[.string s, .string ⟨#[c]⟩] w fun e w' => e = .returned (.int .i64 (Lib.indexByte s.data.toList c)) ∧ w' = w := by
 go_enter Tryz.func152, Tryz.ntmps152
 go_wp2_with (go_at_call 160; refine (Tryz.stringslite_Index_one _ _ _).mono ?_; rintro e w' ⟨rfl, rfl⟩)
 go_ret
 exact ⟨rfl, rfl⟩
set_option maxHeartbeats 1000000 in
theorem Tryz.strings_Contains_one (s : ByteArray) (c : UInt8) (w : World) :
  Calls Tryz.prog 123 #[.string s, .string ⟨#[c]⟩] w fun e w' => e = .returned (.bool (decide (0 ≤ Lib.indexByte s.data.toList c))) ∧ w' = w := by
 go_enter Tryz.func123, Tryz.ntmps123
 go_wp2_with (go_at_call 152; refine (Tryz.strings_Index_one _ _ _).mono ?_; rintro e w' ⟨rfl, rfl⟩)
 go_ret
 exact ⟨rfl, rfl⟩
end Go.Proofs

namespace Go.Proofs.YtkeopokhnfpgpaaGreatDoor
open Go.Av
theorem zw0 (G) (s : ByteArray) (i : Nat) (hi : i < s.size) (hs : s.size ≤ 281474976710656) : zl Tryz.prog G 153 [iD i, .ref (sD s)] [bD (badM s i)] := by
 have hi1 : ((i : Int) - 1).toNat = i - 1 := by omega
 skip
 skip
 refine GI [] [] [] Tryz.func153 Tryz.ntmps153 fun F hP hG hN hR hA => ?_
 have hE := And.intro @Tryz.results153 (And.intro @hi1 (@badM.eq_1))
 refine WS [0, 1] [] ?_
 refine WS [3] [] ?_
 apply z9
 exact E0
theorem zmx (G) (s : ByteArray) (hs : s.size ≤ 281474976710656) : zl Tryz.prog G 124 [sD s] [iD (qr s)] := by
 skip
 refine GI [] [] [] Tryz.func124 Tryz.ntmps124 fun F hP hG hN hR hA => ?_
 have hE := @Tryz.results124
 refine WS [1] [1] ?_
 apply z3
 refine WS [1, 7] [1] ?_
 refine WI ?_ ?_ <;> intro hb
 ·have hv : qr s = 4 := by unfold qr; rw [if_pos (by omega)]
  have hE := And.intro hE hv
  refine WS [2] [] ?_
  apply z9
  apply za
  exact E0
 ·have hn4 : ¬ 4096 < s.size := by omega
  apply z6
  apply z5
  refine WS [1, 3] [1] ?_
  apply z3
  refine WS [1, 3, 10, 11] [1] ?_
  apply z7
  refine WL (ι := {i : Nat // i ≤ s.size ∧ ∀ j, j < i → badM s j = false}) [1, 3, 10] [1] (fun ⟨i, hic⟩ => [(11, .dat (iD i))]) (fun ⟨i, hic⟩ => []) (fun ⟨i, hic⟩ => s.size - i) (⟨0, by omega, Qk⟩) ?_
  rintro ⟨i, hic⟩
  refine LA ?_
  obtain ⟨hi, hall⟩ := id hic
  refine WS [1, 3, 10, 11, 12] [1] ?_
  apply z3
  refine WI ?_ ?_ <;> intro hb
  ·apply z6
   apply z5
   apply z3
   apply z7
   refine WS [1, 3, 4, 10, 11] [1] ?_
   apply zm [1, 3, 10, 11, 16] [1]
   ·refine RN ?_
    (repeat' refine And.intro ?_ ?_) <;> try exact SD
    refine CallC.use (gvF hP hG (zw0 G s i (by omega) (by omega))) (by simp only [qu, qh, q9, xn, qy, wy, xk, xq, xm, wx, xp, xr, w3, avA, zk, zo, seval, ↓List.forall_mem_cons, Op.operands, hE] <;> rfl) ?_
    try simp (maxSteps := 2000000) (disch := omega) only [wm, avA, zk, zo, seval, ↓List.forall_mem_cons, Op.operands, hA, tiA, hE]
    exact SC
   refine WI ?_ ?_ <;> intro hb
   ·have hv : qr s = 2 := by unfold qr; rw [if_neg hn4, if_pos (.inl ⟨i, by omega, hb⟩)]
    have hE := And.intro hE hv
    refine WS [2] [] ?_
    apply z9
    apply zf
    apply za
    apply zw
    apply zf
    apply za
    exact E0
   ·apply z6
    apply ze
    apply z5
    refine WQ [1, 3, 10, 11] [1] ?_
    refine WN (⟨i + 1, by omega, xa hic.2 hb⟩)
  ·apply zj
   apply zd
   obtain rfl : i = s.size := by omega
   have hno : ¬ ∃ i, i < s.size ∧ badM s i = true := fun ⟨j, h1, h2⟩ => by rw [hall j h1] at h2; cases h2
   apply zb
   apply zn
   apply z5
   apply z3
   apply z7
   refine WS [1, 18] [1] ?_
   refine WI ?_ ?_ <;> intro hb
   ·have hz : s = ⟨#[]⟩ := z3k hb
    have hv : qr s = 2 := by unfold qr; rw [if_neg hn4, if_pos (.inr (by rw [hz]; rfl))]
    have hE := And.intro hE hv
    refine WS [2] [] ?_
    apply z9
    apply zf
    apply za
    exact E0
   ·have hz : s.size ≠ 0 := fun h => hb (by have : s = ⟨#[]⟩ := by { cases s with | mk d => simp only [ByteArray.size] at h; simp only [Array.size_eq_zero_iff] at h; rw [h] }; rw [this])
    have hc := gvF hP hG (zro G s (by omega))
    refine WSc [21] [] ?_
    refine WI ?_ ?_ <;> intro hb
    ·have hv : qr s = 4 := by unfold qr; rw [if_neg hn4, if_neg (by rintro (h | h); exact hno h; exact hz h), if_pos (by omega)]
     have hE := And.intro hE hv
     refine WS [2] [] ?_
     apply z9
     apply zf
     apply za
     exact E0
    ·have hv : qr s = 0 := by unfold qr; rw [if_neg hn4, if_neg (by rintro (h | h); exact hno h; exact hz h), if_neg (by omega)]
     have hE := And.intro hE hv
     apply z6
     apply ze
     apply z5
     refine WS [2] [] ?_
     apply z9
     exact E0
def z9r (s : ByteArray) : Bool := decide (0 ≤ Lib.indexByte s.data.toList 64)
theorem z9s (s : ByteArray) : z9r s = true ↔ ∃ i, i < s.size ∧ ql s i = 64 := by
 have hb : ∀ i, ql s i = 64 ↔ s.data.toList[i]? = some 64 := fun i => by
  unfold ql
  rw [Array.getElem?_toList]
  cases h : s.data[i]? with
  | none => simp
  | some c =>
   simp only [Option.getD_some, Option.some.injEq]
   constructor
   ·intro h
    apply UInt8.toNat_inj.1
    have : (64 : UInt8).toNat = 64 := rfl
    omega
   ·rintro rfl; rfl
 have hge := Lib.indexByte_ge s.data.toList 64
 unfold z9r
 rw [decide_eq_true_eq]
 constructor
 ·intro h
  obtain ⟨o, ho⟩ := Int.eq_ofNat_of_zero_le h
  have := (Lib.indexByte_some ho).1
  refine ⟨o, ?_, (hb o).2 this⟩
  have := (List.getElem?_eq_some_iff.1 this).1
  simpa using this
 ·rintro ⟨i, hi, h⟩
  by_cases h1 : 0 ≤ Lib.indexByte s.data.toList 64
  ·exact h1
  ·exact absurd ((hb i).1 h) (Lib.indexByte_none (by omega) i)
def wk (s : ByteArray) : Bool := decide ((s.size : Int) ≤ 24) && !z9r s && qr s == 0
theorem zdb (G) (s : ByteArray) : zl Tryz.prog G 123 [sD s, sD ⟨#[64]⟩] [bD (z9r s)] := by
 refine ⟨⟨_, _, Tryz.func123, rfl, rfl⟩, fun w S vals _ _ hr => ?_⟩
 simp only [RepV, RepX] at hr
 obtain ⟨v1, vs1, h1, rfl, v2, vs2, rfl, rfl, rfl⟩ := hr
 obtain rfl : vals = #[.string s, .string ⟨#[64]⟩] := by cases vals; simpa using h1
 refine (Tryz.strings_Contains_one s 64 w).mono ?_
 rintro e w' ⟨rfl, rfl⟩
 exact ⟨_, rfl, Ext.refl _ _, by simp only [Qa, RepX]; rfl⟩
theorem z8j (G) (s : ByteArray) (hs : s.size ≤ 281474976710656) : zl Tryz.prog G 78 [sD s] [bD (wk s)] := by
 skip
 refine GI [] [] [] Tryz.func78 Tryz.ntmps78 fun F hP hG hN hR hA => ?_
 have hE := @Tryz.results78
 refine WS [0] [] ?_
 apply zm [2] []
 ·refine RN ?_
  refine CG (zdb G s) ?_
  refine CG (zmx G s hs) ?_
  exact SC
 apply z9
 simp only [kj, y6, vk, qq, qi, x5, vb, qh, q9, xn, qy, wy, xk, xq, xm, wx, xp, xr, w3, xx, avA, zk, zo, seval, ↓List.forall_mem_cons, Op.operands, hP, hG, tiA, hE, wk]
 all_goals try trivial
theorem zhh (G) (s : ByteArray) (hs : s.size ≤ 281474976710656) : zl Tryz.prog G 126 [sD s] [bD (!wk s)] := by
 skip
 refine GI [] [] [] Tryz.func126 Tryz.ntmps126 fun F hP hG hN hR hA => ?_
 have hE := @Tryz.results126
 refine WS [0] [] ?_
 have hc := gvF hP hG (z8j G s hs)
 refine WSc [2] [] ?_
 apply z9
 exact E0
theorem zoz (G) (l : List ByteArray) (g : FuncId) (p : ByteArray → Bool) (hl : l.length ≤ 281474976710656) (hg : ∀ o ∈ l, zl Tryz.prog G g [sD o] [bD (p o)]) : zl Tryz.prog G 155 [ssD l, .fn g []] [iD (jy p l)] := by
 skip
 refine vq [] [] [] Tryz.func155 rfl (by rfl) (by simp [Tryz.ntmps155]) fun F hP hG hN hR => ?_
 rw [Tryz.ntmps155] at hN
 have hA := And.intro hN (And.intro hP (And.intro hG (And.intro hR.1 (And.intro hR.2.1 hR.2.2.1))))
 have hE := @Tryz.results155
 refine WS [0, 1] [] ?_
 apply z3
 refine WS [0, 1, 7, 8] [] ?_
 apply z7
 refine WL (ι := {i : Nat // i ≤ l.length ∧ ∀ j, j < i → p (l.getD j default) = false}) [0, 1, 7] [] (fun ⟨i, hif⟩ => [(8, .dat (iD i))]) (fun ⟨i, hif⟩ => []) (fun ⟨i, hif⟩ => l.length - i) (⟨0, by omega, Qk⟩) ?_
 rintro ⟨i, hif⟩
 refine LA ?_
 obtain ⟨hi, hf⟩ := id hif
 refine WS [0, 1, 7, 8, 9] [] ?_
 apply z3
 refine WI ?_ ?_ <;> intro hb
 ·apply z6
  apply z5
  apply z3
  apply z7
  refine WS [0, 1, 5, 7, 8] [] ?_
  have hc := gvF hP hG (hg (l.getD i default) (zt (p := fun o => o ∈ l) (fun o h => h) (by omega)))
  refine WSc [0, 1, 5, 7, 8, 16] [] ?_
  refine WI ?_ ?_ <;> intro hb
  ·have hv := k7 (show i < l.length by omega) hb hf
   have hE := And.intro hE hv
   refine WS [4] [] ?_
   apply z9
   apply zf
   apply za
   apply zw
   apply zf
   apply za
   exact E0
  ·apply z6
   apply ze
   apply z5
   refine WQ [0, 1, 7, 8] [] ?_
   refine WN (⟨i + 1, by omega, xa hif.2 hb⟩)
 ·apply zj
  apply zd
  obtain rfl : i = l.length := by omega
  have hv := jz hf
  have hE := And.intro hE hv
  apply zb
  apply zn
  apply z5
  refine WS [4] [] ?_
  apply z9
  exact E0
theorem zbh (G) (l : List ByteArray) (g : FuncId) (p : ByteArray → Bool) (hl : l.length ≤ 281474976710656) (hg : ∀ o ∈ l, zl Tryz.prog G g [sD o] [bD (p o)]) : zl Tryz.prog G 125 [ssD l, .fn g []] [bD (decide (0 ≤ jy p l))] := by
 skip
 refine vq [] [] [] Tryz.func125 rfl (by rfl) (by simp [Tryz.ntmps125]) fun F hP hG hN hR => ?_
 rw [Tryz.ntmps125] at hN
 have hA := And.intro hN (And.intro hP (And.intro hG (And.intro hR.1 (And.intro hR.2.1 hR.2.2.1))))
 have hE := @Tryz.results125
 refine WS [0, 1] [] ?_
 have hc := gvF hP hG (zoz G l g p hl hg)
 refine WSc [4] [] ?_
 apply z9
 exact E0
def vg (l : List ByteArray) : Bool := l.all wk
theorem zen (l : List ByteArray) : (!decide (0 ≤ jy (fun s => !wk s) l)) = vg l := by
 have h := jb (p := fun s => !wk s) (l := l)
 unfold vg
 rw [Bool.eq_iff_iff]
 simp only [Bool.not_eq_true', decide_eq_false_iff_not, h, List.any_eq_true, List.all_eq_true]
 constructor
 ·intro h x hx
  rcases hw : wk x with _ | _
  ·exact absurd ⟨x, hx, by simp [hw]⟩ h
  ·rfl
 ·rintro h ⟨x, hx, hw⟩
  simp [h x hx] at hw
theorem zfo (G) (l : List ByteArray) (hl : l.length ≤ 281474976710656) (hs : ∀ s ∈ l, s.size ≤ 281474976710656) : zl Tryz.prog G 79 [ssD l] [bD (vg l)] := by
 skip
 skip
 refine GI [] [] [] Tryz.func79 Tryz.ntmps79 fun F hP hG hN hR hA => ?_
 have hE := And.intro @Tryz.results79 (@zen)
 refine WS [0] [] ?_
 have hc := gvF hP hG (zbh G l 126 (fun s => !wk s) hl (fun o ho => zhh G o (hs o ho)))
 refine WSc [2] [] ?_
 apply z9
 exact E0
theorem zhu (G) (s : ByteArray) (hs : s.size ≤ 281474976710656) : zl Tryz.prog G 158 [sD s] [iD (qr s)] := by
 have hi1 : ((s.size : Int) - 1).toNat = s.size - 1 := by omega
 skip
 skip
 refine GI [] [] [] Tryz.func158 Tryz.ntmps158 fun F hP hG hN hR hA => ?_
 have hE := And.intro @Tryz.results158 (@hi1)
 refine WS [0] [] ?_
 apply z3
 refine WS [0, 6] [] ?_
 refine WI ?_ ?_ <;> intro hb
 ·have hv : qr s = 4 := by unfold qr; rw [if_pos (by omega)]
  have hE := And.intro hE hv
  refine WS [2] [] ?_
  apply z9
  apply za
  exact E0
 ·have hn4 : ¬ 4096 < s.size := by omega
  apply z6
  apply z5
  apply z3
  refine WS [0, 22] [] ?_
  refine WI ?_ ?_ <;> intro hb
  ·have hv : qr s = 2 := by
    unfold qr
    rw [if_neg hn4, if_pos]
    rcases Nat.eq_zero_or_pos s.size with h | h
    ·exact .inr h
    ·refine .inl ?_
     by_cases h0 : ql s 0 = 32
     ·exact ⟨0, h, by simp [badM, h0]⟩
     ·refine ⟨s.size - 1, by omega, ?_⟩
      have h1 : ql s (s.size - 1) = 32 := by grind
      have h2 : ((s.size - 1 : Nat) : Int) = (s.size : Int) - 1 := by omega
      simp [badM, h1, h2]
   have hE := And.intro hE hv
   refine WS [2] [] ?_
   apply z9
   apply za
   exact E0
  ·have hz : s.size ≠ 0 := by grind
   have h0 : ql s 0 ≠ 32 := by grind
   have hl0 : ql s (s.size - 1) ≠ 32 := by grind
   apply z6
   apply z5
   apply z3
   refine WS [0, 3] [] ?_
   apply z7
   refine WL (ι := {i : Nat // i ≤ s.size ∧ ∀ j, j < i → badM s j = false}) [0] [] (fun ⟨i, hic⟩ => [(3, .dat (iD i))]) (fun ⟨i, hic⟩ => []) (fun ⟨i, hic⟩ => s.size - i) (⟨0, by omega, Qk⟩) ?_
   rintro ⟨i, hic⟩
   refine LA ?_
   obtain ⟨hi, hall⟩ := id hic
   have hi2 : ((i : Int) - 1).toNat = i - 1 := by omega
   have hE := And.intro hE hi2
   apply z3
   refine WS [0, 3, 26] [] ?_
   refine WI ?_ ?_ <;> intro hb
   ·apply z6
    apply z5
    apply z3
    apply z7
    refine WS [0, 3, 55] [] ?_
    refine WI ?_ ?_ <;> intro hb
    ·have hbd : badM s i = true := by
      unfold badM
      grind
     have hv : qr s = 2 := by unfold qr; rw [if_neg hn4, if_pos (.inl ⟨i, by omega, hbd⟩)]
     have hE := And.intro hE hv
     refine WS [2] [] ?_
     apply z9
     apply zf
     apply za
     apply zw
     apply zf
     apply za
     exact E0
    ·have hnb : badM s i = false := by
      have hz0 : i = 0 → ql s i = ql s 0 := fun h => by rw [h]
      have hz1 : i = s.size - 1 → ql s i = ql s (s.size - 1) := fun h => by rw [h]
      unfold badM
      grind
     apply z6
     apply ze
     apply z5
     refine WQ [0, 3] [] ?_
     refine WN (⟨i + 1, by omega, xa hic.2 hnb⟩)
   ·apply zj
    apply zd
    obtain rfl : i = s.size := by omega
    have hno : ¬ ∃ i, i < s.size ∧ badM s i = true := fun ⟨j, h1, h2⟩ => by rw [hall j h1] at h2; cases h2
    apply zb
    apply zn
    apply z5
    apply z3
    have hc := gvF hP hG (zm4 G s (by omega))
    refine WSc [59] [] ?_
    refine WI ?_ ?_ <;> intro hb
    ·have hv : qr s = 4 := by unfold qr; rw [if_neg hn4, if_neg (by rintro (h | h); exact hno h; exact hz h), if_pos (by omega)]
     have hE := And.intro hE hv
     refine WS [2] [] ?_
     apply z9
     apply za
     exact E0
    ·have hv : qr s = 0 := by unfold qr; rw [if_neg hn4, if_neg (by rintro (h | h); exact hno h; exact hz h), if_neg (by omega)]
     have hE := And.intro hE hv
     apply z6
     apply z5
     refine WS [2] [] ?_
     apply z9
     exact E0
theorem z80 (G) (s : ByteArray) (hs : s.size ≤ 281474976710656) : zl Tryz.prog G 146 [sD s] [bD (wk s)] := by
 skip
 refine GI [] [] [] Tryz.func146 Tryz.ntmps146 fun F hP hG hN hR hA => ?_
 have hE := @Tryz.results146
 refine WS [0] [] ?_
 apply z3
 apply zm [0, 11] []
 ·refine RN ?_
  refine CG (zhu G s hs) ?_
  exact SC
 refine WI ?_ ?_ <;> intro hb
 ·have hv : wk s = false := by
   unfold wk
   grind
  have hE := And.intro hE hv
  refine WS [2] [] ?_
  apply z9
  apply za
  exact E0
 ·apply z6
  apply z5
  apply z3
  refine WS [0, 3] [] ?_
  apply z7
  refine WL (ι := {i : Nat // i ≤ s.size ∧ ∀ j, j < i → ¬ ql s j = 64}) [0] [] (fun ⟨i, hic⟩ => [(3, .dat (iD i))]) (fun ⟨i, hic⟩ => []) (fun ⟨i, hic⟩ => s.size - i) (⟨0, by omega, Qk⟩) ?_
  rintro ⟨i, hic⟩
  refine LA ?_
  obtain ⟨hi, hall⟩ := id hic
  apply z3
  refine WS [0, 3, 15] [] ?_
  refine WI ?_ ?_ <;> intro hb
  ·apply z6
   apply z5
   apply z3
   apply z7
   refine WS [0, 3, 21] [] ?_
   refine WI ?_ ?_ <;> intro hb
   ·have ha := (z9s s).2 ⟨i, by omega, hb⟩
    have hv : wk s = false := by
     unfold wk
     simp [ha]
    have hE := And.intro hE hv
    refine WS [2] [] ?_
    apply z9
    apply zf
    apply za
    apply zw
    apply zf
    apply za
    exact E0
   ·apply z6
    apply ze
    apply z5
    refine WQ [0, 3] [] ?_
    refine WN (⟨i + 1, by omega, xa hic.2 hb⟩)
  ·apply zj
   apply zd
   obtain rfl : i = s.size := by omega
   have ha : z9r s = false := by
    cases h : z9r s
    ·rfl
    ·obtain ⟨j, h1, h2⟩ := (z9s s).1 h
     exact absurd h2 (hall j h1)
   have hv : wk s = true := by
    unfold wk
    grind
   have hE := And.intro hE hv
   apply zb
   apply zn
   apply z5
   refine WS [2] [] ?_
   apply z9
   exact E0
theorem zat (G) (l : List ByteArray) (hl : l.length ≤ 281474976710656) (hs : ∀ s ∈ l, s.size ≤ 281474976710656) : zl Tryz.prog G 147 [ssD l] [bD (vg l)] := by
 skip
 refine GI [] [] [] Tryz.func147 Tryz.ntmps147 fun F hP hG hN hR hA => ?_
 have hE := @Tryz.results147
 refine WS [0] [] ?_
 apply z3
 refine WS [0, 3] [] ?_
 apply z7
 refine WL (ι := {i : Nat // i ≤ l.length ∧ ∀ j, j < i → wk (l.getD j default) = true}) [0] [] (fun ⟨i, hic⟩ => [(3, .dat (iD i))]) (fun ⟨i, hic⟩ => []) (fun ⟨i, hic⟩ => l.length - i) (⟨0, by omega, Qk⟩) ?_
 rintro ⟨i, hic⟩
 refine LA ?_
 obtain ⟨hi, hall⟩ := id hic
 apply z3
 refine WS [0, 3, 7] [] ?_
 refine WI ?_ ?_ <;> intro hb
 ·apply z6
  apply z5
  apply z3
  apply z7
  have hc := gvF hP hG (z80 G (l.getD i default) (zt hs (by omega)))
  refine WSc [0, 3, 15] [] ?_
  refine WI ?_ ?_ <;> intro hb
  ·have hv : vg l = false := by
    unfold vg
    rw [List.all_eq_false]
    exact ⟨l.getD i default, zt (p := fun o => o ∈ l) (fun o h => h) (by omega), by rw [hb]; exact Bool.false_ne_true⟩
   have hE := And.intro hE hv
   refine WS [2] [] ?_
   apply z9
   apply zf
   apply za
   apply zw
   apply zf
   apply za
   exact E0
  ·apply z6
   apply ze
   apply z5
   refine WQ [0, 3] [] ?_
   refine WN (⟨i + 1, by omega, xa hic.2 hb⟩)
 ·apply zj
  apply zd
  obtain rfl : i = l.length := by omega
  have hv : vg l = true := by
   unfold vg
   rw [List.all_eq_true]
   intro x hx
   obtain ⟨j, hj, rfl⟩ := List.getElem_of_mem hx
   have := hall j hj
   rwa [List.getD_eq_getElem?_getD, List.getElem?_eq_getElem hj] at this
  have hE := And.intro hE hv
  apply zb
  apply zn
  apply z5
  refine WS [2] [] ?_
  apply z9
  exact E0
def z20 {α : Type} (ls : List (List α)) (i : Nat) : List α := (Xl ls i).flatten
theorem z94 {α : Type} (ls : List (List α)) : z20 ls 0 = [] := rfl
theorem z3v {α : Type} (ls : List (List α)) (i : Nat) (h : i < ls.length) : z20 ls (i + 1) = z20 ls i ++ ls.getD i default := by
 simp [z20, z1h ls i h]
theorem z69 {α : Type} (ls : List (List α)) (i : Nat) (h : i < ls.length) : (z20 ls (i + 1)).length = (z20 ls i).length + (ls.getD i default).length := by
 rw [z3v ls i h, List.length_append]
theorem zd4 {α : Type} (ls : List (List α)) : z20 ls ls.length = ls.flatten := by simp [z20, z0n]
theorem z5p {α : Type} {ls : List (List α)} (hs : ∀ l ∈ ls, l.length ≤ 1000000) {i : Nat} (h : i ≤ ls.length) : (z20 ls i).length ≤ 1000000 * i := by
 have : ∀ k : List (List α), (∀ l ∈ k, l.length ≤ 1000000) → k.flatten.length ≤ 1000000 * k.length := fun k hk => by
  induction k with
  | nil => simp
  | cons x k ih =>
   have h1 := hk x (by simp)
   have h2 := ih fun l hl => hk l (by simp [hl])
   rw [List.flatten_cons, List.length_append, List.length_cons]
   omega
 have h2 := this (Xl ls i) fun l hl => hs l (List.mem_of_mem_take hl)
 rw [z0o ls i h] at h2
 exact h2
theorem zkt (G) (n : Int) (h0 : 0 ≤ n) (hn : n ≤ 1000000000000) : GivesX Tryz.prog G 151 [.nils, .dat (iD n)] [] [.osl 22 1 0 0] [(22, ⟨1, []⟩)] := by
 skip
 skip
 refine GX [] [] [] Tryz.func151 Tryz.ntmps151 fun F hP hG hN hR hA => ?_
 have hE := And.intro @Tryz.results151 (@IntWalk.i64_in)
 refine WS [0, 1] [22] ?_
 apply z3
 refine WS [0, 1, 6] [22] ?_
 refine WI ?_ ?_ <;> intro hb
 ·exfalso
  omega --STOP
 ·apply z6
  apply z5
  apply z3
  refine wp ?_
  apply wz
  ·(iterate 2 apply Seg.cons); exact Seg.nil _
  ·refine RK ?_
   exact SC
  refine yi rfl (z5o rfl rfl (by rw [hN]; omega) (by rw [hP]; exact ti117) rfl rfl) ?_
  rw [yr]
  apply wg [0, 1] [22]
  ·refine RN ?_
   exact SC
  refine WS [0, 1, 16] [22] ?_
  refine WI ?_ ?_ <;> intro hb
  ·refine z11 ?_
   apply wz
   ·(iterate 2 apply Seg.cons); exact Seg.nil _
   ·refine RK ?_
    exact SC
   refine yi rfl (z5o rfl rfl (by rw [hN]; omega) (by rw [hP]; exact ti117) rfl rfl) ?_
   rw [yr]
   apply wz
   ·(iterate 2 apply Seg.cons); exact Seg.nil _
   ·refine RK ?_
    exact SC
   refine yi rfl (z62 rfl rfl (by rw [hN]; omega) (by rw [hP]; exact ti117) rfl (by rw [hP]; exact ti3) rfl (by rw [hP]; exact ti5) rfl rfl rfl rfl rfl (by omega) (by omega) (by dsimp only; omega)) ?_
   simp only [avA, seval]
   apply wg [0] [22]
   ·refine RN ?_
    exact SC
   apply z5
   refine WS [4] [22] ?_
   apply z9
   exact E0
  ·refine xd 22 1 (by omega) ?_
   refine xy 0 22 1 rfl rfl ?_
   
   apply z6
   apply z5
   refine WS [4] [22] ?_
   apply z9
   exact E0
theorem zku (G) (n : Int) (h0 : 0 ≤ n) (hn : n ≤ 1000000000000) : GivesX Tryz.prog G 163 [.nils, .dat (iD n)] [] [.osl 22 1 0 0] [(22, ⟨1, []⟩)] := by
 skip
 skip
 refine GX [] [] [] Tryz.func163 Tryz.ntmps163 fun F hP hG hN hR hA => ?_
 have hE := And.intro @Tryz.results163 (@IntWalk.i64_in)
 refine WS [0, 1] [22] ?_
 apply z3
 refine WS [0, 1, 6] [22] ?_
 refine WI ?_ ?_ <;> intro hb
 ·exfalso
  omega --STOP
 ·apply z6
  apply z5
  apply z3
  refine wp ?_
  apply wz
  ·(iterate 2 apply Seg.cons); exact Seg.nil _
  ·refine RK ?_
   exact SC
  refine yi rfl (z5o rfl rfl (by rw [hN]; omega) (by rw [hP]; exact ti33) rfl rfl) ?_
  rw [yr]
  apply wg [0, 1] [22]
  ·refine RN ?_
   exact SC
  refine WS [0, 1, 16] [22] ?_
  refine WI ?_ ?_ <;> intro hb
  ·refine z11 ?_
   apply wz
   ·(iterate 2 apply Seg.cons); exact Seg.nil _
   ·refine RK ?_
    exact SC
   refine yi rfl (z5o rfl rfl (by rw [hN]; omega) (by rw [hP]; exact ti33) rfl rfl) ?_
   rw [yr]
   apply wz
   ·(iterate 2 apply Seg.cons); exact Seg.nil _
   ·refine RK ?_
    exact SC
   refine yi rfl (z62 rfl rfl (by rw [hN]; omega) (by rw [hP]; exact ti33) rfl (by rw [hP]; exact ti3) rfl (by rw [hP]; exact ti9) rfl rfl rfl rfl rfl (by omega) (by omega) (by dsimp only; omega)) ?_
   simp only [avA, seval]
   apply wg [0] [22]
   ·refine RN ?_
    exact SC
   apply z5
   refine WS [4] [22] ?_
   apply z9
   exact E0
  ·refine xd 22 1 (by omega) ?_
   refine xy 0 22 1 rfl rfl ?_
   
   apply z6
   apply z5
   refine WS [4] [22] ?_
   apply z9
   exact E0
theorem zgc (G) (ls : List (List Int)) (hl : ls.length ≤ 1000000) (hs : ∀ l ∈ ls, l.length ≤ 1000000) (hq : ls.flatten.length ≤ 1000000) : zl Tryz.prog G 117 [.sl (ls.map fun l => z3m l)] [z3m ls.flatten] := by
 skip
 skip
 skip
 refine GI [] [24] [] Tryz.func117 Tryz.ntmps117 fun F hP hG hN hR hA => ?_
 have hE := And.intro @Tryz.results117 (And.intro @z94 (@IntWalk.i64_in))
 refine WS [0] [33] ?_
 refine WS [0, 3] [33] ?_
 apply z3
 refine WS [0, 3, 9, 10, 11] [33] ?_
 apply z7
 refine WL (ι := {i : Nat // i ≤ ls.length}) [0, 9, 10] [33] (fun ⟨i, hi⟩ => [(3, .dat (iD (z20 ls i).length)), (11, .dat (iD i))]) (fun ⟨i, hi⟩ => []) (fun ⟨i, hi⟩ => ls.length - i) (⟨0, by omega⟩) ?_
 rintro ⟨i, hi⟩
 refine LA ?_
 refine WS [0, 3, 9, 10, 11, 12] [33] ?_
 apply z3
 refine WI ?_ ?_ <;> intro hb
 ·have hx := zt hs (i := i) (by omega)
  have hle := z5p hs hi
  have hsc := z69 ls i (by omega)
  have hE := And.intro hE hsc
  apply z6
  apply z5
  apply z3
  apply z7
  refine WS [0, 3, 5, 9, 10, 11] [33] ?_
  refine WS [0, 3, 9, 10, 11] [33] ?_
  refine WS [0, 3, 9, 10, 11, 20] [33] ?_
  refine WI ?_ ?_ <;> intro hb
  ·exfalso
   omega --STOP
  ·apply z6
   apply ze
   apply z5
   refine WQ [0, 3, 9, 10, 11] [33] ?_
   refine WN (⟨i + 1, by omega⟩)
 ·apply zj
  apply zd
  have hend : i = ls.length := by omega
  subst hend
  have hf := zd4 ls
  have hE := And.intro hE hf
  apply zb
  apply zn
  apply z5
  apply zm [0, 6] [33]
  ·refine RN ?_
   refine CX (fun _ => 33) [22] (zkt G ls.flatten.length (by omega) (by omega)) ?_
   exact SC
  apply z3
  refine WS [6, 25, 26, 27] [33] ?_
  apply z7
  refine WL (ι := {i : Nat // i ≤ ls.length}) [25, 26] [] (fun ⟨i, hi⟩ => [(6, .osl 33 1 0 (z20 ls i).length), (27, .dat (iD i))]) (fun ⟨i, hi⟩ => [(33, ⟨1, ((z20 ls i).map u8D).map .dat⟩)]) (fun ⟨i, hi⟩ => ls.length - i) (⟨0, by omega⟩) ?_
  rintro ⟨i, hi⟩
  refine LA ?_
  refine WS [6, 25, 26, 27, 28] [33] ?_
  apply z3
  refine WI ?_ ?_ <;> intro hb
  ·have hx := zt hs (i := i) (by omega)
   have hle := z5p hs hi
   have hsc := z3v ls i (by omega)
   have hE := And.intro hE hsc
   
   apply z6
   apply z5
   apply z3
   apply z7
   refine WS [6, 8, 25, 26, 27] [33] ?_
   refine WQ [6, 25, 26, 27] [33] ?_
   apply ze
   apply z5
   refine WQ [6, 25, 26, 27] [33] ?_
   refine WN (⟨i + 1, by omega⟩)
  ·apply zj
   apply zd
   have hend : i = ls.length := by omega
   subst hend
   apply zb
   apply zn
   apply z5
   refine WS [2] [33] ?_
   apply z9
   exact E0
theorem zgd (G) (ls : List (List ByteArray)) (hl : ls.length ≤ 1000000) (hs : ∀ l ∈ ls, l.length ≤ 1000000) (hq : ls.flatten.length ≤ 1000000) : zl Tryz.prog G 156 [.sl (ls.map fun l => ssD l)] [ssD ls.flatten] := by
 skip
 skip
 skip
 refine GI [] [24] [] Tryz.func156 Tryz.ntmps156 fun F hP hG hN hR hA => ?_
 have hE := And.intro @Tryz.results156 (And.intro @z94 (@IntWalk.i64_in))
 refine WS [0] [33] ?_
 refine WS [0, 3] [33] ?_
 apply z3
 refine WS [0, 3, 9, 10, 11] [33] ?_
 apply z7
 refine WL (ι := {i : Nat // i ≤ ls.length}) [0, 9, 10] [33] (fun ⟨i, hi⟩ => [(3, .dat (iD (z20 ls i).length)), (11, .dat (iD i))]) (fun ⟨i, hi⟩ => []) (fun ⟨i, hi⟩ => ls.length - i) (⟨0, by omega⟩) ?_
 rintro ⟨i, hi⟩
 refine LA ?_
 refine WS [0, 3, 9, 10, 11, 12] [33] ?_
 apply z3
 refine WI ?_ ?_ <;> intro hb
 ·have hx := zt hs (i := i) (by omega)
  have hle := z5p hs hi
  have hsc := z69 ls i (by omega)
  have hE := And.intro hE hsc
  apply z6
  apply z5
  apply z3
  apply z7
  refine WS [0, 3, 5, 9, 10, 11] [33] ?_
  refine WS [0, 3, 9, 10, 11] [33] ?_
  refine WS [0, 3, 9, 10, 11, 20] [33] ?_
  refine WI ?_ ?_ <;> intro hb
  ·exfalso
   omega --STOP
  ·apply z6
   apply ze
   apply z5
   refine WQ [0, 3, 9, 10, 11] [33] ?_
   refine WN (⟨i + 1, by omega⟩)
 ·apply zj
  apply zd
  have hend : i = ls.length := by omega
  subst hend
  have hf := zd4 ls
  have hE := And.intro hE hf
  apply zb
  apply zn
  apply z5
  apply zm [0, 6] [33]
  ·refine RN ?_
   refine CX (fun _ => 33) [22] (zku G ls.flatten.length (by omega) (by omega)) ?_
   exact SC
  apply z3
  refine WS [6, 25, 26, 27] [33] ?_
  apply z7
  refine WL (ι := {i : Nat // i ≤ ls.length}) [25, 26] [] (fun ⟨i, hi⟩ => [(6, .osl 33 1 0 (z20 ls i).length), (27, .dat (iD i))]) (fun ⟨i, hi⟩ => [(33, ⟨1, ((z20 ls i).map Dat.str).map .dat⟩)]) (fun ⟨i, hi⟩ => ls.length - i) (⟨0, by omega⟩) ?_
  rintro ⟨i, hi⟩
  refine LA ?_
  refine WS [6, 25, 26, 27, 28] [33] ?_
  apply z3
  refine WI ?_ ?_ <;> intro hb
  ·have hx := zt hs (i := i) (by omega)
   have hle := z5p hs hi
   have hsc := z3v ls i (by omega)
   have hE := And.intro hE hsc
   
   apply z6
   apply z5
   apply z3
   apply z7
   refine WS [6, 8, 25, 26, 27] [33] ?_
   refine WQ [6, 25, 26, 27] [33] ?_
   apply ze
   apply z5
   refine WQ [6, 25, 26, 27] [33] ?_
   refine WN (⟨i + 1, by omega⟩)
  ·apply zj
   apply zd
   have hend : i = ls.length := by omega
   subst hend
   apply zb
   apply zn
   apply z5
   refine WS [2] [33] ?_
   apply z9
   exact E0
theorem zeq {o : OpM} (h : OkOp o) : ∀ x ∈ o.Pairs.flatMap pairI, I64 x := fun x hx => by
 obtain ⟨p, hp, hx⟩ := List.mem_flatMap.1 hx
 have := h.pairs p hp
 simp only [pairI, List.mem_cons, List.not_mem_nil, or_false] at hx
 rcases hx with rfl | rfl
 ·exact this.1
 ·exact this.2
theorem zow {o : OpM} (h : OkOp o) : ∀ x ∈ o.Refs.flatMap idI, I64 x := fun x hx => by
 obtain ⟨p, hp, hx⟩ := List.mem_flatMap.1 hx
 have := h.refs p hp
 simp only [idI, List.mem_cons, List.not_mem_nil, or_false] at hx
 rcases hx with rfl | rfl | rfl
 ·exact this.1
 ·exact this.2.1
 ·exact this.2.2
theorem zlh {o : OpM} (h : OkOp o) : ∀ l ∈ [intsM (vl o), x4 o.Text, strsM o.Texts, intsM (o.Pairs.flatMap pairI), intsM (o.Refs.flatMap idI)], l.length ≤ 1000000 := by
 have := h.all
 simp only [opB, List.length_append] at this
 simp only [List.forall_mem_cons]
 exact ⟨by omega, by omega, by omega, by omega, by omega, by simp⟩
theorem zqh (o : OpM) : [intsM (vl o), x4 o.Text, strsM o.Texts, intsM (o.Pairs.flatMap pairI), intsM (o.Refs.flatMap idI)].flatten = opB o := by
 simp [opB, List.append_assoc]
theorem zs4 (G) (o : OpM) (h : OkOp o) : zl Tryz.prog G 73 [opD o] [z3m (opB o)] := by
 have hpl := jv (f := pairI) (k := 2) (fun _ => rfl) o.Pairs
 have hrl := jv (f := idI) (k := 3) (fun _ => rfl) o.Refs
 have hnp := h.npairs
 have hnr := h.nrefs
 have hob := zqh o
 skip
 skip
 refine GI [] [] [] Tryz.func73 Tryz.ntmps73 fun F hP hG hN hR hA => ?_
 have hE := And.intro @Tryz.results73 (And.intro @X9 (@hob))
 refine WS [1] [1] ?_
 refine WS [1, 3, 4] [1, 23, 40] ?_
 apply z3
 refine WS [1, 3, 4, 11, 12, 13] [1, 23, 40] ?_
 apply z7
 refine xd 23 1 (by omega) ?_
 refine xy 3 23 1 rfl rfl ?_
 refine WL (ι := {i : Nat // i ≤ o.Pairs.length}) [1, 4, 11, 12] [1, 22, 39, 40] (fun ⟨i, hi⟩ => [(3, .osl 23 1 0 (wr pairI o.Pairs i).length), (13, .dat (iD i))]) (fun ⟨i, hi⟩ => [(23, ⟨1, ((wr pairI o.Pairs i).map iD).map .dat⟩)]) (fun ⟨i, hi⟩ => o.Pairs.length - i) (⟨0, by omega⟩) ?_
 rintro ⟨i, hi⟩
 refine LA ?_
 have hl := hpl i hi
 refine WS [1, 3, 4, 11, 12, 13, 14] [1, 22, 23, 40] ?_
 apply z3
 refine WI ?_ ?_ <;> intro hb
 ·have hl2 := hpl (i + 1) (by omega)
  have hsc := jx pairI o.Pairs i (by omega)
  have hE := And.intro hE (And.intro hsc (pairI.eq_1 (o.Pairs.getD i default)))
  apply z6
  apply z5
  apply z3
  apply z7
  refine WS [1, 3, 4, 6, 11, 12, 13] [1, 6, 22, 23, 40] ?_
  refine WQ [1, 3, 4, 11, 12, 13] [1, 22, 23, 40] ?_
  apply ze
  apply z5
  refine WQ [1, 3, 4, 11, 12, 13] [1, 22, 23, 40] ?_
  refine WN (⟨i + 1, by omega⟩)
 ·apply zj
  apply zd
  have hend : i = o.Pairs.length := by omega
  subst hend
  have hf := vy pairI o.Pairs
  have hE := And.intro hE hf
  apply zb
  apply zn
  apply z5
  apply z3
  refine WS [1, 3, 4, 26, 27, 28] [1, 22, 23, 40] ?_
  apply z7
  refine xd 40 1 (by omega) ?_
  refine xy 4 40 1 rfl rfl ?_
  refine WL (ι := {i : Nat // i ≤ o.Refs.length}) [1, 3, 26, 27] [1, 22, 23, 39] (fun ⟨i, hi⟩ => [(4, .osl 40 1 0 (wr idI o.Refs i).length), (28, .dat (iD i))]) (fun ⟨i, hi⟩ => [(40, ⟨1, ((wr idI o.Refs i).map iD).map .dat⟩)]) (fun ⟨i, hi⟩ => o.Refs.length - i) (⟨0, by omega⟩) ?_
  rintro ⟨i, hi⟩
  refine LA ?_
  have hl := hrl i hi
  refine WS [1, 3, 4, 26, 27, 28, 29] [1, 22, 23, 39, 40] ?_
  apply z3
  refine WI ?_ ?_ <;> intro hb
  ·have hl2 := hrl (i + 1) (by omega)
   have hsc := jx idI o.Refs i (by omega)
   have hE := And.intro hE (And.intro hsc (idI.eq_1 (o.Refs.getD i default)))
   apply z6
   apply z5
   apply z3
   apply z7
   refine WS [1, 3, 4, 8, 26, 27, 28] [1, 8, 22, 23, 39, 40] ?_
   refine WQ [1, 3, 4, 26, 27, 28] [1, 22, 23, 39, 40] ?_
   apply ze
   apply z5
   refine WQ [1, 3, 4, 26, 27, 28] [1, 22, 23, 39, 40] ?_
   refine WN (⟨i + 1, by omega⟩)
  ·apply zj
   apply zd
   have hend : i = o.Refs.length := by omega
   subst hend
   have hf2 := vy idI o.Refs
   have hE := And.intro hE hf2
   apply zb
   apply zn
   apply z5
   refine v8 23 hR.2.2.2 rfl (datE_map _) ?_
   refine v8 40 hR.2.2.2 rfl (by simp only [zds]; exact datE_map _) ?_
   have hc := gvF hP hG (Qt G (vl o) h.head (by simp [vl]))
   refine WSc [1, 3, 4, 9] [1, 22, 23, 39, 40] ?_
   apply w6 [2] [] [0, 1, 2, 3, 4, 5, 6, 7, 8, 9, 10, 11, 12, 13] []
   ·rw [hP]; kernel_rfl
   ·exact hR
   ·kernel_rfl
   ·(repeat (apply PickL.cons; exact rfl)); exact PickL.nil _
   ·refine RN ?_
    refine CU (zb5 G o.Text (by have := h.text; omega)) ?_
    refine CU (z3o G o.Texts (fun s hs => by have := h.texts s hs; omega) (by have := h.ntexts; omega)) ?_
    refine CU (Qt G (o.Pairs.flatMap pairI) (zeq h) (by rw [← vy pairI, hpl _ (Nat.le_refl _)]; omega)) ?_
    refine CU (Qt G (o.Refs.flatMap idI) (zow h) (by rw [← vy idI, hrl _ (Nat.le_refl _)]; omega)) ?_
    refine CU (zgc G [intsM (vl o), x4 o.Text, strsM o.Texts, intsM (o.Pairs.flatMap pairI), intsM (o.Refs.flatMap idI)] (by simp) (zlh h) (by rw [hob]; exact h.all)) ?_
    exact SC
   apply z9
   exact E0
theorem zht (G) (l : List (Int × Int)) (hl : l.length ≤ 100000) : zl Tryz.prog G 139 [z4k l] [isD (l.flatMap pairI)] := by
 have hpl := jv (f := pairI) (k := 2) (fun _ => rfl) l
 skip
 skip
 skip
 refine GI [23] [] [] Tryz.func139 Tryz.ntmps139 fun F hP hG hN hR hA => ?_
 have hE := And.intro @Tryz.results139 (@X9)
 refine WS [0] [3] ?_
 refine WS [0, 3] [23, 3] ?_
 apply z3
 refine WS [0, 3, 4] [23, 3] ?_
 apply z7
 refine xd 3 1 (by omega) ?_
 refine xy 3 3 1 rfl rfl ?_
 refine WL (ι := {i : Nat // i ≤ l.length}) [0] [22, 23] (fun ⟨i, hi⟩ => [(3, .osl 3 1 0 (wr pairI l i).length), (4, .dat (iD i))]) (fun ⟨i, hi⟩ => [(3, ⟨1, ((wr pairI l i).map iD).map .dat⟩)]) (fun ⟨i, hi⟩ => l.length - i) (⟨0, by omega⟩) ?_
 rintro ⟨i, hi⟩
 refine LA ?_
 have hl1 := hpl i hi
 apply z3
 refine WS [0, 3, 4, 8] [22, 23, 3] ?_
 refine WI ?_ ?_ <;> intro hb
 ·have hl2 := hpl (i + 1) (by omega)
  have hsc := jx pairI l i (by omega)
  have hE := And.intro hE (And.intro hsc (pairI.eq_1 (l.getD i default)))
  apply z6
  apply z5
  apply z3
  apply z7
  refine WDQ [0, 3, 4] [22, 23, 3] [0, 1, 2, 3, 4, 5, 6, 7, 8, 9, 10, 11, 12, 13] [23] ?_
  apply ze
  apply z5
  refine yj 23 3 (by omega) (by omega) ?_
  refine WQ [0, 3, 4] [22, 23, 3] ?_
  refine WN (⟨i + 1, by omega⟩)
 ·apply zj
  apply zd
  have hend : i = l.length := by omega
  subst hend
  have hf := vy pairI l
  have hE := And.intro hE hf
  apply zb
  apply zn
  apply z5
  refine WS [2] [22, 23, 3] ?_
  apply z9
  exact E0
theorem zqu (G) (l : List IdM) (hl : l.length ≤ 100000) : zl Tryz.prog G 140 [zdy l] [isD (l.flatMap idI)] := by
 have hpl := jv (f := idI) (k := 3) (fun _ => rfl) l
 skip
 skip
 skip
 refine GI [28] [] [] Tryz.func140 Tryz.ntmps140 fun F hP hG hN hR hA => ?_
 have hE := And.intro @Tryz.results140 (@X9)
 refine WS [0] [3] ?_
 refine WS [0, 3] [28, 3] ?_
 apply z3
 refine WS [0, 3, 4] [28, 3] ?_
 apply z7
 refine xd 3 1 (by omega) ?_
 refine xy 3 3 1 rfl rfl ?_
 refine WL (ι := {i : Nat // i ≤ l.length}) [0] [27, 28] (fun ⟨i, hi⟩ => [(3, .osl 3 1 0 (wr idI l i).length), (4, .dat (iD i))]) (fun ⟨i, hi⟩ => [(3, ⟨1, ((wr idI l i).map iD).map .dat⟩)]) (fun ⟨i, hi⟩ => l.length - i) (⟨0, by omega⟩) ?_
 rintro ⟨i, hi⟩
 refine LA ?_
 have hl1 := hpl i hi
 apply z3
 refine WS [0, 3, 4, 8] [27, 28, 3] ?_
 refine WI ?_ ?_ <;> intro hb
 ·have hl2 := hpl (i + 1) (by omega)
  have hsc := jx idI l i (by omega)
  have hE := And.intro hE (And.intro hsc (idI.eq_1 (l.getD i default)))
  apply z6
  apply z5
  apply z3
  apply z7
  refine WDQ [0, 3, 4] [27, 28, 3] [0, 1, 2, 3, 4, 5, 6, 7, 8, 9, 10, 11, 12, 13, 14, 15, 16, 17, 18] [28] ?_
  apply ze
  apply z5
  refine yj 28 3 (by omega) (by omega) ?_
  refine WQ [0, 3, 4] [27, 28, 3] ?_
  refine WN (⟨i + 1, by omega⟩)
 ·apply zj
  apply zd
  have hend : i = l.length := by omega
  subst hend
  have hf := vy idI l
  have hE := And.intro hE hf
  apply zb
  apply zn
  apply z5
  refine WS [2] [27, 28, 3] ?_
  apply z9
  exact E0
set_option maxRecDepth 100000 in
theorem zhs (G) (o : OpM) (h : OkOp o) : zl Tryz.prog G 108 [opD o] [z3m (opB o)] := by
 have hpl := jv (f := pairI) (k := 2) (fun _ => rfl) o.Pairs o.Pairs.length (Nat.le_refl _)
 have hrl := jv (f := idI) (k := 3) (fun _ => rfl) o.Refs o.Refs.length (Nat.le_refl _)
 rw [vy] at hpl hrl
 have hnp := h.npairs
 have hnr := h.nrefs
 have hall := h.all
 simp only [opB, List.length_append] at hall
 have c1 : (List.map AV.dat (List.map u8D (intsM (vl o))) ++ List.map AV.dat (List.map u8D (x4 o.Text))).length = (intsM (vl o)).length + (x4 o.Text).length := by simp only [List.length_append, List.length_map]
 have c2 : (List.map AV.dat (List.map u8D (intsM (vl o))) ++ List.map AV.dat (List.map u8D (x4 o.Text)) ++ List.map AV.dat (List.map u8D (strsM o.Texts))).length = (intsM (vl o)).length + (x4 o.Text).length + (strsM o.Texts).length := by simp only [List.length_append, List.length_map]
 have c3 : (List.map AV.dat (List.map u8D (intsM (vl o))) ++ List.map AV.dat (List.map u8D (x4 o.Text)) ++ List.map AV.dat (List.map u8D (strsM o.Texts)) ++ List.map AV.dat (List.map u8D (intsM (o.Pairs.flatMap pairI)))).length = (intsM (vl o)).length + (x4 o.Text).length + (strsM o.Texts).length + (intsM (o.Pairs.flatMap pairI)).length := by simp only [List.length_append, List.length_map]
 have c4 : (List.map AV.dat (List.map u8D (intsM (vl o))) ++ List.map AV.dat (List.map u8D (x4 o.Text)) ++ List.map AV.dat (List.map u8D (strsM o.Texts)) ++ List.map AV.dat (List.map u8D (intsM (o.Pairs.flatMap pairI))) ++ List.map AV.dat (List.map u8D (intsM (o.Refs.flatMap idI)))).length = (intsM (vl o)).length + (x4 o.Text).length + (strsM o.Texts).length + (intsM (o.Pairs.flatMap pairI)).length + (intsM (o.Refs.flatMap idI)).length := by simp only [List.length_append, List.length_map]
 skip
 skip
 skip
 refine GI [45, 49, 55, 60] [40] [] Tryz.func108 Tryz.ntmps108 fun F hP hG hN hR hA => ?_
 have hE := And.intro @Tryz.results108 (And.intro @Nat.min_self (@List.take_of_length_le.{0}))
 refine WS [1] [1, 40] ?_
 apply zm [1, 3] [1, 40]
 ·refine RN ?_
  refine CX (fun _ => 40) [20] (zaj G (vl o) h.head (by simp [vl])) ?_
  exact SC
 apply w6 [1, 3] [1, 45, 49, 40] [0, 1, 2, 3, 4, 5, 6, 7, 8, 9] [45, 49]
 ·rw [hP]; kernel_rfl
 ·exact hR
 ·kernel_rfl
 ·(repeat (apply PickL.cons; exact rfl)); exact PickL.nil _
 ·refine RN ?_
  refine CU (zlk G o.Text (by have := h.text; omega)) ?_
  refine CU (zrd G o.Texts (fun s hs => by have := h.texts s hs; omega) (by have := h.ntexts; omega)) ?_
  exact SC
 apply w6 [2] [45, 49, 55, 60, 40] [0, 1, 2, 3, 4, 5, 6, 7, 8, 9, 10, 11] [55, 60]
 ·rw [hP]; kernel_rfl
 ·exact hR
 ·kernel_rfl
 ·(repeat (apply PickL.cons; exact rfl)); exact PickL.nil _
 ·refine RN ?_
  refine CU (zht G o.Pairs hnp) ?_
  refine CU (zf1 G (o.Pairs.flatMap pairI) (zeq h) (by omega)) ?_
  refine CU (zqu G o.Refs hnr) ?_
  refine CU (zf1 G (o.Refs.flatMap idI) (zow h) (by omega)) ?_
  exact SC
 apply z9
 simp only [kj, y6, vk, qq, qi, x5, vb, qh, q9, xn, qy, wy, xk, xq, xm, wx, xp, xr, w3, xx, avA, zk, zo, seval, ↓List.forall_mem_cons, Op.operands, hP, hG, tiA, hE, opB]
 all_goals try trivial
 simp only [← List.map_append, datE_map]
 rfl
abbrev zOp : OpM := ⟨0, ⟨0, 0, 0⟩, ⟨0, 0, 0⟩, ⟨0, 0, 0⟩, 0, 0, 0, ⟨#[]⟩, [], [], []⟩
abbrev zs8 : TermM := ⟨⟨#[]⟩, 0, 0, ⟨#[]⟩, []⟩
abbrev zID : IdM := ⟨0, 0, 0⟩
def z2x (e : EventM) : Bool := decide (16 < e.Refs.length) || decide (16 < e.Posts.length) || decide (8 < e.Term.Broader.length) || ((ofM e.Kind).op && decide (65536 < (opB e.Op).length))
def z1z (e : EventM) : Bool := !ym (evName e) || !wa e.Tick 1048576 || !wa e.Kind 6
def Xz (e : EventM) : Bool := (!(ofM e.Kind).op && !jq e.Op zOp) || (!(ofM e.Kind).term && !je e.Term zs8)
def z06 (e : EventM) : Bool := (!(ofM e.Kind).id && !qp e.ID zID) || (!(ofM e.Kind).posts && decide (0 < e.Posts.length)) || (!(ofM e.Kind).n && decide (e.N ≠ 0))
def j4 (e : EventM) (i : Nat) : Bool := !ym (e.Refs.getD i default) || qa (e.Refs.getD i default) (evName e) || (decide (0 < i) && !z0k (e.Refs.getD (i - 1) default) (e.Refs.getD i default))
def z8o (e : EventM) : Bool := (ofM e.Kind).term && (!wk e.Term.Name || (!qx e.Term.See ⟨#[]⟩ && !wk e.Term.See) || !wa e.Term.Kind 2 || !wa e.Term.Lang 3 || !vg e.Term.Broader)
def jg (e : EventM) (i : Nat) : Bool := !qp (e.Posts.getD i default).ID e.ID || decide ((e.Posts.getD i default).Path.length = 0) || decide (4 < (e.Posts.getD i default).Path.length) || !vg (e.Posts.getD i default).Path
def qn (e : EventM) : Int :=
 if z2x e = true then 4
 else if z1z e = true ∨ Xz e = true ∨ z06 e = true ∨ wa e.N 1048576 = false then 1
 else if ∃ i, i < e.Refs.length ∧ j4 e i = true then 1
 else if z8o e = true then 1
 else if ∃ i, i < e.Posts.length ∧ jg e i = true then 1
 else 0
structure OkEv (e : EventM) : Prop where
 by_ : I64 e.By
 seq : I64 e.Seq
 tick : I64 e.Tick
 kind : I64 e.Kind
 n : I64 e.N
 id : zbp e.ID
 tk : I64 e.Term.Kind
 tl : I64 e.Term.Lang
 refs : ∀ r ∈ e.Refs, I64 r.By ∧ I64 r.Seq
 nrefs : e.Refs.length ≤ 100000
 op : OkOp e.Op
 name : e.Term.Name.size ≤ 900000
 see : e.Term.See.size ≤ 900000
 broader : ∀ s ∈ e.Term.Broader, s.size ≤ 900000
 nbroader : e.Term.Broader.length ≤ 100000
 posts : ∀ p ∈ e.Posts, zbp p.ID ∧ p.Path.length ≤ 60000 ∧ ∀ s ∈ p.Path, s.size ≤ 900000
 nposts : e.Posts.length ≤ 1000
theorem zqf (k : Int) : (ofM k).op = decide (k = 0) := by unfold ofM; grind
theorem zbz (k : Int) : (ofM k).term = decide (k = 2) := by unfold ofM; grind
theorem zye (k : Int) : (ofM k).id = (decide (k = 3) || decide (k = 4) || decide (k = 5) || decide (k = 6)) := by unfold ofM; grind
theorem zem (k : Int) : (ofM k).posts = (decide (k = 3) || decide (k = 4)) := by unfold ofM; grind
theorem zyf (k : Int) : (ofM k).n = (decide (k = 5) || decide (k = 6)) := by unfold ofM; grind
theorem zb3 {e : EventM} (h : z2x e = true) : qn e = 4 := by unfold qn; rw [if_pos h]
theorem z1l {e : EventM} (h0 : z2x e = false) (h : z1z e = true ∨ Xz e = true ∨ z06 e = true ∨ wa e.N 1048576 = false) : qn e = 1 := by
 unfold qn; rw [if_neg (by simp [h0]), if_pos h]
theorem zb4 {e : EventM} (h0 : z2x e = false) (h : z1z e = false ∧ Xz e = false ∧ z06 e = false ∧ wa e.N 1048576 = true) {i : Nat} (hi : i < e.Refs.length) (hb : j4 e i = true) : qn e = 1 := by
 unfold qn; rw [if_neg (by simp [h0]), if_neg (by simp [h]), if_pos ⟨i, hi, hb⟩]
theorem zjy {e : EventM} (h0 : z2x e = false) (h : z1z e = false ∧ Xz e = false ∧ z06 e = false ∧ wa e.N 1048576 = true) (hr : ∀ i, i < e.Refs.length → j4 e i = false) (h5 : z8o e = true) : qn e = 1 := by
 unfold qn; rw [if_neg (by simp [h0]), if_neg (by simp [h]), if_neg (by rintro ⟨i, h1, h2⟩; rw [hr i h1] at h2; cases h2), if_pos h5]
theorem z8g {e : EventM} (h0 : z2x e = false) (h : z1z e = false ∧ Xz e = false ∧ z06 e = false ∧ wa e.N 1048576 = true) (hr : ∀ i, i < e.Refs.length → j4 e i = false) (h5 : z8o e = false) {i : Nat} (hi : i < e.Posts.length) (hb : jg e i = true) : qn e = 1 := by
 unfold qn; rw [if_neg (by simp [h0]), if_neg (by simp [h]), if_neg (by rintro ⟨i, h1, h2⟩; rw [hr i h1] at h2; cases h2), if_neg (by simp [h5]), if_pos ⟨i, hi, hb⟩]
theorem zb2 {e : EventM} (h0 : z2x e = false) (h : z1z e = false ∧ Xz e = false ∧ z06 e = false ∧ wa e.N 1048576 = true) (hr : ∀ i, i < e.Refs.length → j4 e i = false) (h5 : z8o e = false) (hp : ∀ i, i < e.Posts.length → jg e i = false) : qn e = 0 := by
 unfold qn; rw [if_neg (by simp [h0]), if_neg (by simp [h]), if_neg (by rintro ⟨i, h1, h2⟩; rw [hr i h1] at h2; cases h2), if_neg (by simp [h5]), if_neg (by rintro ⟨i, h1, h2⟩; rw [hp i h1] at h2; cases h2)]
theorem z60 {o : OpM} (h : OkOp o) : SzOp o := ⟨by have := h.ntexts; omega, by have := h.npairs; omega, by have := h.nrefs; omega⟩
def vi (p : PostM) : List Int := yq (if p.Main = true then 1 else 0) ++ strsM p.Path
def z5g (e : EventM) : List Int :=
 if e.Kind = 0 then opB e.Op
 else if e.Kind = 2 then intsM [e.Term.Kind, e.Term.Lang] ++ strsM (e.Term.Name :: e.Term.See :: e.Term.Broader)
 else if e.Kind = 3 ∨ e.Kind = 4 then intsM (idI e.ID) ++ yq e.Posts.length ++ e.Posts.flatMap vi
 else if e.Kind = 5 ∨ e.Kind = 6 then intsM (idI e.ID ++ [e.N])
 else []
def z6r (e : EventM) : List Int := intsM [e.By, e.Seq, e.Tick, e.Kind] ++ intsM (e.Refs.flatMap nameI)
def evB (e : EventM) : List Int := z6r e ++ z5g e
theorem ve {l : List Int} (h : ∀ x ∈ l, I64 x) (hl : l.length ≤ 1000000) : (intsM l).length ≤ 9 + 9 * l.length := z6v h (Nat.le_refl _) hl
theorem z86 {l : List ByteArray} (h : ∀ s ∈ l, s.size ≤ 1000000) (hl : l.length ≤ 1000000) : (strsM l).length ≤ 9 + 1000009 * l.length := z87 h (Nat.le_refl _) hl
theorem zqo {p : PostM} (h : p.Path.length ≤ 60000 ∧ ∀ s ∈ p.Path, s.size ≤ 900000) : (vi p).length ≤ 60000600000 := by
 have h1 := z86 (l := p.Path) (fun s hs => by have := h.2 s hs; omega) (by omega)
 have h2 : (yq (if p.Main = true then 1 else 0)).length ≤ 9 := yl (by split <;> (unfold I64; omega))
 have h3 : 1000009 * p.Path.length ≤ 1000009 * 60000 := Nat.mul_le_mul_left _ h.1
 simp only [vi, List.length_append]
 omega
theorem zli {e : EventM} (h : OkEv e) (i : Nat) (hi : i ≤ e.Posts.length) : (wr vi e.Posts i).length ≤ 60000600000 * i := by
 have h1 := Q0 vi 60000600000 (Xl e.Posts i) fun p hp => zqo (h.posts p (z77 hp)).2
 rw [z0o _ _ hi] at h1
 exact h1
theorem z78 {e : EventM} (h : OkEv e) : ∀ x ∈ e.Refs.flatMap nameI, I64 x := fun x hx => by
 obtain ⟨p, hp, hx⟩ := List.mem_flatMap.1 hx
 have := h.refs p hp
 simp only [nameI, List.mem_cons, List.not_mem_nil, or_false] at hx
 rcases hx with rfl | rfl
 ·exact this.1
 ·exact this.2
def x7 (a b : EventM) : Bool := a.By == b.By && a.Seq == b.Seq && a.Tick == b.Tick && a.Kind == b.Kind && qp a.ID b.ID && a.N == b.N && qf xg a.Posts b.Posts && qf qa a.Refs b.Refs && je a.Term b.Term && jq a.Op b.Op
set_option maxRecDepth 100000 in
set_option maxHeartbeats 2000000 in
theorem zjq (G) (a b : EventM) (h : OkEv a) : zl Tryz.prog G 36 [zc a, zc b] [bD (x7 a b)] := by
 have hnr := h.nrefs
 have hnb := h.nbroader
 have hnp := h.nposts
 have hsl := v6 (f := xg) (a := a.Posts) (b := b.Posts)
 skip
 skip
 refine GI [] [] [] Tryz.func36 Tryz.ntmps36 fun F hP hG hN hR hA => ?_
 have hE := And.intro @Tryz.results36 (And.intro @zbj (@X7))
 refine WS [2, 3] [2, 3] ?_
 apply z3
 refine WS [2, 3, 54] [2, 3] ?_
 refine WI ?_ ?_ <;> intro hb
 ·have hv : x7 a b = false := by unfold x7 qp; grind
  have hE := And.intro hE hv
  refine WS [4] [] ?_
  apply z9
  apply za
  refine EN ?_
  all_goals try trivial
  all_goals (unfold x7; grind)
 ·have hq : (a.By = b.By ∧ a.Seq = b.Seq ∧ a.Tick = b.Tick ∧ a.Kind = b.Kind ∧ qp a.ID b.ID = true ∧ a.N = b.N) ∧ a.Posts.length = b.Posts.length := by unfold qp; grind
  have hlen := hq.2
  apply z6
  apply z5
  apply z3
  refine WS [2, 3, 5] [2, 3] ?_
  apply z7
  refine WL (ι := {i : Nat // i ≤ a.Posts.length ∧ ∀ j, j < i → xg (a.Posts.getD j default) (b.Posts.getD j default) = true}) [2, 3] [2, 3] (fun ⟨i, hih⟩ => [(5, .dat (iD i))]) (fun ⟨i, hih⟩ => []) (fun ⟨i, hih⟩ => a.Posts.length - i) (⟨0, by omega, fun j h => absurd h (Nat.not_lt_zero j)⟩) ?_
  rintro ⟨i, hih⟩
  refine LA ?_
  obtain ⟨hi, hall⟩ := id hih
  apply z3
  refine WS [2, 3, 5, 59] [2, 3] ?_
  refine WI ?_ ?_ <;> intro hb
  ·apply z6
   apply z5
   apply z3
   apply z7
   apply w6 [2, 3, 5, 73] [2, 3] [0, 1, 2, 3, 4, 5, 6, 7, 8, 9, 10, 11] []
   ·rw [hP]; kernel_rfl
   ·exact hR
   ·kernel_rfl
   ·(repeat (apply PickL.cons; exact rfl)); exact PickL.nil _
   ·refine RN ?_
    refine CU (zrc G (a.Posts.getD i default) (b.Posts.getD i default) (by have := zt (p := fun p : PostM => p.Path.length ≤ 60000) (l := a.Posts) (fun p hp => (h.posts p hp).2.1) (i := i) (by omega); omega)) ?_
    exact SC
   refine WI ?_ ?_ <;> intro hb
   ·have hv : x7 a b = false := by
     have := v5 (f := xg) (a := a.Posts) (b := b.Posts) i (by omega) hlen (by grind)
     unfold x7; rw [this]; simp
    have hE := And.intro hE hv
    refine WS [4] [] ?_
    apply z9
    apply zf
    apply za
    apply zw
    apply zf
    apply za
    refine EN ?_
    all_goals try trivial
    all_goals (unfold x7; grind)
   ·have hok : xg (a.Posts.getD i default) (b.Posts.getD i default) = true := by grind
    apply z6
    apply ze
    apply z5
    refine WQ [2, 3, 5] [2, 3] ?_
    refine WN (⟨i + 1, by omega, xa hih.2 hok⟩)
  ·apply zj
   apply zd
   obtain rfl : i = a.Posts.length := by omega
   have hp : qf xg a.Posts b.Posts = true := xj hlen hall
   apply zb
   apply zn
   apply z5
   apply zm [4] []
   ·refine RN ?_
    refine CU (zlv G a.Refs b.Refs (by omega)) ?_
    refine CG (zf8 G a.Term b.Term (by omega)) ?_
    refine CG (zra G a.Op b.Op (z60 h.op)) ?_
    exact SC
   apply z9
   refine EN ?_
   all_goals try trivial
   all_goals (unfold x7; grind)
theorem zhw (G) (a b : List EventM) (ha : a.length ≤ 1000) (h : ∀ e ∈ a, OkEv e) : zl Tryz.prog G 16 [zz a, zz b] [bD (qf x7 a b)] := by
 skip
 refine GI [] [] [] Tryz.func16 Tryz.ntmps16 fun F hP hG hN hR hA => ?_
 have hE := @Tryz.results16
 refine WS [0, 1] [] ?_
 apply z3
 refine WS [0, 1, 10] [] ?_
 refine WI ?_ ?_ <;> intro hb
 ·have hv : qf x7 a b = false := v6 (by omega)
  have hE := And.intro hE hv
  refine WS [4] [] ?_
  apply z9
  apply za
  exact E0
 ·have hlen : a.length = b.length := by omega
  apply z6
  apply z5
  apply z3
  refine WS [0, 1, 5] [] ?_
  apply z7
  refine WL (ι := {i : Nat // i ≤ a.length ∧ ∀ j, j < i → x7 (a.getD j default) (b.getD j default) = true}) [0, 1] [] (fun ⟨i, hih⟩ => [(5, .dat (iD i))]) (fun ⟨i, hih⟩ => []) (fun ⟨i, hih⟩ => a.length - i) (⟨0, by omega, fun j h => absurd h (Nat.not_lt_zero j)⟩) ?_
  rintro ⟨i, hih⟩
  refine LA ?_
  obtain ⟨hi, hall⟩ := id hih
  apply z3
  refine WS [0, 1, 5, 14] [] ?_
  refine WI ?_ ?_ <;> intro hb
  ·apply z6
   apply z5
   apply z3
   apply z7
   apply w6 [0, 1, 5, 26] [] [0, 1, 2, 3, 4, 5, 6, 7, 8, 9] []
   ·rw [hP]; kernel_rfl
   ·exact hR
   ·kernel_rfl
   ·(repeat (apply PickL.cons; exact rfl)); exact PickL.nil _
   ·refine RN ?_
    refine CU (zjq G (a.getD i default) (b.getD i default) (zt h (by omega))) ?_
    exact SC
   refine WI ?_ ?_ <;> intro hb
   ·have hv : qf x7 a b = false := v5 i (by omega) hlen (by grind)
    have hE := And.intro hE hv
    refine WS [4] [] ?_
    apply z9
    apply zf
    apply za
    apply zw
    apply zf
    apply za
    exact E0
   ·have hok : x7 (a.getD i default) (b.getD i default) = true := by grind
    apply z6
    apply ze
    apply z5
    refine WQ [0, 1, 5] [] ?_
    refine WN (⟨i + 1, by omega, xa hih.2 hok⟩)
  ·apply zj
   apply zd
   obtain rfl : i = a.length := by omega
   have hv : qf x7 a b = true := xj hlen hall
   have hE := And.intro hE hv
   apply zb
   apply zn
   apply z5
   refine WS [4] [] ?_
   apply z9
   exact E0
theorem zgk (G) (a b : List PostM) (ha : a.length ≤ 1000) (hp : ∀ p ∈ a, p.Path.length ≤ 60000) : zl Tryz.prog G 136 [qs a, qs b, .fn 137 []] [bD (qf xg a b)] := by
 skip
 refine vq [] [] [] Tryz.func136 rfl (by rfl) (by simp [Tryz.ntmps136]) fun F hP hG hN hR => ?_
 rw [Tryz.ntmps136] at hN
 have hA := And.intro hN (And.intro hP (And.intro hG (And.intro hR.1 (And.intro hR.2.1 hR.2.2.1))))
 have hE := @Tryz.results136
 refine WS [0, 1, 2] [] ?_
 apply z3
 refine WS [0, 1, 2, 14] [] ?_
 refine WI ?_ ?_ <;> intro hb
 ·have hv : qf xg a b = false := v6 (by omega)
  have hE := And.intro hE hv
  refine WS [6] [] ?_
  apply z9
  apply za
  exact E0
 ·have hlen : a.length = b.length := by omega
  apply z6
  apply z5
  apply z3
  refine WS [1, 2, 15, 16, 17] [] ?_
  apply z7
  refine WL (ι := {i : Nat // i ≤ a.length ∧ ∀ j, j < i → xg (a.getD j default) (b.getD j default) = true}) [1, 2, 15, 16] [] (fun ⟨i, hih⟩ => [(17, .dat (iD i))]) (fun ⟨i, hih⟩ => []) (fun ⟨i, hih⟩ => a.length - i) (⟨0, by omega, fun j h => absurd h (Nat.not_lt_zero j)⟩) ?_
  rintro ⟨i, hih⟩
  refine LA ?_
  obtain ⟨hi, hall⟩ := id hih
  refine WS [1, 2, 15, 16, 17, 18] [] ?_
  apply z3
  refine WI ?_ ?_ <;> intro hb
  ·apply z6
   apply z5
   apply z3
   apply z7
   refine WS [1, 2, 7, 8, 15, 16, 17] [8] ?_
   refine WS [1, 2, 8, 9, 15, 16, 17] [8, 9] ?_
   have hc := gvF hP hG (zrp G (a.getD i default) (b.getD i default) (by have := zt (p := fun p : PostM => p.Path.length ≤ 60000) (l := a) hp (i := i) (by omega); omega))
   refine WSc [1, 2, 15, 16, 17, 30] [] ?_
   refine WI ?_ ?_ <;> intro hb
   ·have hv : qf xg a b = false := v5 i (by omega) hlen (by grind)
    have hE := And.intro hE hv
    refine WS [6] [] ?_
    apply z9
    apply zf
    apply za
    apply zw
    apply zf
    apply za
    exact E0
   ·have hok : xg (a.getD i default) (b.getD i default) = true := by grind
    apply z6
    apply ze
    apply z5
    refine WQ [1, 2, 15, 16, 17] [] ?_
    refine WN (⟨i + 1, by omega, xa hih.2 hok⟩)
  ·apply zj
   apply zd
   obtain rfl : i = a.length := by omega
   have hv : qf xg a b = true := xj hlen hall
   have hE := And.intro hE hv
   apply zb
   apply zn
   apply z5
   refine WS [6] [] ?_
   apply z9
   exact E0
set_option maxRecDepth 100000 in
set_option maxHeartbeats 2000000 in
theorem zog (G) (a b : EventM) (h : OkEv a) : zl Tryz.prog G 97 [zc a, zc b] [bD (x7 a b)] := by
 have hnr := h.nrefs
 have hnb := h.nbroader
 have hnp := h.nposts
 skip
 skip
 refine GI [] [] [] Tryz.func97 Tryz.ntmps97 fun F hP hG hN hR hA => ?_
 have hE := And.intro @Tryz.results97 (And.intro @zbj (@X7))
 refine WS [2, 3] [2, 3] ?_
 apply w6 [4] [] [0, 1, 2, 3, 4, 5, 6, 7, 8, 9, 10, 11, 12, 13, 14, 15, 16, 17, 18, 19, 20, 21, 22, 23, 24, 25, 26, 27, 28, 29, 30, 31, 32, 33, 34, 35, 36, 37, 38, 39, 40, 41, 42, 43, 44, 45, 46, 47, 48, 49, 50, 51, 52, 53, 54, 55, 56, 57, 58, 59, 60, 61] []
 ·rw [hP]; kernel_rfl
 ·exact hR
 ·kernel_rfl
 ·(repeat (apply PickL.cons; exact rfl)); exact PickL.nil _
 ·refine RN ?_
  refine CU (Xh G a) ?_
  refine CU (Xh G b) ?_
  refine CG (zmc G a.Refs b.Refs (by omega)) ?_
  refine CG (zgk G a.Posts b.Posts (by omega) (fun p hp => (h.posts p hp).2.1)) ?_
  refine CG (zfg G a.Term b.Term (by omega)) ?_
  refine CG (zrl G a.Op b.Op (z60 h.op)) ?_
  exact SC
 apply z9
 refine EN ?_
 all_goals try trivial
 all_goals (unfold x7 qp; congr 3; rw [Bool.eq_iff_iff]; simp only [Bool.and_eq_true, decide_eq_true_eq, beq_iff_eq, evName]; constructor <;> (intro h; simp only [h, and_self]))
theorem zyj : ∀ n : Nat, n < 32 → 0 < n → IntKind.u64.wrap ((BitVec.ofInt IntKind.u64.bits (IntKind.u64.wrap (-(n : Int))) &&& BitVec.ofInt IntKind.u64.bits 31).toNat : Int) = ((32 - n : Nat) : Int) := by decide
theorem zx7 (x : W32) (n : Nat) : x <<< (32 - n) ||| x >>> n = kx x n := BitVec.or_comm _ _
theorem z5y (G) (x : W32) (n : Nat) (h : 0 < n ∧ n < 32) : zl Tryz.prog G 172 [wD x, iD (-(n : Int))] [wD (kx x n)] := by
 have hs := zyj n h.2 h.1
 have hs2 : IntKind.u64.wrap (32 - ((32 - n : Nat) : Int)) = (n : Int) := by rw [IntWalk.u64_in _ (by omega)]; omega
 have h1 := znl x (32 - n) (by omega)
 have h2 := zg0 x n (by omega)
 have h3 := zx7 x n
 skip
 skip
 refine GI [] [] [] Tryz.func172 Tryz.ntmps172 fun F hP hG hN hR hA => ?_
 have hE := And.intro @Tryz.results172 (And.intro @hs (And.intro @hs2 (And.intro @Int.toNat_natCast (And.intro @h1 (And.intro @h2 (And.intro @zve (@h3)))))))
 refine WS [0, 1] [] ?_
 refine WS [0, 5] [] ?_
 refine WS [4] [] ?_
 apply z9
 exact E0
theorem zpz (G) (x : W32) (i j k : Nat) (hi : 0 < i ∧ i < 32) (hj : 0 < j ∧ j < 32) (hk : 0 < k ∧ k < 32) : zl Tryz.prog G 165 [wD x, iD (i : Int), iD (j : Int), iD (k : Int)] [wD (kx x i ^^^ kx x j ^^^ kx x k)] := by
 skip
 skip
 refine GI [] [] [] Tryz.func165 Tryz.ntmps165 fun F hP hG hN hR hA => ?_
 have hE := And.intro @Tryz.results165 (And.intro @zg1 (And.intro @Int.zero_sub (@IntWalk.i64_in)))
 refine WS [0, 1, 2, 3] [] ?_
 apply zm [8] []
 ·refine RN ?_
  refine CU (z5y G x i hi) ?_
  refine CU (z5y G x j hj) ?_
  refine CU (z5y G x k hk) ?_
  exact SC
 apply z9
 exact E0
theorem zc9 (G) (x : W32) (n : Nat) (c : Int) (hc : c = -(n : Int)) (h : 0 < n ∧ n < 32) : zl Tryz.prog G 172 [wD x, iD c] [wD (kx x n)] := by
 subst hc
 exact z5y G x n h
set_option maxRecDepth 100000 in
set_option maxHeartbeats 2000000 in
theorem zfc (G) (b : List Int) (hib : isB b) (hl : b.length = 64) : zl Tryz.prog G 164 [z3m b] [wsD (wq b 64)] := by
 skip
 skip
 refine GI [] [] [] Tryz.func164 Tryz.ntmps164 fun F hP hG hN hR hA => ?_
 have hE := And.intro @Tryz.results164 (And.intro @zx8 (And.intro @zh2 (And.intro @zvj (And.intro @zus (And.intro @Int.toNat_natCast (And.intro @zv5 (And.intro @zv4 (And.intro @zg1 (And.intro @zve (And.intro @znl (And.intro @zg0 (@znk))))))))))))
 apply zm [0, 2] [2]
 ·simp (maxSteps := 2000000) (disch := omega) only [wm, avA, zk, zo, seval, ↓List.forall_mem_cons, Op.operands, hA, tiA, hE, ↓zfq, -List.reduceReplicate]
  exact SC
 apply zm [0, 2, 3] [2, 3]
 ·simp (maxSteps := 2000000) (disch := omega) only [wm, avA, zk, zo, seval, ↓List.forall_mem_cons, Op.operands, hA, tiA, hE, ↓zfq, -List.reduceReplicate]
  exact SC
 apply z3
 refine WS [0, 2, 3, 11] [2, 3] ?_
 apply z7
 refine WL (ι := {t : Nat // t ≤ 64}) [0, 2, 3] [2] (fun ⟨t, ht⟩ => [(11, .dat (iD t))]) (fun ⟨t, ht⟩ => [(3, ⟨64, [.dat (wsD (z8x b t))]⟩)]) (fun ⟨t, ht⟩ => 64 - t) (⟨0, by omega⟩) ?_
 rintro ⟨t, ht⟩
 refine LA ?_
 refine WS [0, 2, 3, 11, 12] [2, 3] ?_
 apply z3
 refine WI ?_ ?_ <;> intro hb
 ·have ht4 : t < 64 := by omega
  have hE := And.intro hE (And.intro (zx9 b ht4) (And.intro (fun x => z81 b ht4 x) (And.intro (fun x => ldT b ht4 x) (stA b t))))
  apply z6
  apply z5
  apply z3
  apply z7
  refine WS [0, 2, 3, 4, 11] [2, 3] ?_
  apply z3
  refine WS [0, 2, 3, 4, 11, 15] [2, 3] ?_
  refine WI ?_ ?_ <;> intro hb
  ·have h4 : IntKind.i64.wrap (4 * (t : Int)) = ((4 * t : Nat) : Int) := by rw [IntWalk.i64_in _ (by omega)]; omega
   have h5 : IntKind.i64.wrap (((4 * t : Nat) : Int) + 4) = ((4 * t + 4 : Nat) : Int) := by rw [IntWalk.i64_in _ (by omega)]; omega
   have h6 : (List.drop (4 * t) (List.take (4 * t + 4) b)).length = 4 := by rw [List.length_drop, List.length_take]; omega
   have hn : z8x b (t + 1) = Xs b t (wordP b t 4) := by rw [zau b ht4, zv8, zeh, if_pos (by omega)]
   have hE := And.intro hE (And.intro h4 (And.intro h5 (And.intro h6 hn)))
   apply z3
   refine WS [0, 2, 3, 4, 11, 22, 23, 24] [2, 3] ?_
   apply z7
   refine WL (ι := {j : Nat // j ≤ 4}) [0, 2, 3, 4, 11, 22, 23] [2] (fun ⟨j, hj⟩ => [(24, .dat (iD j))]) (fun ⟨j, hj⟩ => [(3, ⟨64, [.dat (wsD (Xs b t (wordP b t j)))]⟩)]) (fun ⟨j, hj⟩ => 4 - j) (⟨0, by omega⟩) ?_
   rintro ⟨j, hj⟩
   refine LA ?_
   refine WS [0, 2, 3, 4, 11, 22, 23, 24, 25] [2, 3] ?_
   apply z3
   refine WI ?_ ?_ <;> intro hb
   ·have hm : (List.drop (4 * t) (List.take (4 * t + 4) b)).getD j default = b.getD (4 * t + j) default := by
     simp only [List.getD_eq_getElem?_getD, List.getElem?_drop, List.getElem?_take]
     rw [if_pos (by omega)]
    have hby := zsl hib (4 * t + j)
    have hE := And.intro hE (And.intro hm (And.intro hby (wordP.eq_2 b t j)))
    apply z6
    apply z5
    apply z3
    apply z7
    refine WS [0, 2, 3, 4, 6, 11, 22, 23, 24] [2, 3] ?_
    refine WQ [0, 2, 3, 4, 11, 22, 23, 24] [2, 3] ?_
    apply ze
    apply z5
    refine WQ [0, 2, 3, 4, 11, 22, 23, 24] [2, 3] ?_
    refine WN (⟨j + 1, by omega⟩)
   ·apply zj
    apply zd
    have hend : j = 4 := by omega
    subst hend
    apply zb
    apply zn
    apply z5
    apply zj
    apply zd
    apply zn
    apply z5
    refine WQ [0, 2, 3, 11] [2, 3] ?_
    refine WN (⟨t + 1, by omega⟩)
  ·have h15 : IntKind.i64.wrap ((t : Int) - 15) = ((t - 15 : Nat) : Int) := by rw [IntWalk.i64_in _ (by omega)]; omega
   have h2 : IntKind.i64.wrap ((t : Int) - 2) = ((t - 2 : Nat) : Int) := by rw [IntWalk.i64_in _ (by omega)]; omega
   have h16 : IntKind.i64.wrap ((t : Int) - 16) = ((t - 16 : Nat) : Int) := by rw [IntWalk.i64_in _ (by omega)]; omega
   have h7 : IntKind.i64.wrap ((t : Int) - 7) = ((t - 7 : Nat) : Int) := by rw [IntWalk.i64_in _ (by omega)]; omega
   have hn : z8x b (t + 1) = Xs b t (zeh b (wq b t) t) := zau b ht4
   have hv : zeh b (wq b t) t = (wq b t).getD (t - 16) 0#32 + sg0 ((wq b t).getD (t - 15) 0#32) + (wq b t).getD (t - 7) 0#32 + sg1 ((wq b t).getD (t - 2) 0#32) := if_neg (by omega)
   have hE := And.intro hE (And.intro h15 (And.intro h2 (And.intro h16 (And.intro h7 (And.intro hn (And.intro hv (And.intro (fun x => ldA b ht4 (show t - 15 < t by omega) x) (And.intro (fun x => ldA b ht4 (show t - 2 < t by omega) x) (And.intro (fun x => ldA b ht4 (show t - 16 < t by omega) x) (And.intro (fun x => ldA b ht4 (show t - 7 < t by omega) x) (And.intro sg0.eq_1 sg1.eq_1)))))))))))
   apply z6
   apply z5
   refine WD [0, 2, 3, 4, 7, 8, 11] [2, 3] [0, 1, 2, 3, 4, 5, 6, 7, 8, 9] [] ?_
   apply zm [0, 2, 3, 4, 8, 9, 11] [2, 3]
   ·refine RN ?_
    refine CU (zc9 G ((wq b t).getD (t - 15) 0#32) 7 (-7) rfl (by omega)) ?_
    refine CU (zc9 G ((wq b t).getD (t - 15) 0#32) 18 (-18) rfl (by omega)) ?_
    exact SC
   apply zm [0, 2, 3, 4, 9, 10, 11] [2, 3]
   ·refine RN ?_
    refine CU (zc9 G ((wq b t).getD (t - 2) 0#32) 17 (-17) rfl (by omega)) ?_
    refine CU (zc9 G ((wq b t).getD (t - 2) 0#32) 19 (-19) rfl (by omega)) ?_
    exact SC
   refine WDQ [0, 2, 3, 11] [2, 3] [0, 1, 2, 3, 4, 5, 6, 7, 8, 9, 10, 11, 12, 13, 14, 15] [] ?_
   apply ze
   apply z5
   refine WQ [0, 2, 3, 11] [2, 3] ?_
   refine WN (⟨t + 1, by omega⟩)
 ·apply zj
  apply zd
  have hend : t = 64 := by omega
  subst hend
  apply zb
  apply zn
  apply z5
  have hE := And.intro hE (And.intro (ye b 64) (And.intro zv9 (zh2 z64)))
  refine WS [2] [2] ?_
  apply z9
  exact E0
end Go.Proofs.YtkeopokhnfpgpaaGreatDoor

namespace Go.Proofs.YtkeopokhnfpgpaaGreatDoor
open Go.Av
end Go.Proofs.YtkeopokhnfpgpaaGreatDoor

namespace Go.Proofs.YtkeopokhnfpgpaaGreatDoor
open Go.Av
end Go.Proofs.YtkeopokhnfpgpaaGreatDoor

namespace Go.Proofs.YtkeopokhnfpgpaaGreatDoor
open Go.Av
def v4 (s : S8) : AV := .dat (.agg [wD s.a, wD s.b, wD s.c, wD s.d])
def e4 (s : S8) : AV := .dat (.agg [wD s.e, wD s.f, wD s.g, wD s.h])
def z4 : AV := .dat (.agg [.int .u32 0, .int .u32 0, .int .u32 0, .int .u32 0])
def cEv (s : S8) : List (Nat × Nat × AV) := [(0, 15, .isl 2 8 0 0 4 8), (1, 16, .ptr 2 8 0 0), (2, 17, v4 s), (3, 18, .isl 2 8 0 4 4 4), (4, 19, .ptr 2 8 0 4), (5, 20, e4 s), (6, 6, .ptr 6 4 0 0), (7, 7, .ptr 7 4 0 0)]
def cOv (s : S8) : List (Nat × Nat × AObj) := [(8, 6, ⟨4, [v4 s]⟩), (9, 7, ⟨4, [e4 s]⟩), (6, 6, ⟨4, [z4]⟩), (7, 7, ⟨4, [z4]⟩)]
theorem zz1 (G) (x : W32) : zl Tryz.prog G 165 [wD x, iD 6, iD 11, iD 25] [wD (bs1 x)] := zpz G x 6 11 25 (by omega) (by omega) (by omega)
theorem zz0 (G) (x : W32) : zl Tryz.prog G 165 [wD x, iD 2, iD 13, iD 22] [wD (bs0 x)] := zpz G x 2 13 22 (by omega) (by omega) (by omega)
set_option maxRecDepth 100000 in
set_option maxHeartbeats 1000000 in
theorem zd9 (G) (hgk : G.lookup 1 = some (wsD kH)) (s : S8) (b : List Int) (hib : isB b) (hl : b.length = 64) : zl Tryz.prog G 157 [s8D s, z3m b] [s8D (zvg s b)] := by
 skip
 skip
 refine GI [] [] [] Tryz.func157 Tryz.ntmps157 fun F hP hG hN hR hA => ?_
 have hE := And.intro @Tryz.results157 (And.intro @hgk (And.intro @zt7 (And.intro @zh2 (And.intro @zp8 (And.intro @ye (And.intro @zvj (And.intro @Int.toNat_natCast (And.intro @zg1 (And.intro @zw4 (And.intro @zw5 (@znk)))))))))))
 refine WS [1, 2, 4] [2, 4] ?_
 have hc := gvF hP hG (zfc G b hib hl)
 refine WSc [2, 4, 5] [2, 4, 5] ?_
 refine zsf [2, 4, 5, 6, 7] [2, 4, 5, 6, 7] (jD (cEv s) (cOv s)) (e := [(2, .ptr 2 8 0 0), (4, .ptr 4 8 0 0), (5, .ptr 5 64 0 0), (6, .ptr 6 4 0 0), (7, .ptr 7 4 0 0)]) (o := [(2, ⟨8, [.dat (s8D s)]⟩), (4, ⟨8, [.dat (.agg [.int .u32 0, .int .u32 0, .int .u32 0, .int .u32 0, .int .u32 0, .int .u32 0, .int .u32 0, .int .u32 0])]⟩), (5, ⟨64, [.dat (wsD (wq b 64))]⟩), (6, ⟨4, [.dat (.agg [wD s.a, wD s.b, wD s.c, wD s.d])]⟩), (7, ⟨4, [.dat (.agg [wD s.e, wD s.f, wD s.g, wD s.h])]⟩)]) (by rw [hP]; kernel_rfl) (by kernel_rfl) (by kernel_rfl) ?_ (fun D hD => ztn (by simp only [cEv, List.forall_mem_cons]; simp [hD]) (by simp only [cOv, List.forall_mem_cons]; simp [hD])) ⟨rfl, rfl⟩ ?_
 ·intro D i' o ho hD hdep hcd
  have fix6 := zby (id := 6) (e := [(2, .ptr 2 8 0 0), (4, .ptr 4 8 0 0), (5, .ptr 5 64 0 0)]) (o := [(2, ⟨8, [.dat (s8D s)]⟩), (4, ⟨8, [.dat (.agg [.int .u32 0, .int .u32 0, .int .u32 0, .int .u32 0, .int .u32 0, .int .u32 0, .int .u32 0, .int .u32 0])]⟩), (5, ⟨64, [.dat (wsD (wq b 64))]⟩)]) (by simp [AV.kill]) (by simp [AV.kill])
  have fix7 := zby (id := 7) (e := [(2, .ptr 2 8 0 0), (4, .ptr 4 8 0 0), (5, .ptr 5 64 0 0)]) (o := [(2, ⟨8, [.dat (s8D s)]⟩), (4, ⟨8, [.dat (.agg [.int .u32 0, .int .u32 0, .int .u32 0, .int .u32 0, .int .u32 0, .int .u32 0, .int .u32 0, .int .u32 0])]⟩), (5, ⟨64, [.dat (wsD (wq b 64))]⟩)]) (by simp [AV.kill]) (by simp [AV.kill])
  generalize hst : ASt.of _ _ = st0 at fix6 fix7 ⊢
  have s2 : st0.env 2 = .ptr 2 8 0 0 := by rw [← hst]; rfl
  have o2 : st0.objs 2 = some ⟨8, [.dat (s8D s)]⟩ := by rw [← hst]; rfl
  clear hst
  have hi10 : i' < 10 := (List.getElem?_eq_some_iff.1 ho).1
  have hcs : i' = 0 ∨ i' = 1 ∨ i' = 2 ∨ i' = 3 ∨ i' = 4 ∨ i' = 5 ∨ i' = 6 ∨ i' = 7 ∨ i' = 8 ∨ i' = 9 := by omega
  rcases hcs with rfl | rfl | rfl | rfl | rfl | rfl | rfl | rfl | rfl | rfl
  ·simp only [List.getElem?_cons_zero, List.getElem?_cons_succ, Option.some.injEq] at ho
   subst ho
   have f0 : (jD (cEv s) (cOv s) st0 D).env 2 = .ptr 2 8 0 0 := (z6y (by simp [cEv])).trans s2
   rw [← z49 (i := 0) (d := 15) (v := .isl 2 8 0 0 4 8) (by simp [cEv]) (by simp [cEv]) (by simp [cEv]) (by simp [cOv])]
   generalize jD (cEv s) (cOv s) st0 D = st1 at *
   refine j1 (ops := #[]) rfl ?_
   simp (maxSteps := 2000000) (disch := omega) only [wm, avA, zk, zo, seval, ↓List.forall_mem_cons, Op.operands, hA, tiA, hE, f0]
   all_goals exact SC
  ·simp only [List.getElem?_cons_zero, List.getElem?_cons_succ, Option.some.injEq] at ho
   subst ho
   have f0 : (jD (cEv s) (cOv s) st0 D).env 15 = .isl 2 8 0 0 4 8 := y9 (i := 0) (hdep ⟨0, .data⟩ (by simp) rfl) (by simp [cEv]) (by simp [cEv])
   rw [← z49 (i := 1) (d := 16) (v := .ptr 2 8 0 0) (by simp [cEv]) (by simp [cEv]) (by simp [cEv]) (by simp [cOv])]
   generalize jD (cEv s) (cOv s) st0 D = st1 at *
   refine j1 (ops := #[]) rfl ?_
   simp (maxSteps := 2000000) (disch := omega) only [wm, avA, zk, zo, seval, ↓List.forall_mem_cons, Op.operands, hA, tiA, hE, f0]
   all_goals exact SC
  ·simp only [List.getElem?_cons_zero, List.getElem?_cons_succ, Option.some.injEq] at ho
   subst ho
   have f0 : (jD (cEv s) (cOv s) st0 D).env 16 = .ptr 2 8 0 0 := y9 (i := 1) (hdep ⟨1, .data⟩ (by simp) rfl) (by simp [cEv]) (by simp [cEv])
   have f1 : (jD (cEv s) (cOv s) st0 D).objs 2 = some ⟨8, [.dat (s8D s)]⟩ := (z6z (by simp [cOv])).trans o2
   have f2 := v4.eq_1 s
   rw [← z49 (i := 2) (d := 17) (v := v4 s) (by simp [cEv]) (by simp [cEv]) (by simp [cEv]) (by simp [cOv])]
   generalize jD (cEv s) (cOv s) st0 D = st1 at *
   refine j1 (ops := #[]) rfl ?_
   simp (maxSteps := 2000000) (disch := omega) only [wm, avA, zk, zo, seval, ↓List.forall_mem_cons, Op.operands, hA, tiA, hE, f0, f1, f2]
   all_goals exact SC
  ·simp only [List.getElem?_cons_zero, List.getElem?_cons_succ, Option.some.injEq] at ho
   subst ho
   have f0 : (jD (cEv s) (cOv s) st0 D).env 2 = .ptr 2 8 0 0 := (z6y (by simp [cEv])).trans s2
   rw [← z49 (i := 3) (d := 18) (v := .isl 2 8 0 4 4 4) (by simp [cEv]) (by simp [cEv]) (by simp [cEv]) (by simp [cOv])]
   generalize jD (cEv s) (cOv s) st0 D = st1 at *
   refine j1 (ops := #[]) rfl ?_
   simp (maxSteps := 2000000) (disch := omega) only [wm, avA, zk, zo, seval, ↓List.forall_mem_cons, Op.operands, hA, tiA, hE, f0]
   all_goals exact SC
  ·simp only [List.getElem?_cons_zero, List.getElem?_cons_succ, Option.some.injEq] at ho
   subst ho
   have f0 : (jD (cEv s) (cOv s) st0 D).env 18 = .isl 2 8 0 4 4 4 := y9 (i := 3) (hdep ⟨3, .data⟩ (by simp) rfl) (by simp [cEv]) (by simp [cEv])
   rw [← z49 (i := 4) (d := 19) (v := .ptr 2 8 0 4) (by simp [cEv]) (by simp [cEv]) (by simp [cEv]) (by simp [cOv])]
   generalize jD (cEv s) (cOv s) st0 D = st1 at *
   refine j1 (ops := #[]) rfl ?_
   simp (maxSteps := 2000000) (disch := omega) only [wm, avA, zk, zo, seval, ↓List.forall_mem_cons, Op.operands, hA, tiA, hE, f0]
   all_goals exact SC
  ·simp only [List.getElem?_cons_zero, List.getElem?_cons_succ, Option.some.injEq] at ho
   subst ho
   have f0 : (jD (cEv s) (cOv s) st0 D).env 19 = .ptr 2 8 0 4 := y9 (i := 4) (hdep ⟨4, .data⟩ (by simp) rfl) (by simp [cEv]) (by simp [cEv])
   have f1 : (jD (cEv s) (cOv s) st0 D).objs 2 = some ⟨8, [.dat (s8D s)]⟩ := (z6z (by simp [cOv])).trans o2
   have f2 := e4.eq_1 s
   rw [← z49 (i := 5) (d := 20) (v := e4 s) (by simp [cEv]) (by simp [cEv]) (by simp [cEv]) (by simp [cOv])]
   generalize jD (cEv s) (cOv s) st0 D = st1 at *
   refine j1 (ops := #[]) rfl ?_
   simp (maxSteps := 2000000) (disch := omega) only [wm, avA, zk, zo, seval, ↓List.forall_mem_cons, Op.operands, hA, tiA, hE, f0, f1, f2]
   all_goals exact SC
  ·simp only [List.getElem?_cons_zero, List.getElem?_cons_succ, Option.some.injEq] at ho
   subst ho
   have d8 : D 8 = false := by
    cases h8 : D 8
    ·rfl
    ·have := hcd 8 _ rfl h8 ⟨6, .data⟩ (by simp) rfl
     rw [hD] at this; cases this
   rw [← zj5 (i := 6) (d := 6) (id := 6) (v := .ptr 6 4 0 0) (o := ⟨4, [z4]⟩) (by simp [cEv]) (by simp [cEv]) (by simp [cEv]) (by simp [cOv, z57, d8])]
   rw [← z2w (zgz fix6 (by simp [cEv, v4, e4, AV.kill, hD]) (by simp [cOv, v4, e4, z4, AV.kill]))]
   exact z61 (i := { size := 4, bytes := 16, zero := some [.dat (.int .u32 0), .dat (.int .u32 0), .dat (.int .u32 0), .dat (.int .u32 0)], tk := .array 4 174 }) (z := z4) rfl rfl (by rw [hN]; omega) (by rw [hP]; exact ti209) rfl rfl rfl
  ·simp only [List.getElem?_cons_zero, List.getElem?_cons_succ, Option.some.injEq] at ho
   subst ho
   have d8 : D 9 = false := by
    cases h8 : D 9
    ·rfl
    ·have := hcd 9 _ rfl h8 ⟨7, .data⟩ (by simp) rfl
     rw [hD] at this; cases this
   rw [← zj5 (i := 7) (d := 7) (id := 7) (v := .ptr 7 4 0 0) (o := ⟨4, [z4]⟩) (by simp [cEv]) (by simp [cEv]) (by simp [cEv]) (by simp [cOv, z57, d8])]
   rw [← z2w (zgz fix7 (by simp [cEv, v4, e4, AV.kill, hD]) (by simp [cOv, v4, e4, z4, AV.kill]))]
   exact z61 (i := { size := 4, bytes := 16, zero := some [.dat (.int .u32 0), .dat (.int .u32 0), .dat (.int .u32 0), .dat (.int .u32 0)], tk := .array 4 174 }) (z := z4) rfl rfl (by rw [hN]; omega) (by rw [hP]; exact ti209) rfl rfl rfl
  ·simp only [List.getElem?_cons_zero, List.getElem?_cons_succ, Option.some.injEq] at ho
   have ho2 := ho
   subst ho
   have da := hdep ⟨6, .data⟩ (by simp) rfl
   have fa : (jD (cEv s) (cOv s) st0 D).env 6 = .ptr 6 4 0 0 := y9 (i := 6) da (by simp [cEv]) (by simp [cEv])
   have fv : (jD (cEv s) (cOv s) st0 D).env 17 = v4 s := y9 (i := 2) (hdep ⟨2, .data⟩ (by simp) rfl) (by simp [cEv]) (by simp [cEv])
   have fo : (jD (cEv s) (cOv s) st0 D).objs 6 = some ⟨4, [z4]⟩ := by simp [jD, cOv, z2a, hD, da]
   rw [← zp6 (i := 8) (id := 6) (o := ⟨4, [v4 s]⟩) (by simp [cOv, z57]) (by simp [cEv])]
   have he : evA (jD (cEv s) (cOv s) st0 D).env (.tmp 17) = v4 s := fv
   have e : (⟨4, [v4 s]⟩ : AObj) = ⟨4, [z4].set 0 (storeW (evA (jD (cEv s) (cOv s) st0 D).env (.tmp 17)) 0 (([z4][0]?).getD .junk))⟩ := by rw [he]; rfl
   rw [e]
   exact z84 (ob := ⟨4, [z4]⟩) rfl rfl (by rw [hP]; exact ti209) fa fo rfl (by simp) (by rw [he]; rfl) (by rw [he]; rfl) (by simp [z4, AV.cells])
  ·simp only [List.getElem?_cons_zero, List.getElem?_cons_succ, Option.some.injEq] at ho
   have ho2 := ho
   subst ho
   have da := hdep ⟨7, .data⟩ (by simp) rfl
   have fa : (jD (cEv s) (cOv s) st0 D).env 7 = .ptr 7 4 0 0 := y9 (i := 7) da (by simp [cEv]) (by simp [cEv])
   have fv : (jD (cEv s) (cOv s) st0 D).env 20 = e4 s := y9 (i := 5) (hdep ⟨5, .data⟩ (by simp) rfl) (by simp [cEv]) (by simp [cEv])
   have fo : (jD (cEv s) (cOv s) st0 D).objs 7 = some ⟨4, [z4]⟩ := by simp [jD, cOv, z2a, hD, da]
   rw [← zp6 (i := 9) (id := 7) (o := ⟨4, [e4 s]⟩) (by simp [cOv, z57]) (by simp [cEv])]
   have he : evA (jD (cEv s) (cOv s) st0 D).env (.tmp 20) = e4 s := fv
   have e : (⟨4, [e4 s]⟩ : AObj) = ⟨4, [z4].set 0 (storeW (evA (jD (cEv s) (cOv s) st0 D).env (.tmp 20)) 0 (([z4][0]?).getD .junk))⟩ := by rw [he]; rfl
   rw [e]
   exact z84 (ob := ⟨4, [z4]⟩) rfl rfl (by rw [hP]; exact ti209) fa fo rfl (by simp) (by rw [he]; rfl) (by rw [he]; rfl) (by simp [z4, AV.cells])
 apply z3
 refine WS [2, 4, 5, 6, 7, 21, 22] [2, 4, 5, 6, 7] ?_
 apply z7
 refine WL (ι := {t : Nat // t ≤ 64}) [2, 4, 5, 6, 7, 21] [2, 4, 5] (fun ⟨t, ht⟩ => [(22, .dat (iD t))]) (fun ⟨t, ht⟩ => [(6, ⟨4, [.dat (.agg [wD (roundsM (wq b 64) s t).a, wD (roundsM (wq b 64) s t).b, wD (roundsM (wq b 64) s t).c, wD (roundsM (wq b 64) s t).d])]⟩), (7, ⟨4, [.dat (.agg [wD (roundsM (wq b 64) s t).e, wD (roundsM (wq b 64) s t).f, wD (roundsM (wq b 64) s t).g, wD (roundsM (wq b 64) s t).h])]⟩)]) (fun ⟨t, ht⟩ => 64 - t) (⟨0, by omega⟩) ?_
 rintro ⟨t, ht⟩
 refine LA ?_
 refine WS [2, 4, 5, 6, 7, 21, 22, 23] [2, 4, 5, 6, 7] ?_
 apply z3
 refine WI ?_ ?_ <;> intro hb
 ·have hk := z0g kH t (by rw [zp8]; omega)
  have hw := z0g (wq b 64) t (by rw [ye]; omega)
  have hE := And.intro hE (And.intro hk (And.intro hw (And.intro (roundsM.eq_2 (wq b 64) s t) (And.intro zz3 (And.intro zz4 (And.intro zz5 (And.intro zz6 (And.intro zz7 (And.intro zz8 (And.intro zz9 (And.intro zza (And.intro xM.eq_1 yM.eq_1))))))))))))
  apply z6
  apply z5
  apply z3
  apply z7
  refine WS [2, 4, 5, 6, 7, 8, 9, 21, 22] [2, 4, 5, 6, 7] ?_
  apply w6 [2, 4, 5, 6, 7, 10, 21, 22] [2, 4, 5, 6, 7] [0, 1, 2, 3, 4, 5, 6, 7, 8, 9, 10, 11, 12, 13, 14, 15, 16, 17, 18, 19, 20, 21, 22, 23, 24, 25] []
  ·rw [hP]; kernel_rfl
  ·exact hR
  ·kernel_rfl
  ·(repeat (apply PickL.cons; exact rfl)); exact PickL.nil _
  ·refine RN ?_
   refine CU (zz1 G _) ?_
   exact SC
  apply w6 [2, 4, 5, 6, 7, 10, 11, 21, 22] [2, 4, 5, 6, 7] [0, 1, 2, 3, 4, 5, 6, 7, 8, 9, 10, 11, 12, 13, 14, 15, 16, 17, 18, 19, 20, 21] []
  ·rw [hP]; kernel_rfl
  ·exact hR
  ·kernel_rfl
  ·(repeat (apply PickL.cons; exact rfl)); exact PickL.nil _
  ·refine RN ?_
   refine CU (zz0 G _) ?_
   exact SC
  refine WS [2, 4, 5, 6, 7, 10, 11, 21, 22] [2, 4, 5, 6, 7] ?_
  refine WQ [2, 4, 5, 6, 7, 21, 22] [2, 4, 5, 6, 7] ?_
  apply ze
  apply z5
  refine WQ [2, 4, 5, 6, 7, 21, 22] [2, 4, 5, 6, 7] ?_
  refine WN (⟨t + 1, by omega⟩)
 ·apply zj
  apply zd
  have hend : t = 64 := by omega
  subst hend
  apply zb
  apply zn
  apply z5
  apply z3
  have hE := And.intro hE (And.intro (fun i => Zf s (roundsM (wq b 64) s 64) i) (And.intro (show (vL (roundsM (wq b 64) s 64)).length = 4 from rfl) (And.intro (show (eL (roundsM (wq b 64) s 64)).length = 4 from rfl) (@List.length_set W32))))
  rw [zzb, zzd, zyw]
  refine WS [2, 4, 6, 7, 94] [2, 4, 6, 7] ?_
  apply z7
  refine WL (ι := {i : Nat // i ≤ 4}) [2, 4, 6, 7] [4, 6, 7] (fun ⟨i, hi⟩ => [(94, .dat (iD i))]) (fun ⟨i, hi⟩ => [(2, ⟨8, [.dat (wsD (addL s (roundsM (wq b 64) s 64) i))]⟩)]) (fun ⟨i, hi⟩ => 4 - i) (⟨0, by omega⟩) ?_
  rintro ⟨i, hi⟩
  refine LA ?_
  refine WS [2, 4, 6, 7, 94, 95] [2, 4, 6, 7] ?_
  apply z3
  refine WI ?_ ?_ <;> intro hb
  ·have h4 : IntKind.i64.wrap ((i : Int) + 4) = ((i + 4 : Nat) : Int) := by rw [IntWalk.i64_in _ (by omega)]; omega
   have g1 := z0g (addL s (roundsM (wq b 64) s 64) i) i (by rw [Zf]; omega)
   have g2 := z0g (vL (roundsM (wq b 64) s 64)) i (by show i < 4; omega)
   have g3 := z0g (eL (roundsM (wq b 64) s 64)) i (by show i < 4; omega)
   have g4 := fun y => z0g ((addL s (roundsM (wq b 64) s 64) i).set i y) (i + 4) (by rw [List.length_set, Zf]; omega)
   have t1 := zri (addL s (roundsM (wq b 64) s 64) i) i (by rw [Zf]; omega)
   have t2 := fun y => zri ((addL s (roundsM (wq b 64) s 64) i).set i y) (i + 4) (by rw [List.length_set, Zf]; omega)
   have hE := And.intro hE (And.intro h4 (And.intro g1 (And.intro g2 (And.intro g3 (And.intro g4 (And.intro t1 (And.intro t2 (addL.eq_2 s (roundsM (wq b 64) s 64) i))))))))
   apply z6
   apply z5
   apply z3
   apply z7
   refine WS [2, 4, 6, 7, 12, 94] [2, 4, 6, 7] ?_
   refine WD [2, 4, 6, 7, 12, 94] [2, 4, 6, 7] [0, 1, 2, 3, 4, 5, 6, 7, 8] [] ?_
   refine WDQ [2, 4, 6, 7, 94] [2, 4, 6, 7] [0, 1, 2, 3, 4, 5, 6, 7, 8, 9] [] ?_
   apply ze
   apply z5
   refine WQ [2, 4, 6, 7, 94] [2, 4, 6, 7] ?_
   refine WN (⟨i + 1, by omega⟩)
  ·apply zj
   apply zd
   have hend : i = 4 := by omega
   subst hend
   apply zb
   apply zn
   apply z5
   rw [zvt]
   refine WS [4] [4] ?_
   apply z9
   exact E0
end Go.Proofs.YtkeopokhnfpgpaaGreatDoor

