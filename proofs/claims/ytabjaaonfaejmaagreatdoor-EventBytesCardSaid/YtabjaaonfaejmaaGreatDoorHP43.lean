/- A part of the proof. -/
import Derived.Test.YtabjaaonfaejmaaGreatDoorHAv42
import Derived.IntWalk
import Derived.Test.YtabjaaonfaejmaaGreatDoorHAv52
import Derived.Test.YtabjaaonfaejmaaGreatDoorHAv50
import Derived.Test.YtabjaaonfaejmaaGreatDoorRows
import Derived.WalkKit
import Derived.ProofKit
import Derived.OpenShut
import Derived.WideKeyArgs
import Derived.Deep.DeepHandedRow
import Derived.Lib.LaidTab
import Derived.Test.YtabjaaonfaejmaaGreatDoorCards
import Derived.Test.YtabjaaonfaejmaaGreatDoorTie
import Derived.Stop.LaidErr
import Derived.ChangeMaps5
import Derived.KernelRfl
import Derived.Test.YtabjaaonfaejmaaGreatDoorHP1
import Derived.Test.YtabjaaonfaejmaaGreatDoorHAv51
import Derived.Test.YtabjaaonfaejmaaGreatDoorHAv43
import Derived.Test.YtabjaaonfaejmaaGreatDoorHAv44
import Derived.Test.YtabjaaonfaejmaaGreatDoorHP42
import Derived.Test.YtabjaaonfaejmaaGreatDoorChecked
import Derived.Lib.Strings
import Derived.Lib.Slices
import Derived.Lib.Walk
import Derived.Lib.Bytealg
import Derived.Lib.IndexLaws
import Derived.Test.YtabjaaonfaejmaaGreatDoorHAv45
set_option linter.all false
namespace Go.Proofs.YtabjaaonfaejmaaGreatDoor
open Go.Av
structure NameM where
 By : Int
 Seq : Int
 deriving DecidableEq, Inhabited
structure IdM where
 By : Int
 Seq : Int
 K : Int
 deriving DecidableEq, Inhabited
structure SpotM where
 Volume : Int
 Article : Int
 Index : Int
 deriving DecidableEq, Inhabited
structure OpM where
 Kind : Int
 At : IdM
 To : IdM
 Spot : SpotM
 N : Int
 Form : Int
 Lang : Int
 Text : ByteArray
 Texts : List ByteArray
 Pairs : List (Int × Int)
 Refs : List IdM
 deriving Inhabited
structure TermM where
 Name : ByteArray
 Kind : Int
 Lang : Int
 See : ByteArray
 Broader : List ByteArray
 deriving Inhabited
structure PostM where
 ID : IdM
 Path : List ByteArray
 Main : Bool
 deriving Inhabited
structure EventM where
 By : Int
 Seq : Int
 Tick : Int
 Kind : Int
 Refs : List NameM
 Op : OpM
 Term : TermM
 ID : IdM
 Posts : List PostM
 N : Int
 deriving Inhabited
abbrev bD (b : Bool) : Dat := .bool b
abbrev sD (s : ByteArray) : Dat := .str s
abbrev ssD (l : List ByteArray) : Dat := .sl (l.map .str)
abbrev u8D (n : Int) : Dat := .int .u8 n
abbrev wm (l : List Int) : Dat := .sl (l.map u8D)
abbrev vb (n : NameM) : Dat := .agg [iD n.By, iD n.Seq]
abbrev x9 (l : List NameM) : Dat := .sl (l.map vb)
abbrev idD (i : IdM) : Dat := .agg [iD i.By, iD i.Seq, iD i.K]
abbrev zr4 (l : List IdM) : Dat := .sl (l.map idD)
abbrev Xw (p : Int × Int) : Dat := .agg [iD p.1, iD p.2]
abbrev z2c (l : List (Int × Int)) : Dat := .sl (l.map Xw)
abbrev opD (o : OpM) : Dat := .agg [iD o.Kind, iD o.At.By, iD o.At.Seq, iD o.At.K, iD o.To.By, iD o.To.Seq, iD o.To.K, iD o.Spot.Volume, iD o.Spot.Article, iD o.Spot.Index, iD o.N, iD o.Form, iD o.Lang, sD o.Text, ssD o.Texts, z2c o.Pairs, zr4 o.Refs]
abbrev zi7 (t : TermM) : Dat := .agg [sD t.Name, iD t.Kind, iD t.Lang, sD t.See, ssD t.Broader]
abbrev zae (p : PostM) : Dat := .agg [iD p.ID.By, iD p.ID.Seq, iD p.ID.K, ssD p.Path, bD p.Main]
abbrev xf (l : List PostM) : Dat := .sl (l.map zae)
abbrev zr (e : EventM) : Dat := .agg [iD e.By, iD e.Seq, iD e.Tick, iD e.Kind, x9 e.Refs,
 iD e.Op.Kind, iD e.Op.At.By, iD e.Op.At.Seq, iD e.Op.At.K, iD e.Op.To.By, iD e.Op.To.Seq, iD e.Op.To.K, iD e.Op.Spot.Volume, iD e.Op.Spot.Article, iD e.Op.Spot.Index, iD e.Op.N, iD e.Op.Form, iD e.Op.Lang, sD e.Op.Text, ssD e.Op.Texts, z2c e.Op.Pairs, zr4 e.Op.Refs,
 sD e.Term.Name, iD e.Term.Kind, iD e.Term.Lang, sD e.Term.See, ssD e.Term.Broader, iD e.ID.By, iD e.ID.Seq, iD e.ID.K, xf e.Posts, iD e.N]
abbrev yz (l : List EventM) : Dat := .sl (l.map zr)
theorem x4 {α : Type} [Inhabited α] {p : α → Prop} {l : List α} (h : ∀ x ∈ l, p x) {i : Nat} (hi : i < l.length) : p (l.getD i default) := by
 rw [List.getD_eq_getElem?_getD, List.getElem?_eq_getElem hi]
 exact h _ (List.getElem_mem hi)
def wc (n m : Int) : Int := (if n < 0 then -(n + 1) else n).tmod m
theorem xj {n m : Int} (hm : 0 < m) : 0 ≤ wc n m ∧ wc n m < m := by
 unfold wc
 have h : 0 ≤ (if n < 0 then -(n + 1) else n) := by split <;> omega
 exact ⟨Int.tmod_nonneg _ h, Int.tmod_lt_of_pos _ hm⟩
def atM (l : List Int) (i m : Int) : Int := if i < 0 ∨ (l.length : Int) ≤ i then 0 else wc (l.getD i.toNat default) m
theorem wk {l : List Int} {i m : Int} (hm : 0 < m) : 0 ≤ atM l i m ∧ atM l i m < m := by
 unfold atM
 split
 ·omega
 ·exact xj hm
def Zx (n : NameM) : Bool := decide (0 ≤ n.By) && decide (n.By < 6) && decide (0 ≤ n.Seq) && decide (n.Seq ≤ 63)
def z3v (a b : NameM) : Bool := if a.By ≠ b.By then decide (a.By < b.By) else decide (a.Seq < b.Seq)
def we (n m : Int) : Bool := decide (0 ≤ n) && decide (n ≤ m)
def evName (e : EventM) : NameM := ⟨e.By, e.Seq⟩
def yx (a b : EventM) : Bool := if a.Tick ≠ b.Tick then decide (a.Tick < b.Tick) else z3v (evName a) (evName b)
def x5 {α : Type} (f : α → α → Bool) : List α → List α → Bool
 | [], [] => true
 | x :: a, y :: b => f x y && x5 f a b
 | _, _ => false
theorem yr {α : Type} {f : α → α → Bool} : ∀ {a b : List α}, a.length ≠ b.length → x5 f a b = false
 | [], [], h => absurd rfl h
 | x :: a, y :: b, h => by
  have := yr (f := f) (a := a) (b := b) (by simpa using h)
  simp [x5, this]
 | [], _ :: _, _ => rfl
 | _ :: _, [], _ => rfl
theorem jc {α : Type} [Inhabited α] {f : α → α → Bool} : ∀ {a b : List α} (i : Nat), i < a.length → a.length = b.length → f (a.getD i default) (b.getD i default) = false → x5 f a b = false
 | [], _, _, h, _, _ => by simp at h
 | _ :: _, [], _, _, h, _ => by simp at h
 | x :: a, y :: b, 0, _, _, h => by simp at h; simp [x5, h]
 | x :: a, y :: b, i + 1, h1, h2, h => by
  have := jc (f := f) (a := a) (b := b) i (by simpa using h1) (by simpa using h2) (by simpa using h)
  simp [x5, this]
theorem jb {α : Type} [Inhabited α] {f : α → α → Bool} : ∀ {a b : List α}, a.length = b.length → (∀ i, i < a.length → f (a.getD i default) (b.getD i default) = true) → x5 f a b = true
 | [], [], _, _ => rfl
 | [], _ :: _, h, _ => by simp at h
 | _ :: _, [], h, _ => by simp at h
 | x :: a, y :: b, hl, h => by
  have h0 := h 0 (by simp)
  have h1 := jb (f := f) (a := a) (b := b) (by simpa using hl) fun i hi => by simpa using h (i + 1) (by simpa using hi)
  simp at h0
  simp [x5, h0, h1]
theorem vx {p : Nat → Prop} {i : Nat} (h : ∀ j, j < i → p j) (hi : p i) : ∀ j, j < i + 1 → p j := fun j hj => by
 rcases Nat.lt_or_eq_of_le (Nat.lt_succ_iff.1 hj) with h1 | h1
 ·exact h j h1
 ·exact h1 ▸ hi
def wh (a b : NameM) : Bool := a.By == b.By && a.Seq == b.Seq
def xg (a b : IdM) : Bool := a.By == b.By && a.Seq == b.Seq && a.K == b.K
def z2q (a b : SpotM) : Bool := a.Volume == b.Volume && a.Article == b.Article && a.Index == b.Index
def w6 (a b : ByteArray) : Bool := decide (a = b)
theorem z5r {a b : ByteArray} (h : a.toList = b.toList) : a = b := by
 rw [ByteArray.toList_eq, ByteArray.toList_eq] at h
 cases a; cases b
 simp only at h
 congr
 exact Array.ext' h
theorem z1k (a b : ByteArray) : (a.toList == b.toList) = w6 a b := by
 unfold w6
 by_cases h : a = b
 ·subst h; simp
 ·have : a.toList ≠ b.toList := fun e => h (z5r e)
  simp [h, this]
def Qr (t u : TermM) : Bool := w6 t.Name u.Name && t.Kind == u.Kind && t.Lang == u.Lang && w6 t.See u.See && x5 w6 t.Broader u.Broader
def ju (p q : PostM) : Bool := xg p.ID q.ID && p.Main == q.Main && x5 w6 p.Path q.Path
def wy (x y : Int × Int) : Bool := x.1 == y.1 && x.2 == y.2
def Z1 (o p : OpM) : Bool := o.Kind == p.Kind && xg o.At p.At && xg o.To p.To && z2q o.Spot p.Spot && o.N == p.N && o.Form == p.Form && o.Lang == p.Lang && w6 o.Text p.Text &&
 x5 w6 o.Texts p.Texts && x5 wy o.Pairs p.Pairs && x5 xg o.Refs p.Refs
structure UsesM where
 op : Bool := false
 term : Bool := false
 id : Bool := false
 posts : Bool := false
 n : Bool := false
abbrev zzu (u : UsesM) : Dat := .agg [bD u.op, bD u.term, bD u.id, bD u.posts, bD u.n]
def ofM (k : Int) : UsesM := if k = 0 then { op := true } else if k = 2 then { term := true } else if k = 3 ∨ k = 4 then { id := true, posts := true } else if k = 5 ∨ k = 6 then { id := true, n := true } else {}
def wordsL : List ByteArray := [⟨#[97, 110, 110, 97]⟩, ⟨#[114, 111, 109, 101]⟩, ⟨#[107, 105, 110, 103]⟩, ⟨#[107, 105, 110, 103, 32, 97, 110, 110, 97]⟩, ⟨#[111, 100, 101]⟩, ⟨#[108, 121, 114, 101, 32, 111, 102, 32, 114, 111, 109, 101]⟩, ⟨#[120, 32, 49, 50]⟩, ⟨#[116, 104, 101, 32, 101, 110, 100, 46]⟩]
def wordM (n : Int) : ByteArray := wordsL.getD (wc n 8).toNat default
def idM (n : Int) : IdM := ⟨n.tmod 4, (n.tdiv 4).tmod 8, (n.tdiv 32).tmod 3⟩
def k8 (l : List Int) (at_ : Int) (i : Nat) : List ByteArray := (List.range i).map fun (j : Nat) => wordM (atM l (at_ + (j : Int)) 64)
def z87 {α : Type} (p : α → Bool) (l : List α) : Int := if l.findIdx p < l.length then (l.findIdx p : Int) else -1
theorem znj {α : Type} [Inhabited α] {p : α → Bool} {l : List α} {i : Nat} (hi : i < l.length) (h : p (l.getD i default) = true) (hn : ∀ j, j < i → p (l.getD j default) = false) : z87 p l = i := by
 have e : ∀ j (h : j < l.length), l.getD j default = l[j] := fun j h => by rw [List.getD_eq_getElem?_getD, List.getElem?_eq_getElem h]; rfl
 have : l.findIdx p = i := (List.findIdx_eq hi).2 ⟨by rw [← e i hi]; exact h, fun j hj => by rw [← e j (by omega)]; simpa using hn j hj⟩
 unfold z87
 rw [this, if_pos hi]
theorem zni {α : Type} [Inhabited α] {p : α → Bool} {l : List α} (hn : ∀ j, j < l.length → p (l.getD j default) = false) : z87 p l = -1 := by
 have e : ∀ j (h : j < l.length), l.getD j default = l[j] := fun j h => by rw [List.getD_eq_getElem?_getD, List.getElem?_eq_getElem h]; rfl
 have : l.findIdx p = l.length := List.findIdx_eq_length.2 fun x hx => by
  obtain ⟨j, hj, rfl⟩ := List.getElem_of_mem hx
  rw [← e j hj]
  simpa using hn j hj
 unfold z87
 rw [this, if_neg (by omega)]
theorem zgr {α : Type} {p : α → Bool} {l : List α} : 0 ≤ z87 p l ↔ l.any p = true := by
 unfold z87
 constructor
 ·intro h
  split at h
  ·rename_i hl
   rw [List.any_eq_true]
   exact ⟨l[l.findIdx p], List.getElem_mem hl, List.findIdx_getElem⟩
  ·omega
 ·intro h
  rw [List.any_eq_true] at h
  have := List.findIdx_lt_length.2 h
  rw [if_pos this]
  omega
theorem z58 {p : Nat → Prop} : ∀ j, j < 0 → p j := fun j h => absurd h (Nat.not_lt_zero j)
def z3n (m : Nat) : Nat := if m = 0 then 0 else z3n (m / 256) + 1
termination_by m
decreasing_by omega
theorem zcb : z3n 0 = 0 := by rw [z3n]; rfl
theorem zgf {m : Nat} (h : 0 < m) : z3n m = z3n (m / 256) + 1 := by rw [z3n]; rw [if_neg (by omega)]
theorem zge (m : Nat) : ∀ j, z3n (m / 256 ^ j) = z3n m - j
 | 0 => by simp
 | j + 1 => by
  rw [Nat.pow_succ, ← Nat.div_div_eq_div_mul]
  have ih := zge m j
  by_cases h : m / 256 ^ j = 0
  ·rw [h] at ih ⊢
   simp only [Nat.zero_div, zcb] at ih ⊢
   omega
  ·rw [zgf (Nat.pos_of_ne_zero h)] at ih
   omega
theorem z1y (m j : Nat) : 0 < m / 256 ^ j ↔ j < z3n m := by
 have h := zge m j
 constructor
 ·intro h1
  rw [zgf h1] at h
  omega
 ·intro h1
  rcases Nat.eq_zero_or_pos (m / 256 ^ j) with h2 | h2
  ·rw [h2, zcb] at h; omega
  ·exact h2
theorem zkv {m k : Nat} (h : m < 256 ^ k) : z3n m ≤ k := by
 rcases Nat.lt_or_ge k (z3n m) with h1 | h1
 ·have := (z1y m k).2 h1
  rw [Nat.div_eq_of_lt h] at this
  omega
 ·exact h1
theorem zxm {m : Nat} (h : m < 18446744073709551616) : z3n m ≤ 8 := zkv (by simpa using h)
def Qg (n : Int) : Int := if n < 0 then -1 - n else n
theorem Xa {n : Int} (h : I64 n) : 0 ≤ Qg n ∧ Qg n < 9223372036854775808 := by
 unfold Qg
 unfold I64 at h
 split <;> omega
def qk (n b : Int) : Int := if n < 0 then 255 - b else b
def kM (n : Int) : Nat := z3n (Qg n).toNat
theorem Xu {n : Int} (h : I64 n) : kM n ≤ 8 := zxm (by have := Xa h; omega)
def digM (n : Int) (i : Nat) : Int := qk n (((Qg n).toNat / 256 ^ i % 256 : Nat) : Int)
def z4b (n : Int) (j : Nat) : List Int := qk n (128 + kM n) :: (List.range j).map fun i => digM n (kM n - 1 - i)
def wd (n : Int) : List Int := z4b n (kM n)
theorem zlf (n : Int) : wd n = z4b n (kM n) := rfl
theorem zcx (n : Int) : z4b n 0 = [qk n (128 + kM n)] := rfl
theorem zcw (n : Int) (j : Nat) : z4b n (j + 1) = z4b n j ++ [digM n (kM n - 1 - j)] := by simp [z4b, List.range_succ]
theorem X7 (n : Int) (j : Nat) : (z4b n j).length = j + 1 := by simp [z4b]
theorem w7 (n : Int) : (wd n).length = kM n + 1 := X7 _ _
theorem z5x (n b : Int) (h : 0 ≤ b ∧ b ≤ 255) : IntKind.u8.wrap ((BitVec.ofInt IntKind.u8.bits b ^^^ BitVec.ofInt IntKind.u8.bits (qk n 0)).toNat : Int) = qk n b := by
 have h0 : ∀ b : Fin 256, IntKind.u8.wrap ((BitVec.ofInt IntKind.u8.bits (b.val : Int) ^^^ BitVec.ofInt IntKind.u8.bits 0).toNat : Int) = b.val := by decide +kernel
 have h1 : ∀ b : Fin 256, IntKind.u8.wrap ((BitVec.ofInt IntKind.u8.bits (b.val : Int) ^^^ BitVec.ofInt IntKind.u8.bits 255).toNat : Int) = 255 - b.val := by decide +kernel
 have hb : b = ((⟨b.toNat, by omega⟩ : Fin 256).val : Int) := by simp; omega
 unfold qk
 rw [hb]
 split
 ·exact h1 _
 ·exact h0 _
theorem zv0 {n : Int} (h : I64 n) (hn : n < 0) : IntKind.u64.wrap ((BitVec.ofInt IntKind.u64.bits IntKind.u64.max ^^^ BitVec.ofInt IntKind.u64.bits (IntKind.u64.wrap n)).toNat : Int) = Qg n := by
 unfold I64 at h
 have e1 : IntKind.u64.wrap n = 18446744073709551616 + n := by unfold IntKind.wrap; simp [IntKind.bits, IntKind.signed]; omega
 have e2 : BitVec.ofInt 64 18446744073709551615 = BitVec.allOnes 64 := by decide
 rw [e1]
 show IntKind.u64.wrap ((BitVec.ofInt 64 18446744073709551615 ^^^ BitVec.ofInt 64 (18446744073709551616 + n)).toNat : Int) = Qg n
 rw [e2, BitVec.allOnes_xor, BitVec.toNat_not, BitVec.toNat_ofInt]
 unfold Qg
 rw [if_pos hn, IntWalk.u64_in _ (by omega)]
 omega
theorem zrx {n : Int} (h : I64 n) (hn : n < 0) : IntKind.u64.wrap ((BitVec.ofInt IntKind.u64.bits (if IntKind.u64.signed = true then -1 else IntKind.u64.max) ^^^ BitVec.ofInt IntKind.u64.bits (IntKind.u64.wrap n)).toNat : Int) = Qg n := zv0 h hn
theorem zdx (x : Nat) : IntKind.u8.wrap (x : Int) = ((x % 256 : Nat) : Int) := by
 rw [IntKind.wrap_u8]
 omega
theorem z6y {m : Int} {j : Nat} (h0 : 0 ≤ m) (hj : j < 8) : Int.fdiv m (2 ^ (min (8 * (j : Int)).toNat IntKind.u64.bits)) = ((m.toNat / 256 ^ j : Nat) : Int) := by
 obtain ⟨k, rfl⟩ := Int.eq_ofNat_of_zero_le h0
 rw [show min (8 * (j : Int)).toNat IntKind.u64.bits = 8 * j by simp only [IntKind.bits]; omega, Int.toNat_natCast, Int.fdiv_eq_ediv_of_nonneg _ (Int.pow_nonneg (by omega)), show (2 : Int) ^ (8 * j) = ((256 ^ j : Nat) : Int) by rw [Int.pow_mul]; simp]
 exact (Int.natCast_ediv k (256 ^ j)).symm
def z0g (l : List Int) (i : Nat) : List Int := wd l.length ++ (z1d l i).flatMap wd
def intsM (l : List Int) : List Int := z0g l l.length
def x7 (s : ByteArray) : List Int := wd s.size ++ yu s
def Zi (l : List ByteArray) (i : Nat) : List Int := wd l.length ++ (z1d l i).flatMap x7
def strsM (l : List ByteArray) : List Int := Zi l l.length
def y7 (o : OpM) : List Int := [o.Kind, o.At.By, o.At.Seq, o.At.K, o.To.By, o.To.Seq, o.To.K, o.Spot.Volume, o.Spot.Article, o.Spot.Index, o.N, o.Form, o.Lang]
def pairI (p : Int × Int) : List Int := [p.1, p.2]
def idI (r : IdM) : List Int := [r.By, r.Seq, r.K]
def nameI (r : NameM) : List Int := [r.By, r.Seq]
def x3 {α : Type} (f : α → List Int) (l : List α) (i : Nat) : List Int := (z1d l i).flatMap f
theorem X5 {α : Type} (f : α → List Int) (l : List α) : x3 f l 0 = [] := rfl
theorem vp {α : Type} (f : α → List Int) (l : List α) : x3 f l l.length = l.flatMap f := by simp [x3, Xg]
theorem j2 {α : Type} [Inhabited α] (f : α → List Int) (l : List α) (i : Nat) (h : i < l.length) : x3 f l (i + 1) = x3 f l i ++ f (l.getD i default) := by simp [x3, z3d l i h]
theorem kr {α : Type} {f : α → List Int} {k : Nat} (hf : ∀ x, (f x).length = k) (l : List α) (i : Nat) (h : i ≤ l.length) : (x3 f l i).length = k * i := by
 have : ∀ q : List α, (q.flatMap f).length = k * q.length := fun q => by
  induction q with
  | nil => simp
  | cons x q ih => rw [List.flatMap_cons, List.length_append, ih, hf, List.length_cons, Nat.mul_succ]; omega
 rw [x3, this, z2e l i h]
def opB (o : OpM) : List Int := intsM (y7 o) ++ x7 o.Text ++ strsM o.Texts ++ intsM (o.Pairs.flatMap pairI) ++ intsM (o.Refs.flatMap idI)
def z6e (i : IdM) : Prop := I64 i.By ∧ I64 i.Seq ∧ I64 i.K
structure OkOp (o : OpM) : Prop where
 head : ∀ x ∈ y7 o, I64 x
 pairs : ∀ p ∈ o.Pairs, I64 p.1 ∧ I64 p.2
 refs : ∀ r ∈ o.Refs, z6e r
 text : o.Text.size ≤ 900000
 texts : ∀ s ∈ o.Texts, s.size ≤ 900000
 ntexts : o.Texts.length ≤ 100000
 npairs : o.Pairs.length ≤ 100000
 nrefs : o.Refs.length ≤ 100000
 all : (opB o).length ≤ 1000000
def isB (b : List Int) : Prop := ∀ x ∈ b, 0 ≤ x ∧ x ≤ 255
def giS (b : List Int) : Int := if b.getD 0 default < 128 then -1 else 0
def giK (b : List Int) : Int := qk (giS b) (b.getD 0 default) - 128
def giM (b : List Int) : Nat → Int
 | 0 => 0
 | j + 1 => giM b j * 256 + qk (giS b) (b.getD (j + 1) default)
def zj (b : List Int) : Int × Int × Int :=
 if b.length = 0 then (0, 0, 3)
 else if 8 < giK b then (0, 0, 2)
 else if (b.length : Int) ≤ giK b then (0, 0, 3)
 else if 0 < giK b ∧ qk (giS b) (b.getD 1 default) = 0 then (0, 0, 2)
 else if 9223372036854775808 ≤ giM b (giK b).toNat then (0, 0, 2)
 else (if giS b < 0 then -1 - giM b (giK b).toNat else giM b (giK b).toNat, giK b + 1, 0)
theorem Q3 {n b : Int} (h : 0 ≤ b ∧ b ≤ 255) : 0 ≤ qk n b ∧ qk n b ≤ 255 := by
 unfold qk
 split <;> omega
theorem kc {b : List Int} (h : isB b) (i : Nat) : 0 ≤ b.getD i default ∧ b.getD i default ≤ 255 := by
 by_cases hi : i < b.length
 ·exact x4 h hi
 ·rw [List.getD_eq_getElem?_getD, List.getElem?_eq_none (by omega)]
  exact ⟨Int.le_refl _, by decide⟩
theorem Q5 {b : List Int} (h : isB b) : ∀ j : Nat, 0 ≤ giM b j ∧ giM b j < ((256 ^ j : Nat) : Int)
 | 0 => by simp [giM]
 | j + 1 => by
  have h1 := Q5 h j
  have h2 := Q3 (n := giS b) (kc h (j + 1))
  rw [giM, Nat.pow_succ]
  omega
theorem zz8 {b : List Int} (h : isB b) {j : Nat} (hj : j ≤ 7) : giM b j < 72057594037927936 := by
 have h1 := (Q5 h j).2
 have h2 := Nat.pow_le_pow_right (n := 256) (by omega) hj
 have h3 : (256 : Nat) ^ 7 = 72057594037927936 := by rfl
 omega
theorem zz9 {b : List Int} (h : isB b) {j : Nat} (hj : j ≤ 8) : giM b j < 18446744073709551616 := by
 have h1 := (Q5 h j).2
 have h2 := Nat.pow_le_pow_right (n := 256) (by omega) hj
 have h3 : (256 : Nat) ^ 8 = 18446744073709551616 := by rfl
 omega
theorem zve {m d : Int} (hm : 0 ≤ m ∧ m < 72057594037927936) (hd : 0 ≤ d ∧ d ≤ 255) : IntKind.u64.wrap ↑(BitVec.ofInt IntKind.u64.bits (IntKind.u64.wrap (m * 2 ^ min 8 IntKind.u64.bits)) ||| BitVec.ofInt IntKind.u64.bits d).toNat = m * 256 + d := by
 obtain ⟨a, rfl⟩ := Int.eq_ofNat_of_zero_le hm.1
 obtain ⟨c, rfl⟩ := Int.eq_ofNat_of_zero_le hd.1
 have e8 : (2 : Int) ^ min 8 IntKind.u64.bits = 256 := by decide
 have hb : IntKind.u64.bits = 64 := rfl
 have h0 : IntKind.u64.wrap ((a : Int) * 2 ^ min 8 IntKind.u64.bits) = (a : Int) * 256 := by rw [e8]; exact IntWalk.u64_in _ (by omega)
 have h1 : (BitVec.ofInt IntKind.u64.bits ((a : Int) * 256)).toNat = 2 ^ 8 * a := by
  rw [hb, BitVec.toNat_ofInt]; omega
 have h2 : (BitVec.ofInt IntKind.u64.bits (c : Int)).toNat = c := by
  rw [hb, BitVec.toNat_ofInt]; omega
 rw [h0, BitVec.toNat_or, h1, h2, ← Nat.two_pow_add_eq_or_of_lt (by omega : c < 2 ^ 8), IntWalk.u64_in _ (by omega)]
 omega
theorem zm6 {m : Int} (hm : 0 ≤ m ∧ m < 18446744073709551616) : 0 < m.fdiv (2 ^ min 63 IntKind.u64.bits) ↔ 9223372036854775808 ≤ m := by
 have e : (2 : Int) ^ min 63 IntKind.u64.bits = 9223372036854775808 := by decide
 rw [e]
 rw [Int.fdiv_eq_ediv_of_nonneg _ (by omega)]
 omega
theorem zuz {m : Int} (hm : 0 ≤ m ∧ m < 9223372036854775808) : IntKind.i64.wrap (IntKind.u64.wrap ↑(BitVec.ofInt IntKind.u64.bits (if IntKind.u64.signed = true then -1 else IntKind.u64.max) ^^^ BitVec.ofInt IntKind.u64.bits m).toNat) = -1 - m := by
 have e2 : BitVec.ofInt 64 18446744073709551615 = BitVec.allOnes 64 := by decide
 show IntKind.i64.wrap (IntKind.u64.wrap ((BitVec.ofInt 64 18446744073709551615 ^^^ BitVec.ofInt 64 m).toNat : Int)) = -1 - m
 rw [e2, BitVec.allOnes_xor, BitVec.toNat_not, BitVec.toNat_ofInt, IntWalk.u64_in _ (by omega), IntKind.wrap_i64]
 omega
theorem z7g {b : List Int} (h : b.length ≠ 0) (h1 : ¬ 8 < giK b) (h2 : ¬ (b.length : Int) ≤ giK b) (h3 : ¬ (0 < giK b ∧ qk (giS b) (b.getD 1 default) = 0)) (h4 : ¬ 9223372036854775808 ≤ giM b (giK b).toNat) :
  zj b = (if giS b < 0 then -1 - giM b (giK b).toNat else giM b (giK b).toNat, giK b + 1, 0) := by
 unfold zj
 rw [if_neg h, if_neg h1, if_neg h2, if_neg h3, if_neg h4]
theorem zuu {b : List Int} {k j : Nat} (hj : j < k) : (List.drop 1 (List.take (k + 1) b)).getD j default = b.getD (j + 1) default := by
 rw [List.getD_eq_getElem?_getD, List.getElem?_drop, List.getElem?_take, if_pos (by omega), ← List.getD_eq_getElem?_getD, Nat.add_comm]
theorem zfh (l : List Int) (i : Nat) : List.take i (List.map u8D l) = List.map u8D (List.take i l) := List.map_take.symm
theorem zfg (l : List Int) (i : Nat) : List.drop i (List.map u8D l) = List.map u8D (List.drop i l) := List.map_drop.symm
abbrev W32 := BitVec 32
abbrev wD (x : W32) : Dat := .int .u32 x.toNat
def Qh (x : W32) (n : Nat) : W32 := x >>> n ||| x <<< (32 - n)
def kH : List W32 := [
 0x428a2f98, 0x71374491, 0xb5c0fbcf, 0xe9b5dba5, 0x3956c25b, 0x59f111f1, 0x923f82a4, 0xab1c5ed5,
 0xd807aa98, 0x12835b01, 0x243185be, 0x550c7dc3, 0x72be5d74, 0x80deb1fe, 0x9bdc06a7, 0xc19bf174,
 0xe49b69c1, 0xefbe4786, 0x0fc19dc6, 0x240ca1cc, 0x2de92c6f, 0x4a7484aa, 0x5cb0a9dc, 0x76f988da,
 0x983e5152, 0xa831c66d, 0xb00327c8, 0xbf597fc7, 0xc6e00bf3, 0xd5a79147, 0x06ca6351, 0x14292967,
 0x27b70a85, 0x2e1b2138, 0x4d2c6dfc, 0x53380d13, 0x650a7354, 0x766a0abb, 0x81c2c92e, 0x92722c85,
 0xa2bfe8a1, 0xa81a664b, 0xc24b8b70, 0xc76c51a3, 0xd192e819, 0xd6990624, 0xf40e3585, 0x106aa070,
 0x19a4c116, 0x1e376c08, 0x2748774c, 0x34b0bcb5, 0x391c0cb3, 0x4ed8aa4a, 0x5b9cca4f, 0x682e6ff3,
 0x748f82ee, 0x78a5636f, 0x84c87814, 0x8cc70208, 0x90befffa, 0xa4506ceb, 0xbef9a3f7, 0xc67178f2]
structure S8 where
 a : W32
 b : W32
 c : W32
 d : W32
 e : W32
 f : W32
 g : W32
 h : W32
 deriving Inhabited
def S8.l (s : S8) : List W32 := [s.a, s.b, s.c, s.d, s.e, s.f, s.g, s.h]
def iv8 : S8 := ⟨0x6a09e667, 0xbb67ae85, 0x3c6ef372, 0xa54ff53a, 0x510e527f, 0x9b05688c, 0x1f83d9ab, 0x5be0cd19⟩
def z8w (b : List Int) (i : Nat) : W32 := BitVec.ofInt 32 (b.getD i default)
def wordH (b : List Int) (t : Nat) : W32 := z8w b (4 * t) <<< 24 ||| z8w b (4 * t + 1) <<< 16 ||| z8w b (4 * t + 2) <<< 8 ||| z8w b (4 * t + 3)
def wordP (b : List Int) (t : Nat) : Nat → W32
 | 0 => 0#32
 | j + 1 => wordP b t j <<< 8 ||| z8w b (4 * t + j)
theorem zwd (b : List Int) (t : Nat) : wordP b t 4 = wordH b t := by
 simp only [wordP, wordH, BitVec.shiftLeft_or_distrib, ← BitVec.shiftLeft_add]
 have h0 : 0#32 <<< (8 + 8 + 8 + 8) = 0#32 := by decide
 rw [h0, BitVec.zero_or]
 rfl
def sg0 (x : W32) : W32 := Qh x 7 ^^^ Qh x 18 ^^^ x >>> 3
def sg1 (x : W32) : W32 := Qh x 17 ^^^ Qh x 19 ^^^ x >>> 10
def z7o (b : List Int) (l : List W32) (t : Nat) : W32 :=
 if t < 16 then wordH b t else l.getD (t - 16) 0#32 + sg0 (l.getD (t - 15) 0#32) + l.getD (t - 7) 0#32 + sg1 (l.getD (t - 2) 0#32)
def wa (b : List Int) : Nat → List W32
 | 0 => []
 | t + 1 => wa b t ++ [z7o b (wa b t) t]
theorem yh (b : List Int) : ∀ t, (wa b t).length = t
 | 0 => rfl
 | t + 1 => by simp [wa, yh b t]
def bs0 (x : W32) : W32 := Qh x 2 ^^^ Qh x 13 ^^^ Qh x 22
def bs1 (x : W32) : W32 := Qh x 6 ^^^ Qh x 11 ^^^ Qh x 25
def xM (s : S8) (k w : W32) : W32 := s.h + bs1 s.e + (s.e &&& s.f ^^^ ~~~s.e &&& s.g) + k + w
def yM (s : S8) : W32 := bs0 s.a + (s.a &&& s.b ^^^ s.a &&& s.c ^^^ s.b &&& s.c)
def z1i (s : S8) (k w : W32) : S8 := ⟨xM s k w + yM s, s.a, s.b, s.c, s.d + xM s k w, s.e, s.f, s.g⟩
def roundsM (w : List W32) (s : S8) : Nat → S8
 | 0 => s
 | t + 1 => z1i (roundsM w s t) (kH.getD t 0#32) (w.getD t 0#32)
def addS (s t : S8) : S8 := ⟨s.a + t.a, s.b + t.b, s.c + t.c, s.d + t.d, s.e + t.e, s.f + t.f, s.g + t.g, s.h + t.h⟩
def compM (s : S8) (b : List Int) : S8 := addS s (roundsM (wa b 64) s 64)
def Qj (m : List Int) (k : Nat) : List Int := (m.drop (64 * k)).take 64
def blocksM (s : S8) (m : List Int) : Nat → S8
 | 0 => s
 | k + 1 => compM (blocksM s m k) (Qj m k)
def za3 (n : Nat) : List Int := (List.range 8).map fun i => ((8 * n / 2 ^ (56 - 8 * i) % 256 : Nat) : Int)
def y8 (n : Nat) : Nat := (119 - n % 64) % 64
def wz (b : List Int) : List Int := b ++ 128 :: (List.replicate (y8 b.length) 0 ++ za3 b.length)
def zs4 (s : S8) : List Int := (List.range 32).map fun i => (((s.l.getD (i / 4) 0#32).toNat / 2 ^ (24 - 8 * (i % 4)) % 256 : Nat) : Int)
def z5t (b : List Int) : List Int := zs4 (blocksM iv8 (wz b) ((wz b).length / 64))
theorem ze5 (x y : W32) : IntKind.u32.wrap ((x.toNat : Int) + (y.toNat : Int)) = ((x + y).toNat : Int) := by
 rw [IntKind.wrap_u32, BitVec.toNat_add]
 omega
theorem jo (x : W32) : BitVec.ofInt IntKind.u32.bits (x.toNat : Int) = x := by
 show BitVec.ofInt 32 (x.toNat : Int) = x
 apply BitVec.eq_of_toNat_eq
 have := x.isLt
 rw [BitVec.toNat_ofInt]
 omega
theorem z1m (x : BitVec IntKind.u32.bits) : IntKind.u32.wrap (x.toNat : Int) = (x.toNat : Int) := by
 have := x.isLt
 have hb : (2 : Nat) ^ IntKind.u32.bits = 4294967296 := rfl
 rw [hb] at this
 exact IntWalk.u32_in _ (by omega)
theorem z8v (x y : W32) : IntKind.u32.wrap ((BitVec.ofInt IntKind.u32.bits (x.toNat : Int) ^^^ BitVec.ofInt IntKind.u32.bits (y.toNat : Int)).toNat : Int) = ((x ^^^ y).toNat : Int) := by
 rw [jo, jo, z1m]
 rfl
theorem zq4 (x y : W32) : IntKind.u32.wrap ((BitVec.ofInt IntKind.u32.bits (x.toNat : Int) &&& BitVec.ofInt IntKind.u32.bits (y.toNat : Int)).toNat : Int) = ((x &&& y).toNat : Int) := by
 rw [jo, jo, z1m]
 rfl
theorem zkp (x y : W32) : IntKind.u32.wrap ((BitVec.ofInt IntKind.u32.bits (x.toNat : Int) ||| BitVec.ofInt IntKind.u32.bits (y.toNat : Int)).toNat : Int) = ((x ||| y).toNat : Int) := by
 rw [jo, jo, z1m]
 rfl
theorem zju : BitVec.ofInt IntKind.u32.bits 4294967295 = (BitVec.allOnes 32 : W32) := by rfl
theorem zkq (x : W32) : IntKind.u32.wrap ((BitVec.ofInt IntKind.u32.bits (x.toNat : Int) ^^^ BitVec.ofInt IntKind.u32.bits 4294967295).toNat : Int) = ((~~~x).toNat : Int) := by
 rw [jo, zju, z1m]
 show ((x ^^^ BitVec.allOnes 32).toNat : Int) = _
 rw [BitVec.xor_allOnes]
theorem zx8 (x : W32) : IntKind.u32.wrap ((BitVec.ofInt IntKind.u32.bits (if IntKind.u32.signed = true then -1 else IntKind.u32.max) ^^^ BitVec.ofInt IntKind.u32.bits (x.toNat : Int)).toNat : Int) = ((~~~x).toNat : Int) := by
 have : (if IntKind.u32.signed = true then (-1 : Int) else IntKind.u32.max) = 4294967295 := rfl
 rw [this, BitVec.xor_comm]
 exact zkq x
theorem ze6 (x : W32) (n : Nat) (h : n ≤ 32) : IntKind.u32.wrap ((x.toNat : Int) * 2 ^ min n IntKind.u32.bits) = ((x <<< n).toNat : Int) := by
 have hb : IntKind.u32.bits = 32 := rfl
 rw [hb, Nat.min_eq_left h, IntKind.wrap_u32, BitVec.toNat_shiftLeft, Nat.shiftLeft_eq]
 have e : ((x.toNat * 2 ^ n : Nat) : Int) = (x.toNat : Int) * 2 ^ n := by push_cast; rfl
 rw [← e]
 omega
theorem z63 (x : W32) (n : Nat) (h : n ≤ 32) : (x.toNat : Int).fdiv (2 ^ min n IntKind.u32.bits) = ((x >>> n).toNat : Int) := by
 have hb : IntKind.u32.bits = 32 := rfl
 have e : ((2 ^ n : Nat) : Int) = (2 : Int) ^ n := by push_cast; rfl
 rw [hb, Nat.min_eq_left h, BitVec.toNat_ushiftRight, Nat.shiftRight_eq_div_pow, ← e, Int.fdiv_eq_ediv_of_nonneg _ (Int.natCast_nonneg _)]
 rfl
abbrev wsD (l : List W32) : Dat := .agg (l.map wD)
abbrev bsD (l : List Int) : Dat := .agg (l.map u8D)
theorem zjq (l : List Dat) : mkAgg (l.map AV.dat) = .dat (.agg l) ∨ ∃ d ∈ l, d.isAgg = true := by
 by_cases h : ∃ d ∈ l, d.isAgg = true
 ·exact .inr h
 ·left
  have : zl (l.map AV.dat) = some l := by
   induction l with
   | nil => rfl
   | cons d l ih =>
    have hd : d.isAgg = false := by
     cases hq : d.isAgg
     ·rfl
     ·exact absurd ⟨d, by simp, hq⟩ h
    have := ih fun ⟨x, hx, hq⟩ => h ⟨x, by simp [hx], hq⟩
    simp only [List.map_cons, zl, hd, this, Option.map_some]
    rfl
  unfold mkAgg
  rw [this]
theorem zrq (l : List W32) : mkAgg ((l.map wD).map AV.dat) = .dat (wsD l) := by
 rcases zjq (l.map wD) with h | ⟨d, hd, hq⟩
 ·exact h
 ·obtain ⟨x, _, rfl⟩ := List.mem_map.1 hd
  simp [Dat.isAgg] at hq
theorem zwf (n : Nat) : mkAgg (List.replicate n (AV.dat (.int .u32 0))) = .dat (wsD (List.replicate n 0)) := by
 rw [← zrq, List.map_replicate, List.map_replicate]
 rfl
def z64 : List W32 := List.replicate 64 0#32
def y64 : List Int := List.replicate 64 0
theorem zmc : z64.length = 64 := by simp [z64]
theorem zfl : y64.length = 64 := by simp [y64]
theorem z5y : mkAgg (List.replicate 64 (AV.dat (.int .u32 0))) = .dat (wsD z64) := zwf 64
theorem X6 (l : List W32) (k : Nat) (h : k < l.length) : (((l.map wD).map AV.dat)[k]?).getD .junk = .dat (wD (l.getD k 0#32)) := by
 simp [h]
theorem z6f (l : List W32) : ((l.map wD).map AV.dat).length = l.length := by simp
theorem zjl (l : List Int) : ((l.map u8D).map AV.dat).length = l.length := by simp
theorem z4s {b : List Int} (h : isB b) (i : Nat) : IntKind.u32.wrap (b.getD i default) = ((z8w b i).toNat : Int) := by
 have := kc h i
 rw [IntWalk.u32_in _ (by omega)]
 unfold z8w
 rw [BitVec.toNat_ofInt]
 omega
def z04 (b : List Int) (t : Nat) (x : W32) : List W32 := wa b t ++ x :: List.replicate (63 - t) 0#32
theorem z2r (b : List Int) {t : Nat} (h : t < 64) (x : W32) : (z04 b t x).length = 64 := by
 simp [z04, yh]; omega
theorem zsx (b : List Int) {t : Nat} (x : W32) : (z04 b t x).getD t 0#32 = x := by
 simp [z04, yh]
theorem zsy (b : List Int) {t k : Nat} (h : k < t) (x : W32) : (z04 b t x).getD k 0#32 = (wa b t).getD k 0#32 := by
 simp [z04, List.getElem?_append_left (show k < (wa b t).length by rw [yh]; exact h)]
def z5p (b : List Int) (t : Nat) : List W32 := wa b t ++ List.replicate (64 - t) 0#32
theorem zkb (b : List Int) {t : Nat} (h : t < 64) : z5p b t = z04 b t 0#32 := by
 unfold z5p z04
 rw [show 64 - t = (63 - t) + 1 from by omega, List.replicate_succ]
theorem z3i (b : List Int) {t : Nat} (h : t < 64) : z5p b (t + 1) = z04 b t (z7o b (wa b t) t) := by
 unfold z5p z04
 rw [show 64 - (t + 1) = 63 - t from by omega, wa]
 simp
theorem zsz (b : List Int) : z5p b 0 = z64 := rfl
theorem zm5 (b : List Int) : z5p b 64 = wa b 64 := by simp [z5p]
theorem ldA (b : List Int) {t k : Nat} (h : t < 64) (hk : k < t) (x : W32) : (((z04 b t x).map wD).map AV.dat)[k]?.getD .junk = .dat (wD ((wa b t).getD k 0#32)) := by
 rw [X6 _ _ (by rw [z2r b h]; omega), zsy b hk]
theorem ldT (b : List Int) {t : Nat} (h : t < 64) (x : W32) : (((z04 b t x).map wD).map AV.dat)[t]?.getD .junk = .dat (wD x) := by
 rw [X6 _ _ (by rw [z2r b h]; omega), zsx b]
theorem zqy (l : List Int) (k : Nat) (h : k < l.length) : (((l.map u8D).map AV.dat)[k]?).getD .junk = .dat (.int .u8 (l.getD k 0)) := by
 simp [h]
theorem stA (b : List Int) (t : Nat) (x y : W32) : List.take t (z04 b t x) ++ y :: List.drop (t + 1) (z04 b t x) = z04 b t y := by
 unfold z04
 rw [List.take_append_of_le_length (by rw [yh]; exact Nat.le_refl _), List.take_of_length_le (by rw [yh]; exact Nat.le_refl _)]
 rw [List.drop_append, yh, List.drop_of_length_le (by rw [yh]; omega)]
 simp
theorem zea (l : List Dat) (h : ∀ d ∈ l, d.isAgg = false) : zl (l.map AV.dat) = some l := by
 induction l with
 | nil => rfl
 | cons d l ih =>
  have h1 := h d (by simp)
  have h2 := ih fun x hx => h x (by simp [hx])
  simp only [List.map_cons, zl, h1, h2, Option.map_some]
  rfl
theorem zkw (A B : List W32) (x : W32) : zl ((A.map wD).map AV.dat ++ [AV.dat (.int .u32 (x.toNat : Int))] ++ (B.map wD).map AV.dat) = some ((A ++ x :: B).map wD) := by
 have : (A.map wD).map AV.dat ++ [AV.dat (.int .u32 (x.toNat : Int))] ++ (B.map wD).map AV.dat = ((A ++ x :: B).map wD).map AV.dat := by simp
 rw [this]
 exact zea _ fun d hd => by obtain ⟨y, _, rfl⟩ := List.mem_map.1 hd; rfl
theorem zqn (A B : List Int) (x : Int) : zl ((A.map u8D).map AV.dat ++ [AV.dat (.int .u8 x)] ++ (B.map u8D).map AV.dat) = some ((A ++ x :: B).map u8D) := by
 have : (A.map u8D).map AV.dat ++ [AV.dat (.int .u8 x)] ++ (B.map u8D).map AV.dat = ((A ++ x :: B).map u8D).map AV.dat := by simp
 rw [this]
 exact zea _ fun d hd => by obtain ⟨y, _, rfl⟩ := List.mem_map.1 hd; rfl
def ppM (b : List Int) (j : Nat) : List Int := b ++ 128 :: List.replicate j 0
theorem zew (b : List Int) (j : Nat) : (ppM b j).length = b.length + 1 + j := by simp [ppM]; omega
theorem zzd (b : List Int) : ppM b 0 = b ++ [128] := rfl
theorem zs8 (b : List Int) (j : Nat) : ppM b (j + 1) = ppM b j ++ [0] := by
 unfold ppM
 rw [List.replicate_succ']
 simp
def qpM (b : List Int) (i : Nat) : List Int := ppM b (y8 b.length) ++ (za3 b.length).take i
theorem z0i (n : Nat) : (za3 n).length = 8 := by simp [za3]
theorem zly (b : List Int) (i : Nat) (h : i ≤ 8) : (qpM b i).length = b.length + 1 + y8 b.length + i := by
 simp [qpM, zew, z0i, Nat.min_eq_left h]
theorem zzf (b : List Int) : qpM b 0 = ppM b (y8 b.length) := by simp [qpM]
theorem zwr (b : List Int) : qpM b 8 = wz b := by
 unfold qpM wz ppM
 rw [List.take_of_length_le (by rw [z0i]; exact Nat.le_refl _)]
 simp
theorem zsa (b : List Int) (i : Nat) (h : i < 8) : qpM b (i + 1) = qpM b i ++ [((8 * b.length / 2 ^ (56 - 8 * i) % 256 : Nat) : Int)] := by
 unfold qpM
 rw [List.append_assoc]
 congr 1
 have hi : i < (za3 b.length).length := by rw [z0i]; exact h
 rw [List.take_succ, List.getElem?_eq_getElem hi]
 simp [za3]
theorem z2b (b : List Int) : (wz b).length = b.length + 1 + y8 b.length + 8 := by rw [← zwr, zly b 8 (by omega)]
theorem zo2 (b : List Int) : List.take (b.length + 1 + y8 b.length + 8) (wz b) = wz b := List.take_of_length_le (by rw [z2b]; exact Nat.le_refl _)
theorem Xo (n : Nat) : y8 n < 64 ∧ (n + 1 + y8 n) % 64 = 56 := by unfold y8; omega
theorem zgz (n i : Nat) (h : i < 8) (hn : n ≤ 281474976710656) : IntKind.u8.wrap (((8 * n : Nat) : Int).fdiv (2 ^ min (56 - 8 * i) IntKind.u64.bits)) = ((8 * n / 2 ^ (56 - 8 * i) % 256 : Nat) : Int) := by
 have hb : IntKind.u64.bits = 64 := rfl
 have e : ((2 ^ (56 - 8 * i) : Nat) : Int) = (2 : Int) ^ (56 - 8 * i) := by push_cast; rfl
 rw [hb, Nat.min_eq_left (by omega), ← e, Int.fdiv_eq_ediv_of_nonneg _ (Int.natCast_nonneg _), IntKind.wrap_u8]
 omega
abbrev s8D (s : S8) : Dat := .agg [wD s.a, wD s.b, wD s.c, wD s.d, wD s.e, wD s.f, wD s.g, wD s.h]
def sL (s : S8) : List W32 := s.l
def vL (s : S8) : List W32 := [s.a, s.b, s.c, s.d]
def eL (s : S8) : List W32 := [s.e, s.f, s.g, s.h]
theorem zzr (s : S8) : s8D s = wsD (sL s) := rfl
theorem q0a (s : S8) : Dat.agg [wD s.a, wD s.b, wD s.c, wD s.d] = wsD (vL s) := rfl
theorem q03 (s : S8) : Dat.agg [wD s.e, wD s.f, wD s.g, wD s.h] = wsD (eL s) := rfl
theorem zzi (s : S8) (k w : W32) : (z1i s k w).a = xM s k w + yM s := rfl
theorem zzj (s : S8) (k w : W32) : (z1i s k w).b = s.a := rfl
theorem zzk (s : S8) (k w : W32) : (z1i s k w).c = s.b := rfl
theorem zzl (s : S8) (k w : W32) : (z1i s k w).d = s.c := rfl
theorem zzm (s : S8) (k w : W32) : (z1i s k w).e = s.d + xM s k w := rfl
theorem zzn (s : S8) (k w : W32) : (z1i s k w).f = s.e := rfl
theorem zzo (s : S8) (k w : W32) : (z1i s k w).g = s.f := rfl
theorem zzp (s : S8) (k w : W32) : (z1i s k w).h = s.g := rfl
theorem zl7 (l : List W32) : (l.map wD).all Dat.flat = true := by simp [Dat.flat]
theorem zeo : kH.length = 64 := rfl
def addL (s r : S8) : Nat → List W32
 | 0 => sL s
 | i + 1 => ((addL s r i).set i ((addL s r i).getD i 0#32 + (vL r).getD i 0#32)).set (i + 4) (((addL s r i).set i ((addL s r i).getD i 0#32 + (vL r).getD i 0#32)).getD (i + 4) 0#32 + (eL r).getD i 0#32)
theorem z08 (s r : S8) : ∀ i, (addL s r i).length = 8
 | 0 => rfl
 | i + 1 => by simp [addL, z08 s r i]
theorem zx0 (s r : S8) : wsD (addL s r 4) = s8D (addS s r) := rfl
theorem zt0 (l : List W32) (k : Nat) (h : k < l.length) (y : W32) : List.take k l ++ y :: List.drop (k + 1) l = l.set k y := by
 rw [List.set_eq_take_append_cons_drop, if_pos h]
theorem zkd (l : List Int) (k : Nat) (h : k < l.length) (y : Int) : List.take k l ++ y :: List.drop (k + 1) l = l.set k y := by
 rw [List.set_eq_take_append_cons_drop, if_pos h]
def y32 : List Int := List.replicate 32 0
theorem zww : Dat.agg [.int .u8 0, .int .u8 0, .int .u8 0, .int .u8 0, .int .u8 0, .int .u8 0, .int .u8 0, .int .u8 0, .int .u8 0, .int .u8 0, .int .u8 0, .int .u8 0, .int .u8 0, .int .u8 0, .int .u8 0, .int .u8 0, .int .u8 0, .int .u8 0, .int .u8 0, .int .u8 0, .int .u8 0, .int .u8 0, .int .u8 0, .int .u8 0, .int .u8 0, .int .u8 0, .int .u8 0, .int .u8 0, .int .u8 0, .int .u8 0, .int .u8 0, .int .u8 0] = bsD y32 := rfl
def outB (s : S8) (i : Nat) : Int := (((sL s).getD (i / 4) 0#32 >>> (24 - 8 * (i % 4))).toNat % 256 : Nat)
def outL (s : S8) : Nat → List Int
 | 0 => y32
 | i + 1 => (outL s i).set i (outB s i)
theorem z0n (s : S8) : ∀ i, (outL s i).length = 32
 | 0 => rfl
 | i + 1 => by simp [outL, z0n s i]
theorem zvf (s : S8) (i : Nat) : outB s i = (((s.l.getD (i / 4) 0#32).toNat / 2 ^ (24 - 8 * (i % 4)) % 256 : Nat) : Int) := by
 unfold outB sL
 rw [BitVec.toNat_ushiftRight, Nat.shiftRight_eq_div_pow]
theorem zhb (s : S8) : ∀ (i k : Nat), i ≤ 32 → (outL s i)[k]? = if k < i then some (outB s k) else if k < 32 then some 0 else none
 | 0, k, _ => by
  simp only [outL, y32, List.getElem?_replicate, Nat.not_lt_zero, if_false]
 | i + 1, k, h => by
  simp only [outL, List.getElem?_set, z0n]
  rw [zhb s i k (by omega)]
  by_cases h1 : i = k
  ·subst h1
   rw [if_pos rfl, if_pos (by omega), if_pos (by omega)]
  ·rw [if_neg h1]
   by_cases h2 : k < i
   ·rw [if_pos h2, if_pos (by omega)]
   ·have h3 : ¬ k < i + 1 := by omega
    rw [if_neg h2, if_neg h3]
theorem zlt (s : S8) : outL s 32 = zs4 s := by
 apply List.ext_getElem?
 intro k
 rw [zhb s 32 k (by omega)]
 unfold zs4
 rw [List.getElem?_map]
 by_cases h : k < 32
 ·rw [if_pos h, List.getElem?_eq_getElem (by simpa using h)]
  simp only [List.getElem_range, Option.map_some, zvf]
 ·rw [if_neg h, if_neg h, List.getElem?_eq_none (by simpa using h)]
  rfl
theorem zq5 (x : W32) : IntKind.u8.wrap (x.toNat : Int) = ((x.toNat % 256 : Nat) : Int) := by
 rw [IntKind.wrap_u8]; omega
theorem zvg (b : List Int) : (wz b).length % 64 = 0 := by
 have := Xo b.length
 rw [z2b]; omega
theorem zui {b : List Int} (h : isB b) : isB (wz b) := by
 intro x hx
 unfold wz at hx
 simp only [List.mem_append, List.mem_cons, List.mem_replicate, za3, List.mem_map] at hx
 rcases hx with hx | rfl | ⟨_, rfl⟩ | ⟨i, _, rfl⟩
 ·exact h x hx
 ·omega
 ·omega
 ·omega
theorem zx6 (m : List Int) (k : Nat) : List.drop (64 * k) (List.take (64 * k + 64) m) = Qj m k := by
 rw [List.drop_take]; unfold Qj; congr 1; omega
theorem ze4 {m : List Int} {k : Nat} (h : 64 * k + 64 ≤ m.length) : (Qj m k).length = 64 := by
 unfold Qj; rw [List.length_take, List.length_drop]; omega
theorem zlh {m : List Int} (h : isB m) (k : Nat) : isB (Qj m k) := fun x hx => h x (List.mem_of_mem_drop (List.mem_of_mem_take hx))
theorem zuk (s : ByteArray) : isB (yu s) := by
 intro x hx
 obtain ⟨b, _, rfl⟩ := List.mem_map.1 hx
 have := b.toNat_lt
 omega
theorem zs5 (s : S8) : (zs4 s).length = 32 := by simp [zs4]
theorem zbb (b : List Int) : (z5t b).length = 32 := zs5 _
theorem z1w (l : List Int) : (X1 l).size = l.length := by
 show (List.map (fun n : Int => UInt8.ofNat n.toNat) l).toArray.size = l.length
 simp
theorem zlg {a b : List Int} (ha : isB a) (hb : isB b) : isB (a ++ b) := fun x hx => (List.mem_append.1 hx).elim (ha x) (hb x)
open Go.Av Go.ChangeShapes Go.WideShapes Go.ChangeAt Go.RowKit
abbrev Old (w : World) : Nat → Nat → Prop := fun b _ => b < w.heap.size
theorem z2w {w : World} {a : Addr} {v : Value} (h : w.cell? a = some v) : a.spot = none ∧ a.block < w.heap.size := by
 unfold World.cell? at h
 split at h
 ·rename_i c e f hb
  split at h
  ·cases h
  ·rename_i hs
   exact ⟨by simpa using hs, (Array.getElem?_eq_some_iff.1 hb).1⟩
 ·cases h
theorem Zs {a : Addr} (h : a.spot = none) (n : Nat) : a.add n = ⟨a.block, a.off + n, none⟩ := by
 obtain ⟨b, o, s⟩ := a
 simp only at h
 subst h
 exact vw b o n
theorem z8o {a : Addr} (h : (a.add 0).spot = none) : a.spot = none := by
 obtain ⟨b, o, s⟩ := a
 cases s with
 | none => rfl
 | some s => simp [Addr.add] at h
theorem zfj {n : Int} (h : (Lit.int .i64 n).wf = true) : I64 n := by
 simp only [Lit.wf, Bool.and_eq_true, decide_eq_true_eq] at h
 unfold I64
 have h1 : IntKind.i64.min = -9223372036854775808 := by decide
 have h2 : IntKind.i64.max = 9223372036854775807 := by decide
 omega
theorem zhp {w : World} {b : Nat} (hb : b < w.heap.size) : ∀ (zs : List Int) (off : Nat), (∀ i, i < zs.length → w.cell? ⟨b, off + i, none⟩ = some (.int .i64 (zs.getD i 0))) → RepS (Old w) w 1 (zs.map iD) (some ⟨b, off, none⟩)
 | [], _, _ => by simp [RepS]
 | z :: zs, off, h => by
  simp only [List.map_cons, RepS]
  refine ⟨b, off, rfl, by simp, ?_, zhp hb zs (off + 1) fun i hi => ?_⟩
  ·have := h 0 (by simp)
   simp only [RepAt]
   exact ⟨hb, by simpa using this⟩
  ·have := h (i + 1) (by simp; omega)
   rw [show off + 1 + i = off + (i + 1) by omega]
   simpa using this
section
variable {H : Type} {enc : TypeId × Value → H} {P : Program} {w : World}
theorem zi3 {r : Reach} {base : Nat} {t e : TypeId} {v : Value} (ht : P.underlying t = some (.slice e)) (hv : Value.okWide P w r base t v) : ∃ a len cap, v = .slice a len cap := by
 simp only [Value.okWide, ht, Cell.okWide, Cell.ok] at hv
 cases v <;> simp at hv
 exact ⟨_, _, _, rfl⟩
theorem zuh {r : Reach} {base : Nat} {t e : TypeId} {v : Value} {d : DataW H} {ps : List MemPlace} {sp : Nat → Bool} {held : Bool} (ht : P.underlying t = some (.slice e)) (he : P.underlying e = some (.int .i64)) (hc : P.cellsOf e = 1)
  (hv : Value.okWide P w r base t v) (hd : DataW.Trod enc P w 0 sp held t v d ps) : ∃ zs : List Int, (∀ z ∈ zs, I64 z) ∧ RepX (Old w) w (isD zs) v := by
 obtain ⟨a, len, cap, rfl⟩ := zi3 ht hv
 obtain ⟨fuel, hd⟩ := hd
 rcases open_ints ht he hc hd with ⟨h1, _⟩ | ⟨a', len', cap', zs, h1, _, hl, _, hz, _, hcell, hwf⟩
 ·simp [Value.cells] at h1
  obtain ⟨rfl, rfl, rfl⟩ := h1
  refine ⟨[], by simp, ?_⟩
  simp only [RepX]
  exact ⟨1, none, 0, rfl, by simp, by simp [RepS]⟩
 ·simp [Value.cells] at h1
  obtain ⟨rfl, rfl, rfl⟩ := h1
  have hlz : len ≤ zs.length := by rw [hz]; split <;> omega
  refine ⟨zs.take len, fun z hz' => zfj (hwf z (List.mem_of_mem_take hz')), ?_⟩
  simp only [RepX]
  refine ⟨1, some a', cap, by simp [Nat.min_eq_left hlz], by simp [Nat.min_eq_left hlz, hl], ?_⟩
  cases zs with
  | nil => simp [RepS]
  | cons z zs =>
   obtain ⟨hs, hb⟩ := z2w (hcell 0 (by simp))
   have hs := z8o hs
   rw [Zs hs 0] at hb
   simp only at hb
   have ha : a' = ⟨a'.block, a'.off, none⟩ := by
    obtain ⟨b, o, s⟩ := a'
    simp only at hs
    subst hs
    rfl
   rw [ha]
   refine zhp hb _ _ fun i hi => ?_
   have h2 := hcell i (by simp at hi; simp; omega)
   rw [Zs hs i] at h2
   rw [h2]
   simp at hi
   simp [List.getD_eq_getElem?_getD, List.getElem?_take, show i < len by omega]
theorem zi1 {w' : World} (h : Ext (fun _ => False) w w') {p : MemPlace} (hp : p.block < w.heap.size) : w.sameAt w' p := by
 have hb := h.block p.block hp (fun f => f)
 cases p with
 | cell b off =>
  simp only [MemPlace.block] at hb
  simp only [World.sameAt, World.cell?, hb]
 | map b =>
  simp only [MemPlace.block] at hb
  simpa only [World.sameAt] using hb
theorem zc5 (hl : laidOutB P = true) {w' : World} {sp' : Nat → Bool} (hx : Ext (fun _ => False) w w') : ∀ {ts : List TypeId} {vs : List Value} {ds : List (DataW H)} {ps : List MemPlace}, (∀ t ∈ ts, P.readableRec t = true ∧ t < P.types.size) → DataW.TrodAll enc P w 0 (fun _ => true) true ts vs ds ps → (∀ p ∈ ps, p.block < w.heap.size) → (∀ p ∈ ps, sp' p.block = true) → DataW.TrodAll enc P w' 0 sp' true ts vs ds ps
 | [], [], [], _, _, h, _, _ => h
 | _ :: _, _ :: _, _ :: _, _, ht, ⟨p, q, h1, h2, e⟩, hb, hs => ⟨p, q,
   WideElems.Trod_stays hl (ht _ (List.mem_cons.2 (Or.inl rfl))).1 (ht _ (List.mem_cons.2 (Or.inl rfl))).2 h1 (fun x hx' => zi1 hx (hb x (by rw [e]; exact List.mem_append_left _ hx'))) (fun x hx' => hs x (by rw [e]; exact List.mem_append_left _ hx')),
   zc5 hl hx (fun t h => ht t (List.mem_cons.2 (Or.inr h))) h2 (fun x hx' => hb x (by rw [e]; exact List.mem_append_right _ hx')) (fun x hx' => hs x (by rw [e]; exact List.mem_append_right _ hx')), e⟩
theorem zja {w' : World} (h : Ext (fun _ => False) w w') {a : Addr} (ha : a.block < w.heap.size) : w'.frozen? a = w.frozen? a := by
 simp only [World.frozen?, h.block a.block ha (fun f => f)]
theorem zrf {w' : World} (h : Ext (fun _ => False) w w') (may : MemPlace → Prop) : w.keptBut w' may := by
 refine ⟨h.os, h.output, fun i hi => ?_⟩
 rw [h.block i hi (fun f => f)]
 cases w.heap[i]? with
 | none => rfl
 | some o => cases o with
  | cells c t fr => exact ⟨rfl, rfl, rfl, fun _ _ => rfl⟩
  | map es clock => exact .inr ⟨rfl, rfl⟩
  | _ => rfl
theorem zhe {f : Func} {s : ChangeSpec} {apart fresh handsOn again : Bool} {W W' : World} {args : Array Value} {ds gs : List (DataW H)} {before : List MemPlace} (hl : laidOutB P = true)
  (hrd : ∀ t ∈ f.params.toList, P.readableRec t = true ∧ t < P.types.size) {tb : TypeId} (hres : f.resultTypes = #[tb]) (htb : P.underlying tb = some .bool)
  (hvars : s.vars = []) (hfn : s.fn H ds = { results := [.lit (.bool true)], args := ds })
  (hW : DataW.Whole enc P f.params.toList s.vars apart W args.toList ds gs before) (hx : Ext (fun _ => False) W W') :
  s.post enc P f apart fresh handsOn again W args (.bool true) W' := by
 have hW0 := hW
 obtain ⟨p, q, hA, hV, hpq, hz, hn⟩ := hW
 rw [hvars] at hV
 obtain ⟨rfl, rfl⟩ := trodVars_none hV
 simp only [List.append_nil] at hpq
 subst hpq
 have hlt : ∀ x ∈ before, x.block < W.heap.size := fun x h => hW0.lt x h
 have hold : ∀ x ∈ before, (fun b => decide (b < W.heap.size)) x.block = true := fun x h => by simpa using hlt x h
 have hR : ∀ (b : Nat) (sp : Nat → Bool) (hd : Bool), DataW.TrodAll enc P W' b sp hd f.resultTypes.toList ((Value.bool true).resultList f.resultTypes.size) [.lit (.bool true)] [] := fun b sp hd => by
  rw [hres]
  exact trodAll_cons_mk (shut_bool htb _) trodAll_mk0
 have hAr : ∀ sp : Nat → Bool, (∀ x ∈ before, sp x.block = true) → DataW.TrodAll enc P W' 0 sp true f.params.toList args.toList ds before := fun sp hs => zc5 hl hx hrd hA hlt hs
 refine ⟨ds, [], before, [], before, [], hW0, ?_, ?_, ?_, ?_, fun _ => ?_⟩
 ·rw [List.append_nil, hfn]; exact hR _ _ _
 ·rw [List.append_nil, hfn]; exact hAr _ hold
 ·rw [List.append_nil, hfn, hvars]; rfl
 ·exact zrf hx _
 ·refine ⟨?_, [.lit (.bool true)] ++ ds, [], ([] ++ before) ++ [], ⟨[] ++ before, [], trodAll_append (hAr _ (fun _ _ => rfl)) (hR _ _ _), ?_, rfl, ?_, ?_⟩, ?_⟩
  ·exact ok_one hres rfl (okWide_bool_mk htb _)
  ·rw [hvars]; rfl
  ·intro b off hp
   have hp : MemPlace.cell b off ∈ before := by simpa using hp
   rw [zja hx (hlt _ hp)]
   exact hz b off hp
  ·intro ha
   simpa using hn ha
  ·intro x hx' _
   simpa using hx'
end
open Go.Av Go.ChangeShapes Go.WideShapes Go.ChangeAt Go.RowKit
theorem q08 : ownKnob Tryz.prog.godebug = none := by kernel_rfl
theorem zxi : Tryz.prog.cellsOf 3 = 1 := by kernel_rfl
theorem zza : laidOutB Tryz.prog = true := by kernel_rfl
theorem zl9 : Tryz.prog.globalNamed "passim/passimref02.constants" = some 0 := by kernel_rfl
theorem zla : Tryz.prog.globalNamed "passim/hash.constants" = some 1 := by kernel_rfl
theorem zxv : (Tryz.prog.globals[0]?).map (·.type) = some 157 := by kernel_rfl
theorem zxw : (Tryz.prog.globals[1]?).map (·.type) = some 157 := by kernel_rfl
theorem zg1 : Tryz.prog.cellsOf 157 = 64 := by kernel_rfl
theorem zks : Tryz.prog.cellsOf 79 = 1 := by kernel_rfl
def kZ : List Int := kH.map fun x => (x.toNat : Int)
def gH : List (Nat × Dat) := [(0, wsD kH), (1, wsD kH)]
theorem gH0 : gH.lookup 0 = some (wsD kH) := rfl
theorem gH1 : gH.lookup 1 = some (wsD kH) := rfl
theorem zyy : (Rows.laid_passim_passimref02_constants : DataW Unit) = Lib.tabData .u32 kZ := by kernel_rfl
theorem zyz : (Rows.laid_passim_hash_constants : DataW Unit) = Lib.tabData .u32 kZ := by kernel_rfl
theorem zm3 {w : World} {g : Nat} {k : IntKind} : ∀ (zs : List Int) (off : Nat), (∀ i, i < zs.length → w.cell? ⟨g, off + i, none⟩ = some (.int k (zs.getD i 0))) → RepC (fun b _ => b = g) w (zs.map (Dat.int k)) g off
 | [], _, _ => by simp [RepC]
 | z :: zs, off, h => by
  simp only [List.map_cons, RepC, Rep1]
  refine ⟨⟨trivial, _, by simpa using h 0 (by simp), rfl⟩, zm3 zs (off + 1) fun i hi => ?_⟩
  have := h (i + 1) (by simp; omega)
  rw [show off + 1 + i = off + (i + 1) by omega]
  simpa using this
theorem zyq : wsD kH = .agg (kZ.map (Dat.int .u32)) := by
 unfold kZ
 rw [List.map_map]
 rfl
theorem zld {W : World} {name : String} {g : Nat} (h : Lib.TabIs Tryz.prog W name .u32 kZ) (hg : Tryz.prog.globalNamed name = some g) : g < W.heap.size ∧ RepC (fun b _ => b = g) W (wsD kH).cells g 0 := by
 have hl : kZ.length = 64 := rfl
 have c0 := h.cell hg 0 (by omega)
 refine ⟨(z2w c0).2, ?_⟩
 rw [zyq, Dat.cells_agg]
 refine zm3 kZ 0 fun i hi => ?_
 rw [Nat.zero_add]
 exact h.cell hg i hi
theorem q05 {W : World} (h : laidMetH Tryz.prog [("passim/passimref02.constants", Rows.laid_passim_passimref02_constants), ("passim/hash.constants", Rows.laid_passim_hash_constants)] W) : GOK gH W := by
 have h' : laidMet Tryz.prog [("passim/passimref02.constants", Rows.laid_passim_passimref02_constants), ("passim/hash.constants", Rows.laid_passim_hash_constants)] W := h
 rw [zyy, zyz] at h'
 have t0 : Lib.TabIs Tryz.prog W "passim/passimref02.constants" .u32 kZ := Lib.tabIs_of_head zl9 zxv Tryz.underlying157 Tryz.underlying79 zks zg1 h'
 have t1 : Lib.TabIs Tryz.prog W "passim/hash.constants" .u32 kZ := Lib.tabIs_of_head (rest := []) zla zxw Tryz.underlying157 Tryz.underlying79 zks zg1 h'.tail
 intro p hp
 simp only [gH, List.mem_cons, List.not_mem_nil, or_false] at hp
 rcases hp with rfl | rfl
 ·exact zld t0 zl9
 ·exact zld t1 zla
theorem zlc {b : List Int} (h : isB b) : 0 ≤ giK b ∧ giK b ≤ 127 := by
 have h0 := kc h 0
 unfold giK qk giS
 split <;> split <;> omega
theorem qu {b : List Int} (h : isB b) : I64 (zj b).1 ∧ 0 ≤ (zj b).2.1 ∧ (zj b).2.1 ≤ b.length ∧ (zj b).2.1 ≤ 9 := by
 have hk := zlc h
 unfold zj
 split
 ·exact ⟨by unfold I64; decide, by decide, by dsimp only; omega, by decide⟩
 split
 ·exact ⟨by unfold I64; decide, by decide, by dsimp only; omega, by decide⟩
 split
 ·exact ⟨by unfold I64; decide, by decide, by dsimp only; omega, by decide⟩
 split
 ·exact ⟨by unfold I64; decide, by decide, by dsimp only; omega, by decide⟩
 split
 ·exact ⟨by unfold I64; decide, by decide, by dsimp only; omega, by decide⟩
 ·have h1 := (Q5 h (giK b).toNat).1
  refine ⟨?_, by dsimp only; omega, by dsimp only; omega, by dsimp only; omega⟩
  unfold I64
  dsimp only
  split <;> omega
theorem zt {b : List Int} (h : isB b) (i : Nat) : isB (b.drop i) := fun x hx => h x (List.mem_of_mem_drop hx)
theorem zgu {b : List Int} (h : isB b) (i : Nat) : isB (b.take i) := fun x hx => h x (List.mem_of_mem_take hx)
def qh (b : List Int) (s : Int) : Int × Int × Int :=
 if (zj b).2.2 ≠ 0 then zj b
 else if (zj b).1 < 0 then ((zj b).1, (zj b).2.1, 2)
 else if ((b.length : Int) - (zj b).2.1).tdiv s < (zj b).1 then ((zj b).1, (zj b).2.1, 3)
 else zj b
theorem vz {b : List Int} (hb : isB b) (h : (qh b 1).2.2 = 0) : qh b 1 = zj b ∧ (zj b).2.2 = 0 ∧ 0 ≤ (zj b).1 ∧ (zj b).1 + (zj b).2.1 ≤ b.length := by
 have hr := qu hb
 unfold qh at h ⊢
 split at h
 ·rename_i hh; exact absurd h hh
 rename_i h0
 rw [if_neg h0]
 split at h
 ·cases h
 rename_i h1
 rw [if_neg h1]
 split at h
 ·cases h
 rename_i h2
 rw [if_neg h2]
 rw [Int.tdiv_one] at h2
 exact ⟨rfl, by omega, by omega, by omega⟩
def zq (b : List Int) : ByteArray × Int × Int :=
 if (qh b 1).2.2 ≠ 0 then (⟨#[]⟩, 0, (qh b 1).2.2)
 else (X1 ((b.take ((qh b 1).2.1 + (qh b 1).1).toNat).drop (qh b 1).2.1.toNat), (qh b 1).2.1 + (qh b 1).1, 0)
def qj (b : List Int) (a0 : Nat) : Nat → List Int × Nat × Int
 | 0 => ([], a0, 0)
 | i + 1 => if (qj b a0 i).2.2 ≠ 0 then qj b a0 i
  else if (zj (b.drop (qj b a0 i).2.1)).2.2 ≠ 0 then ([], 0, (zj (b.drop (qj b a0 i).2.1)).2.2)
  else ((qj b a0 i).1 ++ [(zj (b.drop (qj b a0 i).2.1)).1], (qj b a0 i).2.1 + (zj (b.drop (qj b a0 i).2.1)).2.1.toNat, 0)
def zd (b : List Int) : List Int × Nat × Int :=
 if (qh b 1).2.2 ≠ 0 then ([], 0, (qh b 1).2.2) else qj b (qh b 1).2.1.toNat (qh b 1).1.toNat
def ql (b : List Int) (a0 : Nat) : Nat → List ByteArray × Nat × Int
 | 0 => ([], a0, 0)
 | i + 1 => if (ql b a0 i).2.2 ≠ 0 then ql b a0 i
  else if (zq (b.drop (ql b a0 i).2.1)).2.2 ≠ 0 then ([], 0, (zq (b.drop (ql b a0 i).2.1)).2.2)
  else ((ql b a0 i).1 ++ [(zq (b.drop (ql b a0 i).2.1)).1], (ql b a0 i).2.1 + (zq (b.drop (ql b a0 i).2.1)).2.1.toNat, 0)
def zx (b : List Int) : List ByteArray × Nat × Int :=
 if (qh b 1).2.2 ≠ 0 then ([], 0, (qh b 1).2.2) else ql b (qh b 1).2.1.toNat (qh b 1).1.toNat
theorem z53 {b : List Int} (hb : isB b) {a0 : Nat} (ha : a0 ≤ b.length) : ∀ i, (qj b a0 i).2.1 ≤ b.length
 | 0 => ha
 | i + 1 => by
  have ih := z53 hb ha i
  have hr := qu (zt hb (qj b a0 i).2.1)
  rw [List.length_drop] at hr
  rw [qj]
  split
  ·exact ih
  split
  ·exact Nat.zero_le _
  ·dsimp only; omega
theorem z33 {b : List Int} {a0 : Nat} : ∀ i, (qj b a0 i).2.2 = 0 → (qj b a0 i).1.length = i
 | 0, _ => rfl
 | i + 1, h => by
  rw [qj] at h ⊢
  split at h
  ·rename_i h0; exact absurd h h0
  rename_i h0
  rw [if_neg h0]
  split at h
  ·rename_i h1; exact absurd h h1
  rename_i h1
  rw [if_neg h1]
  simp [z33 (b := b) (a0 := a0) i (by omega)]
theorem Q4 {b : List Int} (hb : isB b) : 0 ≤ (zq b).2.1 ∧ (zq b).2.1 ≤ b.length := by
 unfold zq
 split
 ·exact ⟨Int.le_refl _, by dsimp only; omega⟩
 ·rename_i h
  obtain ⟨h1, h2, h3, h4⟩ := vz hb (by omega)
  have := qu hb
  rw [h1]
  exact ⟨by dsimp only; omega, by dsimp only; omega⟩
theorem z5s {b : List Int} (hb : isB b) {a0 : Nat} (ha : a0 ≤ b.length) : ∀ i, (ql b a0 i).2.1 ≤ b.length
 | 0 => ha
 | i + 1 => by
  have ih := z5s hb ha i
  have hr := Q4 (zt hb (ql b a0 i).2.1)
  rw [List.length_drop] at hr
  rw [ql]
  split
  ·exact ih
  split
  ·exact Nat.zero_le _
  ·dsimp only; omega
theorem z3j {b : List Int} {a0 : Nat} : ∀ i, (ql b a0 i).2.2 = 0 → (ql b a0 i).1.length = i
 | 0, _ => rfl
 | i + 1, h => by
  rw [ql] at h ⊢
  split at h
  ·rename_i h0; exact absurd h h0
  rename_i h0
  rw [if_neg h0]
  split at h
  ·rename_i h1; exact absurd h h1
  rename_i h1
  rw [if_neg h1]
  simp [z3j (b := b) (a0 := a0) i (by omega)]
theorem z9r {b : List Int} {a0 i : Nat} (h : (qj b a0 i).2.2 ≠ 0) : ∀ j, i ≤ j → qj b a0 j = qj b a0 i := fun j hj => by
 induction j with
 | zero => rw [show i = 0 by omega]
 | succ j ih =>
  by_cases hij : i = j + 1
  ·rw [hij]
  ·have := ih (by omega)
   rw [qj, if_pos (by rw [this]; exact h), this]
theorem zb7 {b : List Int} {a0 i : Nat} (h : (ql b a0 i).2.2 ≠ 0) : ∀ j, i ≤ j → ql b a0 j = ql b a0 i := fun j hj => by
 induction j with
 | zero => rw [show i = 0 by omega]
 | succ j ih =>
  by_cases hij : i = j + 1
  ·rw [hij]
  ·have := ih (by omega)
   rw [ql, if_pos (by rw [this]; exact h), this]
theorem ti2 : ti Tryz.prog 2 = some ⟨1, 8, some [.dat (.int .i64 0)], .int .i64⟩ := by kernel_rfl
theorem ti3 : ti Tryz.prog 3 = some ⟨1, 8, some [.dat (.int .i64 0)], .int .i64⟩ := by kernel_rfl
theorem ti4 : ti Tryz.prog 4 = some ⟨1, 1, some [.dat (.bool false)], .bool⟩ := by kernel_rfl
theorem ti5 : ti Tryz.prog 5 = some ⟨1, 1, some [.dat (.int .u8 0)], .int .u8⟩ := by kernel_rfl
theorem ti6 : ti Tryz.prog 6 = some ⟨1, 1, some [.dat (.int .u8 0)], .int .u8⟩ := by kernel_rfl
theorem ti7 : ti Tryz.prog 7 = some ⟨4, 24, some [.dat (.int .i64 0), .dat (.int .i64 0), .dat (.bool false), .dat (.int .u8 0)], .struct [(0, 2), (1, 3), (2, 4), (3, 6)]⟩ := by kernel_rfl
theorem ti8 : ti Tryz.prog 8 = some ⟨4, 24, some [.dat (.int .i64 0), .dat (.int .i64 0), .dat (.bool false), .dat (.int .u8 0)], .struct [(0, 2), (1, 3), (2, 4), (3, 6)]⟩ := by kernel_rfl
theorem ti9 : ti Tryz.prog 9 = some ⟨1, 16, some [.dat (.str ⟨#[]⟩)], .str⟩ := by kernel_rfl
theorem ti10 : ti Tryz.prog 10 = some ⟨1, 16, some [.dat (.str ⟨#[]⟩)], .str⟩ := by kernel_rfl
theorem ti11 : ti Tryz.prog 11 = some ⟨1, 16, some [.dat (.str ⟨#[]⟩)], .str⟩ := by kernel_rfl
theorem ti12 : ti Tryz.prog 12 = some ⟨1, 8, some [.dat (.int .u64 0)], .int .u64⟩ := by kernel_rfl
theorem ti13 : ti Tryz.prog 13 = some ⟨2, 24, some [.dat (.str ⟨#[]⟩), .dat (.int .u64 0)], .struct [(0, 9), (1, 12)]⟩ := by kernel_rfl
theorem ti14 : ti Tryz.prog 14 = some ⟨2, 24, some [.dat (.str ⟨#[]⟩), .dat (.int .u64 0)], .struct [(0, 9), (1, 12)]⟩ := by kernel_rfl
theorem ti15 : ti Tryz.prog 15 = some ⟨1, 8, some [.dat .nilp], .ptr 195⟩ := by kernel_rfl
theorem ti16 : ti Tryz.prog 16 = some ⟨1, 8, some [.dat .nilp], .ptr 198⟩ := by kernel_rfl
theorem ti17 : ti Tryz.prog 17 = some ⟨1, 8, some [.dat .nilp], .ptr 207⟩ := by kernel_rfl
theorem ti18 : ti Tryz.prog 18 = some ⟨1, 8, some [.dat .nilp], .struct [(0, 17)]⟩ := by kernel_rfl
theorem ti19 : ti Tryz.prog 19 = some ⟨1, 8, some [.dat .nilp], .struct [(0, 17)]⟩ := by kernel_rfl
theorem ti20 : ti Tryz.prog 20 = some ⟨1, 16, some [.dat .nilI], .iface⟩ := by kernel_rfl
theorem ti21 : ti Tryz.prog 21 = some ⟨1, 4, some [.dat (.int .i32 0)], .int .i32⟩ := by kernel_rfl
theorem ti22 : ti Tryz.prog 22 = some ⟨1, 24, some [.nils], .slice 3⟩ := by kernel_rfl
theorem ti23 : ti Tryz.prog 23 = some ⟨1, 24, some [.nils], .slice 65⟩ := by kernel_rfl
theorem ti24 : ti Tryz.prog 24 = some ⟨3, 24, some [.dat (.int .i64 0), .dat (.int .i64 0), .dat (.int .i64 0)], .struct [(0, 3), (1, 3), (2, 3)]⟩ := by kernel_rfl
theorem ti25 : ti Tryz.prog 25 = some ⟨3, 24, some [.dat (.int .i64 0), .dat (.int .i64 0), .dat (.int .i64 0)], .struct [(0, 3), (1, 3), (2, 3)]⟩ := by kernel_rfl
theorem ti26 : ti Tryz.prog 26 = some ⟨3, 24, some [.dat (.int .i64 0), .dat (.int .i64 0), .dat (.int .i64 0)], .struct [(0, 3), (1, 3), (2, 3)]⟩ := by kernel_rfl
theorem ti27 : ti Tryz.prog 27 = some ⟨3, 24, some [.dat (.int .i64 0), .dat (.int .i64 0), .dat (.int .i64 0)], .struct [(0, 3), (1, 3), (2, 3)]⟩ := by kernel_rfl
theorem ti28 : ti Tryz.prog 28 = some ⟨1, 24, some [.nils], .slice 9⟩ := by kernel_rfl
theorem ti29 : ti Tryz.prog 29 = some ⟨1, 24, some [.nils], .slice 119⟩ := by kernel_rfl
theorem ti30 : ti Tryz.prog 30 = some ⟨1, 24, some [.nils], .slice 25⟩ := by kernel_rfl
theorem ti31 : ti Tryz.prog 31 = some ⟨17, 192, some [.dat (.int .i64 0), .dat (.int .i64 0), .dat (.int .i64 0), .dat (.int .i64 0), .dat (.int .i64 0), .dat (.int .i64 0), .dat (.int .i64 0), .dat (.int .i64 0), .dat (.int .i64 0), .dat (.int .i64 0), .dat (.int .i64 0), .dat (.int .i64 0), .dat (.int .i64 0), .dat (.str ⟨#[]⟩), .nils, .nils, .nils], .struct [(0, 3), (1, 25), (4, 25), (7, 27), (10, 3), (11, 3), (12, 3), (13, 9), (14, 28), (15, 29), (16, 30)]⟩ := by kernel_rfl
theorem ti32 : ti Tryz.prog 32 = some ⟨17, 192, some [.dat (.int .i64 0), .dat (.int .i64 0), .dat (.int .i64 0), .dat (.int .i64 0), .dat (.int .i64 0), .dat (.int .i64 0), .dat (.int .i64 0), .dat (.int .i64 0), .dat (.int .i64 0), .dat (.int .i64 0), .dat (.int .i64 0), .dat (.int .i64 0), .dat (.int .i64 0), .dat (.str ⟨#[]⟩), .nils, .nils, .nils], .struct [(0, 3), (1, 25), (4, 25), (7, 27), (10, 3), (11, 3), (12, 3), (13, 9), (14, 28), (15, 29), (16, 30)]⟩ := by kernel_rfl
theorem ti33 : ti Tryz.prog 33 = some ⟨5, 72, some [.dat (.str ⟨#[]⟩), .dat (.int .i64 0), .dat (.int .i64 0), .dat (.str ⟨#[]⟩), .nils], .struct [(0, 9), (1, 3), (2, 3), (3, 9), (4, 28)]⟩ := by kernel_rfl
theorem ti34 : ti Tryz.prog 34 = some ⟨5, 72, some [.dat (.str ⟨#[]⟩), .dat (.int .i64 0), .dat (.int .i64 0), .dat (.str ⟨#[]⟩), .nils], .struct [(0, 9), (1, 3), (2, 3), (3, 9), (4, 28)]⟩ := by kernel_rfl
theorem ti35 : ti Tryz.prog 35 = some ⟨1, 24, some [.nils], .slice 72⟩ := by kernel_rfl
theorem ti36 : ti Tryz.prog 36 = some ⟨32, 376, some [.dat (.int .i64 0), .dat (.int .i64 0), .dat (.int .i64 0), .dat (.int .i64 0), .nils, .dat (.int .i64 0), .dat (.int .i64 0), .dat (.int .i64 0), .dat (.int .i64 0), .dat (.int .i64 0), .dat (.int .i64 0), .dat (.int .i64 0), .dat (.int .i64 0), .dat (.int .i64 0), .dat (.int .i64 0), .dat (.int .i64 0), .dat (.int .i64 0), .dat (.int .i64 0), .dat (.str ⟨#[]⟩), .nils, .nils, .nils, .dat (.str ⟨#[]⟩), .dat (.int .i64 0), .dat (.int .i64 0), .dat (.str ⟨#[]⟩), .nils, .dat (.int .i64 0), .dat (.int .i64 0), .dat (.int .i64 0), .nils, .dat (.int .i64 0)], .struct [(0, 3), (1, 3), (2, 3), (3, 3), (4, 23), (5, 32), (22, 34), (27, 25), (30, 35), (31, 3)]⟩ := by kernel_rfl
theorem ti37 : ti Tryz.prog 37 = some ⟨32, 376, some [.dat (.int .i64 0), .dat (.int .i64 0), .dat (.int .i64 0), .dat (.int .i64 0), .nils, .dat (.int .i64 0), .dat (.int .i64 0), .dat (.int .i64 0), .dat (.int .i64 0), .dat (.int .i64 0), .dat (.int .i64 0), .dat (.int .i64 0), .dat (.int .i64 0), .dat (.int .i64 0), .dat (.int .i64 0), .dat (.int .i64 0), .dat (.int .i64 0), .dat (.int .i64 0), .dat (.str ⟨#[]⟩), .nils, .nils, .nils, .dat (.str ⟨#[]⟩), .dat (.int .i64 0), .dat (.int .i64 0), .dat (.str ⟨#[]⟩), .nils, .dat (.int .i64 0), .dat (.int .i64 0), .dat (.int .i64 0), .nils, .dat (.int .i64 0)], .struct [(0, 3), (1, 3), (2, 3), (3, 3), (4, 23), (5, 32), (22, 34), (27, 25), (30, 35), (31, 3)]⟩ := by kernel_rfl
theorem ti41 : ti Tryz.prog 41 = some ⟨1, 24, some [.nils], .slice 37⟩ := by kernel_rfl
theorem ti42 : ti Tryz.prog 42 = some ⟨1, 8, some [.dat (.int .i64 0)], .int .i64⟩ := by kernel_rfl
theorem ti47 : ti Tryz.prog 47 = some ⟨1, 24, some [.nils], .slice 5⟩ := by kernel_rfl
theorem ti52 : ti Tryz.prog 52 = some ⟨16, 16, some [.dat (.int .u8 0), .dat (.int .u8 0), .dat (.int .u8 0), .dat (.int .u8 0), .dat (.int .u8 0), .dat (.int .u8 0), .dat (.int .u8 0), .dat (.int .u8 0), .dat (.int .u8 0), .dat (.int .u8 0), .dat (.int .u8 0), .dat (.int .u8 0), .dat (.int .u8 0), .dat (.int .u8 0), .dat (.int .u8 0), .dat (.int .u8 0)], .array 16 5⟩ := by kernel_rfl
theorem ti53 : ti Tryz.prog 53 = some ⟨16, 16, some [.dat (.int .u8 0), .dat (.int .u8 0), .dat (.int .u8 0), .dat (.int .u8 0), .dat (.int .u8 0), .dat (.int .u8 0), .dat (.int .u8 0), .dat (.int .u8 0), .dat (.int .u8 0), .dat (.int .u8 0), .dat (.int .u8 0), .dat (.int .u8 0), .dat (.int .u8 0), .dat (.int .u8 0), .dat (.int .u8 0), .dat (.int .u8 0)], .array 16 5⟩ := by kernel_rfl
theorem ti58 : ti Tryz.prog 58 = some ⟨1, 24, some [.nils], .slice 47⟩ := by kernel_rfl
theorem ti64 : ti Tryz.prog 64 = some ⟨2, 16, some [.dat (.int .i64 0), .dat (.int .i64 0)], .struct [(0, 3), (1, 3)]⟩ := by kernel_rfl
theorem ti65 : ti Tryz.prog 65 = some ⟨2, 16, some [.dat (.int .i64 0), .dat (.int .i64 0)], .struct [(0, 3), (1, 3)]⟩ := by kernel_rfl
theorem ti71 : ti Tryz.prog 71 = some ⟨5, 56, some [.dat (.int .i64 0), .dat (.int .i64 0), .dat (.int .i64 0), .nils, .dat (.bool false)], .struct [(0, 25), (3, 28), (4, 4)]⟩ := by kernel_rfl
theorem ti72 : ti Tryz.prog 72 = some ⟨5, 56, some [.dat (.int .i64 0), .dat (.int .i64 0), .dat (.int .i64 0), .nils, .dat (.bool false)], .struct [(0, 25), (3, 28), (4, 4)]⟩ := by kernel_rfl
theorem ti75 : ti Tryz.prog 75 = some ⟨32, 32, some [.dat (.int .u8 0), .dat (.int .u8 0), .dat (.int .u8 0), .dat (.int .u8 0), .dat (.int .u8 0), .dat (.int .u8 0), .dat (.int .u8 0), .dat (.int .u8 0), .dat (.int .u8 0), .dat (.int .u8 0), .dat (.int .u8 0), .dat (.int .u8 0), .dat (.int .u8 0), .dat (.int .u8 0), .dat (.int .u8 0), .dat (.int .u8 0), .dat (.int .u8 0), .dat (.int .u8 0), .dat (.int .u8 0), .dat (.int .u8 0), .dat (.int .u8 0), .dat (.int .u8 0), .dat (.int .u8 0), .dat (.int .u8 0), .dat (.int .u8 0), .dat (.int .u8 0), .dat (.int .u8 0), .dat (.int .u8 0), .dat (.int .u8 0), .dat (.int .u8 0), .dat (.int .u8 0), .dat (.int .u8 0)], .array 32 5⟩ := by kernel_rfl
theorem ti77 : ti Tryz.prog 77 = some ⟨64, 64, some (List.replicate 64 (.dat (.int .u8 0))), .array 64 5⟩ := by kernel_rfl
theorem ti79 : ti Tryz.prog 79 = some ⟨1, 4, some [.dat (.int .u32 0)], .int .u32⟩ := by kernel_rfl
theorem ti80 : ti Tryz.prog 80 = some ⟨8, 32, some [.dat (.int .u32 0), .dat (.int .u32 0), .dat (.int .u32 0), .dat (.int .u32 0), .dat (.int .u32 0), .dat (.int .u32 0), .dat (.int .u32 0), .dat (.int .u32 0)], .array 8 79⟩ := by kernel_rfl
theorem ti81 : ti Tryz.prog 81 = some ⟨1, 8, some [.dat (.int .u64 0)], .int .u64⟩ := by kernel_rfl
theorem ti82 : ti Tryz.prog 82 = some ⟨73, 104, some (List.replicate 8 (.dat (.int .u32 0)) ++ List.replicate 64 (.dat (.int .u8 0)) ++ List.replicate 1 (.dat (.int .u64 0))), .struct [(0, 80), (8, 77), (72, 81)]⟩ := by kernel_rfl
theorem ti83 : ti Tryz.prog 83 = some ⟨73, 104, some (List.replicate 8 (.dat (.int .u32 0)) ++ List.replicate 64 (.dat (.int .u8 0)) ++ List.replicate 1 (.dat (.int .u64 0))), .struct [(0, 80), (8, 77), (72, 81)]⟩ := by kernel_rfl
theorem ti88 : ti Tryz.prog 88 = some ⟨5, 5, some [.dat (.bool false), .dat (.bool false), .dat (.bool false), .dat (.bool false), .dat (.bool false)], .struct [(0, 4), (1, 4), (2, 4), (3, 4), (4, 4)]⟩ := by kernel_rfl
theorem ti89 : ti Tryz.prog 89 = some ⟨5, 5, some [.dat (.bool false), .dat (.bool false), .dat (.bool false), .dat (.bool false), .dat (.bool false)], .struct [(0, 4), (1, 4), (2, 4), (3, 4), (4, 4)]⟩ := by kernel_rfl
theorem ti100 : ti Tryz.prog 100 = some ⟨1, 8, some [.dat .nilp], .ptr 102⟩ := by kernel_rfl
theorem ti101 : ti Tryz.prog 101 = some ⟨2, 32, some [.nils, .dat (.int .i64 0)], .struct [(0, 47), (1, 3)]⟩ := by kernel_rfl
theorem ti102 : ti Tryz.prog 102 = some ⟨2, 32, some [.nils, .dat (.int .i64 0)], .struct [(0, 47), (1, 3)]⟩ := by kernel_rfl
theorem ti119 : ti Tryz.prog 119 = some ⟨2, 16, some [.dat (.int .i64 0), .dat (.int .i64 0)], .array 2 3⟩ := by kernel_rfl
theorem ti130 : ti Tryz.prog 130 = some ⟨1, 24, some [.nils], .slice 28⟩ := by kernel_rfl
theorem ti132 : ti Tryz.prog 132 = some ⟨1, 8, some [.raw (.map none)], .map 65 3⟩ := by kernel_rfl
theorem ti133 : ti Tryz.prog 133 = some ⟨1, 8, some [.raw (.map none)], .map 3 3⟩ := by kernel_rfl
theorem ti157 : ti Tryz.prog 157 = some ⟨64, 256, some (List.replicate 64 (.dat (.int .u32 0))), .array 64 79⟩ := by kernel_rfl
theorem ti160 : ti Tryz.prog 160 = some ⟨4, 16, some [.dat (.int .u32 0), .dat (.int .u32 0), .dat (.int .u32 0), .dat (.int .u32 0)], .array 4 79⟩ := by kernel_rfl
theorem ti161 : ti Tryz.prog 161 = some ⟨1, 24, some [.nils], .slice 79⟩ := by kernel_rfl
theorem ti165 : ti Tryz.prog 165 = some ⟨1, 8, some [.dat .nilp], .ptr 167⟩ := by kernel_rfl
theorem ti166 : ti Tryz.prog 166 = some ⟨3, 40, some [.nils, .dat (.int .i64 0), .dat (.int .i64 0)], .struct [(0, 47), (1, 3), (2, 42)]⟩ := by kernel_rfl
theorem ti167 : ti Tryz.prog 167 = some ⟨3, 40, some [.nils, .dat (.int .i64 0), .dat (.int .i64 0)], .struct [(0, 47), (1, 3), (2, 42)]⟩ := by kernel_rfl
theorem ti170 : ti Tryz.prog 170 = some ⟨1, 8, some [.raw .nilFunc], .other⟩ := by kernel_rfl
theorem ti174 : ti Tryz.prog 174 = some ⟨1, 24, some [.nils], .slice 186⟩ := by kernel_rfl
theorem ti177 : ti Tryz.prog 177 = some ⟨1, 24, some [.nils], .slice 187⟩ := by kernel_rfl
theorem ti179 : ti Tryz.prog 179 = some ⟨1, 8, some [.dat (.int .u64 0)], .int .u64⟩ := by kernel_rfl
theorem ti185 : ti Tryz.prog 185 = some ⟨3, 24, some [.dat (.int .i64 0), .dat (.int .i64 0), .dat (.int .i64 0)], .struct [(0, 3), (1, 3), (2, 3)]⟩ := by kernel_rfl
theorem ti186 : ti Tryz.prog 186 = some ⟨3, 24, some [.dat (.int .i64 0), .dat (.int .i64 0), .dat (.int .i64 0)], .struct [(0, 3), (1, 3), (2, 3)]⟩ := by kernel_rfl
theorem ti187 : ti Tryz.prog 187 = some ⟨3, 24, some [.dat (.int .i64 0), .dat (.int .i64 0), .dat (.int .i64 0)], .struct [(0, 3), (1, 3), (2, 3)]⟩ := by kernel_rfl
theorem ti194 : ti Tryz.prog 194 = some ⟨4, 40, some [.dat .nilp, .dat .nilp, .dat .nilp, .dat (.str ⟨#[]⟩)], .struct [(0, 17), (1, 17), (2, 17), (3, 9)]⟩ := by kernel_rfl
theorem ti195 : ti Tryz.prog 195 = some ⟨4, 40, some [.dat .nilp, .dat .nilp, .dat .nilp, .dat (.str ⟨#[]⟩)], .struct [(0, 17), (1, 17), (2, 17), (3, 9)]⟩ := by kernel_rfl
theorem ti196 : ti Tryz.prog 196 = some ⟨0, 0, some [], .array 0 16⟩ := by kernel_rfl
theorem ti197 : ti Tryz.prog 197 = some ⟨0, 0, some [], .struct [(0, 196)]⟩ := by kernel_rfl
theorem ti198 : ti Tryz.prog 198 = some ⟨0, 0, some [], .struct [(0, 196)]⟩ := by kernel_rfl
theorem ti200 : ti Tryz.prog 200 = some ⟨1, 1, some [.dat (.int .u8 0)], .int .u8⟩ := by kernel_rfl
theorem ti201 : ti Tryz.prog 201 = some ⟨1, 1, some [.dat (.int .u8 0)], .int .u8⟩ := by kernel_rfl
theorem ti203 : ti Tryz.prog 203 = some ⟨1, 8, some [.dat .nilp], .ptr 5⟩ := by kernel_rfl
theorem ti204 : ti Tryz.prog 204 = some ⟨1, 4, some [.dat (.int .i32 0)], .int .i32⟩ := by kernel_rfl
theorem ti205 : ti Tryz.prog 205 = some ⟨1, 4, some [.dat (.int .i32 0)], .int .i32⟩ := by kernel_rfl
theorem ti206 : ti Tryz.prog 206 = some ⟨11, 48, some [.dat (.int .u64 0), .dat (.int .u64 0), .dat (.int .u32 0), .dat (.int .u8 0), .dat (.int .u8 0), .dat (.int .u8 0), .dat (.int .u8 0), .raw .nilFunc, .dat .nilp, .dat (.int .i32 0), .dat (.int .i32 0)], .struct [(0, 12), (1, 12), (2, 79), (3, 200), (4, 5), (5, 5), (6, 201), (7, 202), (8, 203), (9, 204), (10, 205)]⟩ := by kernel_rfl
theorem ti207 : ti Tryz.prog 207 = some ⟨11, 48, some [.dat (.int .u64 0), .dat (.int .u64 0), .dat (.int .u32 0), .dat (.int .u8 0), .dat (.int .u8 0), .dat (.int .u8 0), .dat (.int .u8 0), .raw .nilFunc, .dat .nilp, .dat (.int .i32 0), .dat (.int .i32 0)], .struct [(0, 12), (1, 12), (2, 79), (3, 200), (4, 5), (5, 5), (6, 201), (7, 202), (8, 203), (9, 204), (10, 205)]⟩ := by kernel_rfl
theorem ti208 : ti Tryz.prog 208 = some ⟨1, 8, some [.dat .nilp], .other⟩ := by kernel_rfl
def tiA := And.intro (And.intro (And.intro (And.intro (And.intro (And.intro (ti2) (ti3)) (And.intro (ti4) (And.intro (ti5) (ti6)))) (And.intro (And.intro (ti7) (And.intro (ti8) (ti9))) (And.intro (ti10) (And.intro (ti11) (ti12))))) (And.intro (And.intro (And.intro (ti13) (ti14)) (And.intro (ti15) (And.intro (ti16) (ti17)))) (And.intro (And.intro (ti18) (And.intro (ti19) (ti20))) (And.intro (ti21) (And.intro (ti22) (ti23)))))) (And.intro (And.intro (And.intro (And.intro (ti24) (ti25)) (And.intro (ti26) (And.intro (ti27) (ti28)))) (And.intro (And.intro (ti29) (And.intro (ti30) (ti31))) (And.intro (ti32) (And.intro (ti33) (ti34))))) (And.intro (And.intro (And.intro (ti35) (ti36)) (And.intro (ti37) (And.intro (ti41) (ti42)))) (And.intro (And.intro (ti47) (And.intro (ti52) (ti53))) (And.intro (ti58) (And.intro (ti64) (ti65))))))) (And.intro (And.intro (And.intro (And.intro (And.intro (ti71) (ti72)) (And.intro (ti75) (And.intro (ti77) (ti79)))) (And.intro (And.intro (ti80) (And.intro (ti81) (ti82))) (And.intro (ti83) (And.intro (ti88) (ti89))))) (And.intro (And.intro (And.intro (ti100) (ti101)) (And.intro (ti102) (And.intro (ti119) (ti130)))) (And.intro (And.intro (ti132) (And.intro (ti133) (ti157))) (And.intro (ti160) (And.intro (ti161) (ti165)))))) (And.intro (And.intro (And.intro (And.intro (ti166) (ti167)) (And.intro (ti170) (And.intro (ti174) (ti177)))) (And.intro (And.intro (ti179) (And.intro (ti185) (ti186))) (And.intro (ti187) (And.intro (ti194) (ti195))))) (And.intro (And.intro (And.intro (ti196) (ti197)) (And.intro (ti198) (And.intro (ti200) (ti201)))) (And.intro (And.intro (ti203) (And.intro (ti204) (ti205))) (And.intro (ti206) (And.intro (ti207) (ti208)))))))
theorem kq (G) (n m : Int) (hn : I64 n) (hm : 0 < m) (hmr : I64 m) : zo Tryz.prog G 20 [iD n, iD m] [iD (wc n m)] := by
 have hr := xj (n := n) hm
 unfold wc at hr ⊢
 unfold I64 at hn hmr
 skip
 refine GI [] [] [] Tryz.func20 Tryz.ntmps20 fun F hP hG hN hR hA => ?_
 have hE := @Tryz.results20
 refine WS [0, 1] [] ?_
 apply z6
 refine WS [0, 1, 6] [] ?_
 refine WI ?_ ?_ <;> intro hb
 ·rw [if_pos hb] at hr ⊢
  have e1 : IntKind.i64.wrap (n + 1) = n + 1 := IntWalk.i64_in _ (by omega)
  have e2 : IntKind.i64.wrap (0 - (n + 1)) = -(n + 1) := by rw [IntWalk.i64_in _ (by omega)]; omega
  apply kf [0, 1] []
  ·simp (maxSteps := 2000000) (disch := omega) only [qq, avA, zl, zp, seval, ↓List.forall_mem_cons, Op.operands, hA, tiA, hE, e1, e2]
   exact SC
  apply z7
  refine WS [4] [] ?_
  apply za
  exact E0
 ·rw [if_neg (by omega)] at hr ⊢
  apply z9
  apply z7
  refine WS [4] [] ?_
  apply za
  exact E0
theorem Qt (G) (n m : Int) : zo Tryz.prog G 67 [iD n, iD m] [bD (we n m)] := by
 skip
 refine GI [] [] [] Tryz.func67 Tryz.ntmps67 fun F hP hG hN hR hA => ?_
 have hE := @Tryz.results67
 refine WS [0, 1] [] ?_
 refine WS [4] [] ?_
 apply za
 simp only [kz, ym, vv, qt, qi, qr, vn, qg, qa, xu, qx, vg, xk, xx, xt, vf, xw, xh, xy, xd, avA, zl, zp, seval, ↓List.forall_mem_cons, Op.operands, hP, hG, tiA, hE, we]
 all_goals try trivial
theorem z7u (G) (n : NameM) : zo Tryz.prog G 65 [vb n] [bD (Zx n)] := by
 skip
 refine GI [] [] [] Tryz.func65 Tryz.ntmps65 fun F hP hG hN hR hA => ?_
 have hE := @Tryz.results65
 refine WS [1] [1] ?_
 refine WS [2] [] ?_
 apply za
 simp only [kz, ym, vv, qt, qi, qr, vn, qg, qa, xu, qx, vg, xk, xx, xt, vf, xw, xh, xy, xd, avA, zl, zp, seval, ↓List.forall_mem_cons, Op.operands, hP, hG, tiA, hE, Zx]
 all_goals try trivial
theorem zlm (G) (a b : NameM) : zo Tryz.prog G 70 [vb a, vb b] [bD (z3v a b)] := by
 skip
 refine GI [] [] [] Tryz.func70 Tryz.ntmps70 fun F hP hG hN hR hA => ?_
 have hE := @Tryz.results70
 refine WS [2, 3] [2, 3] ?_
 apply z6
 refine WS [2, 3, 9] [2, 3] ?_
 refine WI ?_ ?_ <;> intro hb
 ·have hl : z3v a b = decide (a.By < b.By) := by unfold z3v; rw [if_pos hb]
  refine WS [4] [] ?_
  apply za
  apply zb
  simp only [kz, ym, vv, qt, qi, qr, vn, qg, qa, xu, qx, vg, xk, xx, xt, vf, xw, xh, xy, xd, avA, zl, zp, seval, ↓List.forall_mem_cons, Op.operands, hP, hG, tiA, hE, hl]
  all_goals try trivial
 ·have hl : z3v a b = decide (a.Seq < b.Seq) := by unfold z3v; rw [if_neg (by omega)]
  apply z9
  apply z7
  refine WS [4] [] ?_
  apply za
  simp only [kz, ym, vv, qt, qi, qr, vn, qg, qa, xu, qx, vg, xk, xx, xt, vf, xw, xh, xy, xd, avA, zl, zp, seval, ↓List.forall_mem_cons, Op.operands, hP, hG, tiA, hE, hl]
  all_goals try trivial
theorem z38 (G) (e : EventM) : zo Tryz.prog G 66 [zr e] [vb (evName e)] := by
 skip
 refine GI [] [] [] Tryz.func66 Tryz.ntmps66 fun F hP hG hN hR hA => ?_
 have hE := @Tryz.results66
 refine WS [1, 2] [1, 2] ?_
 refine WS [2] [2] ?_
 apply za
 simp only [kz, ym, vv, qt, qi, qr, vn, qg, qa, xu, qx, vg, xk, xx, xt, vf, xw, xh, xy, xd, avA, zl, zp, seval, ↓List.forall_mem_cons, Op.operands, hP, hG, tiA, hE, evName]
 all_goals try trivial
set_option maxRecDepth 100000 in
set_option maxHeartbeats 2000000 in
theorem z6d (G) (b : List Int) (hib : isB b) (hl : b.length ≤ 281474976710656) : zo Tryz.prog G 124 [wm b] [iD (zj b).1, iD (zj b).2.1, iD (zj b).2.2] := by
 have h0 := kc hib 0
 have hf0 := Q3 (n := giS b) h0
 have hx0 := z5x (giS b) (b.getD 0 default) h0
 have h1 := kc hib 1
 have hx1 := z5x (giS b) (b.getD 1 default) h1
 have hgk : giK b = qk (giS b) (b.getD 0 default) - 128 := rfl
 have hgr : -128 ≤ giK b ∧ giK b ≤ 127 := by omega
 skip
 skip
 refine GI [] [] [] Tryz.func124 Tryz.ntmps124 fun F hP hG hN hR hA => ?_
 have hE := And.intro @Tryz.results124 (And.intro @hx0 (And.intro @hx1 (And.intro @zfh (And.intro @zfg (@IntWalk.u64_in)))))
 refine WS [0] [] ?_
 apply z6
 refine WS [0, 12] [] ?_
 refine WI ?_ ?_ <;> intro hb
 ·have hv : zj b = (0, 0, 3) := by unfold zj; rw [if_pos (by omega)]
  have hE := And.intro hE hv
  refine WS [2, 3, 4] [] ?_
  apply za
  apply zb
  exact E0
 ·have hl0 : 0 < b.length := by omega
  apply z9
  apply z7
  refine WS [0, 5] [] ?_
  refine z0x (.of [(0, .dat (wm b)), (5, .dat (u8D (qk (giS b) 0)))] []) ?_ ?_
  ·refine WS [0, 5, 16] [] ?_
   refine WI ?_ ?_ <;> intro hb
   ·have hs : qk (giS b) 0 = 255 := by unfold qk giS; rw [if_pos hb]; rfl
    have hE := And.intro hE hs
    refine WQ [0, 5] [] ?_
    exact ML
   ·have hs : qk (giS b) 0 = 0 := by unfold qk giS; rw [if_neg (by omega)]
    have hE := And.intro hE hs
    apply z9
    exact ML
  have hg0 : 0 ≤ giK b := by unfold giK qk giS; split <;> split <;> omega
  obtain ⟨k, hk⟩ : ∃ k : Nat, giK b = (k : Int) := ⟨(giK b).toNat, by omega⟩
  have hE := And.intro hE (And.intro hgk.symm hk)
  refine WS [0, 5, 6] [] ?_
  apply z6
  apply zc
  refine WS [0, 5, 6, 24] [] ?_
  refine WI ?_ ?_ <;> intro hb
  ·have hv : zj b = (0, 0, 2) := by unfold zj; rw [if_neg (by omega), if_pos (by omega)]
   have hE := And.intro hE hv
   refine WS [2, 3, 4] [] ?_
   apply za
   apply zf
   apply zb
   exact E0
  ·have hk8 : k ≤ 8 := by omega
   refine WS [0, 5, 6, 27] [] ?_
   refine WI ?_ ?_ <;> intro hb
   ·have hv : zj b = (0, 0, 3) := by unfold zj; rw [if_neg (by omega), if_neg (by omega), if_pos (by omega)]
    have hE := And.intro hE hv
    refine WS [2, 3, 4] [] ?_
    apply za
    apply zf
    apply zb
    exact E0
   ·have hkl : k < b.length := by omega
    refine zpu (.of [(0, .dat (wm b)), (5, .dat (u8D (qk (giS b) 0))), (6, .dat (iD k)), (32, .dat (bD (decide ((0 : Int) < k) && (qk (giS b) (b.getD 1 default) == 0))))] []) ?_ ?_
    ·by_cases hk0 : 0 < k
     ·apply kf [0, 5, 6, 32] []
      ·simp (maxSteps := 2000000) (disch := omega) only [qq, avA, zl, zp, seval, ↓List.forall_mem_cons, Op.operands, hA, tiA, hE]
       exact SC
      exact ⟨rfl, rfl⟩
     ·have hdec : decide ((0 : Int) < (k : Int)) = false := decide_eq_false (by omega)
      have hE := And.intro hE hdec
      refine Xp ?_
      apply qz
      ·(iterate 3 apply Seg.cons); exact Seg.nil _
      ·refine RK ?_
       exact SC
      refine z42 (.dat (iD 0)) rfl rfl (by rw [hN]; omega) rfl ?_
      rw [ww]
      refine z42 (.dat (iD 0)) rfl rfl (by rw [hN]; omega) rfl ?_
      rw [ww]
      refine z42 (.dat (iD 0)) rfl rfl (by rw [hN]; omega) rfl ?_
      rw [ww]
      refine z42 (.dat (iD 0)) rfl rfl (by rw [hN]; omega) rfl ?_
      rw [ww]
      refine z42 (.dat (iD 0)) rfl rfl (by rw [hN]; omega) rfl ?_
      rw [ww]
      refine z42 (.dat (bD false)) rfl rfl (by rw [hN]; omega) rfl ?_
      rw [ww]
      apply vi [0, 5, 6, 32] []
      ·simp (maxSteps := 2000000) (disch := omega) only [qq, avA, zl, zp, seval, ↓List.forall_mem_cons, Op.operands, hA, tiA, hE]
       exact SC
      exact ⟨rfl, by rw [hdec]; rfl⟩
    refine WI ?_ ?_ <;> intro hb
    ·have hv : zj b = (0, 0, 2) := by unfold zj; rw [if_neg (by omega), if_neg (by omega), if_neg (by omega), if_pos (by rw [hk]; grind)]
     have hE := And.intro hE hv
     refine WS [2, 3, 4] [] ?_
     apply za
     apply zf
     apply zb
     exact E0
    ·have h3 : ¬ (0 < giK b ∧ qk (giS b) (b.getD 1 default) = 0) := by rw [hk]; grind
     have hml : (List.drop 1 (List.take (k + 1) b)).length = k := by rw [List.length_drop, List.length_take]; omega
     have hmn : min (k + 1) b.length - 1 = k := by omega
     have hk1 : ((k : Int) + 1).toNat = k + 1 := by omega
     have hE := And.intro hE (And.intro hml (And.intro hk1 hmn))
     apply z9
     apply zg
     apply z7
     refine WS [0, 5, 6, 7] [] ?_
     apply z6
     refine WS [5, 6, 7, 46, 47, 48] [] ?_
     apply zc
     refine WL (ι := {j : Nat // j ≤ k}) [5, 6, 46, 47] [] (fun ⟨j, hj⟩ => [(48, .dat (iD j)), (7, .dat (.int .u64 (giM b j)))]) (fun ⟨j, hj⟩ => []) (fun ⟨j, hj⟩ => k - j) (⟨0, by omega⟩) ?_
     rintro ⟨j, hj⟩
     refine LA ?_
     have hr8 := zz9 hib (j := j) (by omega)
     have hr0 := (Q5 hib j).1
     refine WS [5, 6, 7, 46, 47, 48, 49] [] ?_
     apply z6
     refine WI ?_ ?_ <;> intro hb
     ·have hmg := zuu (b := b) (k := k) (j := j) (by omega)
      have hbj := kc hib (j + 1)
      have hxj := z5x (giS b) (b.getD (j + 1) default) hbj
      have hfj := Q3 (n := giS b) hbj
      have hr7 := zz8 hib (j := j) (by omega)
      have hor := zve (m := giM b j) (d := qk (giS b) (b.getD (j + 1) default)) ⟨hr0, hr7⟩ hfj
      have hgs : giM b (j + 1) = giM b j * 256 + qk (giS b) (b.getD (j + 1) default) := rfl
      have hE := And.intro hE (And.intro hmg (And.intro hxj (And.intro hor hgs)))
      apply z9
      apply z7
      apply z6
      apply zc
      refine WS [5, 6, 7, 9, 46, 47, 48] [] ?_
      refine WQ [5, 6, 7, 46, 47, 48] [] ?_
      apply zg
      apply z7
      refine WQ [5, 6, 7, 46, 47, 48] [] ?_
      refine WN (⟨j + 1, by omega⟩)
     ·apply zn
      apply zh
      have hend : j = k := by omega
      subst hend
      apply ze
      apply zw
      apply z7
      apply z6
      refine WS [5, 6, 7, 62] [] ?_
      refine WI ?_ ?_ <;> intro hb
      ·have hv : zj b = (0, 0, 2) := by
        have := (zm6 ⟨hr0, hr8⟩).1 (by simpa using hb)
        unfold zj; rw [if_neg (by omega), if_neg (by omega), if_neg (by omega), if_neg h3, if_pos (by rw [hk]; simpa using this)]
       have hE := And.intro hE hv
       refine WS [2, 3, 4] [] ?_
       apply za
       apply zb
       exact E0
      ·have h4 : giM b j < 9223372036854775808 := by
        have := mt (zm6 ⟨hr0, hr8⟩).2 (by simpa using hb)
        omega
       have hv := z7g (b := b) (by omega) (by omega) (by omega) h3 (by rw [hk]; simpa using h4)
       rw [hk, Int.toNat_natCast] at hv
       apply z9
       apply z7
       apply z6
       refine WS [6, 7, 64] [] ?_
       refine WI ?_ ?_ <;> intro hb
       ·have hs : giS b < 0 := by unfold qk at hb; split at hb <;> omega
        rw [if_pos hs] at hv
        have hnt := zuz ⟨hr0, h4⟩
        have hE := And.intro hE (And.intro hv hnt)
        refine WQ [6, 7] [] ?_
        apply z7
        refine WS [2, 3, 4] [] ?_
        apply za
        exact E0
       ·have hs : ¬ giS b < 0 := by unfold qk at hb; split at hb <;> omega
        rw [if_neg hs] at hv
        have hE := And.intro hE hv
        apply z9
        apply z7
        refine WS [2, 3, 4] [] ?_
        apply za
        exact E0
set_option maxRecDepth 100000 in
theorem z8z (G) (b : List Int) (s : Int) (hib : isB b) (hl : b.length ≤ 281474976710656) (hs : 1 ≤ s ∧ s ≤ 1000) : zo Tryz.prog G 132 [wm b, iD s] [iD (qh b s).1, iD (qh b s).2.1, iD (qh b s).2.2] := by
 have hr := qu hib
 have hi1 := hr.1
 unfold I64 at hi1
 have hq0 : -281474976710656 ≤ ((b.length : Int) - (zj b).2.1).tdiv s ∧ ((b.length : Int) - (zj b).2.1).tdiv s ≤ 281474976710656 := by
  rw [Int.tdiv_eq_ediv_of_nonneg (by omega)]
  have h1 := Int.ediv_nonneg (by omega : 0 ≤ (b.length : Int) - (zj b).2.1) (by omega : 0 ≤ s)
  have h2 := Int.ediv_le_self s (by omega : 0 ≤ (b.length : Int) - (zj b).2.1)
  omega
 skip
 refine GI [] [] [] Tryz.func132 Tryz.ntmps132 fun F hP hG hN hR hA => ?_
 have hE := @Tryz.results132
 refine WS [0, 1] [] ?_
 have hc := gvF hP hG (z6d G b hib hl)
 refine WSc [0, 1, 4, 5, 6] [] ?_
 apply z6
 apply zc
 refine WS [0, 1, 4, 5, 6, 13] [] ?_
 refine WI ?_ ?_ <;> intro hb
 ·have hv : qh b s = zj b := by unfold qh; rw [if_pos hb]
  have hE := And.intro hE hv
  apply z9
  apply zg
  apply z7
  refine WS [4, 5, 6] [] ?_
  apply za
  exact E0
 ·refine WS [0, 1, 4, 5, 6, 16] [] ?_
  refine WI ?_ ?_ <;> intro hb
  ·have hv : qh b s = ((zj b).1, (zj b).2.1, 2) := by unfold qh; rw [if_neg (by omega), if_pos (by omega)]
   have hE := And.intro hE hv
   refine WQ [4, 5, 6] [] ?_
   apply zg
   apply z7
   refine WS [4, 5, 6] [] ?_
   apply za
   exact E0
  ·refine WS [4, 5, 6, 19] [] ?_
   refine WI ?_ ?_ <;> intro hb
   ·have hv : qh b s = ((zj b).1, (zj b).2.1, 3) := by unfold qh; rw [if_neg (by omega), if_neg (by omega), if_pos (by omega)]
    have hE := And.intro hE hv
    refine WQ [4, 5, 6] [] ?_
    apply zg
    apply z7
    refine WS [4, 5, 6] [] ?_
    apply za
    exact E0
   ·have hv : qh b s = zj b := by unfold qh; rw [if_neg (by omega), if_neg (by omega), if_neg (by omega)]
    have hE := And.intro hE hv
    apply z9
    apply zg
    apply z7
    refine WS [4, 5, 6] [] ?_
    apply za
    exact E0
set_option maxRecDepth 100000 in
theorem z7e (G) (b : List Int) (hib : isB b) (hl : b.length ≤ 281474976710656) : zo Tryz.prog G 121 [wm b] [sD (zq b).1, iD (zq b).2.1, iD (zq b).2.2] := by
 have hr := qu hib
 skip
 refine GI [] [] [] Tryz.func121 Tryz.ntmps121 fun F hP hG hN hR hA => ?_
 have hE := @Tryz.results121
 refine WS [0] [] ?_
 have hc := gvF hP hG (z8z G b 1 hib hl (by omega))
 refine WSc [0, 5, 6, 7] [] ?_
 apply z6
 refine WS [0, 5, 6, 7, 15] [] ?_
 refine WI ?_ ?_ <;> intro hb
 ·have hv : zq b = (⟨#[]⟩, 0, (qh b 1).2.2) := by unfold zq; rw [if_pos hb]
  have hE := And.intro hE hv
  refine WS [2, 3, 4] [] ?_
  apply za
  apply zb
  exact E0
 ·obtain ⟨hc1, hc2, hc3, hc4⟩ := vz hib (by omega)
  have hv : zq b = (X1 ((b.take ((zj b).2.1 + (zj b).1).toNat).drop (zj b).2.1.toNat), (zj b).2.1 + (zj b).1, 0) := by unfold zq; rw [if_neg (by omega), hc1]
  have hE := And.intro hE (And.intro hc1 hv)
  apply z9
  apply z7
  refine WS [2, 3, 4] [] ?_
  apply za
  exact E0
theorem zk2 (G) (b : List Int) (a : Nat) : GivesX Tryz.prog G 133 [.dat (wm b), .dat (iD a)] [] [.fn 141 [.rp (wm b) 0, .ptr 3 1 0 0]] [(3, ⟨1, [.dat (iD a)]⟩)] := by
 skip
 refine GX [] [] [] Tryz.func133 Tryz.ntmps133 fun F hP hG hN hR hA => ?_
 have hE := @Tryz.results133
 refine WS [2, 3] [2, 3] ?_
 refine z0w 2 hR.2.2.2 rfl rfl rfl ?_
 refine WS [4] [2, 3] ?_
 apply za
 exact E0
set_option maxRecDepth 100000 in
theorem zru (G) (b : List Int) (a : Nat) (hib : isB b) (hl : b.length ≤ 281474976710656) (ha : a ≤ b.length) : GivesX Tryz.prog G 141 [.rp (wm b) 0, .ptr 1000 1 0 0] [(1000, ⟨1, [.dat (iD a)]⟩)] [.dat (iD (zj (b.drop a)).1), .dat (iD ((a : Int) + (zj (b.drop a)).2.1)), .dat (iD (zj (b.drop a)).2.2)] [(1000, ⟨1, [.dat (iD ((a : Int) + (zj (b.drop a)).2.1))]⟩)] := by
 have hr := qu (zt hib a)
 have hdl : (b.drop a).length = b.length - a := List.length_drop
 skip
 skip
 refine GX [] [] [] Tryz.func141 Tryz.ntmps141 fun F hP hG hN hR hA => ?_
 have hE := @Tryz.results141
 refine WS [0, 1] [1000] ?_
 have hc := gvF hP hG (z6d G (b.drop a) (zt hib a) (by omega))
 refine WSc [1, 5, 6, 7] [1000] ?_
 refine WS [1, 5, 7] [1000] ?_
 refine WD [2, 3, 4] [1000] [0, 1, 2, 3, 4, 5] [] ?_
 apply za
 exact E0
set_option maxRecDepth 100000 in
set_option maxHeartbeats 2000000 in
theorem z9k (G) (b : List Int) (hib : isB b) (hl : b.length ≤ 1099511627776) : zo Tryz.prog G 119 [wm b] [isD (zd b).1, iD (zd b).2.1, iD (zd b).2.2] := by
 have hr := qu hib
 skip
 skip
 refine GI [] [24, 30] [] Tryz.func119 Tryz.ntmps119 fun F hP hG hN hR hA => ?_
 have hE := @Tryz.results119
 refine WS [0] [24, 40] ?_
 have hc := gvF hP hG (z8z G b 1 hib (by omega) (by omega))
 refine WSc [0, 5, 6, 7] [24, 40] ?_
 apply z6
 refine WS [0, 5, 6, 7, 20] [24, 40] ?_
 refine WI ?_ ?_ <;> intro hb
 ·have hv : zd b = ([], 0, (qh b 1).2.2) := by unfold zd; rw [if_pos hb]
  have hE := And.intro hE hv
  refine WS [2, 3, 4] [40, 24] ?_
  apply za
  apply zb
  exact E0
 ·obtain ⟨hc1, hc2, hc3, hc4⟩ := vz hib (by omega)
  obtain ⟨n, hn⟩ : ∃ n : Nat, (zj b).1 = (n : Int) := ⟨(zj b).1.toNat, by omega⟩
  obtain ⟨a0, ha0⟩ : ∃ n : Nat, (zj b).2.1 = (n : Int) := ⟨(zj b).2.1.toNat, by omega⟩
  have hv : zd b = qj b a0 n := by unfold zd; rw [if_neg (by omega), hc1, hn, ha0]; rfl
  have haL : a0 ≤ b.length := by omega
  have hnL : n ≤ b.length := by omega
  have hE := And.intro hE (And.intro hc1 (And.intro hn ha0))
  apply z9
  apply z7
  apply zu [5, 6, 8] [24, 40]
  ·refine RN ?_
   refine CX (fun _ => 24) [3] (zk2 G b a0) ?_
   exact SC
  refine WS [5, 6, 8, 9] [40, 24] ?_
  apply z6
  refine WS [6, 8, 9, 25, 26] [40, 24] ?_
  apply zc
  refine xz 40 1 (by omega) ?_
  refine y9 9 40 1 rfl rfl ?_
  refine WL (ι := {i : Nat // i ≤ n ∧ (qj b a0 i).2.2 = 0}) [8, 25] [39] (fun ⟨i, hi2⟩ => [(26, .dat (iD i)), (9, .osl 40 1 0 i), (6, .dat (iD ((qj b a0 i).2.1 : Nat)))]) (fun ⟨i, hi2⟩ => [(24, ⟨1, [.dat (iD ((qj b a0 i).2.1 : Nat))]⟩), (40, ⟨1, ((qj b a0 i).1.map iD).map .dat⟩)]) (fun ⟨i, hi2⟩ => n - i) (⟨0, by omega, rfl⟩) ?_
  rintro ⟨i, hi2⟩
  refine LA ?_
  obtain ⟨hi, hi0⟩ := id hi2
  have hil := z33 i hi0
  have hia := z53 hib haL i
  have hri := qu (zt hib (qj b a0 i).2.1)
  have hE := And.intro hE hil
  refine WS [6, 8, 9, 25, 26, 27] [39, 40, 24] ?_
  apply z6
  refine WI ?_ ?_ <;> intro hb
  ·apply z9
   apply z7
   apply z6
   apply zc
   apply zu [8, 9, 10, 11, 12, 25, 26] [39, 40, 24]
   ·refine RN ?_
    refine CX (fun _ => 24) [] (zru G b (qj b a0 i).2.1 hib (by omega) hia) ?_
    exact SC
   apply z6
   refine WS [8, 9, 10, 11, 12, 25, 26, 35] [39, 40, 24] ?_
   refine WI ?_ ?_ <;> intro hb
   ·have hs : qj b a0 (i + 1) = ([], 0, (zj (b.drop (qj b a0 i).2.1)).2.2) := by rw [qj, if_neg (by omega), if_pos hb]
    have hv2 : zd b = ([], 0, (zj (b.drop (qj b a0 i).2.1)).2.2) := by rw [hv, z9r (i := i + 1) (by rw [hs]; exact hb) n (by omega), hs]
    have hE := And.intro hE hv2
    refine WS [2, 3, 4] [39, 40, 24] ?_
    apply za
    apply zb
    apply zf
    apply zb
    apply qb
    apply zf
    apply zb
    exact E0
   ·have hs : qj b a0 (i + 1) = ((qj b a0 i).1 ++ [(zj (b.drop (qj b a0 i).2.1)).1], (qj b a0 i).2.1 + (zj (b.drop (qj b a0 i).2.1)).2.1.toNat, 0) := by rw [qj, if_neg (by omega), if_neg (by omega)]
    have hcast : (((qj b a0 i).2.1 + (zj (b.drop (qj b a0 i).2.1)).2.1.toNat : Nat) : Int) = ((qj b a0 i).2.1 : Int) + (zj (b.drop (qj b a0 i).2.1)).2.1 := by omega
    have hnx : i + 1 ≤ n ∧ (qj b a0 (i + 1)).2.2 = 0 := ⟨by omega, by rw [hs]⟩
    have hE := And.intro hE (And.intro hs hcast)
    apply z9
    apply z7
    refine WQ [6, 8, 9, 25, 26] [39, 40, 24] ?_
    apply zg
    apply z7
    refine WQ [6, 8, 9, 25, 26] [39, 40, 24] ?_
    refine WN (⟨i + 1, hnx⟩)
  ·apply zn
   apply zh
   have hin : i = n := by omega
   subst hin
   have hE := And.intro hE (And.intro hv hi0)
   apply ze
   apply zw
   apply z7
   refine WS [2, 3, 4] [39, 40, 24] ?_
   apply za
   exact E0
set_option maxRecDepth 100000 in
set_option maxHeartbeats 2000000 in
theorem z9m (G) (b : List Int) (hib : isB b) (hl : b.length ≤ 1099511627776) : zo Tryz.prog G 122 [wm b] [ssD (zx b).1, iD (zx b).2.1, iD (zx b).2.2] := by
 have hr := qu hib
 skip
 skip
 refine GI [] [] [] Tryz.func122 Tryz.ntmps122 fun F hP hG hN hR hA => ?_
 have hE := @Tryz.results122
 refine WS [0] [38] ?_
 have hc := gvF hP hG (z8z G b 1 hib (by omega) (by omega))
 refine WSc [0, 5, 6, 7] [38] ?_
 apply z6
 refine WS [0, 5, 6, 7, 19] [38] ?_
 refine WI ?_ ?_ <;> intro hb
 ·have hv : zx b = ([], 0, (qh b 1).2.2) := by unfold zx; rw [if_pos hb]
  have hE := And.intro hE hv
  refine WS [2, 3, 4] [38] ?_
  apply za
  apply zb
  exact E0
 ·obtain ⟨hc1, hc2, hc3, hc4⟩ := vz hib (by omega)
  obtain ⟨n, hn⟩ : ∃ n : Nat, (zj b).1 = (n : Int) := ⟨(zj b).1.toNat, by omega⟩
  obtain ⟨a0, ha0⟩ : ∃ n : Nat, (zj b).2.1 = (n : Int) := ⟨(zj b).2.1.toNat, by omega⟩
  have hv : zx b = ql b a0 n := by unfold zx; rw [if_neg (by omega), hc1, hn, ha0]; rfl
  have haL : a0 ≤ b.length := by omega
  have hnL : n ≤ b.length := by omega
  have hE := And.intro hE (And.intro hc1 (And.intro hn ha0))
  apply z9
  apply z7
  refine WS [0, 5, 6, 8] [38] ?_
  apply z6
  refine WS [0, 6, 8, 21, 22] [38] ?_
  apply zc
  refine xz 38 1 (by omega) ?_
  refine y9 8 38 1 rfl rfl ?_
  refine WL (ι := {i : Nat // i ≤ n ∧ (ql b a0 i).2.2 = 0}) [0, 21] [37] (fun ⟨i, hi2⟩ => [(22, .dat (iD i)), (8, .osl 38 1 0 i), (6, .dat (iD ((ql b a0 i).2.1 : Nat)))]) (fun ⟨i, hi2⟩ => [(38, ⟨1, ((ql b a0 i).1.map sD).map .dat⟩)]) (fun ⟨i, hi2⟩ => n - i) (⟨0, by omega, rfl⟩) ?_
  rintro ⟨i, hi2⟩
  refine LA ?_
  obtain ⟨hi, hi0⟩ := id hi2
  have hil := z3j i hi0
  have hia := z5s hib haL i
  have hri := Q4 (zt hib (ql b a0 i).2.1)
  have hdl : (b.drop (ql b a0 i).2.1).length = b.length - (ql b a0 i).2.1 := List.length_drop
  have hE := And.intro hE hil
  refine WS [0, 6, 8, 21, 22, 23] [37, 38] ?_
  apply z6
  refine WI ?_ ?_ <;> intro hb
  ·apply z9
   apply z7
   apply z6
   apply zc
   have hc := gvF hP hG (z7e G (b.drop (ql b a0 i).2.1) (zt hib _) (by omega))
   refine WSc [0, 6, 8, 9, 10, 11, 21, 22] [37, 38] ?_
   apply z6
   refine WS [0, 6, 8, 9, 10, 11, 21, 22, 33] [37, 38] ?_
   refine WI ?_ ?_ <;> intro hb
   ·have hs : ql b a0 (i + 1) = ([], 0, (zq (b.drop (ql b a0 i).2.1)).2.2) := by rw [ql, if_neg (by omega), if_pos hb]
    have hv2 : zx b = ([], 0, (zq (b.drop (ql b a0 i).2.1)).2.2) := by rw [hv, zb7 (i := i + 1) (by rw [hs]; exact hb) n (by omega), hs]
    have hE := And.intro hE hv2
    refine WS [2, 3, 4] [37, 38] ?_
    apply za
    apply zb
    apply zf
    apply zb
    apply qb
    apply zf
    apply zb
    exact E0
   ·have hs : ql b a0 (i + 1) = ((ql b a0 i).1 ++ [(zq (b.drop (ql b a0 i).2.1)).1], (ql b a0 i).2.1 + (zq (b.drop (ql b a0 i).2.1)).2.1.toNat, 0) := by rw [ql, if_neg (by omega), if_neg (by omega)]
    have hcast : (((ql b a0 i).2.1 + (zq (b.drop (ql b a0 i).2.1)).2.1.toNat : Nat) : Int) = ((ql b a0 i).2.1 : Int) + (zq (b.drop (ql b a0 i).2.1)).2.1 := by omega
    have hnx : i + 1 ≤ n ∧ (ql b a0 (i + 1)).2.2 = 0 := ⟨by omega, by rw [hs]⟩
    have hE := And.intro hE (And.intro hs hcast)
    apply z9
    apply z7
    refine WQ [0, 6, 8, 21, 22] [37, 38] ?_
    apply zg
    apply z7
    refine WQ [0, 6, 8, 21, 22] [37, 38] ?_
    refine WN (⟨i + 1, hnx⟩)
  ·apply zn
   apply zh
   have hin : i = n := by omega
   subst hin
   have hE := And.intro hE (And.intro hv hi0)
   apply ze
   apply zw
   apply z7
   refine WS [2, 3, 4] [37, 38] ?_
   apply za
   exact E0
theorem z2u (G) (n : Int) (hn : I64 n) : GivesX Tryz.prog G 44 [.dat (iD n)] [] [.osl 45 1 0 (kM n + 1)] [(45, ⟨1, ((wd n).map u8D).map .dat⟩)] := by
 have hr := Xa hn
 have hk := Xu hn
 skip
 skip
 refine GX [29] [] [] Tryz.func44 Tryz.ntmps44 fun F hP hG hN hR hA => ?_
 have hE := And.intro @Tryz.results44 (And.intro @IntWalk.u64_in (And.intro @zcx (And.intro @zcw (And.intro @X7 (And.intro @z5x (And.intro @IntWalk.u8_in (And.intro @digM.eq_1 (@zlf))))))))
 refine WS [0] [] ?_
 apply zpw
 refine WS [0, 3, 4] [] ?_
 refine z0x (.of [(3, .dat (.int .u64 (Qg n))), (4, .dat (u8D (qk n 0)))] []) ?_ ?_
 ·refine WS [3, 4, 11] [] ?_
  refine WI ?_ ?_ <;> intro hb
  ·have h1 := zrx hn hb
   have h2 : qk n 0 = 255 := by unfold qk; rw [if_pos hb]; rfl
   have hE := And.intro hE (And.intro h1 h2)
   refine WQ [3, 4] [] ?_
   exact ML
  ·have h1 : Qg n = n := by unfold Qg; rw [if_neg (by omega)]
   have h2 : qk n 0 = 0 := by unfold qk; rw [if_neg (by omega)]
   have hE := And.intro hE (And.intro h1 h2)
   apply z9
   exact ML
 refine WS [3, 4, 5] [] ?_
 apply z6
 apply zps
 apply z7
 apply z6
 apply zc
 refine WL (ι := {k : Nat // kM n ≤ k ∧ k ≤ 8}) [3, 4] [] (fun ⟨k, hkk⟩ => [(5, .dat (iD k))]) (fun ⟨k, hkk⟩ => []) (fun ⟨k, hkk⟩ => k) (⟨8, by omega⟩) ?_
 rintro ⟨k, hkk⟩
 refine LA ?_
 obtain ⟨hk1, hk8⟩ := hkk
 apply z6
 refine WS [3, 4, 5, 15] [] ?_
 refine WI ?_ ?_ <;> intro hb
 ·have hs := z6y (m := Qg n) (j := k - 1) hr.1 (by omega)
  rw [show ((k - 1 : Nat) : Int) = (k : Int) - 1 by omega] at hs
  have hd := z1y (Qg n).toNat (k - 1)
  apply z9
  apply z7
  apply zc
  apply z6
  refine WS [3, 4, 5, 21] [] ?_
  refine WI ?_ ?_ <;> intro hb
  ·have hkk : k = kM n := by
    rw [hs] at hb
    have := hd.1 (by omega)
    unfold kM at *
    omega
   subst hkk
   apply zn
   apply zh
   apply zey (by decide)
   apply ze
   apply zw
   apply z7
   refine WS [3, 4, 5, 6] [29, 45] ?_
   apply z6
   refine WS [3, 4, 6, 7] [29, 45] ?_
   apply zc
   refine wv 29 45 (by omega) (by omega) ?_
   refine WL (ι := {j : Nat // j ≤ kM n}) [3, 4] [29, 44] (fun ⟨j, hj⟩ => [(6, .osl 45 1 0 (j + 1)), (7, .dat (iD (kM n - 1 - j)))]) (fun ⟨j, hj⟩ => [(45, ⟨1, ((z4b n j).map u8D).map .dat⟩)]) (fun ⟨j, hj⟩ => kM n - j) (⟨0, by omega⟩) ?_
   rintro ⟨j, hj⟩
   refine LA ?_
   have hl := X7 n j
   apply z6
   refine WS [3, 4, 6, 7, 33] [29, 44, 45] ?_
   refine WI ?_ ?_ <;> intro hb
   ·have hs2 := z6y (m := Qg n) (j := kM n - 1 - j) hr.1 (by omega)
    rw [show ((kM n - 1 - j : Nat) : Int) = (kM n : Int) - 1 - j by omega] at hs2
    have h8 := zdx ((Qg n).toNat / 256 ^ (kM n - 1 - j))
    have hE := And.intro hE (And.intro hs2 h8)
    apply z9
    apply z7
    apply z6
    apply zc
    refine WQ [3, 4, 6, 7] [29, 44, 45] ?_
    apply zg
    apply z7
    refine WQ [3, 4, 6, 7] [29, 44, 45] ?_
    refine WN (⟨j + 1, by omega⟩)
   ·apply zn
    apply zh
    have hend : j = kM n := by omega
    subst hend
    apply ze
    apply zw
    apply z7
    refine WS [2] [29, 44, 45] ?_
    apply za
    apply z7y
    exact E0
  ·have hkk : kM n ≤ k - 1 := by
    rw [hs] at hb
    have := mt hd.2 (by omega)
    unfold kM at *
    omega
   apply z9
   apply z7
   refine WQ [3, 4, 5] [] ?_
   apply zg
   refine WN (⟨k - 1, by omega⟩)
 ·apply zn
  apply zh
  apply ze
  apply zw
  apply z7
  refine WS [3, 4, 5, 6] [29, 45] ?_
  apply z6
  refine WS [3, 4, 6, 7] [29, 45] ?_
  apply zc
  refine wv 29 45 (by omega) (by omega) ?_
  refine WL (ι := {j : Nat // j ≤ kM n}) [3, 4] [29, 44] (fun ⟨j, hj⟩ => [(6, .osl 45 1 0 (j + 1)), (7, .dat (iD (kM n - 1 - j)))]) (fun ⟨j, hj⟩ => [(45, ⟨1, ((z4b n j).map u8D).map .dat⟩)]) (fun ⟨j, hj⟩ => kM n - j) (⟨0, by omega⟩) ?_
  rintro ⟨j, hj⟩
  refine LA ?_
  have hl := X7 n j
  apply z6
  refine WS [3, 4, 6, 7, 33] [29, 44, 45] ?_
  refine WI ?_ ?_ <;> intro hb
  ·have hs2 := z6y (m := Qg n) (j := kM n - 1 - j) hr.1 (by omega)
   rw [show ((kM n - 1 - j : Nat) : Int) = (kM n : Int) - 1 - j by omega] at hs2
   have h8 := zdx ((Qg n).toNat / 256 ^ (kM n - 1 - j))
   have hE := And.intro hE (And.intro hs2 h8)
   apply z9
   apply z7
   apply z6
   apply zc
   refine WQ [3, 4, 6, 7] [29, 44, 45] ?_
   apply zg
   apply z7
   refine WQ [3, 4, 6, 7] [29, 44, 45] ?_
   refine WN (⟨j + 1, by omega⟩)
  ·apply zn
   apply zh
   have hend : j = kM n := by omega
   subst hend
   apply ze
   apply zw
   apply z7
   refine WS [2] [29, 44, 45] ?_
   apply za
   apply z7y
   exact E0
theorem zim (s : ByteArray) : (x7 s).length = kM s.size + 1 + s.size := by simp [x7, w7, j8]
theorem z9u (l : List Int) : z0g l 0 = wd l.length := by simp [z0g, zda]
theorem z9t (l : List Int) (i : Nat) (h : i < l.length) : z0g l (i + 1) = z0g l i ++ wd (l.getD i default) := by
 simp [z0g, z3d l i h, List.flatMap_append, List.append_assoc]
theorem Zm {α : Type} (f : α → List Int) (c : Nat) : ∀ l : List α, (∀ x ∈ l, (f x).length ≤ c) → (l.flatMap f).length ≤ c * l.length
 | [], _ => by simp
 | x :: l, h => by
  have h1 := h x (by simp)
  have h2 := Zm f c l fun y hy => h y (by simp [hy])
  rw [List.flatMap_cons, List.length_append, List.length_cons, Nat.mul_succ]
  omega
theorem za6 {α : Type} {l : List α} {i : Nat} {x : α} (h : x ∈ z1d l i) : x ∈ l := List.mem_of_mem_take h
theorem vj {n : Int} (h : I64 n) : (wd n).length ≤ 9 := by
 rw [w7]
 have := Xu h
 omega
theorem z9s {l : List Int} (h : ∀ x ∈ l, I64 x) {i : Nat} (hi : i ≤ l.length) (hl : l.length ≤ 1000000) : (z0g l i).length ≤ 9 + 9 * i := by
 have h1 := Zm wd 9 (z1d l i) fun x hx => vj (h x (za6 hx))
 have h2 : (wd (l.length : Int)).length ≤ 9 := vj (by unfold I64; omega)
 rw [z2e l i hi] at h1
 simp only [z0g, List.length_append]
 omega
theorem zba (l : List ByteArray) : Zi l 0 = wd l.length := by simp [Zi, zda]
theorem zb9 (l : List ByteArray) (i : Nat) (h : i < l.length) : Zi l (i + 1) = Zi l i ++ x7 (l.getD i default) := by
 simp [Zi, z3d l i h, List.flatMap_append, List.append_assoc]
theorem Zt {s : ByteArray} (h : s.size ≤ 1000000) : (x7 s).length ≤ 1000009 := by
 rw [zim]
 have := Xu (n := s.size) (by unfold I64; omega)
 omega
theorem zb8 {l : List ByteArray} (h : ∀ s ∈ l, s.size ≤ 1000000) {i : Nat} (hi : i ≤ l.length) (hl : l.length ≤ 1000000) : (Zi l i).length ≤ 9 + 1000009 * i := by
 have h1 := Zm x7 1000009 (z1d l i) fun x hx => Zt (h x (za6 hx))
 have h2 : (wd (l.length : Int)).length ≤ 9 := vj (by unfold I64; omega)
 rw [z2e l i hi] at h1
 simp only [Zi, List.length_append]
 omega
theorem zfk (G) (n : Int) (hn : I64 n) : zo Tryz.prog G 44 [iD n] [wm (wd n)] := (z2u G n hn).row (w7 n).symm
theorem zbk (G) (s : ByteArray) (hs : s.size ≤ 1000000) : GivesX Tryz.prog G 51 [.dat (sD s)] [] [.osl 7 1 0 (x7 s).length] [(7, ⟨1, ((x7 s).map u8D).map .dat⟩)] := by
 have hk := Xu (n := s.size) (by unfold I64; omega)
 have hil := w7 s.size
 skip
 skip
 skip
 refine GX [] [5] [] Tryz.func51 Tryz.ntmps51 fun F hP hG hN hR hA => ?_
 have hE := And.intro @Tryz.results51 (And.intro @IntWalk.i64_in (And.intro @j8 (@w7)))
 refine WS [0] [5] ?_
 apply zu [2] [7, 5]
 ·refine RN ?_
  refine CX (fun _ => 5) [45] (z2u G s.size (by unfold I64; omega)) ?_
  exact SC
 apply za
 simp only [kz, ym, vv, qt, qi, qr, vn, qg, qa, xu, qx, vg, xk, xx, xt, vf, xw, xh, xy, xd, avA, zl, zp, seval, ↓List.forall_mem_cons, Op.operands, hP, hG, tiA, hE, x7, List.length_append, List.map_append]
 all_goals try trivial
theorem zdw (G) (s : ByteArray) (hs : s.size ≤ 1000000) : zo Tryz.prog G 51 [sD s] [wm (x7 s)] := (zbk G s hs).row rfl
theorem z74 (G) (l : List Int) (hl : ∀ x ∈ l, I64 x) (hn : l.length ≤ 1000000) : GivesX Tryz.prog G 39 [.dat (isD l)] [] [.osl 18 1 0 (intsM l).length] [(18, ⟨1, ((intsM l).map u8D).map .dat⟩)] := by
 have hk := Xu (n := l.length) (by unfold I64; omega)
 have hil := w7 l.length
 skip
 skip
 skip
 refine GX [] [8, 17] [] Tryz.func39 Tryz.ntmps39 fun F hP hG hN hR hA => ?_
 have hE := And.intro @Tryz.results39 (And.intro @z9u (And.intro @w7 (@intsM.eq_1)))
 refine WS [0] [18] ?_
 apply zu [0, 3] [18]
 ·refine RN ?_
  refine CX (fun _ => 18) [45] (z2u G l.length (by unfold I64; omega)) ?_
  exact SC
 apply z6
 refine WS [3, 9, 10, 11] [18] ?_
 apply zc
 refine WL (ι := {i : Nat // i ≤ l.length}) [9, 10] [] (fun ⟨i, hi⟩ => [(3, .osl 18 1 0 (z0g l i).length), (11, .dat (iD i))]) (fun ⟨i, hi⟩ => [(18, ⟨1, ((z0g l i).map u8D).map .dat⟩)]) (fun ⟨i, hi⟩ => l.length - i) (⟨0, by omega⟩) ?_
 rintro ⟨i, hi⟩
 refine LA ?_
 refine WS [3, 9, 10, 11, 12] [18] ?_
 apply z6
 refine WI ?_ ?_ <;> intro hb
 ·have hx := x4 hl (i := i) (by omega)
  have hle := z9s hl hi hn
  have hkx := Xu hx
  have hixl := w7 (l.getD i default)
  have hsc := z9t l i (by omega)
  have hE := And.intro hE hsc
  apply z9
  apply z7
  apply z6
  apply zc
  refine WS [3, 5, 9, 10, 11] [18] ?_
  apply kf [3, 9, 10, 11] [18]
  ·refine RN ?_
   refine CX (fun _ => 17) [45] (z2u G (l.getD i default) hx) ?_
   exact SC
  apply zg
  apply z7
  refine WQ [3, 9, 10, 11] [18] ?_
  refine WN (⟨i + 1, by omega⟩)
 ·apply zn
  apply zh
  have hend : i = l.length := by omega
  subst hend
  apply ze
  apply zw
  apply z7
  refine WS [2] [18] ?_
  apply za
  exact E0
def mN (n : Int) (i : Nat) : Nat := (Qg n).toNat / 256 ^ i
theorem zut {n : Int} (h : I64 n) : (mN n 0 : Int) = Qg n := by
 have := Xa h
 simp [mN]
 omega
theorem zus (n : Int) (i : Nat) : mN n (i + 1) = mN n i / 256 := by simp [mN, Nat.pow_succ, Nat.div_div_eq_div_mul]
theorem zy3 (n : Int) (i : Nat) : 0 < mN n i ↔ i < kM n := z1y _ _
theorem zy4 (n : Int) (i : Nat) : Int.tdiv (mN n i : Int) 256 = (mN n (i + 1) : Int) := by
 rw [zus, Int.tdiv_eq_ediv_of_nonneg (by omega)]
 omega
theorem zy5 (n : Int) (i : Nat) : Int.tmod (mN n i : Int) 256 = ((mN n i % 256 : Nat) : Int) := by
 rw [Int.tmod_eq_emod_of_nonneg (by omega)]
 omega
theorem zwn {n : Int} (h : I64 n) (i : Nat) : mN n i < 9223372036854775808 := by
 have := Xa h
 have := Nat.div_le_self (Qg n).toNat (256 ^ i)
 unfold mN
 omega
def z92 (n : Int) (i : Nat) : List Int := (List.range i).map fun j => ((mN n j % 256 : Nat) : Int)
theorem zmz (n : Int) : z92 n 0 = [] := rfl
theorem zmy (n : Int) (i : Nat) : z92 n (i + 1) = z92 n i ++ [((mN n i % 256 : Nat) : Int)] := by simp [z92, List.range_succ]
theorem zgd (n : Int) (i : Nat) : (z92 n i).length = i := by simp [z92]
theorem zgc {n : Int} {i k : Nat} (h : i < k) : (z92 n k).getD i default = ((mN n i % 256 : Nat) : Int) := by
 simp [z92, List.getD_eq_getElem?_getD, h]
theorem zu1 (n : Int) (i : Nat) : digM n i = qk n ((mN n i % 256 : Nat) : Int) := rfl
theorem z2m (G) (n : Int) (hn : I64 n) : GivesX Tryz.prog G 50 [.dat (iD n)] [] [.osl 57 1 0 (kM n + 1)] [(57, ⟨1, ((wd n).map u8D).map .dat⟩)] := by
 have hr := Xa hn
 have hk := Xu hn
 have hm0 := zut hn
 unfold I64 at hn
 skip
 skip
 refine GX [] [] [] Tryz.func50 Tryz.ntmps50 fun F hP hG hN hR hA => ?_
 have hE := And.intro @Tryz.results50 (And.intro @IntWalk.i64_in (And.intro @IntWalk.u8_in (And.intro @zcx (And.intro @zcw (And.intro @X7 (And.intro @zu1 (And.intro @zlf (And.intro @zmz (And.intro @zmy (And.intro @zgd (And.intro @zy4 (@zy5))))))))))))
 refine WS [0] [] ?_
 refine WS [0, 3] [] ?_
 refine z0x (.of [(0, .dat (iD n)), (3, .dat (iD (Qg n)))] []) ?_ ?_
 ·refine WS [0, 3, 11] [] ?_
  refine WI ?_ ?_ <;> intro hb
  ·have h1 : -1 - n = Qg n := by unfold Qg; rw [if_pos hb]
   have hE := And.intro hE h1
   refine WQ [0, 3] [] ?_
   exact ML
  ·have h1 : Qg n = n := by unfold Qg; rw [if_neg (by omega)]
   have hE := And.intro hE h1
   apply z9
   exact ML
 refine WS [0, 3, 4] [21] ?_
 apply z6
 apply zc
 refine xz 21 1 (by omega) ?_
 refine y9 4 21 1 rfl rfl ?_
 refine WL (ι := {i : Nat // i ≤ kM n}) [0] [20] (fun ⟨i, hi⟩ => [(3, .dat (iD (mN n i))), (4, .osl 21 1 0 i)]) (fun ⟨i, hi⟩ => [(21, ⟨1, ((z92 n i).map u8D).map .dat⟩)]) (fun ⟨i, hi⟩ => kM n - i) (⟨0, by omega⟩) ?_
 rintro ⟨i, hi⟩
 refine LA ?_
 have hl := zgd n i
 have hmi := zy3 n i
 have hml := zwn hn i
 have hml2 := zwn hn (i + 1)
 apply z6
 refine WS [0, 3, 4, 15] [20, 21] ?_
 refine WI ?_ ?_ <;> intro hb
 ·apply z9
  apply z7
  apply zc
  refine WS [0, 3, 4] [20, 21] ?_
  refine WQ [0, 3, 4] [20, 21] ?_
  apply zg
  refine WN (⟨i + 1, by omega⟩)
 ·apply zn
  apply zh
  have hend : i = kM n := by omega
  subst hend
  apply ze
  apply zw
  apply z7
  refine WS [0, 4, 5] [20, 21] ?_
  refine WS [0, 4, 5, 6] [20, 21, 33, 39, 57] ?_
  apply z6
  refine WS [0, 4, 5, 6, 27] [20, 21, 33, 39, 57] ?_
  refine WI ?_ ?_ <;> intro hb
  ·have h3 : qk n (128 + (kM n : Int)) = 128 + (kM n : Int) := by unfold qk; rw [if_neg (by omega)]
   have hE := And.intro hE h3
   refine WQ [0, 4, 5, 6] [20, 21, 32, 33, 39, 57] ?_
   apply z7
   apply z6
   refine WS [0, 4, 6, 7] [20, 21, 32, 33, 38, 39, 57] ?_
   apply zc
   refine wv 33 57 (by omega) (by omega) ?_
   refine WL (ι := {j : Nat // j ≤ kM n}) [0, 4] [20, 21, 32, 33, 38, 39, 56] (fun ⟨j, hj⟩ => [(6, .osl 57 1 0 (j + 1)), (7, .dat (iD (kM n - 1 - j)))]) (fun ⟨j, hj⟩ => [(57, ⟨1, ((z4b n j).map u8D).map .dat⟩)]) (fun ⟨j, hj⟩ => kM n - j) (⟨0, by omega⟩) ?_
   rintro ⟨j, hj⟩
   refine LA ?_
   have hl2 := X7 n j
   apply z6
   refine WS [0, 4, 6, 7, 43] [20, 21, 32, 33, 38, 39, 56, 57] ?_
   refine WI ?_ ?_ <;> intro hb
   ·have hg : (z92 n (kM n)).getD ((kM n : Int) - 1 - j).toNat default = ((mN n (kM n - 1 - j) % 256 : Nat) : Int) := by
     rw [show ((kM n : Int) - 1 - j).toNat = kM n - 1 - j by omega]
     exact zgc (by omega)
    have hE := And.intro hE hg
    apply z9
    apply z7
    apply z6
    apply zc
    refine WS [0, 4, 6, 7, 8] [20, 21, 32, 33, 38, 39, 56, 57] ?_
    apply z6
    refine WS [0, 4, 6, 7, 8, 51] [20, 21, 32, 33, 38, 39, 56, 57] ?_
    refine WI ?_ ?_ <;> intro hb
    ·have h4 : ∀ x : Int, qk n x = 255 - x := fun x => by unfold qk; rw [if_pos (by omega)]
     have hE := And.intro hE h4
     refine WQ [0, 4, 6, 7, 8] [20, 21, 32, 33, 38, 39, 56, 57] ?_
     apply z7
     refine WQ [0, 4, 6, 7] [20, 21, 32, 33, 38, 39, 56, 57] ?_
     apply zg
     apply z7
     refine WQ [0, 4, 6, 7] [20, 21, 32, 33, 38, 39, 56, 57] ?_
     refine WN (⟨j + 1, by omega⟩)
    ·have h4 : ∀ x : Int, qk n x = x := fun x => by unfold qk; rw [if_neg (by omega)]
     have hE := And.intro hE h4
     apply z9
     apply z7
     refine WQ [0, 4, 6, 7] [20, 21, 32, 33, 38, 39, 56, 57] ?_
     apply zg
     apply z7
     refine WQ [0, 4, 6, 7] [20, 21, 32, 33, 38, 39, 56, 57] ?_
     refine WN (⟨j + 1, by omega⟩)
   ·apply zn
    apply zh
    have hend : j = kM n := by omega
    subst hend
    apply ze
    apply zw
    apply z7
    refine WS [2] [20, 21, 32, 33, 38, 39, 56, 57] ?_
    apply za
    exact E0
  ·have h3 : qk n (128 + (kM n : Int)) = 127 - (kM n : Int) := by unfold qk; rw [if_pos (by omega)]; omega
   have hE := And.intro hE h3
   refine WQ [0, 4, 5, 6] [20, 21, 33, 38, 39, 57] ?_
   apply z7
   apply z6
   refine WS [0, 4, 6, 7] [20, 21, 32, 33, 38, 39, 57] ?_
   apply zc
   refine wv 39 57 (by omega) (by omega) ?_
   refine WL (ι := {j : Nat // j ≤ kM n}) [0, 4] [20, 21, 32, 33, 38, 39, 56] (fun ⟨j, hj⟩ => [(6, .osl 57 1 0 (j + 1)), (7, .dat (iD (kM n - 1 - j)))]) (fun ⟨j, hj⟩ => [(57, ⟨1, ((z4b n j).map u8D).map .dat⟩)]) (fun ⟨j, hj⟩ => kM n - j) (⟨0, by omega⟩) ?_
   rintro ⟨j, hj⟩
   refine LA ?_
   have hl2 := X7 n j
   apply z6
   refine WS [0, 4, 6, 7, 43] [20, 21, 32, 33, 38, 39, 56, 57] ?_
   refine WI ?_ ?_ <;> intro hb
   ·have hg : (z92 n (kM n)).getD ((kM n : Int) - 1 - j).toNat default = ((mN n (kM n - 1 - j) % 256 : Nat) : Int) := by
     rw [show ((kM n : Int) - 1 - j).toNat = kM n - 1 - j by omega]
     exact zgc (by omega)
    have hE := And.intro hE hg
    apply z9
    apply z7
    apply z6
    apply zc
    refine WS [0, 4, 6, 7, 8] [20, 21, 32, 33, 38, 39, 56, 57] ?_
    apply z6
    refine WS [0, 4, 6, 7, 8, 51] [20, 21, 32, 33, 38, 39, 56, 57] ?_
    refine WI ?_ ?_ <;> intro hb
    ·have h4 : ∀ x : Int, qk n x = 255 - x := fun x => by unfold qk; rw [if_pos (by omega)]
     have hE := And.intro hE h4
     refine WQ [0, 4, 6, 7, 8] [20, 21, 32, 33, 38, 39, 56, 57] ?_
     apply z7
     refine WQ [0, 4, 6, 7] [20, 21, 32, 33, 38, 39, 56, 57] ?_
     apply zg
     apply z7
     refine WQ [0, 4, 6, 7] [20, 21, 32, 33, 38, 39, 56, 57] ?_
     refine WN (⟨j + 1, by omega⟩)
    ·have h4 : ∀ x : Int, qk n x = x := fun x => by unfold qk; rw [if_neg (by omega)]
     have hE := And.intro hE h4
     apply z9
     apply z7
     refine WQ [0, 4, 6, 7] [20, 21, 32, 33, 38, 39, 56, 57] ?_
     apply zg
     apply z7
     refine WQ [0, 4, 6, 7] [20, 21, 32, 33, 38, 39, 56, 57] ?_
     refine WN (⟨j + 1, by omega⟩)
   ·apply zn
    apply zh
    have hend : j = kM n := by omega
    subst hend
    apply ze
    apply zw
    apply z7
    refine WS [2] [20, 21, 32, 33, 38, 39, 56, 57] ?_
    apply za
    exact E0
theorem z1h (G) (n : Int) (hn : I64 n) : zo Tryz.prog G 50 [iD n] [wm (wd n)] := (z2m G n hn).row (w7 n).symm
theorem zqs : zj1 Tryz.prog 119 := .inl (by unfold zqr; kernel_rfl)
theorem z9b : zj1 Tryz.prog 65 := .inr (by unfold zgk; kernel_rfl)
theorem zj3 : zee Tryz.prog 25 := by unfold zee; kernel_rfl
theorem zqt : zee Tryz.prog 27 := by unfold zee; kernel_rfl
theorem zav (G) (a b : List Int) (ha : a.length ≤ 281474976710656) : zo Tryz.prog G 15 [.sl (a.map u8D), .sl (b.map u8D)] [bD (x5 (fun x y : Int => x == y) a b)] := by
 skip
 refine GI [] [] [] Tryz.func15 Tryz.ntmps15 fun F hP hG hN hR hA => ?_
 have hE := @Tryz.results15
 refine WS [0, 1] [] ?_
 apply z6
 refine WS [0, 1, 10] [] ?_
 refine WI ?_ ?_ <;> intro hb
 ·have hv : x5 (fun x y : Int => x == y) a b = false := yr (by omega)
  have hE := And.intro hE hv
  refine WS [4] [] ?_
  apply za
  apply zb
  exact E0
 ·have hlen : a.length = b.length := by omega
  apply z9
  apply z7
  apply z6
  refine WS [0, 1, 5] [] ?_
  apply zc
  refine WL (ι := {i : Nat // i ≤ a.length ∧ ∀ j, j < i → (fun x y : Int => x == y) (a.getD j default) (b.getD j default) = true}) [0, 1] [] (fun ⟨i, hih⟩ => [(5, .dat (iD i))]) (fun ⟨i, hih⟩ => []) (fun ⟨i, hih⟩ => a.length - i) (⟨0, by omega, fun j h => absurd h (Nat.not_lt_zero j)⟩) ?_
  rintro ⟨i, hih⟩
  refine LA ?_
  obtain ⟨hi, hall⟩ := id hih
  apply z6
  refine WS [0, 1, 5, 14] [] ?_
  refine WI ?_ ?_ <;> intro hb
  ·skip
   apply z9
   apply z7
   apply z6
   apply zc
   refine WD [0, 1, 5, 25] [] [0, 1, 2, 3, 4, 5, 6, 7, 8] [] ?_
   refine WI ?_ ?_ <;> intro hb
   ·have hv : x5 (fun x y : Int => x == y) a b = false := jc i (by omega) hlen (by simp only [beq_eq_false_iff_ne]; exact hb)
    have hE := And.intro hE hv
    refine WS [4] [] ?_
    apply za
    apply zf
    apply zb
    apply qb
    apply zf
    apply zb
    exact E0
   ·have hok : (fun x y : Int => x == y) (a.getD i default) (b.getD i default) = true := (by simp only [beq_iff_eq]; exact hb)
    apply z9
    apply zg
    apply z7
    refine WQ [0, 1, 5] [] ?_
    refine WN (⟨i + 1, by omega, vx hih.2 hok⟩)
  ·apply zn
   apply zh
   obtain rfl : i = a.length := by omega
   have hv : x5 (fun x y : Int => x == y) a b = true := jb hlen hall
   have hE := And.intro hE hv
   apply ze
   apply zw
   apply z7
   refine WS [4] [] ?_
   apply za
   exact E0
theorem z6v (G) (a b : List ByteArray) (ha : a.length ≤ 281474976710656) : zo Tryz.prog G 98 [.sl (a.map sD), .sl (b.map sD)] [bD (x5 w6 a b)] := by
 skip
 refine GI [] [] [] Tryz.func98 Tryz.ntmps98 fun F hP hG hN hR hA => ?_
 have hE := @Tryz.results98
 refine WS [0, 1] [] ?_
 apply z6
 refine WS [0, 1, 10] [] ?_
 refine WI ?_ ?_ <;> intro hb
 ·have hv : x5 w6 a b = false := yr (by omega)
  have hE := And.intro hE hv
  refine WS [4] [] ?_
  apply za
  apply zb
  exact E0
 ·have hlen : a.length = b.length := by omega
  apply z9
  apply z7
  apply z6
  refine WS [0, 1, 5] [] ?_
  apply zc
  refine WL (ι := {i : Nat // i ≤ a.length ∧ ∀ j, j < i → w6 (a.getD j default) (b.getD j default) = true}) [0, 1] [] (fun ⟨i, hih⟩ => [(5, .dat (iD i))]) (fun ⟨i, hih⟩ => []) (fun ⟨i, hih⟩ => a.length - i) (⟨0, by omega, fun j h => absurd h (Nat.not_lt_zero j)⟩) ?_
  rintro ⟨i, hih⟩
  refine LA ?_
  obtain ⟨hi, hall⟩ := id hih
  apply z6
  refine WS [0, 1, 5, 14] [] ?_
  refine WI ?_ ?_ <;> intro hb
  ·skip
   apply z9
   apply z7
   apply z6
   apply zc
   refine WD [0, 1, 5, 25] [] [0, 1, 2, 3, 4, 5, 6, 7, 8] [] ?_
   refine WI ?_ ?_ <;> intro hb
   ·have hv : x5 w6 a b = false := jc i (by omega) hlen (by simp only [w6, decide_eq_false_iff_not]; exact fun h => hb (congrArg ByteArray.toList h))
    have hE := And.intro hE hv
    refine WS [4] [] ?_
    apply za
    apply zf
    apply zb
    apply qb
    apply zf
    apply zb
    exact E0
   ·have hok : w6 (a.getD i default) (b.getD i default) = true := (by simp only [w6, decide_eq_true_eq]; exact z5r hb)
    apply z9
    apply zg
    apply z7
    refine WQ [0, 1, 5] [] ?_
    refine WN (⟨i + 1, by omega, vx hih.2 hok⟩)
  ·apply zn
   apply zh
   obtain rfl : i = a.length := by omega
   have hv : x5 w6 a b = true := jb hlen hall
   have hE := And.intro hE hv
   apply ze
   apply zw
   apply z7
   refine WS [4] [] ?_
   apply za
   exact E0
theorem zoq (G) (a b : List (Int × Int)) (ha : a.length ≤ 281474976710656) : zo Tryz.prog G 100 [.sl (a.map Xw), .sl (b.map Xw)] [bD (x5 wy a b)] := by
 skip
 skip
 refine GI [] [] [] Tryz.func100 Tryz.ntmps100 fun F hP hG hN hR hA => ?_
 have hE := And.intro @Tryz.results100 (@zqs)
 refine WS [0, 1] [] ?_
 apply z6
 refine WS [0, 1, 10] [] ?_
 refine WI ?_ ?_ <;> intro hb
 ·have hv : x5 wy a b = false := yr (by omega)
  have hE := And.intro hE hv
  refine WS [4] [] ?_
  apply za
  apply zb
  exact E0
 ·have hlen : a.length = b.length := by omega
  apply z9
  apply z7
  apply z6
  refine WS [0, 1, 5] [] ?_
  apply zc
  refine WL (ι := {i : Nat // i ≤ a.length ∧ ∀ j, j < i → wy (a.getD j default) (b.getD j default) = true}) [0, 1] [] (fun ⟨i, hih⟩ => [(5, .dat (iD i))]) (fun ⟨i, hih⟩ => []) (fun ⟨i, hih⟩ => a.length - i) (⟨0, by omega, fun j h => absurd h (Nat.not_lt_zero j)⟩) ?_
  rintro ⟨i, hih⟩
  refine LA ?_
  obtain ⟨hi, hall⟩ := id hih
  apply z6
  refine WS [0, 1, 5, 14] [] ?_
  refine WI ?_ ?_ <;> intro hb
  ·skip
   apply z9
   apply z7
   apply z6
   apply zc
   refine WD [0, 1, 5, 25] [] [0, 1, 2, 3, 4, 5, 6, 7, 8] [] ?_
   refine WI ?_ ?_ <;> intro hb
   ·have hv : x5 wy a b = false := jc i (by omega) hlen (by simpa [wy] using hb)
    have hE := And.intro hE hv
    refine WS [4] [] ?_
    apply za
    apply zf
    apply zb
    apply qb
    apply zf
    apply zb
    exact E0
   ·have hok : wy (a.getD i default) (b.getD i default) = true := (by simpa [wy] using hb)
    apply z9
    apply zg
    apply z7
    refine WQ [0, 1, 5] [] ?_
    refine WN (⟨i + 1, by omega, vx hih.2 hok⟩)
  ·apply zn
   apply zh
   obtain rfl : i = a.length := by omega
   have hv : x5 wy a b = true := jb hlen hall
   have hE := And.intro hE hv
   apply ze
   apply zw
   apply z7
   refine WS [4] [] ?_
   apply za
   exact E0
theorem zoi (G) (a b : List NameM) (ha : a.length ≤ 281474976710656) : zo Tryz.prog G 62 [.sl (a.map vb), .sl (b.map vb)] [bD (x5 wh a b)] := by
 skip
 skip
 refine GI [] [] [] Tryz.func62 Tryz.ntmps62 fun F hP hG hN hR hA => ?_
 have hE := And.intro @Tryz.results62 (@z9b)
 refine WS [0, 1] [] ?_
 apply z6
 refine WS [0, 1, 10] [] ?_
 refine WI ?_ ?_ <;> intro hb
 ·have hv : x5 wh a b = false := yr (by omega)
  have hE := And.intro hE hv
  refine WS [4] [] ?_
  apply za
  apply zb
  exact E0
 ·have hlen : a.length = b.length := by omega
  apply z9
  apply z7
  apply z6
  refine WS [0, 1, 5] [] ?_
  apply zc
  refine WL (ι := {i : Nat // i ≤ a.length ∧ ∀ j, j < i → wh (a.getD j default) (b.getD j default) = true}) [0, 1] [] (fun ⟨i, hih⟩ => [(5, .dat (iD i))]) (fun ⟨i, hih⟩ => []) (fun ⟨i, hih⟩ => a.length - i) (⟨0, by omega, fun j h => absurd h (Nat.not_lt_zero j)⟩) ?_
  rintro ⟨i, hih⟩
  refine LA ?_
  obtain ⟨hi, hall⟩ := id hih
  apply z6
  refine WS [0, 1, 5, 14] [] ?_
  refine WI ?_ ?_ <;> intro hb
  ·skip
   apply z9
   apply z7
   apply z6
   apply zc
   refine WD [0, 1, 5, 25] [] [0, 1, 2, 3, 4, 5, 6, 7, 8] [] ?_
   refine WI ?_ ?_ <;> intro hb
   ·have hv : x5 wh a b = false := jc i (by omega) hlen (by simpa [wh] using hb)
    have hE := And.intro hE hv
    refine WS [4] [] ?_
    apply za
    apply zf
    apply zb
    apply qb
    apply zf
    apply zb
    exact E0
   ·have hok : wh (a.getD i default) (b.getD i default) = true := (by simpa [wh] using hb)
    apply z9
    apply zg
    apply z7
    refine WQ [0, 1, 5] [] ?_
    refine WN (⟨i + 1, by omega, vx hih.2 hok⟩)
  ·apply zn
   apply zh
   obtain rfl : i = a.length := by omega
   have hv : x5 wh a b = true := jb hlen hall
   have hE := And.intro hE hv
   apply ze
   apply zw
   apply z7
   refine WS [4] [] ?_
   apply za
   exact E0
theorem zdm (G) (a b : List ByteArray) (ha : a.length ≤ 281474976710656) : zo Tryz.prog G 102 [.sl (a.map sD), .sl (b.map sD)] [bD (x5 w6 a b)] := by
 skip
 refine GI [] [] [] Tryz.func102 Tryz.ntmps102 fun F hP hG hN hR hA => ?_
 have hE := @Tryz.results102
 refine WS [0, 1] [] ?_
 apply z6
 refine WS [0, 1, 10] [] ?_
 refine WI ?_ ?_ <;> intro hb
 ·have hv : x5 w6 a b = false := yr (by omega)
  have hE := And.intro hE hv
  refine WS [4] [] ?_
  apply za
  apply zb
  exact E0
 ·have hlen : a.length = b.length := by omega
  apply z9
  apply z7
  apply z6
  refine WS [0, 1, 12, 13] [] ?_
  apply zc
  refine WL (ι := {i : Nat // i ≤ a.length ∧ ∀ j, j < i → w6 (a.getD j default) (b.getD j default) = true}) [0, 1, 12] [] (fun ⟨i, hih⟩ => [(13, .dat (iD i))]) (fun ⟨i, hih⟩ => []) (fun ⟨i, hih⟩ => a.length - i) (⟨0, by omega, fun j h => absurd h (Nat.not_lt_zero j)⟩) ?_
  rintro ⟨i, hih⟩
  refine LA ?_
  obtain ⟨hi, hall⟩ := id hih
  refine WS [0, 1, 12, 13, 14] [] ?_
  apply z6
  refine WI ?_ ?_ <;> intro hb
  ·skip
   apply z9
   apply z7
   apply z6
   apply zc
   refine WS [0, 1, 5, 12, 13] [] ?_
   refine WD [0, 1, 12, 13, 24] [] [0, 1, 2, 3, 4, 5, 6, 7, 8] [] ?_
   refine WI ?_ ?_ <;> intro hb
   ·have hv : x5 w6 a b = false := jc i (by omega) hlen (by simp only [w6, decide_eq_false_iff_not]; exact fun h => hb (congrArg ByteArray.toList h))
    have hE := And.intro hE hv
    refine WS [4] [] ?_
    apply za
    apply zf
    apply zb
    apply qb
    apply zf
    apply zb
    exact E0
   ·have hok : w6 (a.getD i default) (b.getD i default) = true := (by simp only [w6, decide_eq_true_eq]; exact z5r hb)
    apply z9
    apply zg
    apply z7
    refine WQ [0, 1, 12, 13] [] ?_
    refine WN (⟨i + 1, by omega, vx hih.2 hok⟩)
  ·apply zn
   apply zh
   obtain rfl : i = a.length := by omega
   have hv : x5 w6 a b = true := jb hlen hall
   have hE := And.intro hE hv
   apply ze
   apply zw
   apply z7
   refine WS [4] [] ?_
   apply za
   exact E0
theorem zp3 (G) (a b : List (Int × Int)) (ha : a.length ≤ 281474976710656) : zo Tryz.prog G 103 [.sl (a.map Xw), .sl (b.map Xw)] [bD (x5 wy a b)] := by
 skip
 skip
 refine GI [] [] [] Tryz.func103 Tryz.ntmps103 fun F hP hG hN hR hA => ?_
 have hE := And.intro @Tryz.results103 (@zqs)
 refine WS [0, 1] [] ?_
 apply z6
 refine WS [0, 1, 10] [] ?_
 refine WI ?_ ?_ <;> intro hb
 ·have hv : x5 wy a b = false := yr (by omega)
  have hE := And.intro hE hv
  refine WS [4] [] ?_
  apply za
  apply zb
  exact E0
 ·have hlen : a.length = b.length := by omega
  apply z9
  apply z7
  apply z6
  refine WS [0, 1, 12, 13] [] ?_
  apply zc
  refine WL (ι := {i : Nat // i ≤ a.length ∧ ∀ j, j < i → wy (a.getD j default) (b.getD j default) = true}) [0, 1, 12] [] (fun ⟨i, hih⟩ => [(13, .dat (iD i))]) (fun ⟨i, hih⟩ => []) (fun ⟨i, hih⟩ => a.length - i) (⟨0, by omega, fun j h => absurd h (Nat.not_lt_zero j)⟩) ?_
  rintro ⟨i, hih⟩
  refine LA ?_
  obtain ⟨hi, hall⟩ := id hih
  refine WS [0, 1, 12, 13, 14] [] ?_
  apply z6
  refine WI ?_ ?_ <;> intro hb
  ·skip
   apply z9
   apply z7
   apply z6
   apply zc
   refine WS [0, 1, 5, 12, 13] [] ?_
   refine WD [0, 1, 12, 13, 24] [] [0, 1, 2, 3, 4, 5, 6, 7, 8] [] ?_
   refine WI ?_ ?_ <;> intro hb
   ·have hv : x5 wy a b = false := jc i (by omega) hlen (by simpa [wy] using hb)
    have hE := And.intro hE hv
    refine WS [4] [] ?_
    apply za
    apply zf
    apply zb
    apply qb
    apply zf
    apply zb
    exact E0
   ·have hok : wy (a.getD i default) (b.getD i default) = true := (by simpa [wy] using hb)
    apply z9
    apply zg
    apply z7
    refine WQ [0, 1, 12, 13] [] ?_
    refine WN (⟨i + 1, by omega, vx hih.2 hok⟩)
  ·apply zn
   apply zh
   obtain rfl : i = a.length := by omega
   have hv : x5 wy a b = true := jb hlen hall
   have hE := And.intro hE hv
   apply ze
   apply zw
   apply z7
   refine WS [4] [] ?_
   apply za
   exact E0
theorem zw5 (G) (a b : List IdM) (ha : a.length ≤ 281474976710656) : zo Tryz.prog G 104 [.sl (a.map idD), .sl (b.map idD)] [bD (x5 xg a b)] := by
 skip
 skip
 refine GI [] [] [] Tryz.func104 Tryz.ntmps104 fun F hP hG hN hR hA => ?_
 have hE := And.intro @Tryz.results104 (@zj3)
 refine WS [0, 1] [] ?_
 apply z6
 refine WS [0, 1, 10] [] ?_
 refine WI ?_ ?_ <;> intro hb
 ·have hv : x5 xg a b = false := yr (by omega)
  have hE := And.intro hE hv
  refine WS [4] [] ?_
  apply za
  apply zb
  exact E0
 ·have hlen : a.length = b.length := by omega
  apply z9
  apply z7
  apply z6
  refine WS [0, 1, 12, 13] [] ?_
  apply zc
  refine WL (ι := {i : Nat // i ≤ a.length ∧ ∀ j, j < i → xg (a.getD j default) (b.getD j default) = true}) [0, 1, 12] [] (fun ⟨i, hih⟩ => [(13, .dat (iD i))]) (fun ⟨i, hih⟩ => []) (fun ⟨i, hih⟩ => a.length - i) (⟨0, by omega, fun j h => absurd h (Nat.not_lt_zero j)⟩) ?_
  rintro ⟨i, hih⟩
  refine LA ?_
  obtain ⟨hi, hall⟩ := id hih
  refine WS [0, 1, 12, 13, 14] [] ?_
  apply z6
  refine WI ?_ ?_ <;> intro hb
  ·skip
   apply z9
   apply z7
   apply z6
   apply zc
   refine WS [0, 1, 5, 12, 13] [] ?_
   refine WD [0, 1, 12, 13, 24] [] [0, 1, 2, 3, 4, 5, 6, 7, 8] [] ?_
   refine WI ?_ ?_ <;> intro hb
   ·have hv : x5 xg a b = false := jc i (by omega) hlen (by simpa [xg] using hb)
    have hE := And.intro hE hv
    refine WS [4] [] ?_
    apply za
    apply zf
    apply zb
    apply qb
    apply zf
    apply zb
    exact E0
   ·have hok : xg (a.getD i default) (b.getD i default) = true := (by simpa [xg] using hb)
    apply z9
    apply zg
    apply z7
    refine WQ [0, 1, 12, 13] [] ?_
    refine WN (⟨i + 1, by omega, vx hih.2 hok⟩)
  ·apply zn
   apply zh
   obtain rfl : i = a.length := by omega
   have hv : x5 xg a b = true := jb hlen hall
   have hE := And.intro hE hv
   
   apply ze
   apply zw
   apply z7
   refine WS [4] [] ?_
   apply za
   exact E0
theorem zcq {n s b : Int} (h : s < 0 ↔ n < 0) : qk s (qk n b) = b := by
 unfold qk
 by_cases hn : n < 0
 ·rw [if_pos hn, if_pos (h.2 hn)]; omega
 ·rw [if_neg hn, if_neg (fun hs => hn (h.1 hs))]
theorem zug (n : Int) (r : List Int) {j : Nat} (hj : j < kM n) : (wd n ++ r).getD (j + 1) default = digM n (kM n - 1 - j) := by
 unfold wd z4b
 simp [List.getD_eq_getElem?_getD, List.getElem?_append, hj]
theorem zcy (l : List Int) : intsM l = wd l.length ++ l.flatMap wd := by unfold intsM z0g; rw [Xg]
theorem zdn (l : List ByteArray) : strsM l = wd l.length ++ l.flatMap x7 := by unfold strsM Zi; rw [Xg]
theorem zel {n : Nat} (h : n ≤ 1000000000000) : I64 (n : Int) := by unfold I64; omega
def nR (b : List Int) : Int := if giS b < 0 then -1 - giM b (giK b).toNat else giM b (giK b).toNat
theorem zue {b : List Int} : giS b < 0 ↔ b.getD 0 default < 128 := by
 unfold giS; split <;> omega
theorem zeh {b : List Int} (h : isB b) : 0 ≤ giK b := by
 have := kc h 0
 unfold giK qk giS
 split <;> split <;> omega
theorem zgo {b : List Int} (h : isB b) (j : Nat) : giM b (j + 1) / 256 = giM b j ∧ giM b (j + 1) % 256 = qk (giS b) (b.getD (j + 1) default) := by
 have h1 := Q3 (n := giS b) (kc h (j + 1))
 rw [giM]
 omega
theorem z8b {b : List Int} (h : isB b) (j : Nat) : ∀ i, giM b (j + i) / ((256 ^ i : Nat) : Int) = giM b j
 | 0 => by simp
 | i + 1 => by
  have h1 := (zgo h (j + i)).1
  have h2 := z8b h j i
  rw [Nat.pow_succ, Nat.mul_comm, Int.natCast_mul, ← Int.ediv_ediv_of_nonneg (Int.natCast_nonneg _), show ((256 : Nat) : Int) = 256 from rfl, show j + (i + 1) = j + i + 1 from rfl, h1, h2]
theorem zjr {b : List Int} (h : isB b) : (nR b < 0 ↔ giS b < 0) ∧ Qg (nR b) = giM b (giK b).toNat := by
 have h1 := (Q5 h (giK b).toNat).1
 unfold nR Qg
 split <;> split <;> omega
theorem zuw {b : List Int} (h : isB b) (hz : ¬ (0 < giK b ∧ qk (giS b) (b.getD 1 default) = 0)) : kM (nR b) = (giK b).toNat := by
 have hk := zeh h
 unfold kM
 rw [(zjr h).2]
 obtain ⟨h1, h2⟩ := Q5 h (giK b).toNat
 have hle : z3n (giM b (giK b).toNat).toNat ≤ (giK b).toNat := zkv (by omega)
 rcases Nat.eq_zero_or_pos (giK b).toNat with h0 | h0
 ·omega
 ·have h3 : 0 < qk (giS b) (b.getD 1 default) := by
   have := Q3 (n := giS b) (kc h 1)
   rcases Int.lt_or_eq_of_le this.1 with q | q
   ·exact q
   ·exact absurd ⟨by omega, q.symm⟩ hz
  have h4 := z8b h 1 ((giK b).toNat - 1)
  rw [show 1 + ((giK b).toNat - 1) = (giK b).toNat by omega] at h4
  have h5 : giM b 1 = qk (giS b) (b.getD 1 default) := by simp [giM]
  rw [h5] at h4
  have h6 : (giK b).toNat - 1 < z3n (giM b (giK b).toNat).toNat := by
   rw [← z1y]
   have e : (((giM b (giK b).toNat).toNat / 256 ^ ((giK b).toNat - 1) : Nat) : Int) = giM b (giK b).toNat / ((256 ^ ((giK b).toNat - 1) : Nat) : Int) := by
    rw [Int.natCast_ediv, Int.toNat_of_nonneg h1]
   omega
  omega
theorem zux {b : List Int} (h : isB b) (hz : 0 < giK b ∧ qk (giS b) (b.getD 1 default) = 0) : kM (nR b) < (giK b).toNat := by
 unfold kM
 rw [(zjr h).2]
 have h4 := z8b h 1 ((giK b).toNat - 1)
 rw [show 1 + ((giK b).toNat - 1) = (giK b).toNat by omega] at h4
 have h5 : giM b 1 = qk (giS b) (b.getD 1 default) := by simp [giM]
 rw [h5, hz.2] at h4
 obtain ⟨h1, _⟩ := Q5 h (giK b).toNat
 have h6 : ¬ (giK b).toNat - 1 < z3n (giM b (giK b).toNat).toNat := by
  rw [← z1y]
  have e : (((giM b (giK b).toNat).toNat / 256 ^ ((giK b).toNat - 1) : Nat) : Int) = giM b (giK b).toNat / ((256 ^ ((giK b).toNat - 1) : Nat) : Int) := by
   rw [Int.natCast_ediv, Int.toNat_of_nonneg h1]
  omega
 omega
theorem zrs {b : List Int} (h : isB b) (hl : (giK b).toNat < b.length) (hz : ¬ (0 < giK b ∧ qk (giS b) (b.getD 1 default) = 0)) : wd (nR b) = b.take ((giK b).toNat + 1) := by
 have hk := zeh h
 have hd := zuw h hz
 obtain ⟨hn, hm⟩ := zjr h
 have hget : ∀ i, i < b.length → b[i]? = some (b.getD i default) := fun i hi => by simp [List.getD_eq_getElem?_getD, hi]
 apply List.ext_getElem?
 intro i
 rcases Nat.lt_or_ge i ((giK b).toNat + 1) with hi | hi
 ·rw [List.getElem?_take, if_pos hi, hget i (by omega)]
  cases i with
  | zero =>
   unfold wd z4b
   rw [List.getElem?_cons_zero, hd]
   have h0 : qk (nR b) (giK b + 128) = b.getD 0 default := by
    unfold giK
    rw [Int.sub_add_cancel]
    exact zcq hn
   congr 1
   rw [← h0]
   congr 1
   omega
  | succ j =>
   have hj : j < kM (nR b) := by omega
   have := zug (nR b) [] hj
   rw [List.append_nil] at this
   have hlen : j + 1 < (wd (nR b)).length := by rw [w7]; omega
   rw [List.getD_eq_getElem?_getD, List.getElem?_eq_getElem hlen, Option.getD_some] at this
   rw [List.getElem?_eq_getElem hlen, this]
   congr 1
   unfold digM
   rw [hm, hd]
   have h4 := z8b h (j + 1) ((giK b).toNat - 1 - j)
   rw [show j + 1 + ((giK b).toNat - 1 - j) = (giK b).toNat by omega] at h4
   have h1 := (Q5 h (giK b).toNat).1
   have e : (((giM b (giK b).toNat).toNat / 256 ^ ((giK b).toNat - 1 - j) % 256 : Nat) : Int) = qk (giS b) (b.getD (j + 1) default) := by
    rw [Int.natCast_emod, Int.natCast_ediv, Int.toNat_of_nonneg h1, h4]
    exact (zgo h j).2
   rw [e]
   exact zcq hn
 ·rw [List.getElem?_eq_none (by rw [w7]; omega), List.getElem?_eq_none (by rw [List.length_take]; omega)]
theorem zr9 {b : List Int} (h : isB b) (hl : (giK b).toNat < b.length) : x5 (fun x y : Int => x == y) (wd (nR b)) (b.take ((giK b).toNat + 1)) = true ↔ ¬ (0 < giK b ∧ qk (giS b) (b.getD 1 default) = 0) := by
 constructor
 ·intro hs hz
  have h1 := zux h hz
  have h2 := yr (f := fun x y : Int => x == y) (a := wd (nR b)) (b := b.take ((giK b).toNat + 1)) (by rw [w7, List.length_take]; omega)
  rw [h2] at hs; cases hs
 ·intro hz
  rw [zrs h hl hz]
  generalize b.take ((giK b).toNat + 1) = l
  induction l with
  | nil => rfl
  | cons x l ih => simp [x5, ih]
theorem z9j {b : List Int} (h0 : b.length ≠ 0) (h1 : ¬ 8 < giK b) (h2 : ¬ (b.length : Int) ≤ giK b) (h : (0 < giK b ∧ qk (giS b) (b.getD 1 default) = 0) ∨ 9223372036854775808 ≤ giM b (giK b).toNat) : zj b = (0, 0, 2) := by
 unfold zj
 rw [if_neg h0, if_neg h1, if_neg h2]
 split
 ·rfl
 ·rename_i h3
  rw [if_pos (h.resolve_left h3)]
set_option maxRecDepth 100000 in
set_option maxHeartbeats 2000000 in
theorem z1g (G) (b : List Int) (hib : isB b) (hl : b.length ≤ 1099511627776) : zo Tryz.prog G 97 [wm b] [iD (zj b).1, iD (zj b).2.1, iD (zj b).2.2] := by
 have hg0 := kc hib 0
 have hs := zue (b := b)
 have hk0 := zeh hib
 skip
 refine GI [] [] [] Tryz.func97 Tryz.ntmps97 fun F hP hG hN hR hA => ?_
 have hE := @Tryz.results97
 refine WS [0] [] ?_
 apply z6
 refine WS [0, 13] [] ?_
 refine WI ?_ ?_ <;> intro hb
 ·have hv : zj b = (0, 0, 3) := by unfold zj; rw [if_pos (by omega)]
  have hE := And.intro hE hv
  refine WS [2, 3, 4] [] ?_
  apply za
  apply zb
  exact E0
 ·have hne : b.length ≠ 0 := by omega
  apply z9
  apply z7
  refine WS [0, 5] [] ?_
  apply z6
  refine WS [0, 5, 23] [] ?_
  refine WI ?_ ?_ <;> intro hb
  ·have hv : zj b = (0, 0, 2) := by
    unfold zj
    rw [if_neg hne, if_pos]
    unfold giK qk
    split <;> omega
   have hE := And.intro hE hv
   refine WS [2, 3, 4] [] ?_
   apply za
   apply zb
   exact E0
  ·have hk8 : ¬ 8 < giK b := by
    unfold giK qk
    split <;> omega
   apply z9
   apply z7
   refine WS [0, 5, 6] [] ?_
   refine z0x (.of [(0, .dat (wm b)), (5, .dat (iD (b.getD 0 default))), (6, .dat (iD (giK b)))] []) ?_ ?_
   ·refine WS [0, 5, 6, 27] [] ?_
    refine WI ?_ ?_ <;> intro hb
    ·have hgk : 127 - b.getD 0 default = giK b := by unfold giK qk; rw [if_pos (hs.2 (by omega))]; omega
     have hE := And.intro hE hgk
     refine WQ [0, 5, 6] [] ?_
     exact ML
    ·have hgk : b.getD 0 default - 128 = giK b := by unfold giK qk; rw [if_neg (fun h => by have := hs.1 h; omega)]
     have hE := And.intro hE hgk
     apply z9
     exact ML
   apply z6
   refine WS [0, 5, 6, 34] [] ?_
   refine WI ?_ ?_ <;> intro hb
   ·have hv : zj b = (0, 0, 3) := by unfold zj; rw [if_neg hne, if_neg hk8, if_pos (by omega)]
    have hE := And.intro hE hv
    refine WS [2, 3, 4] [] ?_
    apply za
    apply zb
    exact E0
   ·have hkl : ¬ (b.length : Int) ≤ giK b := by omega
    apply z9
    apply z7
    refine WS [0, 5, 6, 7] [] ?_
    apply z6
    refine WS [0, 5, 6, 7, 8] [] ?_
    apply zc
    refine WL (ι := {j : Nat // j ≤ (giK b).toNat ∧ giM b j ≤ 9223372036854775807}) [0, 5, 6] [] (fun ⟨j, hj2⟩ => [(8, .dat (iD ((j : Int) + 1))), (7, .dat (iD (giM b j)))]) (fun ⟨j, hj2⟩ => []) (fun ⟨j, hj2⟩ => (giK b).toNat - j) (⟨0, by omega, by simp [giM]⟩) ?_
    rintro ⟨j, hj2⟩
    refine LA ?_
    obtain ⟨hj, hjm⟩ := id hj2
    have hjr := (Q5 hib j).1
    have hc1 : ((j : Int) + 1).toNat = j + 1 := by omega
    have hgj := kc hib (j + 1)
    have hE := And.intro hE hc1
    apply z6
    refine WS [0, 5, 6, 7, 8, 37] [] ?_
    refine WI ?_ ?_ <;> intro hb
    ·apply z9
     apply z7
     apply z6
     apply zc
     refine WS [0, 5, 6, 7, 8, 9] [] ?_
     refine z0x (.of [(0, .dat (wm b)), (5, .dat (iD (b.getD 0 default))), (6, .dat (iD (giK b))), (7, .dat (iD (giM b j))), (8, .dat (iD ((j : Int) + 1))), (9, .dat (iD (qk (giS b) (b.getD (j + 1) default))))] []) ?_ ?_
     ·refine WS [0, 5, 6, 7, 8, 9, 46] [] ?_
      refine WI ?_ ?_ <;> intro hb
      ·have hfl : qk (giS b) (b.getD (j + 1) default) = 255 - b.getD (j + 1) default := by unfold qk; rw [if_pos (hs.2 (by omega))]
       have hE := And.intro hE hfl
       refine WQ [0, 5, 6, 7, 8, 9] [] ?_
       exact ML
      ·have hfl : qk (giS b) (b.getD (j + 1) default) = b.getD (j + 1) default := by unfold qk; rw [if_neg (fun h => by have := hs.1 h; omega)]
       have hE := And.intro hE hfl
       apply z9
       exact ML
     apply z6
     refine WS [0, 5, 6, 7, 8, 9, 50] [] ?_
     refine WI ?_ ?_ <;> intro hb
     ·have hj7 : j = 7 := by
       have h7 := (Q5 hib j).2
       rcases Nat.lt_or_ge j 7 with q | q
       ·have h8 := Nat.pow_le_pow_right (n := 256) (by omega) (show j ≤ 6 by omega)
        have h9 : (256 : Nat) ^ 6 = 281474976710656 := by rfl
        omega
       ·omega
      subst hj7
      have hkk : (giK b).toNat = 8 := by omega
      have hst : giM b 8 = giM b 7 * 256 + qk (giS b) (b.getD 8 default) := rfl
      have hfr := Q3 (n := giS b) (kc hib 8)
      have hv : zj b = (0, 0, 2) := z9j hne hk8 hkl (.inr (by rw [hkk]; omega))
      have hE := And.intro hE hv
      refine WS [2, 3, 4] [] ?_
      apply za
      apply zb
      apply zf
      apply zb
      apply qb
      apply zf
      apply zb
      exact E0
     ·have hfr := Q3 (n := giS b) hgj
      have hst : 256 * giM b j + qk (giS b) (b.getD (j + 1) default) = giM b (j + 1) := by rw [giM]; omega
      have hnx : j + 1 ≤ (giK b).toNat ∧ giM b (j + 1) ≤ 9223372036854775807 := ⟨by omega, by omega⟩
      have hE := And.intro hE hst
      apply z9
      apply z7
      refine WQ [0, 5, 6, 7, 8] [] ?_
      apply zg
      apply z7
      refine WQ [0, 5, 6, 7, 8] [] ?_
      refine WN (⟨j + 1, hnx⟩)
    ·apply zn
     apply zh
     have hin : j = (giK b).toNat := by omega
     subst hin
     apply ze
     apply zw
     apply z7
     refine WS [0, 5, 6, 7, 10] [] ?_
     refine z0x (.of [(0, .dat (wm b)), (6, .dat (iD (giK b))), (10, .dat (iD (nR b)))] []) ?_ ?_
     ·refine WS [0, 6, 7, 10, 57] [] ?_
      refine WI ?_ ?_ <;> intro hb
      ·have hnr : -1 - giM b (giK b).toNat = nR b := by unfold nR; rw [if_pos (hs.2 (by omega))]
       have hE := And.intro hE hnr
       refine WQ [0, 6, 10] [] ?_
       exact ML
      ·have hnr : giM b (giK b).toNat = nR b := by unfold nR; rw [if_neg (fun h => by have := hs.1 h; omega)]
       have hE := And.intro hE hnr
       apply z9
       exact ML
     have hni : I64 (nR b) := by unfold nR I64; split <;> omega
     have hct : (giK b + 1).toNat = (giK b).toNat + 1 := by omega
     have hsm := zr9 hib (by omega)
     have hE := And.intro hE hct
     apply z6
     apply wn [6, 10, 67] [] [0, 1, 2, 3, 4, 5, 6, 7] []
     ·rw [hP]; kernel_rfl
     ·exact hR
     ·kernel_rfl
     ·(repeat (apply PickL.cons; exact rfl)); exact PickL.nil _
     ·refine RN ?_
      refine CU (z1h G (nR b) hni) ?_
      refine CU (zav G (wd (nR b)) (b.take ((giK b).toNat + 1)) (by have := Xu hni; rw [w7]; omega)) ?_
      exact SC
     refine WI ?_ ?_ <;> intro hb
     ·have hv : zj b = (0, 0, 2) := z9j hne hk8 hkl (.inl (Classical.byContradiction fun h => by have := hsm.2 h; rw [this] at hb; simp at hb))
      have hE := And.intro hE hv
      refine WS [2, 3, 4] [] ?_
      apply za
      apply zb
      exact E0
     ·have hz := hsm.1 (by simpa using hb)
      have hv : zj b = (nR b, giK b + 1, 0) := z7g hne hk8 hkl hz (by omega)
      have hE := And.intro hE hv
      apply z9
      apply z7
      refine WS [2, 3, 4] [] ?_
      apply za
      exact E0
def wj (b : List Int) : Int × Int × Int := if (qh b 1).2.2 = 0 then qh b 1 else (0, 0, (qh b 1).2.2)
theorem z6p (G) (b : List Int) (hib : isB b) (hl : b.length ≤ 1099511627776) : zo Tryz.prog G 96 [wm b, iD 1] [iD (wj b).1, iD (wj b).2.1, iD (wj b).2.2] := by
 have hr := qu hib
 have hm1 : IntKind.i64.wrap ((zj b).1 * 1) = (zj b).1 := by rw [Int.mul_one]; exact IntWalk.i64_in _ (by unfold I64 at hr; omega)
 skip
 skip
 refine GI [] [] [] Tryz.func96 Tryz.ntmps96 fun F hP hG hN hR hA => ?_
 have hE := And.intro @Tryz.results96 (@Int.mul_one)
 refine WS [0, 1] [] ?_
 have hc := gvF hP hG (z1g G b hib hl)
 refine WSc [0, 1, 7, 8, 9] [] ?_
 apply z6
 refine WS [0, 1, 7, 8, 9, 17] [] ?_
 refine WI ?_ ?_ <;> intro hb
 ·have hc : qh b 1 = zj b := by unfold qh; rw [if_pos (by simpa using hb)]
  have hv : wj b = (0, 0, (zj b).2.2) := by unfold wj; rw [hc, if_neg (by simpa using hb)]
  have hE := And.intro hE hv
  refine WS [4, 5, 6] [] ?_
  apply za
  apply zb
  exact E0
 ·have h0 : (zj b).2.2 = 0 := by simpa using hb
  apply z9
  apply z7
  apply z6
  refine WS [0, 1, 7, 8, 20] [] ?_
  refine WI ?_ ?_ <;> intro hb
  ·have hc : qh b 1 = ((zj b).1, (zj b).2.1, 2) := by unfold qh; rw [if_neg (by omega), if_pos (by omega)]
   have hv : wj b = (0, 0, 2) := by unfold wj; rw [hc, if_neg (by simp)]
   have hE := And.intro hE hv
   refine WS [4, 5, 6] [] ?_
   apply za
   apply zb
   exact E0
  ·apply z9
   apply z7
   apply z6
   refine WS [7, 8, 34] [] ?_
   refine WI ?_ ?_ <;> intro hb
   ·have hc : qh b 1 = ((zj b).1, (zj b).2.1, 3) := by unfold qh; rw [if_neg (by omega), if_neg (by omega), if_pos (by rw [Int.tdiv_one]; grind)]
    have hv : wj b = (0, 0, 3) := by unfold wj; rw [hc, if_neg (by simp)]
    have hE := And.intro hE hv
    refine WS [4, 5, 6] [] ?_
    apply za
    apply zb
    exact E0
   ·have hc : qh b 1 = zj b := by unfold qh; rw [if_neg (by omega), if_neg (by omega), if_neg (by rw [Int.tdiv_one]; grind)]
    have hv : wj b = zj b := by unfold wj; rw [hc, if_pos h0]
    have hE := And.intro hE (And.intro hv h0)
    apply z9
    apply z7
    refine WS [4, 5, 6] [] ?_
    apply za
    exact E0
set_option maxRecDepth 100000 in
set_option maxHeartbeats 2000000 in
theorem jq (G) (b : List Int) (hib : isB b) (hl : b.length ≤ 1099511627776) : zo Tryz.prog G 59 [wm b] [isD (zd b).1, iD (zd b).2.1, iD (zd b).2.2] := by
 have hr := qu hib
 skip
 skip
 refine GI [] [] [] Tryz.func59 Tryz.ntmps59 fun F hP hG hN hR hA => ?_
 have hE := @Tryz.results59
 refine WS [0] [41] ?_
 have hc := gvF hP hG (z6p G b hib hl)
 refine WSc [0, 5, 6, 7] [41] ?_
 apply z6
 refine WS [0, 5, 6, 7, 20] [41] ?_
 refine WI ?_ ?_ <;> intro hb
 ·have hce : (qh b 1).2.2 ≠ 0 ∧ wj b = (0, 0, (qh b 1).2.2) := by
   unfold wj at hb ⊢
   split at hb
   ·rename_i h0; simp [h0] at hb
   ·rename_i h0; rw [if_neg h0]; exact ⟨h0, rfl⟩
  have hv : zd b = ([], 0, (qh b 1).2.2) := by unfold zd; rw [if_pos hce.1]
  have hE := And.intro hE (And.intro hv hce.2)
  refine WS [2, 3, 4] [41] ?_
  apply za
  apply zb
  exact E0
 ·have hce : (qh b 1).2.2 = 0 := by
   unfold wj at hb
   split at hb
   ·rename_i h0; exact h0
   ·rename_i h0; simp at hb; exact hb
  obtain ⟨hc1, hc2, hc3, hc4⟩ := vz hib hce
  have hrc : wj b = zj b := by unfold wj; rw [if_pos hce, hc1]
  obtain ⟨n, hn⟩ : ∃ n : Nat, (zj b).1 = (n : Int) := ⟨(zj b).1.toNat, by omega⟩
  obtain ⟨a0, ha0⟩ : ∃ n : Nat, (zj b).2.1 = (n : Int) := ⟨(zj b).2.1.toNat, by omega⟩
  have hv : zd b = qj b a0 n := by unfold zd; rw [if_neg (by omega), hc1, hn, ha0]; rfl
  have haL : a0 ≤ b.length := by omega
  have hnL : n ≤ b.length := by omega
  have hE := And.intro hE (And.intro hrc (And.intro hn ha0))
  apply z9
  apply z7
  refine WS [0, 5, 6, 8] [41] ?_
  apply z6
  refine WS [0, 5, 6, 8, 9] [41] ?_
  apply zc
  refine xz 41 1 (by omega) ?_
  refine y9 8 41 1 rfl rfl ?_
  refine WL (ι := {i : Nat // i ≤ n ∧ (qj b a0 i).2.2 = 0}) [0, 5] [40] (fun ⟨i, hi2⟩ => [(9, .dat (iD i)), (8, .osl 41 1 0 i), (6, .dat (iD ((qj b a0 i).2.1 : Nat)))]) (fun ⟨i, hi2⟩ => [(41, ⟨1, ((qj b a0 i).1.map iD).map .dat⟩)]) (fun ⟨i, hi2⟩ => n - i) (⟨0, by omega, rfl⟩) ?_
  rintro ⟨i, hi2⟩
  refine LA ?_
  obtain ⟨hi, hi0⟩ := id hi2
  have hil := z33 i hi0
  have hia := z53 hib haL i
  have hri := qu (zt hib (qj b a0 i).2.1)
  have hld : (b.drop (qj b a0 i).2.1).length = b.length - (qj b a0 i).2.1 := List.length_drop
  have hE := And.intro hE hil
  apply z6
  refine WS [0, 5, 6, 8, 9, 24] [40, 41] ?_
  refine WI ?_ ?_ <;> intro hb
  ·apply z9
   apply z7
   apply z6
   apply zc
   have hc := gvF hP hG (z1g G (b.drop (qj b a0 i).2.1) (zt hib _) (by rw [hld]; omega))
   refine WSc [0, 5, 6, 8, 9, 10, 11, 12] [40, 41] ?_
   apply z6
   refine WS [0, 5, 6, 8, 9, 10, 11, 12, 36] [40, 41] ?_
   refine WI ?_ ?_ <;> intro hb
   ·have hs : qj b a0 (i + 1) = ([], 0, (zj (b.drop (qj b a0 i).2.1)).2.2) := by rw [qj, if_neg (by omega), if_pos (by simpa using hb)]
    have hv2 : zd b = ([], 0, (zj (b.drop (qj b a0 i).2.1)).2.2) := by rw [hv, z9r (i := i + 1) (by rw [hs]; simpa using hb) n (by omega), hs]
    have hE := And.intro hE hv2
    refine WS [2, 3, 4] [40, 41] ?_
    apply za
    apply zb
    apply zf
    apply zb
    apply qb
    apply zf
    apply zb
    exact E0
   ·have hb0 : (zj (b.drop (qj b a0 i).2.1)).2.2 = 0 := by simpa using hb
    have hs : qj b a0 (i + 1) = ((qj b a0 i).1 ++ [(zj (b.drop (qj b a0 i).2.1)).1], (qj b a0 i).2.1 + (zj (b.drop (qj b a0 i).2.1)).2.1.toNat, 0) := by rw [qj, if_neg (by omega), if_neg (by omega)]
    have hcast : (((qj b a0 i).2.1 + (zj (b.drop (qj b a0 i).2.1)).2.1.toNat : Nat) : Int) = ((qj b a0 i).2.1 : Int) + (zj (b.drop (qj b a0 i).2.1)).2.1 := by omega
    have hnx : i + 1 ≤ n ∧ (qj b a0 (i + 1)).2.2 = 0 := ⟨by omega, by rw [hs]⟩
    have hE := And.intro hE (And.intro hs hcast)
    apply z9
    apply z7
    refine WS [0, 5, 6, 8, 9, 11] [40, 41] ?_
    refine WQ [0, 5, 6, 8, 9] [40, 41] ?_
    apply zg
    apply z7
    refine WQ [0, 5, 6, 8, 9] [40, 41] ?_
    refine WN (⟨i + 1, hnx⟩)
  ·apply zn
   apply zh
   have hin : i = n := by omega
   subst hin
   have hE := And.intro hE (And.intro hv hi0)
   apply ze
   apply zw
   apply z7
   refine WS [2, 3, 4] [40, 41] ?_
   apply za
   exact E0
set_option maxRecDepth 100000 in
theorem z5l (G) (b : List Int) (hib : isB b) (hl : b.length ≤ 1099511627776) : zo Tryz.prog G 94 [wm b] [sD (zq b).1, iD (zq b).2.1, iD (zq b).2.2] := by
 have hr := qu hib
 
 skip
 refine GI [] [] [] Tryz.func94 Tryz.ntmps94 fun F hP hG hN hR hA => ?_
 have hE := @Tryz.results94
 refine WS [0] [] ?_
 have hc := gvF hP hG (z6p G b hib hl)
 refine WSc [0, 5, 6, 7] [] ?_
 apply z6
 refine WS [0, 5, 6, 7, 15] [] ?_
 refine WI ?_ ?_ <;> intro hb
 ·have hce : (qh b 1).2.2 ≠ 0 ∧ wj b = (0, 0, (qh b 1).2.2) := by
   unfold wj at hb ⊢
   split at hb
   ·rename_i h0; simp [h0] at hb
   ·rename_i h0; rw [if_neg h0]; exact ⟨h0, rfl⟩
  have hv : zq b = (⟨#[]⟩, 0, (qh b 1).2.2) := by unfold zq; rw [if_pos hce.1]
  have hE := And.intro hE (And.intro hv hce.2)
  refine WS [2, 3, 4] [] ?_
  apply za
  apply zb
  exact E0
 ·have hce : (qh b 1).2.2 = 0 := by
   unfold wj at hb
   split at hb
   ·rename_i h0; exact h0
   ·rename_i h0; simp at hb; exact hb
  obtain ⟨hc1, hc2, hc3, hc4⟩ := vz hib hce
  have hrc : wj b = zj b := by unfold wj; rw [if_pos hce, hc1]
  obtain ⟨n, hn⟩ : ∃ n : Nat, (zj b).1 = (n : Int) := ⟨(zj b).1.toNat, by omega⟩
  obtain ⟨a0, ha0⟩ : ∃ n : Nat, (zj b).2.1 = (n : Int) := ⟨(zj b).2.1.toNat, by omega⟩
  have hv : zq b = (X1 ((b.take (a0 + n)).drop a0), (a0 : Int) + n, 0) := by
   unfold zq
   rw [if_neg (by omega), hc1, hn, ha0, show ((a0 : Int) + (n : Int)).toNat = a0 + n by omega, Int.toNat_natCast]
  have hct : ((a0 : Int) + (n : Int)).toNat = a0 + n := by omega
  have hE := And.intro hE (And.intro hrc (And.intro hn (And.intro ha0 (And.intro hv hct))))
  apply z9
  apply z7
  refine WS [2, 3, 4] [] ?_
  apply za
  exact E0
set_option maxRecDepth 100000 in
set_option maxHeartbeats 2000000 in
theorem z2l (G) (b : List Int) (hib : isB b) (hl : b.length ≤ 1099511627776) : zo Tryz.prog G 95 [wm b] [ssD (zx b).1, iD (zx b).2.1, iD (zx b).2.2] := by
 have hr := qu hib
 skip
 skip
 refine GI [] [] [] Tryz.func95 Tryz.ntmps95 fun F hP hG hN hR hA => ?_
 have hE := @Tryz.results95
 refine WS [0] [41] ?_
 have hc := gvF hP hG (z6p G b hib hl)
 refine WSc [0, 5, 6, 7] [41] ?_
 apply z6
 refine WS [0, 5, 6, 7, 20] [41] ?_
 refine WI ?_ ?_ <;> intro hb
 ·have hce : (qh b 1).2.2 ≠ 0 ∧ wj b = (0, 0, (qh b 1).2.2) := by
   unfold wj at hb ⊢
   split at hb
   ·rename_i h0; simp [h0] at hb
   ·rename_i h0; rw [if_neg h0]; exact ⟨h0, rfl⟩
  have hv : zx b = ([], 0, (qh b 1).2.2) := by unfold zx; rw [if_pos hce.1]
  have hE := And.intro hE (And.intro hv hce.2)
  refine WS [2, 3, 4] [41] ?_
  apply za
  apply zb
  exact E0
 ·have hce : (qh b 1).2.2 = 0 := by
   unfold wj at hb
   split at hb
   ·rename_i h0; exact h0
   ·rename_i h0; simp at hb; exact hb
  obtain ⟨hc1, hc2, hc3, hc4⟩ := vz hib hce
  have hrc : wj b = zj b := by unfold wj; rw [if_pos hce, hc1]
  obtain ⟨n, hn⟩ : ∃ n : Nat, (zj b).1 = (n : Int) := ⟨(zj b).1.toNat, by omega⟩
  obtain ⟨a0, ha0⟩ : ∃ n : Nat, (zj b).2.1 = (n : Int) := ⟨(zj b).2.1.toNat, by omega⟩
  have hv : zx b = ql b a0 n := by unfold zx; rw [if_neg (by omega), hc1, hn, ha0]; rfl
  have haL : a0 ≤ b.length := by omega
  have hnL : n ≤ b.length := by omega
  have hE := And.intro hE (And.intro hrc (And.intro hn ha0))
  apply z9
  apply z7
  refine WS [0, 5, 6, 8] [41] ?_
  apply z6
  refine WS [0, 5, 6, 8, 9] [41] ?_
  apply zc
  refine xz 41 1 (by omega) ?_
  refine y9 8 41 1 rfl rfl ?_
  refine WL (ι := {i : Nat // i ≤ n ∧ (ql b a0 i).2.2 = 0}) [0, 5] [40] (fun ⟨i, hi2⟩ => [(9, .dat (iD i)), (8, .osl 41 1 0 i), (6, .dat (iD ((ql b a0 i).2.1 : Nat)))]) (fun ⟨i, hi2⟩ => [(41, ⟨1, ((ql b a0 i).1.map sD).map .dat⟩)]) (fun ⟨i, hi2⟩ => n - i) (⟨0, by omega, rfl⟩) ?_
  rintro ⟨i, hi2⟩
  refine LA ?_
  obtain ⟨hi, hi0⟩ := id hi2
  have hil := z3j i hi0
  have hia := z5s hib haL i
  have hri := Q4 (zt hib (ql b a0 i).2.1)
  have hld : (b.drop (ql b a0 i).2.1).length = b.length - (ql b a0 i).2.1 := List.length_drop
  have hE := And.intro hE hil
  apply z6
  refine WS [0, 5, 6, 8, 9, 24] [40, 41] ?_
  refine WI ?_ ?_ <;> intro hb
  ·apply z9
   apply z7
   apply z6
   apply zc
   have hc := gvF hP hG (z5l G (b.drop (ql b a0 i).2.1) (zt hib _) (by rw [hld]; omega))
   refine WSc [0, 5, 6, 8, 9, 10, 11, 12] [40, 41] ?_
   apply z6
   refine WS [0, 5, 6, 8, 9, 10, 11, 12, 36] [40, 41] ?_
   refine WI ?_ ?_ <;> intro hb
   ·have hs : ql b a0 (i + 1) = ([], 0, (zq (b.drop (ql b a0 i).2.1)).2.2) := by rw [ql, if_neg (by omega), if_pos (by simpa using hb)]
    have hv2 : zx b = ([], 0, (zq (b.drop (ql b a0 i).2.1)).2.2) := by rw [hv, zb7 (i := i + 1) (by rw [hs]; simpa using hb) n (by omega), hs]
    have hE := And.intro hE hv2
    refine WS [2, 3, 4] [40, 41] ?_
    apply za
    apply zb
    apply zf
    apply zb
    apply qb
    apply zf
    apply zb
    exact E0
   ·have hb0 : (zq (b.drop (ql b a0 i).2.1)).2.2 = 0 := by simpa using hb
    have hs : ql b a0 (i + 1) = ((ql b a0 i).1 ++ [(zq (b.drop (ql b a0 i).2.1)).1], (ql b a0 i).2.1 + (zq (b.drop (ql b a0 i).2.1)).2.1.toNat, 0) := by rw [ql, if_neg (by omega), if_neg (by omega)]
    have hcast : (((ql b a0 i).2.1 + (zq (b.drop (ql b a0 i).2.1)).2.1.toNat : Nat) : Int) = ((ql b a0 i).2.1 : Int) + (zq (b.drop (ql b a0 i).2.1)).2.1 := by omega
    have hnx : i + 1 ≤ n ∧ (ql b a0 (i + 1)).2.2 = 0 := ⟨by omega, by rw [hs]⟩
    have hE := And.intro hE (And.intro hs hcast)
    apply z9
    apply z7
    refine WS [0, 5, 6, 8, 9, 11] [40, 41] ?_
    refine WQ [0, 5, 6, 8, 9] [40, 41] ?_
    apply zg
    apply z7
    refine WQ [0, 5, 6, 8, 9] [40, 41] ?_
    refine WN (⟨i + 1, hnx⟩)
  ·apply zn
   apply zh
   have hin : i = n := by omega
   subst hin
   have hE := And.intro hE (And.intro hv hi0)
   apply ze
   apply zw
   apply z7
   refine WS [2, 3, 4] [40, 41] ?_
   apply za
   exact E0
abbrev erD (b : List Int) (a : Nat) (er : Int) : Dat := .agg [wm b, iD a, iD er]
def x8 (b : List Int) (a : Nat) (er : Int) (n : Nat) (just : Bool) : List Int × Nat × Int :=
 if er ≠ 0 then ([], a, er)
 else if (zd (b.drop a)).2.2 ≠ 0 then ([], a, (zd (b.drop a)).2.2)
 else if ¬((zd (b.drop a)).1.length : Int).tmod n = 0 ∨ (just = true ∧ ¬((zd (b.drop a)).1.length : Int) = n) then ([], a, 2)
 else ((zd (b.drop a)).1, a + (zd (b.drop a)).2.1, 0)
theorem y6 {b : List Int} (hb : isB b) : (zd b).2.1 ≤ b.length ∧ ((zd b).2.2 = 0 → (zd b).1.length ≤ b.length) := by
 unfold zd
 split
 ·rename_i h; exact ⟨Nat.zero_le _, fun h2 => absurd h2 h⟩
 ·rename_i h
  obtain ⟨h1, h2, h3, h4⟩ := vz hb (by omega)
  have h5 := qu hb
  refine ⟨z53 hb (by rw [h1]; omega) _, fun h6 => ?_⟩
  rw [z33 _ h6, h1]
  omega
theorem zul : isD [] = .sl [] := rfl
theorem exD (d0 : Dat) : (∃ d, AV.dat d0 = AV.dat d ∧ some d0 = some d) = True := eq_true ⟨d0, rfl, rfl⟩
theorem zn2 {b : List Int} {a : Nat} {er : Int} {n : Nat} {just : Bool} (h0 : er = 0) (h : (zd (b.drop a)).2.2 = 0 ∧ (¬((zd (b.drop a)).1.length : Int).tmod n = 0 ∨ (just = true ∧ ¬((zd (b.drop a)).1.length : Int) = n))) : x8 b a er n just = ([], a, 2) := by
 unfold x8
 rw [if_neg (by omega), if_neg (by omega), if_pos h.2]
theorem zn3 {b : List Int} {a : Nat} {er : Int} {n : Nat} {just : Bool} (h0 : er = 0) (h : (zd (b.drop a)).2.2 = 0 → ((zd (b.drop a)).1.length : Int).tmod n = 0 ∧ (just = true → ((zd (b.drop a)).1.length : Int) = n)) :
  x8 b a er n just = if ¬ (zd (b.drop a)).2.2 = 0 then ([], a, (zd (b.drop a)).2.2) else ((zd (b.drop a)).1, a + (zd (b.drop a)).2.1, 0) := by
 unfold x8
 rw [if_neg (by omega)]
 split
 ·rfl
 ·rename_i h1
  have h2 := h (by omega)
  rw [if_neg (fun h3 => h3.elim (fun h4 => h4 h2.1) fun h4 => h4.2 (h2.2 h4.1))]
set_option maxRecDepth 100000 in
theorem Ql (G) (b : List Int) (a : Nat) (er : Int) (n : Nat) (just : Bool) (hib : isB b) (hl : b.length ≤ 1099511627776) (ha : a ≤ b.length) (hn : 1 ≤ n ∧ n ≤ 100) : GivesX Tryz.prog G 120 [.ptr 1000 3 0 0, .dat (iD n), .dat (bD just)] [(1000, ⟨3, [.dat (erD b a er)]⟩)] [.dat (isD (x8 b a er n just).1)] [(1000, ⟨3, [.dat (erD b (x8 b a er n just).2.1 (x8 b a er n just).2.2)]⟩)] := by
 have hdl : (b.drop a).length = b.length - a := List.length_drop
 have hat := y6 (zt hib a)
 have hcast : IntKind.i64.wrap ((a : Int) + ((zd (b.drop a)).2.1 : Int)) = ((a + (zd (b.drop a)).2.1 : Nat) : Int) := by rw [IntWalk.i64_in _ (by have := hat.1; omega)]; omega
 skip
 skip
 skip
 refine GX [] [] [] Tryz.func120 Tryz.ntmps120 fun F hP hG hN hR hA => ?_
 have hE := And.intro @Tryz.results120 (And.intro @zul (And.intro @exD (@hcast)))
 refine WS [0, 1, 2] [1000] ?_
 apply z6
 refine WS [0, 1, 2, 14] [1000] ?_
 refine WI ?_ ?_ <;> intro hb
 ·have hv : x8 b a er n just = ([], a, er) := if_pos hb
  have hE := And.intro hE hv
  refine WS [6] [1000] ?_
  apply za
  apply zb
  exact E0
 ·have h0 : er = 0 := hb
  subst h0
  apply z9
  apply z7
  apply wn [0, 1, 2, 7, 8, 9] [1000] [0, 1, 2, 3, 4, 5, 6, 7, 8, 9, 10, 11, 12, 13, 14, 15, 16] []
  ·rw [hP]; kernel_rfl
  ·exact hR
  ·kernel_rfl
  ·(repeat (apply PickL.cons; exact rfl)); exact PickL.nil _
  ·refine RN ?_
   refine CU (z9k G (b.drop a) (zt hib a) (by omega)) ?_
   exact SC
  apply z6
  refine WS [0, 7, 8, 9, 46] [1000] ?_
  refine WI ?_ ?_ <;> intro hb
  ·have hv := zn2 rfl hb
   have hE := And.intro hE hv
   refine WQ [0, 7, 8, 9] [1000] ?_
   apply z7
   apply z6
   refine WS [0, 7, 8, 9, 48] [1000] ?_
   refine WI ?_ ?_ <;> intro hb
   ·have hE := And.intro hE hb
    refine WS [] [1000] ?_
    refine WS [6] [1000] ?_
    apply za
    apply zb
    exact E0
   ·have hE := And.intro hE hb
    apply z9
    apply z7
    refine WS [7] [1000] ?_
    refine WS [6] [1000] ?_
    apply za
    exact E0
  ·have hv := zn3 rfl hb
   have hE := And.intro hE hv
   apply z9
   apply z7
   apply z6
   refine WS [0, 7, 8, 9, 48] [1000] ?_
   refine WI ?_ ?_ <;> intro hb
   ·have hE := And.intro hE hb
    refine WS [] [1000] ?_
    refine WS [6] [1000] ?_
    apply za
    apply zb
    exact E0
   ·have hE := And.intro hE hb
    apply z9
    apply z7
    refine WS [7] [1000] ?_
    refine WS [6] [1000] ?_
    apply za
    exact E0
def Q8 (l : List Int) (n k : Nat) : List Int := (l.drop (k * n)).take n
def j3 (l : List Int) (n q : Nat) : List (List Dat) := (List.range q).map fun k => [isD (Q8 l n k)]
theorem zad {l : List Int} {n q k : Nat} {x : List Dat} (h : (j3 l n q)[k]? = some x) : k < q ∧ x = [isD (Q8 l n k)] := by
 unfold j3 at h
 rw [List.getElem?_map] at h
 cases hr : (List.range q)[k]? with
 | none => rw [hr] at h; simp at h
 | some i =>
  rw [hr] at h
  simp only [Option.map_some, Option.some.injEq] at h
  have := List.getElem?_eq_some_iff.1 hr
  obtain ⟨h1, h2⟩ := this
  simp at h1 h2
  subst h2
  exact ⟨h1, h.symm⟩
theorem zca (l : List Int) (n q : Nat) (hn : 0 < n) (hl : l.length = q * n) (hb : l.length ≤ 1000000) : zpi Tryz.prog 134 [.ref (isD l), .ref (iD n)] (j3 l n q) := by
 refine zp0 [] [] [] Tryz.func134 rfl (by rfl) Tryz.results134 (by simp [Tryz.ntmps134]) fun y W1 S J Jx hJ hJx hY => ?_
 obtain ⟨F, hF⟩ : ∃ F, F = itF Tryz.prog Tryz.f134.ntmps W1 S [] [] [] := ⟨_, rfl⟩
 rw [← hF]
 have hN : F.N = 31 := by rw [hF]; exact Tryz.ntmps134
 have hP : F.P = Tryz.prog := by rw [hF]; rfl
 have hG : F.G = [] := by rw [hF]; rfl
 have hR : F.rows = [] ∧ F.lits = [] ∧ F.apps = [] ∧ True := by rw [hF]; exact ⟨rfl, rfl, rfl, trivial⟩
 have hA := And.intro hN (And.intro hP (And.intro hG (And.intro hR.1 (And.intro hR.2.1 hR.2.2.1))))
 have hE := @Tryz.results134
 have hxl : (j3 l n q).length = q := by simp [j3]
 rw [hxl]
 refine JS [0, 1, 2, 4] ?_
 refine zgw ?_
 refine zuq (ι := {k : Nat // k ≤ q}) (fun ⟨k, _⟩ => [(0, .raw (.func (.yield y) #[] #[])), (1, .dat (.ref (isD l))), (2, .dat (.ref (iD n))), (4, .dat (iD (k * n : Nat)))]) (fun ⟨k, _⟩ => J k) (fun ⟨k, _⟩ => q - k) ⟨0, by omega⟩ ?_ (fun w h => h) fun ⟨k, hk⟩ => ?_
 ·exact ⟨rfl, rfl, rfl, by simp [xl], trivial⟩
 dsimp only
 apply z9z
 refine JS [0, 1, 2, 4, 9] ?_
 refine JI (fun hb => ?_) (fun hb => ?_)
 ·have hkq : k < q := by
   rcases Nat.lt_or_ge k q with h | h
   ·exact h
   ·exfalso
    have : q * n ≤ k * n := Nat.mul_le_mul_right n h
    omega
  have hkn : k * n + n ≤ l.length := by
   have : (k + 1) * n ≤ q * n := Nat.mul_le_mul_right n hkq
   rw [Nat.add_mul] at this
   omega
  have hck : Q8 l n k = (l.drop (k * n)).take n := rfl
  have h5 : (if ((l.length - k * n : Nat) : Int) < (n : Int) then ((l.length - k * n : Nat) : Int) else (n : Int)) = (n : Int) := if_neg (by omega)
  have h6 : List.drop (k * n) (List.take (((k * n : Nat) : Int) + (n : Int)).toNat l) = Q8 l n k := by rw [hck, List.drop_take]; congr 1; omega
  have hE := And.intro hE (And.intro h5 h6)
  refine zlk ?_
  refine zen ?_
  apply z9z
  apply zgw
  refine JD [0, 1, 2, 4, 5] [0, 1, 2, 3, 4, 5, 6] ?_ (hJ k)
  apply z9z
  have hget : (j3 l n q)[k]? = some [isD (Q8 l n k)] := by simp [j3, hkq]
  refine JY 10 [0, 1, 2, 4, 5, 19, 28] [0, 1, 2, 4, 30] [0, 1, 2, 4, 30] hF (hY k _ hget) ?_ ?_
  ·refine zen ?_
   refine JI (fun hb2 => ?_) (fun hb2 => ?_)
   ·exact absurd hb2 (by decide)
   refine zlk ?_
   refine zrd ?_
   refine zen ?_
   refine JQ [0, 1, 2, 4] ?_
   refine ⟨⟨k + 1, hkq⟩, ?_, fun w h => h, by dsimp only; omega⟩
   have e1 : ((k * n : Nat) : Int) + (n : Int) = (((k + 1) * n : Nat) : Int) := by rw [Nat.add_mul]; omega
   exact ⟨rfl, rfl, rfl, by rw [← e1]; rfl, trivial⟩
  ·refine zen ?_
   refine JI (fun hb2 => ?_) (fun hb2 => ?_)
   ·refine zy1 ?_
    exact fun w hx => .inr ⟨k, hkq, hx⟩
   ·exact absurd hb2 (by decide)
 ·refine zup ?_
  have hkq : k = q := by
   rcases Nat.lt_or_ge k q with h | h
   ·exfalso
    have : (k + 1) * n ≤ q * n := Nat.mul_le_mul_right n h
    rw [Nat.add_mul] at this
    omega
   ·omega
  subst hkq
  exact fun w h => .inl h
theorem zg4 (G) (l : List Int) (n : Nat) (hn : 1 ≤ n ∧ n ≤ 100) : zo Tryz.prog G 123 [isD l, iD n] [.fn 134 [.ref (isD l), .ref (iD n)]] := by
 have hn1 : (1 : Int) ≤ (n : Int) := by omega
 skip
 refine GI [] [] [] Tryz.func123 Tryz.ntmps123 fun F hP hG hN hR hA => ?_
 have hE := @Tryz.results123
 refine WS [2, 3] [2, 3] ?_
 apply z6
 refine jh 2 hR.2.2.2 rfl rfl ?_
 refine jh 3 hR.2.2.2 rfl rfl ?_
 refine WS [2, 3, 6] [2, 3] ?_
 refine X0 (by first | exact rfl | (simp only [xi, wt, qn, qw]; simp [*])) ?_
 apply z9
 apply z7
 refine WS [4] [2, 3] ?_
 apply za
 exact E0
def vq (c : Int) : Int := if (97 ≤ c ∧ c ≤ 122) ∨ (65 ≤ c ∧ c ≤ 90) then 0 else if 48 ≤ c ∧ c ≤ 57 then 1 else if c = 64 then 3 else 2
def ji (c : Int) : Int := if c = 32 then -1 else vq c
theorem z7j (c : Int) : 0 ≤ vq c ∧ vq c ≤ 3 := by
 unfold vq
 repeat' split
 all_goals omega
theorem zio (c : Int) : ji c < 0 ↔ c = 32 := by
 have := z7j c
 unfold ji
 split <;> omega
theorem Xr {c : Int} (h : c ≠ 32) : ji c = vq c := by unfold ji; rw [if_neg h]
theorem zjk {c k : Int} (hk : k = 0 ∨ k = 1) (h : vq c = k) : ji c = k := by
 rw [Xr, h]
 rintro rfl
 simp [vq] at h
 omega
theorem ziq {c k : Int} (hk : 0 ≤ k) (h : ji c = k) : vq c = k := by
 rw [← h, Xr]
 rintro rfl
 simp [ji] at h
 omega
abbrev zfp := Int × Int × Int
abbrev zpa (t : zfp) : Dat := .agg [iD t.1, iD t.2.1, iD t.2.2]
abbrev zwu (l : List zfp) : Dat := .sl (l.map zpa)
def Zl (s : ByteArray) (i : Nat) : Int := ji (x0 s i)
def Xs (s : ByteArray) (i : Nat) : Prop := 0 < i ∧ 0 ≤ Zl s i ∧ Zl s i < 2 ∧ Zl s (i - 1) = Zl s i
instance (s : ByteArray) (i : Nat) : Decidable (Xs s i) := by unfold Xs; exact inferInstance
def z2s (l : List zfp) (e : Int) : List zfp := l.set (l.length - 1) ((l.getD (l.length - 1) default).1, e, (l.getD (l.length - 1) default).2.2)
def wu (s : ByteArray) : Nat → List zfp
 | 0 => []
 | i + 1 => if Zl s i < 0 then wu s i else if Xs s i then z2s (wu s i) (i + 1) else wu s i ++ [((i : Int), (i : Int) + 1, Zl s i)]
theorem z4n (l : List zfp) (e : Int) : (z2s l e).length = l.length := by simp [z2s]
theorem zkc (l : List zfp) (a b k e : Int) : z2s (l ++ [(a, b, k)]) e = l ++ [(a, e, k)] := by
 simp [z2s, List.getD_eq_getElem?_getD]
theorem zi8 (s : ByteArray) : ∀ i, 0 ≤ Zl s i → 0 < (wu s (i + 1)).length
 | i, h => by
  rw [wu, if_neg (by omega)]
  split
  ·rename_i hc
   rw [z4n]
   obtain ⟨h1, h2, h3, h4⟩ := hc
   obtain ⟨j, rfl⟩ : ∃ j, i = j + 1 := ⟨i - 1, by omega⟩
   exact zi8 s j (by simp only [Nat.add_sub_cancel] at h4; omega)
  ·simp
theorem zg8 {s : ByteArray} {i : Nat} (h : Xs s i) : 0 < (wu s i).length := by
 obtain ⟨h1, h2, h3, h4⟩ := h
 obtain ⟨j, rfl⟩ : ∃ j, i = j + 1 := ⟨i - 1, by omega⟩
 exact zi8 s j (by simp only [Nat.add_sub_cancel] at h4; omega)
theorem zbe (s : ByteArray) : ∀ i, (wu s i).length ≤ i
 | 0 => by simp [wu]
 | i + 1 => by
  have := zbe s i
  rw [wu]
  split
  ·omega
  ·split
   ·rw [z4n]; omega
   ·simp; omega
theorem zkj {s : ByteArray} {i : Nat} (h : x0 s i = 32) : wu s (i + 1) = wu s i ∧ ¬ Xs s (i + 1) := by
 have h1 : Zl s i < 0 := (zio _).2 h
 refine ⟨by rw [wu, if_pos h1], fun ⟨_, h2, _, h4⟩ => ?_⟩
 simp only [Nat.add_sub_cancel] at h4
 omega
theorem zi9 {s : ByteArray} {a : Nat} {k : Int} (hb : ¬ Xs s a) (hk : Zl s a = k) (h0 : 0 ≤ k) : ∀ t, a < t → (∀ j, a < j → j < t → k < 2 ∧ Zl s j = k) → wu s t = wu s a ++ [((a : Int), (t : Int), k)]
 | 0, h, _ => by omega
 | t + 1, h, hj => by
  rcases Nat.lt_or_ge a t with h1 | h1
  ·have ih := zi9 hb hk h0 t h1 fun j g1 g2 => hj j g1 (by omega)
   have ht := hj t h1 (by omega)
   have hp : Zl s (t - 1) = k := by
    rcases Nat.lt_or_ge a (t - 1) with g | g
    ·exact (hj (t - 1) g (by omega)).2
    ·rw [show t - 1 = a by omega]; exact hk
   rw [wu, if_neg (by omega), if_pos ⟨by omega, by omega, by omega, by omega⟩, ih, zkc]
   simp
  ·obtain rfl : t = a := by omega
   rw [wu, if_neg (by omega), if_neg hb, hk]
   simp
theorem zpb {s : ByteArray} {a t : Nat} {k : Int} (hk : Zl s a = k) (h0 : 0 ≤ k) (hat : a < t) (hj : ∀ j, a < j → j < t → k < 2 ∧ Zl s j = k) (hs : ¬ (k < 2 ∧ Zl s t = k)) : ¬ Xs s t := fun ⟨_, h2, h3, h4⟩ => by
 have hp : Zl s (t - 1) = k := by
  rcases Nat.lt_or_ge a (t - 1) with g | g
  ·exact (hj (t - 1) g (by omega)).2
  ·rw [show t - 1 = a by omega]; exact hk
 exact hs ⟨by omega, by omega⟩
def goM (s : ByteArray) (k : Int) (t : Nat) : Prop := (k = 0 ∨ k = 1) ∧ t < s.size ∧ vq (x0 s t) = k
instance (s : ByteArray) (k : Int) (t : Nat) : Decidable (goM s k t) := by unfold goM; exact inferInstance
def z3o (s : ByteArray) (k : Int) : Nat → Nat → Nat
 | 0, t => t
 | n + 1, t => if goM s k t then z3o s k n (t + 1) else t
def z44 (s : ByteArray) (i : Nat) : Nat := z3o s (vq (x0 s i)) (s.size - (i + 1)) (i + 1)
theorem zvy {s : ByteArray} {k : Int} {t : Nat} (h : goM s k t) : z3o s k (s.size - t) t = z3o s k (s.size - (t + 1)) (t + 1) := by
 have h2 := h.2.1
 obtain ⟨n, hn⟩ : ∃ n, s.size - t = n + 1 := ⟨s.size - t - 1, by omega⟩
 rw [hn, z3o, if_pos h, show s.size - (t + 1) = n by omega]
theorem zov {s : ByteArray} {k : Int} {t : Nat} (h : ¬ goM s k t) (n : Nat) : z3o s k n t = t := by
 cases n with
 | zero => rfl
 | succ n => rw [z3o, if_neg h]
theorem zdi (s : ByteArray) (k : Int) : ∀ n t, t + n = s.size → t ≤ z3o s k n t ∧ z3o s k n t ≤ s.size ∧ (∀ j, t ≤ j → j < z3o s k n t → goM s k j) ∧ ¬ goM s k (z3o s k n t)
 | 0, t, h => ⟨Nat.le_refl _, by simp [z3o]; omega, fun j h1 h2 => by simp [z3o] at h2; omega, fun h2 => by
   have := h2.2.1
   simp only [z3o] at this
   omega⟩
 | n + 1, t, h => by
  rw [z3o]
  split
  ·rename_i hg
   obtain ⟨h1, h2, h3, h4⟩ := zdi s k n (t + 1) (by omega)
   refine ⟨by omega, h2, fun j g1 g2 => ?_, h4⟩
   rcases Nat.lt_or_ge t j with g | g
   ·exact h3 j g g2
   ·obtain rfl : t = j := by omega
    exact hg
  ·rename_i hg
   exact ⟨Nat.le_refl _, by omega, fun j g1 g2 => by omega, hg⟩
theorem zce {s : ByteArray} {i : Nat} (h : i < s.size) : i < z44 s i ∧ z44 s i ≤ s.size ∧ (∀ j, i < j → j < z44 s i → goM s (vq (x0 s i)) j) ∧ ¬ goM s (vq (x0 s i)) (z44 s i) := by
 obtain ⟨h1, h2, h3, h4⟩ := zdi s (vq (x0 s i)) (s.size - (i + 1)) (i + 1) (by omega)
 exact ⟨by unfold z44; omega, h2, fun j g1 g2 => h3 j g1 g2, h4⟩
theorem zil {s : ByteArray} {i : Nat} (h : s.size ≤ i) : x0 s i = 0 := by
 have : s.data[i]? = none := Array.getElem?_eq_none (by simpa using h)
 simp [x0, this]
theorem zqb {s : ByteArray} {i : Nat} (h : s.size ≤ i) : Zl s i = 2 := by
 unfold Zl
 rw [zil h]
 rfl
theorem ztd {s : ByteArray} {i : Nat} (h : i < s.size) (hb : ¬ Xs s i) (hc : x0 s i ≠ 32) : wu s (z44 s i) = wu s i ++ [((i : Int), (z44 s i : Int), vq (x0 s i))] ∧ ¬ Xs s (z44 s i) := by
 obtain ⟨h1, h2, h3, h4⟩ := zce h
 have hk : Zl s i = vq (x0 s i) := Xr hc
 have h0 := z7j (x0 s i)
 have hj : ∀ j, i < j → j < z44 s i → vq (x0 s i) < 2 ∧ Zl s j = vq (x0 s i) := fun j g1 g2 => by
  obtain ⟨k1, k2, k3⟩ := h3 j g1 g2
  exact ⟨by omega, zjk k1 k3⟩
 refine ⟨zi9 hb hk h0.1 _ h1 hj, zpb hk h0.1 h1 hj fun ⟨g1, g2⟩ => h4 ⟨by omega, ?_, ziq h0.1 g2⟩⟩
 rcases Nat.lt_or_ge (z44 s i) s.size with g | g
 ·exact g
 ·rw [zqb g] at g2
  omega
def badM (s : ByteArray) (i : Nat) : Bool := decide (x0 s i < 32) || decide (126 < x0 s i) || (x0 s i == 32 && ((i : Int) == 0 || (i : Int) == (s.size : Int) - 1 || x0 s (i - 1) == 32))
def x6 (s : ByteArray) : Int := if 4096 < s.size then 4 else if (∃ i, i < s.size ∧ badM s i = true) ∨ s.size = 0 then 2 else if 256 < (wu s s.size).length then 4 else 0
theorem zeq (G) (c : Int) : zo Tryz.prog G 137 [u8D c] [iD (vq c)] := by
 skip
 refine GI [] [] [] Tryz.func137 Tryz.ntmps137 fun F hP hG hN hR hA => ?_
 have hE := @Tryz.results137
 refine WS [0] [] ?_
 apply z6
 apply zc
 refine WS [0, 3] [] ?_
 refine WI ?_ ?_ <;> intro hb
 ·have hv : vq c = 0 := by unfold vq; rw [if_pos (by omega)]
  have hE := And.intro hE hv
  refine WS [2] [] ?_
  apply za
  apply zf
  apply zb
  exact E0
 ·refine WS [0, 18] [] ?_
  refine WI ?_ ?_ <;> intro hb
  ·have hv : vq c = 1 := by unfold vq; rw [if_neg (by omega), if_pos (by omega)]
   have hE := And.intro hE hv
   refine WS [2] [] ?_
   apply za
   apply zf
   apply zb
   exact E0
  ·refine WS [25] [] ?_
   refine WI ?_ ?_ <;> intro hb
   ·have hv : vq c = 3 := by unfold vq; rw [if_neg (by omega), if_neg (by omega), if_pos (by omega)]
    have hE := And.intro hE hv
    refine WS [2] [] ?_
    apply za
    apply zf
    apply zb
    exact E0
   ·have hv : vq c = 2 := by unfold vq; rw [if_neg (by omega), if_neg (by omega), if_neg (by omega)]
    have hE := And.intro hE hv
    apply z9
    apply zg
    apply z7
    refine WS [2] [] ?_
    apply za
    exact E0
theorem zg5 (G) (c : Int) : zo Tryz.prog G 138 [u8D c] [iD (ji c)] := by
 skip
 refine GI [] [] [] Tryz.func138 Tryz.ntmps138 fun F hP hG hN hR hA => ?_
 have hE := @Tryz.results138
 refine WS [0] [] ?_
 apply z6
 refine WS [0, 4] [] ?_
 refine WI ?_ ?_ <;> intro hb
 ·have hv : ji c = -1 := by unfold ji; rw [if_pos (by omega)]
  have hE := And.intro hE hv
  refine WS [2] [] ?_
  apply za
  apply zb
  exact E0
 ·have h0 : ji c = vq c := Xr (by omega)
  apply z9
  apply z7
  apply z6
  refine WS [0, 18] [] ?_
  refine WI ?_ ?_ <;> intro hb
  ·have hv : ji c = 0 := by rw [h0]; unfold vq; rw [if_pos (by omega)]
   have hE := And.intro hE hv
   refine WS [2] [] ?_
   apply za
   apply zb
   exact E0
  ·apply z9
   apply z7
   apply z6
   refine WS [0, 24] [] ?_
   refine WI ?_ ?_ <;> intro hb
   ·have hv : ji c = 1 := by rw [h0]; unfold vq; rw [if_neg (by omega), if_pos (by omega)]
    have hE := And.intro hE hv
    refine WS [2] [] ?_
    apply za
    apply zb
    exact E0
   ·apply z9
    apply z7
    apply z6
    refine WS [26] [] ?_
    refine WI ?_ ?_ <;> intro hb
    ·have hv : ji c = 3 := by rw [h0]; unfold vq; rw [if_neg (by omega), if_neg (by omega), if_pos (by omega)]
     have hE := And.intro hE hv
     refine WS [2] [] ?_
     apply za
     apply zb
     exact E0
    ·have hv : ji c = 2 := by rw [h0]; unfold vq; rw [if_neg (by omega), if_neg (by omega), if_neg (by omega)]
     have hE := And.intro hE hv
     apply z9
     apply z7
     refine WS [2] [] ?_
     apply za
     exact E0
theorem zxs (G) (s : ByteArray) (i : Nat) (hi : i < s.size) (hs : s.size ≤ 281474976710656) : zo Tryz.prog G 136 [iD i, .ref (sD s)] [iD (z44 s i)] := by
 skip
 refine GI [] [] [] Tryz.func136 Tryz.ntmps136 fun F hP hG hN hR hA => ?_
 have hE := @Tryz.results136
 refine WS [0, 1] [] ?_
 have hc := gvF hP hG (zeq G (x0 s i))
 refine WSc [0, 1, 4] [] ?_
 refine WS [1, 4, 5] [] ?_
 apply z6
 apply zc
 refine WL (ι := {t : Nat // i + 1 ≤ t ∧ t ≤ s.size ∧ z3o s (vq (x0 s i)) (s.size - t) t = z44 s i}) [1, 4] [] (fun ⟨t, ht⟩ => [(5, .dat (iD t))]) (fun ⟨t, ht⟩ => []) (fun ⟨t, ht⟩ => s.size - t) (⟨i + 1, Nat.le_refl _, by omega, rfl⟩) ?_
 rintro ⟨t, ht⟩
 refine LA ?_
 obtain ⟨h1, h2, h3⟩ := id ht
 apply z6
 apply zu [1, 4, 5, 31] []
 ·refine RN ?_
  refine CG (zeq G (x0 s t)) ?_
  exact SC
 refine WI ?_ ?_ <;> intro hb
 ·have hgo : goM s (vq (x0 s i)) t := ⟨by omega, by omega, by omega⟩
  apply z9
  apply z7
  apply zc
  refine WQ [1, 4, 5] [] ?_
  apply zg
  refine WN (⟨t + 1, by omega, by omega, (zvy hgo).symm.trans ht.2.2⟩)
 ·have hgo : ¬ goM s (vq (x0 s i)) t := fun ⟨g1, g2, g3⟩ => by omega
  have hv : z44 s i = t := by rw [← h3, zov hgo]
  have hE := And.intro hE hv
  apply zn
  apply zh
  apply ze
  apply zw
  apply z7
  refine WS [3] [] ?_
  apply za
  exact E0
theorem zp6 (T : List zfp) (e : Int) : (List.map AV.dat (List.map zpa T)).set ((T.length : Int) - 1).toNat (AV.dat (.agg [iD (T.getD ((T.length : Int) - 1).toNat default).1, iD e, iD (T.getD ((T.length : Int) - 1).toNat default).2.2])) = List.map AV.dat (List.map zpa (z2s T e)) := by
 unfold z2s
 rw [show ((T.length : Int) - 1).toNat = T.length - 1 by omega]
 exact zfa zpa T (T.length - 1) ((T.getD (T.length - 1) default).1, e, (T.getD (T.length - 1) default).2.2)
theorem zt3 (G) (s : ByteArray) (hs : s.size ≤ 281474976710656 / 100) : zo Tryz.prog G 127 [sD s] [zwu (wu s s.size)] := by
 skip
 refine GI [] [] [] Tryz.func127 Tryz.ntmps127 fun F hP hG hN hR hA => ?_
 have hE := @Tryz.results127
 refine WS [1] [1] ?_
 refine WS [1, 3] [1, 30] ?_
 refine WS [1, 3, 4] [1, 30] ?_
 apply z6
 refine WS [1, 3, 4, 5] [1, 30] ?_
 apply zc
 refine xz 30 3 (by omega) ?_
 refine y9 3 30 3 rfl rfl ?_
 refine WL (ι := {i : Nat // i ≤ s.size ∧ ¬ Xs s i}) [1, 4] [1, 29] (fun ⟨i, hic⟩ => [(3, .osl 30 3 0 (wu s i).length), (5, .dat (iD i))]) (fun ⟨i, hic⟩ => [(30, ⟨3, ((wu s i).map zpa).map .dat⟩)]) (fun ⟨i, hic⟩ => s.size - i) (⟨0, by omega, fun h => by have := h.1; omega⟩) ?_
 rintro ⟨i, hic⟩
 refine LA ?_
 obtain ⟨hi, hnc⟩ := id hic
 have hl := zbe s i
 apply z6
 refine WS [1, 3, 4, 5, 11] [1, 29, 30] ?_
 refine WI ?_ ?_ <;> intro hb
 ·apply z9
  apply z7
  apply zc
  apply z6
  refine WS [1, 3, 4, 5, 15] [1, 29, 30] ?_
  refine WI ?_ ?_ <;> intro hb
  ·have hbl := zkj (s := s) (i := i) (by omega)
   have hE := And.intro hE hbl.1
   refine WS [1, 3, 4, 5] [1, 29, 30] ?_
   apply zn
   apply zh
   apply zw
   refine WN (⟨i + 1, by omega, hbl.2⟩)
  ·have hen := ztd (s := s) (i := i) (by omega) hnc (by omega)
   have hsp := zce (s := s) (i := i) (by omega)
   have hsz : (wu s (z44 s i)).length = (wu s i).length + 1 := by rw [hen.1]; simp
   have hE := And.intro hE (And.intro hen.1 hsz)
   apply z9
   apply z7
   apply zu [1, 3, 4, 5, 6] [1, 29, 30]
   ·refine RN ?_
    (repeat' refine And.intro ?_ ?_) <;> try exact SD
    refine CallC.use (gvF hP hG (zxs G s i (by omega) (by omega))) (by simp only [xe, qg, qa, xu, qx, vg, xk, xx, xt, vf, xw, xh, xy, avA, zl, zp, seval, ↓List.forall_mem_cons, Op.operands, hE] <;> rfl) ?_
    try simp (maxSteps := 2000000) (disch := omega) only [qq, avA, zl, zp, seval, ↓List.forall_mem_cons, Op.operands, hA, tiA, hE]
    exact SC
   have hc := gvF hP hG (zeq G (x0 s i))
   refine WSc [1, 3, 4, 6] [1, 29, 30] ?_
   refine WQ [1, 3, 4, 5] [1, 29, 30] ?_
   apply zg
   refine WN (⟨z44 s i, hsp.2.1, hen.2⟩)
 ·apply zn
  apply zh
  obtain rfl : i = s.size := by omega
  apply ze
  apply zw
  apply z7
  refine WS [2] [29, 30] ?_
  apply za
  exact E0
theorem zos (G) (s : ByteArray) (hs : s.size ≤ 281474976710656 / 100) : zo Tryz.prog G 129 [sD s] [zwu (wu s s.size)] := by
 skip
 refine GI [] [] [] Tryz.func129 Tryz.ntmps129 fun F hP hG hN hR hA => ?_
 have hE := @Tryz.results129
 refine WS [0] [] ?_
 refine WS [0, 3] [54] ?_
 apply z6
 refine WS [0, 3, 4] [54] ?_
 apply zc
 refine xz 54 3 (by omega) ?_
 refine y9 3 54 3 rfl rfl ?_
 refine WL (ι := {i : Nat // i ≤ s.size}) [0] [53] (fun ⟨i, hi⟩ => [(3, .osl 54 3 0 (wu s i).length), (4, .dat (iD i))]) (fun ⟨i, hi⟩ => [(54, ⟨3, ((wu s i).map zpa).map .dat⟩)]) (fun ⟨i, hi⟩ => s.size - i) (⟨0, by omega⟩) ?_
 rintro ⟨i, hi⟩
 refine LA ?_
 have hl := zbe s i
 have hi1 : ((i : Int) - 1).toNat = i - 1 := by omega
 have hE := And.intro hE hi1
 apply z6
 refine WS [0, 3, 4, 10] [53, 54] ?_
 refine WI ?_ ?_ <;> intro hb
 ·apply z9
  apply z7
  apply z6
  apply zc
  have hc := gvF hP hG (zg5 G (x0 s i))
  refine WSc [0, 3, 4, 5] [53, 54] ?_
  refine WS [0, 3, 4, 5, 6] [53, 54] ?_
  apply z6
  refine WS [0, 3, 4, 5, 6, 20] [53, 54] ?_
  refine WI ?_ ?_ <;> intro hb
  ·have hv : wu s (i + 1) = wu s i := by rw [wu, if_pos (show Zl s i < 0 from hb)]
   have hE := And.intro hE hv
   apply zn
   apply zh
   apply zw
   apply z7
   refine WQ [0, 3, 4] [53, 54] ?_
   refine WN (⟨i + 1, by omega⟩)
  ·have hcl : ¬ Zl s i < 0 := by unfold Zl; omega
   apply z9
   apply z7
   apply z6
   apply zu [0, 3, 4, 5, 6, 39] [53, 54]
   ·refine RN ?_
    refine CG (zg5 G (x0 s (i - 1))) ?_
    exact SC
   refine WI ?_ ?_ <;> intro hb
   ·have hc : Xs s i := by
     unfold Xs Zl
     grind
    have hp := zg8 hc
    have hv : wu s (i + 1) = z2s (wu s i) (i + 1) := by rw [wu, if_neg hcl, if_pos hc]
    have hE := And.intro hE (And.intro hv (And.intro (z4n (wu s i) (i + 1)) (zp6 (wu s i) (i + 1))))
    refine WS [0, 3, 4] [53, 54] ?_
    apply zn
    apply zh
    apply zw
    apply z7
    refine WQ [0, 3, 4] [53, 54] ?_
    refine WN (⟨i + 1, by omega⟩)
   ·have hc : ¬ Xs s i := by
     unfold Xs Zl
     intro hc
     have hp := zg8 (s := s) (i := i) hc
     grind
    have hv : wu s (i + 1) = wu s i ++ [((i : Int), (i : Int) + 1, ji (x0 s i))] := by rw [wu, if_neg hcl, if_neg hc]; rfl
    have hvl : (wu s (i + 1)).length = (wu s i).length + 1 := by rw [hv]; simp
    have hE := And.intro hE (And.intro hv hvl)
    apply z9
    apply z7
    refine WQ [0, 3, 4] [53, 54] ?_
    apply zg
    apply z7
    refine WQ [0, 3, 4] [53, 54] ?_
    refine WN (⟨i + 1, by omega⟩)
 ·apply zn
  apply zh
  have hend : i = s.size := by omega
  subst hend
  apply ze
  apply zw
  apply z7
  refine WS [2] [53, 54] ?_
  apply za
  exact E0
end Go.Proofs.YtabjaaonfaejmaaGreatDoor

namespace Go.Proofs
set_option maxHeartbeats 1000000 in
set_option maxRecDepth 100000 in
theorem Tryz.stringslite_IndexByte (s : ByteArray) (c : Int) (w : World) :
  Calls Tryz.prog 142 #[.string s, .int .u8 c] w fun e w' => e = .returned (.int .i64 (Lib.indexByte s.data.toList c.toNat.toUInt8)) ∧ w' = w := by
 go_enter Tryz.func142, Tryz.ntmps142
 go_wp2
 rw [run_callFunc_extern Tryz.func147 (by kernel_rfl) (by kernel_rfl) (by kernel_rfl) (e := Extern.BytealgIndexByte.indexByte) (by kernel_rfl), Lib.run_indexByteString]
 simp only [Result.andThen]
 rw [Oper.upon_value]
 go_wp2
 go_ret
 exact ⟨rfl, rfl⟩
set_option maxHeartbeats 2000000 in
set_option maxRecDepth 100000 in
theorem Tryz.stringslite_Index_one (s : ByteArray) (c : UInt8) (w : World) :
  Calls Tryz.prog 135 #[.string s, .string ⟨#[c]⟩] w fun e w' => e = .returned (.int .i64 (Lib.indexByte s.data.toList c)) ∧ w' = w := by
 go_enter Tryz.func135, Tryz.ntmps135
 go_wp2_with (go_at_call 142; refine (Tryz.stringslite_IndexByte _ _ _).mono ?_; rintro e w' ⟨rfl, rfl⟩)
 ·have h : ([c] == s.toList) = true := by assumption
  go_ret
  refine ⟨?_, rfl⟩
  have e : s.data.toList = [c] := by rw [← Lib.toList_data]; exact (beq_iff_eq.1 h).symm
  rw [e]
  simp [Lib.indexByte]
 ·go_ret
  exact ⟨rfl, rfl⟩
set_option maxHeartbeats 1000000 in
theorem Tryz.strings_Index_one (s : ByteArray) (c : UInt8) (w : World) :
  Calls Tryz.prog 125 #[.string s, .string ⟨#[c]⟩] w fun e w' => e = .returned (.int .i64 (Lib.indexByte s.data.toList c)) ∧ w' = w := by
 go_enter Tryz.func125, Tryz.ntmps125
 go_wp2_with (go_at_call 135; refine (Tryz.stringslite_Index_one _ _ _).mono ?_; rintro e w' ⟨rfl, rfl⟩)
 go_ret
 exact ⟨rfl, rfl⟩
set_option maxHeartbeats 1000000 in
theorem Tryz.strings_Contains_one (s : ByteArray) (c : UInt8) (w : World) :
  Calls Tryz.prog 105 #[.string s, .string ⟨#[c]⟩] w fun e w' => e = .returned (.bool (decide (0 ≤ Lib.indexByte s.data.toList c))) ∧ w' = w := by
 go_enter Tryz.func105, Tryz.ntmps105
 go_wp2_with (go_at_call 125; refine (Tryz.strings_Index_one _ _ _).mono ?_; rintro e w' ⟨rfl, rfl⟩)
 go_ret
 exact ⟨rfl, rfl⟩
end Go.Proofs

namespace Go.Proofs.YtabjaaonfaejmaaGreatDoor
open Go.Av
theorem zx4 (G) (s : ByteArray) (i : Nat) (hi : i < s.size) (hs : s.size ≤ 281474976710656) : zo Tryz.prog G 126 [iD i, .ref (sD s)] [bD (badM s i)] := by
 have hi1 : ((i : Int) - 1).toNat = i - 1 := by omega
 skip
 skip
 refine GI [] [] [] Tryz.func126 Tryz.ntmps126 fun F hP hG hN hR hA => ?_
 have hE := And.intro @Tryz.results126 (And.intro @hi1 (@badM.eq_1))
 refine WS [0, 1] [] ?_
 refine WS [3] [] ?_
 apply za
 exact E0
theorem zpc (G) (s : ByteArray) (hs : s.size ≤ 281474976710656) : zo Tryz.prog G 106 [sD s] [iD (x6 s)] := by
 skip
 refine GI [] [] [] Tryz.func106 Tryz.ntmps106 fun F hP hG hN hR hA => ?_
 have hE := @Tryz.results106
 refine WS [1] [1] ?_
 apply z6
 refine WS [1, 7] [1] ?_
 refine WI ?_ ?_ <;> intro hb
 ·have hv : x6 s = 4 := by unfold x6; rw [if_pos (by omega)]
  have hE := And.intro hE hv
  refine WS [2] [] ?_
  apply za
  apply zb
  exact E0
 ·have hn4 : ¬ 4096 < s.size := by omega
  apply z9
  apply z7
  refine WS [1, 3] [1] ?_
  apply z6
  refine WS [1, 3, 10, 11] [1] ?_
  apply zc
  refine WL (ι := {i : Nat // i ≤ s.size ∧ ∀ j, j < i → badM s j = false}) [1, 3, 10] [1] (fun ⟨i, hic⟩ => [(11, .dat (iD i))]) (fun ⟨i, hic⟩ => []) (fun ⟨i, hic⟩ => s.size - i) (⟨0, by omega, z58⟩) ?_
  rintro ⟨i, hic⟩
  refine LA ?_
  obtain ⟨hi, hall⟩ := id hic
  refine WS [1, 3, 10, 11, 12] [1] ?_
  apply z6
  refine WI ?_ ?_ <;> intro hb
  ·apply z9
   apply z7
   apply z6
   apply zc
   refine WS [1, 3, 4, 10, 11] [1] ?_
   apply zu [1, 3, 10, 11, 16] [1]
   ·refine RN ?_
    (repeat' refine And.intro ?_ ?_) <;> try exact SD
    refine CallC.use (gvF hP hG (zx4 G s i (by omega) (by omega))) (by simp only [xe, qg, qa, xu, qx, vg, xk, xx, xt, vf, xw, xh, xy, avA, zl, zp, seval, ↓List.forall_mem_cons, Op.operands, hE] <;> rfl) ?_
    try simp (maxSteps := 2000000) (disch := omega) only [qq, avA, zl, zp, seval, ↓List.forall_mem_cons, Op.operands, hA, tiA, hE]
    exact SC
   refine WI ?_ ?_ <;> intro hb
   ·have hv : x6 s = 2 := by unfold x6; rw [if_neg hn4, if_pos (.inl ⟨i, by omega, hb⟩)]
    have hE := And.intro hE hv
    refine WS [2] [] ?_
    apply za
    apply zf
    apply zb
    apply qb
    apply zf
    apply zb
    exact E0
   ·apply z9
    apply zg
    apply z7
    refine WQ [1, 3, 10, 11] [1] ?_
    refine WN (⟨i + 1, by omega, vx hic.2 hb⟩)
  ·apply zn
   apply zh
   obtain rfl : i = s.size := by omega
   have hno : ¬ ∃ i, i < s.size ∧ badM s i = true := fun ⟨j, h1, h2⟩ => by rw [hall j h1] at h2; cases h2
   apply ze
   apply zw
   apply z7
   apply z6
   apply zc
   refine WS [1, 18] [1] ?_
   refine WI ?_ ?_ <;> intro hb
   ·have hz : s = ⟨#[]⟩ := z5r hb
    have hv : x6 s = 2 := by unfold x6; rw [if_neg hn4, if_pos (.inr (by rw [hz]; rfl))]
    have hE := And.intro hE hv
    refine WS [2] [] ?_
    apply za
    apply zf
    apply zb
    exact E0
   ·have hz : s.size ≠ 0 := fun h => hb (by have : s = ⟨#[]⟩ := by { cases s with | mk d => simp only [ByteArray.size] at h; simp only [Array.size_eq_zero_iff] at h; rw [h] }; rw [this])
    have hc := gvF hP hG (zt3 G s (by omega))
    refine WSc [21] [] ?_
    refine WI ?_ ?_ <;> intro hb
    ·have hv : x6 s = 4 := by unfold x6; rw [if_neg hn4, if_neg (by rintro (h | h); exact hno h; exact hz h), if_pos (by omega)]
     have hE := And.intro hE hv
     refine WS [2] [] ?_
     apply za
     apply zf
     apply zb
     exact E0
    ·have hv : x6 s = 0 := by unfold x6; rw [if_neg hn4, if_neg (by rintro (h | h); exact hno h; exact hz h), if_neg (by omega)]
     have hE := And.intro hE hv
     apply z9
     apply zg
     apply z7
     refine WS [2] [] ?_
     apply za
     exact E0
def zct (s : ByteArray) : Bool := decide (0 ≤ Lib.indexByte s.data.toList 64)
theorem zcu (s : ByteArray) : zct s = true ↔ ∃ i, i < s.size ∧ x0 s i = 64 := by
 have hb : ∀ i, x0 s i = 64 ↔ s.data.toList[i]? = some 64 := fun i => by
  unfold x0
  rw [Array.getElem?_toList]
  cases h : s.data[i]? with
  | none => simp
  | some c =>
   simp only [Option.getD_some, Option.some.injEq]
   constructor
   ·intro h
    apply UInt8.toNat_inj.1
    have : (64 : UInt8).toNat = 64 := rfl
    omega
   ·rintro rfl; rfl
 have hge := Lib.indexByte_ge s.data.toList 64
 unfold zct
 rw [decide_eq_true_eq]
 constructor
 ·intro h
  obtain ⟨o, ho⟩ := Int.eq_ofNat_of_zero_le h
  have := (Lib.indexByte_some ho).1
  refine ⟨o, ?_, (hb o).2 this⟩
  have := (List.getElem?_eq_some_iff.1 this).1
  simpa using this
 ·rintro ⟨i, hi, h⟩
  by_cases h1 : 0 ≤ Lib.indexByte s.data.toList 64
  ·exact h1
  ·exact absurd ((hb i).1 h) (Lib.indexByte_none (by omega) i)
def vr (s : ByteArray) : Bool := decide ((s.size : Int) ≤ 24) && !zct s && x6 s == 0
theorem zg9 (G) (s : ByteArray) : zo Tryz.prog G 105 [sD s, sD ⟨#[64]⟩] [bD (zct s)] := by
 refine ⟨⟨_, _, Tryz.func105, rfl, rfl⟩, fun w S vals _ _ hr => ?_⟩
 simp only [RepV, RepX] at hr
 obtain ⟨v1, vs1, h1, rfl, v2, vs2, rfl, rfl, rfl⟩ := hr
 obtain rfl : vals = #[.string s, .string ⟨#[64]⟩] := by cases vals; simpa using h1
 refine (Tryz.strings_Contains_one s 64 w).mono ?_
 rintro e w' ⟨rfl, rfl⟩
 exact ⟨_, rfl, Ext.refl _ _, by simp only [Q0, RepX]; rfl⟩
theorem zbl (G) (s : ByteArray) (hs : s.size ≤ 281474976710656) : zo Tryz.prog G 71 [sD s] [bD (vr s)] := by
 skip
 refine GI [] [] [] Tryz.func71 Tryz.ntmps71 fun F hP hG hN hR hA => ?_
 have hE := @Tryz.results71
 refine WS [0] [] ?_
 apply zu [2] []
 ·refine RN ?_
  refine CG (zg9 G s) ?_
  refine CG (zpc G s hs) ?_
  exact SC
 apply za
 simp only [kz, ym, vv, qt, qi, qr, vn, qg, qa, xu, qx, vg, xk, xx, xt, vf, xw, xh, xy, xd, avA, zl, zp, seval, ↓List.forall_mem_cons, Op.operands, hP, hG, tiA, hE, vr]
 all_goals try trivial
theorem zjs (G) (s : ByteArray) (hs : s.size ≤ 281474976710656) : zo Tryz.prog G 108 [sD s] [bD (!vr s)] := by
 skip
 refine GI [] [] [] Tryz.func108 Tryz.ntmps108 fun F hP hG hN hR hA => ?_
 have hE := @Tryz.results108
 refine WS [0] [] ?_
 have hc := gvF hP hG (zbl G s hs)
 refine WSc [2] [] ?_
 apply za
 exact E0
theorem zr5 (G) (l : List ByteArray) (g : FuncId) (p : ByteArray → Bool) (hl : l.length ≤ 281474976710656) (hg : ∀ o ∈ l, zo Tryz.prog G g [sD o] [bD (p o)]) : zo Tryz.prog G 128 [ssD l, .fn g []] [iD (z87 p l)] := by
 skip
 refine z4z [] [] [] Tryz.func128 rfl (by rfl) (by simp [Tryz.ntmps128]) fun F hP hG hN hR => ?_
 rw [Tryz.ntmps128] at hN
 have hA := And.intro hN (And.intro hP (And.intro hG (And.intro hR.1 (And.intro hR.2.1 hR.2.2.1))))
 have hE := @Tryz.results128
 refine WS [0, 1] [] ?_
 apply z6
 refine WS [0, 1, 7, 8] [] ?_
 apply zc
 refine WL (ι := {i : Nat // i ≤ l.length ∧ ∀ j, j < i → p (l.getD j default) = false}) [0, 1, 7] [] (fun ⟨i, hif⟩ => [(8, .dat (iD i))]) (fun ⟨i, hif⟩ => []) (fun ⟨i, hif⟩ => l.length - i) (⟨0, by omega, z58⟩) ?_
 rintro ⟨i, hif⟩
 refine LA ?_
 obtain ⟨hi, hf⟩ := id hif
 refine WS [0, 1, 7, 8, 9] [] ?_
 apply z6
 refine WI ?_ ?_ <;> intro hb
 ·apply z9
  apply z7
  apply z6
  apply zc
  refine WS [0, 1, 5, 7, 8] [] ?_
  have hc := gvF hP hG (hg (l.getD i default) (x4 (p := fun o => o ∈ l) (fun o h => h) (by omega)))
  refine WSc [0, 1, 5, 7, 8, 16] [] ?_
  refine WI ?_ ?_ <;> intro hb
  ·have hv := znj (show i < l.length by omega) hb hf
   have hE := And.intro hE hv
   refine WS [4] [] ?_
   apply za
   apply zf
   apply zb
   apply qb
   apply zf
   apply zb
   exact E0
  ·apply z9
   apply zg
   apply z7
   refine WQ [0, 1, 7, 8] [] ?_
   refine WN (⟨i + 1, by omega, vx hif.2 hb⟩)
 ·apply zn
  apply zh
  obtain rfl : i = l.length := by omega
  have hv := zni hf
  have hE := And.intro hE hv
  apply ze
  apply zw
  apply z7
  refine WS [4] [] ?_
  apply za
  exact E0
theorem ze9 (G) (l : List ByteArray) (g : FuncId) (p : ByteArray → Bool) (hl : l.length ≤ 281474976710656) (hg : ∀ o ∈ l, zo Tryz.prog G g [sD o] [bD (p o)]) : zo Tryz.prog G 107 [ssD l, .fn g []] [bD (decide (0 ≤ z87 p l))] := by
 skip
 refine z4z [] [] [] Tryz.func107 rfl (by rfl) (by simp [Tryz.ntmps107]) fun F hP hG hN hR => ?_
 rw [Tryz.ntmps107] at hN
 have hA := And.intro hN (And.intro hP (And.intro hG (And.intro hR.1 (And.intro hR.2.1 hR.2.2.1))))
 have hE := @Tryz.results107
 refine WS [0, 1] [] ?_
 have hc := gvF hP hG (zr5 G l g p hl hg)
 refine WSc [4] [] ?_
 apply za
 exact E0
def yp (l : List ByteArray) : Bool := l.all vr
theorem zha (l : List ByteArray) : (!decide (0 ≤ z87 (fun s => !vr s) l)) = yp l := by
 have h := zgr (p := fun s => !vr s) (l := l)
 unfold yp
 rw [Bool.eq_iff_iff]
 simp only [Bool.not_eq_true', decide_eq_false_iff_not, h, List.any_eq_true, List.all_eq_true]
 constructor
 ·intro h x hx
  rcases hw : vr x with _ | _
  ·exact absurd ⟨x, hx, by simp [hw]⟩ h
  ·rfl
 ·rintro h ⟨x, hx, hw⟩
  simp [h x hx] at hw
theorem zic (G) (l : List ByteArray) (hl : l.length ≤ 281474976710656) (hs : ∀ s ∈ l, s.size ≤ 281474976710656) : zo Tryz.prog G 72 [ssD l] [bD (yp l)] := by
 skip
 skip
 refine GI [] [] [] Tryz.func72 Tryz.ntmps72 fun F hP hG hN hR hA => ?_
 have hE := And.intro @Tryz.results72 (@zha)
 refine WS [0] [] ?_
 have hc := gvF hP hG (ze9 G l 108 (fun s => !vr s) hl (fun o ho => zjs G o (hs o ho)))
 refine WSc [2] [] ?_
 apply za
 exact E0
theorem zk9 (G) (s : ByteArray) (hs : s.size ≤ 281474976710656) : zo Tryz.prog G 109 [sD s] [iD (x6 s)] := by
 have hi1 : ((s.size : Int) - 1).toNat = s.size - 1 := by omega
 skip
 skip
 refine GI [] [] [] Tryz.func109 Tryz.ntmps109 fun F hP hG hN hR hA => ?_
 have hE := And.intro @Tryz.results109 (@hi1)
 refine WS [0] [] ?_
 apply z6
 refine WS [0, 6] [] ?_
 refine WI ?_ ?_ <;> intro hb
 ·have hv : x6 s = 4 := by unfold x6; rw [if_pos (by omega)]
  have hE := And.intro hE hv
  refine WS [2] [] ?_
  apply za
  apply zb
  exact E0
 ·have hn4 : ¬ 4096 < s.size := by omega
  apply z9
  apply z7
  apply z6
  refine WS [0, 22] [] ?_
  refine WI ?_ ?_ <;> intro hb
  ·have hv : x6 s = 2 := by
    unfold x6
    rw [if_neg hn4, if_pos]
    rcases Nat.eq_zero_or_pos s.size with h | h
    ·exact .inr h
    ·refine .inl ?_
     by_cases h0 : x0 s 0 = 32
     ·exact ⟨0, h, by simp [badM, h0]⟩
     ·refine ⟨s.size - 1, by omega, ?_⟩
      have h1 : x0 s (s.size - 1) = 32 := by grind
      have h2 : ((s.size - 1 : Nat) : Int) = (s.size : Int) - 1 := by omega
      simp [badM, h1, h2]
   have hE := And.intro hE hv
   refine WS [2] [] ?_
   apply za
   apply zb
   exact E0
  ·have hz : s.size ≠ 0 := by grind
   have h0 : x0 s 0 ≠ 32 := by grind
   have hl0 : x0 s (s.size - 1) ≠ 32 := by grind
   apply z9
   apply z7
   apply z6
   refine WS [0, 3] [] ?_
   apply zc
   refine WL (ι := {i : Nat // i ≤ s.size ∧ ∀ j, j < i → badM s j = false}) [0] [] (fun ⟨i, hic⟩ => [(3, .dat (iD i))]) (fun ⟨i, hic⟩ => []) (fun ⟨i, hic⟩ => s.size - i) (⟨0, by omega, z58⟩) ?_
   rintro ⟨i, hic⟩
   refine LA ?_
   obtain ⟨hi, hall⟩ := id hic
   have hi2 : ((i : Int) - 1).toNat = i - 1 := by omega
   have hE := And.intro hE hi2
   apply z6
   refine WS [0, 3, 26] [] ?_
   refine WI ?_ ?_ <;> intro hb
   ·apply z9
    apply z7
    apply z6
    apply zc
    refine WS [0, 3, 55] [] ?_
    refine WI ?_ ?_ <;> intro hb
    ·have hbd : badM s i = true := by
      unfold badM
      grind
     have hv : x6 s = 2 := by unfold x6; rw [if_neg hn4, if_pos (.inl ⟨i, by omega, hbd⟩)]
     have hE := And.intro hE hv
     refine WS [2] [] ?_
     apply za
     apply zf
     apply zb
     apply qb
     apply zf
     apply zb
     exact E0
    ·have hnb : badM s i = false := by
      have hz0 : i = 0 → x0 s i = x0 s 0 := fun h => by rw [h]
      have hz1 : i = s.size - 1 → x0 s i = x0 s (s.size - 1) := fun h => by rw [h]
      unfold badM
      grind
     apply z9
     apply zg
     apply z7
     refine WQ [0, 3] [] ?_
     refine WN (⟨i + 1, by omega, vx hic.2 hnb⟩)
   ·apply zn
    apply zh
    obtain rfl : i = s.size := by omega
    have hno : ¬ ∃ i, i < s.size ∧ badM s i = true := fun ⟨j, h1, h2⟩ => by rw [hall j h1] at h2; cases h2
    apply ze
    apply zw
    apply z7
    apply z6
    have hc := gvF hP hG (zos G s (by omega))
    refine WSc [59] [] ?_
    refine WI ?_ ?_ <;> intro hb
    ·have hv : x6 s = 4 := by unfold x6; rw [if_neg hn4, if_neg (by rintro (h | h); exact hno h; exact hz h), if_pos (by omega)]
     have hE := And.intro hE hv
     refine WS [2] [] ?_
     apply za
     apply zb
     exact E0
    ·have hv : x6 s = 0 := by unfold x6; rw [if_neg hn4, if_neg (by rintro (h | h); exact hno h; exact hz h), if_neg (by omega)]
     have hE := And.intro hE hv
     apply z9
     apply z7
     refine WS [2] [] ?_
     apply za
     exact E0
theorem zb0 (G) (s : ByteArray) (hs : s.size ≤ 281474976710656) : zo Tryz.prog G 76 [sD s] [bD (vr s)] := by
 skip
 refine GI [] [] [] Tryz.func76 Tryz.ntmps76 fun F hP hG hN hR hA => ?_
 have hE := @Tryz.results76
 refine WS [0] [] ?_
 apply z6
 apply zu [0, 11] []
 ·refine RN ?_
  refine CG (zk9 G s hs) ?_
  exact SC
 refine WI ?_ ?_ <;> intro hb
 ·have hv : vr s = false := by
   unfold vr
   grind
  have hE := And.intro hE hv
  refine WS [2] [] ?_
  apply za
  apply zb
  exact E0
 ·apply z9
  apply z7
  apply z6
  refine WS [0, 3] [] ?_
  apply zc
  refine WL (ι := {i : Nat // i ≤ s.size ∧ ∀ j, j < i → ¬ x0 s j = 64}) [0] [] (fun ⟨i, hic⟩ => [(3, .dat (iD i))]) (fun ⟨i, hic⟩ => []) (fun ⟨i, hic⟩ => s.size - i) (⟨0, by omega, z58⟩) ?_
  rintro ⟨i, hic⟩
  refine LA ?_
  obtain ⟨hi, hall⟩ := id hic
  apply z6
  refine WS [0, 3, 15] [] ?_
  refine WI ?_ ?_ <;> intro hb
  ·apply z9
   apply z7
   apply z6
   apply zc
   refine WS [0, 3, 21] [] ?_
   refine WI ?_ ?_ <;> intro hb
   ·have ha := (zcu s).2 ⟨i, by omega, hb⟩
    have hv : vr s = false := by
     unfold vr
     simp [ha]
    have hE := And.intro hE hv
    refine WS [2] [] ?_
    apply za
    apply zf
    apply zb
    apply qb
    apply zf
    apply zb
    exact E0
   ·apply z9
    apply zg
    apply z7
    refine WQ [0, 3] [] ?_
    refine WN (⟨i + 1, by omega, vx hic.2 hb⟩)
  ·apply zn
   apply zh
   obtain rfl : i = s.size := by omega
   have ha : zct s = false := by
    cases h : zct s
    ·rfl
    ·obtain ⟨j, h1, h2⟩ := (zcu s).1 h
     exact absurd h2 (hall j h1)
   have hv : vr s = true := by
    unfold vr
    grind
   have hE := And.intro hE hv
   apply ze
   apply zw
   apply z7
   refine WS [2] [] ?_
   apply za
   exact E0
theorem zdk (G) (l : List ByteArray) (hl : l.length ≤ 281474976710656) (hs : ∀ s ∈ l, s.size ≤ 281474976710656) : zo Tryz.prog G 77 [ssD l] [bD (yp l)] := by
 skip
 refine GI [] [] [] Tryz.func77 Tryz.ntmps77 fun F hP hG hN hR hA => ?_
 have hE := @Tryz.results77
 refine WS [0] [] ?_
 apply z6
 refine WS [0, 3] [] ?_
 apply zc
 refine WL (ι := {i : Nat // i ≤ l.length ∧ ∀ j, j < i → vr (l.getD j default) = true}) [0] [] (fun ⟨i, hic⟩ => [(3, .dat (iD i))]) (fun ⟨i, hic⟩ => []) (fun ⟨i, hic⟩ => l.length - i) (⟨0, by omega, z58⟩) ?_
 rintro ⟨i, hic⟩
 refine LA ?_
 obtain ⟨hi, hall⟩ := id hic
 apply z6
 refine WS [0, 3, 7] [] ?_
 refine WI ?_ ?_ <;> intro hb
 ·apply z9
  apply z7
  apply z6
  apply zc
  have hc := gvF hP hG (zb0 G (l.getD i default) (x4 hs (by omega)))
  refine WSc [0, 3, 15] [] ?_
  refine WI ?_ ?_ <;> intro hb
  ·have hv : yp l = false := by
    unfold yp
    rw [List.all_eq_false]
    exact ⟨l.getD i default, x4 (p := fun o => o ∈ l) (fun o h => h) (by omega), by rw [hb]; exact Bool.false_ne_true⟩
   have hE := And.intro hE hv
   refine WS [2] [] ?_
   apply za
   apply zf
   apply zb
   apply qb
   apply zf
   apply zb
   exact E0
  ·apply z9
   apply zg
   apply z7
   refine WQ [0, 3] [] ?_
   refine WN (⟨i + 1, by omega, vx hic.2 hb⟩)
 ·apply zn
  apply zh
  obtain rfl : i = l.length := by omega
  have hv : yp l = true := by
   unfold yp
   rw [List.all_eq_true]
   intro x hx
   obtain ⟨j, hj, rfl⟩ := List.getElem_of_mem hx
   have := hall j hj
   rwa [List.getD_eq_getElem?_getD, List.getElem?_eq_getElem hj] at this
  have hE := And.intro hE hv
  apply ze
  apply zw
  apply z7
  refine WS [2] [] ?_
  apply za
  exact E0
def z43 {α : Type} (ls : List (List α)) (i : Nat) : List α := (z1d ls i).flatten
theorem zc9 {α : Type} (ls : List (List α)) : z43 ls 0 = [] := rfl
theorem z65 {α : Type} (ls : List (List α)) (i : Nat) (h : i < ls.length) : z43 ls (i + 1) = z43 ls i ++ ls.getD i default := by
 simp [z43, z3d ls i h]
theorem z8y {α : Type} (ls : List (List α)) (i : Nat) (h : i < ls.length) : (z43 ls (i + 1)).length = (z43 ls i).length + (ls.getD i default).length := by
 rw [z65 ls i h, List.length_append]
theorem zg0 {α : Type} (ls : List (List α)) : z43 ls ls.length = ls.flatten := by simp [z43, Xg]
theorem z89 {α : Type} {ls : List (List α)} (hs : ∀ l ∈ ls, l.length ≤ 1000000) {i : Nat} (h : i ≤ ls.length) : (z43 ls i).length ≤ 1000000 * i := by
 have : ∀ k : List (List α), (∀ l ∈ k, l.length ≤ 1000000) → k.flatten.length ≤ 1000000 * k.length := fun k hk => by
  induction k with
  | nil => simp
  | cons x k ih =>
   have h1 := hk x (by simp)
   have h2 := ih fun l hl => hk l (by simp [hl])
   rw [List.flatten_cons, List.length_append, List.length_cons]
   omega
 have h2 := this (z1d ls i) fun l hl => hs l (List.mem_of_mem_take hl)
 rw [z2e ls i h] at h2
 exact h2
theorem znf (G) (n : Int) (h0 : 0 ≤ n) (hn : n ≤ 1000000000000) : GivesX Tryz.prog G 115 [.nils, .dat (iD n)] [] [.osl 22 1 0 0] [(22, ⟨1, []⟩)] := by
 skip
 skip
 refine GX [] [] [] Tryz.func115 Tryz.ntmps115 fun F hP hG hN hR hA => ?_
 have hE := And.intro @Tryz.results115 (@IntWalk.i64_in)
 refine WS [0, 1] [22] ?_
 apply z6
 refine WS [0, 1, 6] [22] ?_
 refine WI ?_ ?_ <;> intro hb
 ·exfalso
  omega --STOP
 ·apply z9
  apply z7
  apply z6
  refine qo ?_
  apply qz
  ·(iterate 2 apply Seg.cons); exact Seg.nil _
  ·refine RK ?_
   exact SC
  refine ws rfl (z88 rfl rfl (by rw [hN]; omega) (by rw [hP]; exact ti47) rfl rfl) ?_
  rw [ww]
  apply vi [0, 1] [22]
  ·refine RN ?_
   exact SC
  refine WS [0, 1, 16] [22] ?_
  refine WI ?_ ?_ <;> intro hb
  ·refine Xp ?_
   apply qz
   ·(iterate 2 apply Seg.cons); exact Seg.nil _
   ·refine RK ?_
    exact SC
   refine ws rfl (z88 rfl rfl (by rw [hN]; omega) (by rw [hP]; exact ti47) rfl rfl) ?_
   rw [ww]
   apply qz
   ·(iterate 2 apply Seg.cons); exact Seg.nil _
   ·refine RK ?_
    exact SC
   refine ws rfl (z8r rfl rfl (by rw [hN]; omega) (by rw [hP]; exact ti47) rfl (by rw [hP]; exact ti3) rfl (by rw [hP]; exact ti5) rfl rfl rfl rfl rfl (by omega) (by omega) (by dsimp only; omega)) ?_
   simp only [avA, seval]
   apply vi [0] [22]
   ·refine RN ?_
    exact SC
   apply z7
   refine WS [4] [22] ?_
   apply za
   exact E0
  ·refine xz 22 1 (by omega) ?_
   refine y9 0 22 1 rfl rfl ?_
   
   apply z9
   apply z7
   refine WS [4] [22] ?_
   apply za
   exact E0
theorem zng (G) (n : Int) (h0 : 0 ≤ n) (hn : n ≤ 1000000000000) : GivesX Tryz.prog G 83 [.nils, .dat (iD n)] [] [.osl 22 1 0 0] [(22, ⟨1, []⟩)] := by
 skip
 skip
 refine GX [] [] [] Tryz.func83 Tryz.ntmps83 fun F hP hG hN hR hA => ?_
 have hE := And.intro @Tryz.results83 (@IntWalk.i64_in)
 refine WS [0, 1] [22] ?_
 apply z6
 refine WS [0, 1, 6] [22] ?_
 refine WI ?_ ?_ <;> intro hb
 ·exfalso
  omega --STOP
 ·apply z9
  apply z7
  apply z6
  refine qo ?_
  apply qz
  ·(iterate 2 apply Seg.cons); exact Seg.nil _
  ·refine RK ?_
   exact SC
  refine ws rfl (z88 rfl rfl (by rw [hN]; omega) (by rw [hP]; exact ti28) rfl rfl) ?_
  rw [ww]
  apply vi [0, 1] [22]
  ·refine RN ?_
   exact SC
  refine WS [0, 1, 16] [22] ?_
  refine WI ?_ ?_ <;> intro hb
  ·refine Xp ?_
   apply qz
   ·(iterate 2 apply Seg.cons); exact Seg.nil _
   ·refine RK ?_
    exact SC
   refine ws rfl (z88 rfl rfl (by rw [hN]; omega) (by rw [hP]; exact ti28) rfl rfl) ?_
   rw [ww]
   apply qz
   ·(iterate 2 apply Seg.cons); exact Seg.nil _
   ·refine RK ?_
    exact SC
   refine ws rfl (z8r rfl rfl (by rw [hN]; omega) (by rw [hP]; exact ti28) rfl (by rw [hP]; exact ti3) rfl (by rw [hP]; exact ti9) rfl rfl rfl rfl rfl (by omega) (by omega) (by dsimp only; omega)) ?_
   simp only [avA, seval]
   apply vi [0] [22]
   ·refine RN ?_
    exact SC
   apply z7
   refine WS [4] [22] ?_
   apply za
   exact E0
  ·refine xz 22 1 (by omega) ?_
   refine y9 0 22 1 rfl rfl ?_
   
   apply z9
   apply z7
   refine WS [4] [22] ?_
   apply za
   exact E0
theorem zis (G) (ls : List (List Int)) (hl : ls.length ≤ 1000000) (hs : ∀ l ∈ ls, l.length ≤ 1000000) (hq : ls.flatten.length ≤ 1000000) : zo Tryz.prog G 82 [.sl (ls.map fun l => wm l)] [wm ls.flatten] := by
 skip
 skip
 skip
 refine GI [] [24] [] Tryz.func82 Tryz.ntmps82 fun F hP hG hN hR hA => ?_
 have hE := And.intro @Tryz.results82 (And.intro @zc9 (@IntWalk.i64_in))
 refine WS [0] [33] ?_
 refine WS [0, 3] [33] ?_
 apply z6
 refine WS [0, 3, 9, 10, 11] [33] ?_
 apply zc
 refine WL (ι := {i : Nat // i ≤ ls.length}) [0, 9, 10] [33] (fun ⟨i, hi⟩ => [(3, .dat (iD (z43 ls i).length)), (11, .dat (iD i))]) (fun ⟨i, hi⟩ => []) (fun ⟨i, hi⟩ => ls.length - i) (⟨0, by omega⟩) ?_
 rintro ⟨i, hi⟩
 refine LA ?_
 refine WS [0, 3, 9, 10, 11, 12] [33] ?_
 apply z6
 refine WI ?_ ?_ <;> intro hb
 ·have hx := x4 hs (i := i) (by omega)
  have hle := z89 hs hi
  have hsc := z8y ls i (by omega)
  have hE := And.intro hE hsc
  apply z9
  apply z7
  apply z6
  apply zc
  refine WS [0, 3, 5, 9, 10, 11] [33] ?_
  refine WS [0, 3, 9, 10, 11] [33] ?_
  refine WS [0, 3, 9, 10, 11, 20] [33] ?_
  refine WI ?_ ?_ <;> intro hb
  ·exfalso
   omega --STOP
  ·apply z9
   apply zg
   apply z7
   refine WQ [0, 3, 9, 10, 11] [33] ?_
   refine WN (⟨i + 1, by omega⟩)
 ·apply zn
  apply zh
  have hend : i = ls.length := by omega
  subst hend
  have hf := zg0 ls
  have hE := And.intro hE hf
  apply ze
  apply zw
  apply z7
  apply zu [0, 6] [33]
  ·refine RN ?_
   refine CX (fun _ => 33) [22] (znf G ls.flatten.length (by omega) (by omega)) ?_
   exact SC
  apply z6
  refine WS [6, 25, 26, 27] [33] ?_
  apply zc
  refine WL (ι := {i : Nat // i ≤ ls.length}) [25, 26] [] (fun ⟨i, hi⟩ => [(6, .osl 33 1 0 (z43 ls i).length), (27, .dat (iD i))]) (fun ⟨i, hi⟩ => [(33, ⟨1, ((z43 ls i).map u8D).map .dat⟩)]) (fun ⟨i, hi⟩ => ls.length - i) (⟨0, by omega⟩) ?_
  rintro ⟨i, hi⟩
  refine LA ?_
  refine WS [6, 25, 26, 27, 28] [33] ?_
  apply z6
  refine WI ?_ ?_ <;> intro hb
  ·have hx := x4 hs (i := i) (by omega)
   have hle := z89 hs hi
   have hsc := z65 ls i (by omega)
   have hE := And.intro hE hsc
   
   apply z9
   apply z7
   apply z6
   apply zc
   refine WS [6, 8, 25, 26, 27] [33] ?_
   refine WQ [6, 25, 26, 27] [33] ?_
   apply zg
   apply z7
   refine WQ [6, 25, 26, 27] [33] ?_
   refine WN (⟨i + 1, by omega⟩)
  ·apply zn
   apply zh
   have hend : i = ls.length := by omega
   subst hend
   apply ze
   apply zw
   apply z7
   refine WS [2] [33] ?_
   apply za
   exact E0
theorem zit (G) (ls : List (List ByteArray)) (hl : ls.length ≤ 1000000) (hs : ∀ l ∈ ls, l.length ≤ 1000000) (hq : ls.flatten.length ≤ 1000000) : zo Tryz.prog G 43 [.sl (ls.map fun l => ssD l)] [ssD ls.flatten] := by
 skip
 skip
 skip
 refine GI [] [24] [] Tryz.func43 Tryz.ntmps43 fun F hP hG hN hR hA => ?_
 have hE := And.intro @Tryz.results43 (And.intro @zc9 (@IntWalk.i64_in))
 refine WS [0] [33] ?_
 refine WS [0, 3] [33] ?_
 apply z6
 refine WS [0, 3, 9, 10, 11] [33] ?_
 apply zc
 refine WL (ι := {i : Nat // i ≤ ls.length}) [0, 9, 10] [33] (fun ⟨i, hi⟩ => [(3, .dat (iD (z43 ls i).length)), (11, .dat (iD i))]) (fun ⟨i, hi⟩ => []) (fun ⟨i, hi⟩ => ls.length - i) (⟨0, by omega⟩) ?_
 rintro ⟨i, hi⟩
 refine LA ?_
 refine WS [0, 3, 9, 10, 11, 12] [33] ?_
 apply z6
 refine WI ?_ ?_ <;> intro hb
 ·have hx := x4 hs (i := i) (by omega)
  have hle := z89 hs hi
  have hsc := z8y ls i (by omega)
  have hE := And.intro hE hsc
  apply z9
  apply z7
  apply z6
  apply zc
  refine WS [0, 3, 5, 9, 10, 11] [33] ?_
  refine WS [0, 3, 9, 10, 11] [33] ?_
  refine WS [0, 3, 9, 10, 11, 20] [33] ?_
  refine WI ?_ ?_ <;> intro hb
  ·exfalso
   omega --STOP
  ·apply z9
   apply zg
   apply z7
   refine WQ [0, 3, 9, 10, 11] [33] ?_
   refine WN (⟨i + 1, by omega⟩)
 ·apply zn
  apply zh
  have hend : i = ls.length := by omega
  subst hend
  have hf := zg0 ls
  have hE := And.intro hE hf
  apply ze
  apply zw
  apply z7
  apply zu [0, 6] [33]
  ·refine RN ?_
   refine CX (fun _ => 33) [22] (zng G ls.flatten.length (by omega) (by omega)) ?_
   exact SC
  apply z6
  refine WS [6, 25, 26, 27] [33] ?_
  apply zc
  refine WL (ι := {i : Nat // i ≤ ls.length}) [25, 26] [] (fun ⟨i, hi⟩ => [(6, .osl 33 1 0 (z43 ls i).length), (27, .dat (iD i))]) (fun ⟨i, hi⟩ => [(33, ⟨1, ((z43 ls i).map Dat.str).map .dat⟩)]) (fun ⟨i, hi⟩ => ls.length - i) (⟨0, by omega⟩) ?_
  rintro ⟨i, hi⟩
  refine LA ?_
  refine WS [6, 25, 26, 27, 28] [33] ?_
  apply z6
  refine WI ?_ ?_ <;> intro hb
  ·have hx := x4 hs (i := i) (by omega)
   have hle := z89 hs hi
   have hsc := z65 ls i (by omega)
   have hE := And.intro hE hsc
   
   apply z9
   apply z7
   apply z6
   apply zc
   refine WS [6, 8, 25, 26, 27] [33] ?_
   refine WQ [6, 25, 26, 27] [33] ?_
   apply zg
   apply z7
   refine WQ [6, 25, 26, 27] [33] ?_
   refine WN (⟨i + 1, by omega⟩)
  ·apply zn
   apply zh
   have hend : i = ls.length := by omega
   subst hend
   apply ze
   apply zw
   apply z7
   refine WS [2] [33] ?_
   apply za
   exact E0
theorem zpe (G) (l : List ByteArray) (hl : ∀ s ∈ l, s.size ≤ 1000000) (hn : l.length ≤ 1000000) : GivesX Tryz.prog G 42 [.dat (ssD l)] [] [.osl 18 1 0 (strsM l).length] [(18, ⟨1, ((strsM l).map u8D).map .dat⟩)] := by
 have hk := Xu (n := l.length) (by unfold I64; omega)
 have hil := w7 l.length
 skip
 skip
 skip
 refine GX [] [8, 17] [] Tryz.func42 Tryz.ntmps42 fun F hP hG hN hR hA => ?_
 have hE := And.intro @Tryz.results42 (And.intro @zba (And.intro @w7 (@strsM.eq_1)))
 refine WS [0] [18] ?_
 apply zu [0, 3] [18]
 ·refine RN ?_
  refine CX (fun _ => 18) [45] (z2u G l.length (by unfold I64; omega)) ?_
  exact SC
 apply z6
 refine WS [3, 9, 10, 11] [18] ?_
 apply zc
 refine WL (ι := {i : Nat // i ≤ l.length}) [9, 10] [] (fun ⟨i, hi⟩ => [(3, .osl 18 1 0 (Zi l i).length), (11, .dat (iD i))]) (fun ⟨i, hi⟩ => [(18, ⟨1, ((Zi l i).map u8D).map .dat⟩)]) (fun ⟨i, hi⟩ => l.length - i) (⟨0, by omega⟩) ?_
 rintro ⟨i, hi⟩
 refine LA ?_
 refine WS [3, 9, 10, 11, 12] [18] ?_
 apply z6
 refine WI ?_ ?_ <;> intro hb
 ·have hx := x4 hl (i := i) (by omega)
  have hle := zb8 hl hi hn
  have hixl := Zt hx
  have hsc := zb9 l i (by omega)
  have hE := And.intro hE hsc
  apply z9
  apply z7
  apply z6
  apply zc
  refine WS [3, 5, 9, 10, 11] [18] ?_
  apply kf [3, 9, 10, 11] [18]
  ·refine RN ?_
   refine CX (fun _ => 17) [7] (zbk G (l.getD i default) hx) ?_
   exact SC
  apply zg
  apply z7
  refine WQ [3, 9, 10, 11] [18] ?_
  refine WN (⟨i + 1, by omega⟩)
 ·apply zn
  apply zh
  have hend : i = l.length := by omega
  subst hend
  apply ze
  apply zw
  apply z7
  refine WS [2] [18] ?_
  apply za
  exact E0
theorem z5w (G) (l : List ByteArray) (hl : ∀ s ∈ l, s.size ≤ 1000000) (hn : l.length ≤ 1000000) : zo Tryz.prog G 42 [ssD l] [wm (strsM l)] := (zpe G l hl hn).row rfl
theorem Zc (G) (l : List Int) (hl : ∀ x ∈ l, I64 x) (hn : l.length ≤ 1000000) : zo Tryz.prog G 39 [isD l] [wm (intsM l)] := (z74 G l hl hn).row rfl
theorem zai (G) (s : ByteArray) (hs : s.size ≤ 1000000) : GivesX Tryz.prog G 85 [.dat (sD s)] [] [.osl 8 1 0 (x7 s).length] [(8, ⟨1, ((x7 s).map u8D).map .dat⟩)] := by
 have hk := Xu (n := s.size) (by unfold I64; omega)
 have hil := w7 s.size
 have hsl := j8 s
 skip
 skip
 skip
 refine GX [] [5] [] Tryz.func85 Tryz.ntmps85 fun F hP hG hN hR hA => ?_
 have hE := And.intro @Tryz.results85 (And.intro @IntWalk.i64_in (And.intro @j8 (@w7)))
 refine WS [0] [5] ?_
 refine qo ?_
 apply qz
 ·(iterate 4 apply Seg.cons); exact Seg.nil _
 ·refine RK ?_
  (repeat' refine And.intro ?_ ?_) <;> try exact SD
  refine CallC.useX (fun _ => 5) [57] (by simp [zbp, hR.2.1]) (zuf hP hG (z2m G s.size (by unfold I64; omega))) rfl (qv hN (by first | trivial | ((try simp only [yc, AObj.ren, AV.ren, renL, qy, List.map_cons, List.map_nil, x1, xm]) <;> ((repeat' apply And.intro) <;> first | trivial | rfl))) (by rfl)) ?_
  try simp (maxSteps := 2000000) (disch := omega) only [qq, avA, zl, zp, seval, ↓List.forall_mem_cons, Op.operands, hA, tiA, hE, z76, avX]
  exact SC
 refine ws rfl (ziu rfl rfl (by rw [hN]; omega) (by rw [hP]; exact ti9) (by rw [hP]; exact ti47) rfl (by rw [hP]; exact ti5) rfl rfl) ?_
 rw [ww]
 apply vi [2] [8, 5]
 ·refine RN ?_
  exact SC
 apply z7
 apply za
 simp only [kz, ym, vv, qt, qi, qr, vn, qg, qa, xu, qx, vg, xk, xx, xt, vf, xw, xh, xy, xd, avA, zl, zp, seval, ↓List.forall_mem_cons, Op.operands, hP, hG, tiA, hE, x7, List.length_append, List.map_append]
 all_goals try trivial
theorem zdb (G) (s : ByteArray) (hs : s.size ≤ 1000000) : zo Tryz.prog G 85 [sD s] [wm (x7 s)] := (zai G s hs).row rfl
theorem z6u (G) (l : List Int) (hl : ∀ x ∈ l, I64 x) (hn : l.length ≤ 1000000) : GivesX Tryz.prog G 47 [.dat (isD l)] [] [.osl 20 1 0 (intsM l).length] [(20, ⟨1, ((intsM l).map u8D).map .dat⟩)] := by
 have hk := Xu (n := l.length) (by unfold I64; omega)
 have hil := w7 l.length
 skip
 skip
 skip
 refine GX [] [7, 19] [] Tryz.func47 Tryz.ntmps47 fun F hP hG hN hR hA => ?_
 have hE := And.intro @Tryz.results47 (And.intro @z9u (And.intro @w7 (@intsM.eq_1)))
 refine WS [0] [20] ?_
 apply zu [0, 3] [20]
 ·refine RN ?_
  refine CX (fun _ => 20) [57] (z2m G l.length (by unfold I64; omega)) ?_
  exact SC
 apply z6
 refine WS [0, 3, 4] [20] ?_
 apply zc
 refine WL (ι := {i : Nat // i ≤ l.length}) [0] [] (fun ⟨i, hi⟩ => [(3, .osl 20 1 0 (z0g l i).length), (4, .dat (iD i))]) (fun ⟨i, hi⟩ => [(20, ⟨1, ((z0g l i).map u8D).map .dat⟩)]) (fun ⟨i, hi⟩ => l.length - i) (⟨0, by omega⟩) ?_
 rintro ⟨i, hi⟩
 refine LA ?_
 apply z6
 refine WS [0, 3, 4, 11] [20] ?_
 refine WI ?_ ?_ <;> intro hb
 ·have hx := x4 hl (i := i) (by omega)
  have hle := z9s hl hi hn
  have hkx := Xu hx
  have hixl := w7 (l.getD i default)
  have hsc := z9t l i (by omega)
  have hE := And.intro hE hsc
  apply z9
  apply z7
  apply z6
  apply zc
  apply kf [0, 3, 4] [20]
  ·refine RN ?_
   refine CX (fun _ => 19) [57] (z2m G (l.getD i default) hx) ?_
   exact SC
  apply zg
  apply z7
  refine WQ [0, 3, 4] [20] ?_
  refine WN (⟨i + 1, by omega⟩)
 ·apply zn
  apply zh
  have hend : i = l.length := by omega
  subst hend
  apply ze
  apply zw
  apply z7
  refine WS [2] [20] ?_
  apply za
  exact E0
theorem Z9 (G) (l : List Int) (hl : ∀ x ∈ l, I64 x) (hn : l.length ≤ 1000000) : zo Tryz.prog G 47 [isD l] [wm (intsM l)] := (z6u G l hl hn).row rfl
theorem zot (G) (l : List ByteArray) (hl : ∀ s ∈ l, s.size ≤ 1000000) (hn : l.length ≤ 1000000) : GivesX Tryz.prog G 49 [.dat (ssD l)] [] [.osl 20 1 0 (strsM l).length] [(20, ⟨1, ((strsM l).map u8D).map .dat⟩)] := by
 have hk := Xu (n := l.length) (by unfold I64; omega)
 have hil := w7 l.length
 skip
 skip
 skip
 refine GX [] [7, 19] [] Tryz.func49 Tryz.ntmps49 fun F hP hG hN hR hA => ?_
 have hE := And.intro @Tryz.results49 (And.intro @zba (And.intro @w7 (@strsM.eq_1)))
 refine WS [0] [20] ?_
 apply zu [0, 3] [20]
 ·refine RN ?_
  refine CX (fun _ => 20) [57] (z2m G l.length (by unfold I64; omega)) ?_
  exact SC
 apply z6
 refine WS [0, 3, 4] [20] ?_
 apply zc
 refine WL (ι := {i : Nat // i ≤ l.length}) [0] [] (fun ⟨i, hi⟩ => [(3, .osl 20 1 0 (Zi l i).length), (4, .dat (iD i))]) (fun ⟨i, hi⟩ => [(20, ⟨1, ((Zi l i).map u8D).map .dat⟩)]) (fun ⟨i, hi⟩ => l.length - i) (⟨0, by omega⟩) ?_
 rintro ⟨i, hi⟩
 refine LA ?_
 apply z6
 refine WS [0, 3, 4, 11] [20] ?_
 refine WI ?_ ?_ <;> intro hb
 ·have hx := x4 hl (i := i) (by omega)
  have hle := zb8 hl hi hn
  have hixl := Zt hx
  have hsc := zb9 l i (by omega)
  have hE := And.intro hE hsc
  apply z9
  apply z7
  apply z6
  apply zc
  apply kf [0, 3, 4] [20]
  ·refine RN ?_
   refine CX (fun _ => 19) [8] (zai G (l.getD i default) hx) ?_
   exact SC
  apply zg
  apply z7
  refine WQ [0, 3, 4] [20] ?_
  refine WN (⟨i + 1, by omega⟩)
 ·apply zn
  apply zh
  have hend : i = l.length := by omega
  subst hend
  apply ze
  apply zw
  apply z7
  refine WS [2] [20] ?_
  apply za
  exact E0
theorem z0p (G) (l : List ByteArray) (hl : ∀ s ∈ l, s.size ≤ 1000000) (hn : l.length ≤ 1000000) : zo Tryz.prog G 49 [ssD l] [wm (strsM l)] := (zot G l hl hn).row rfl
theorem z0a (G) (l : List Int) (i m : Int) (hl : ∀ x ∈ l, I64 x) (hm : 0 < m) (hmr : I64 m) : zo Tryz.prog G 24 [isD l, iD i, iD m] [iD (atM l i m)] := by
 unfold atM
 skip
 refine GI [] [] [] Tryz.func24 Tryz.ntmps24 fun F hP hG hN hR hA => ?_
 have hE := @Tryz.results24
 refine WS [0, 1, 2] [] ?_
 apply z6
 refine WS [0, 1, 2, 14] [] ?_
 refine WI ?_ ?_ <;> intro hb
 ·rw [if_pos (by omega)]
  refine WS [6] [] ?_
  apply za
  apply zb
  exact E0
 ·rw [if_neg (by omega)]
  apply z9
  apply z7
  have hc := gvF hP hG (kq _ (l.getD i.toNat default) m (x4 hl (by omega)) hm hmr)
  refine WSc [6] [] ?_
  apply za
  exact E0
theorem zhc {o : OpM} (h : OkOp o) : ∀ x ∈ o.Pairs.flatMap pairI, I64 x := fun x hx => by
 obtain ⟨p, hp, hx⟩ := List.mem_flatMap.1 hx
 have := h.pairs p hp
 simp only [pairI, List.mem_cons, List.not_mem_nil, or_false] at hx
 rcases hx with rfl | rfl
 ·exact this.1
 ·exact this.2
theorem zr3 {o : OpM} (h : OkOp o) : ∀ x ∈ o.Refs.flatMap idI, I64 x := fun x hx => by
 obtain ⟨p, hp, hx⟩ := List.mem_flatMap.1 hx
 have := h.refs p hp
 simp only [idI, List.mem_cons, List.not_mem_nil, or_false] at hx
 rcases hx with rfl | rfl | rfl
 ·exact this.1
 ·exact this.2.1
 ·exact this.2.2
theorem zo0 {o : OpM} (h : OkOp o) : ∀ l ∈ [intsM (y7 o), x7 o.Text, strsM o.Texts, intsM (o.Pairs.flatMap pairI), intsM (o.Refs.flatMap idI)], l.length ≤ 1000000 := by
 have := h.all
 simp only [opB, List.length_append] at this
 simp only [List.forall_mem_cons]
 exact ⟨by omega, by omega, by omega, by omega, by omega, by simp⟩
theorem zs2 (o : OpM) : [intsM (y7 o), x7 o.Text, strsM o.Texts, intsM (o.Pairs.flatMap pairI), intsM (o.Refs.flatMap idI)].flatten = opB o := by
 simp [opB, List.append_assoc]
theorem zti (G) (o : OpM) (h : OkOp o) : zo Tryz.prog G 41 [opD o] [wm (opB o)] := by
 have hpl := kr (f := pairI) (k := 2) (fun _ => rfl) o.Pairs
 have hrl := kr (f := idI) (k := 3) (fun _ => rfl) o.Refs
 have hnp := h.npairs
 have hnr := h.nrefs
 have hob := zs2 o
 skip
 skip
 refine GI [] [] [] Tryz.func41 Tryz.ntmps41 fun F hP hG hN hR hA => ?_
 have hE := And.intro @Tryz.results41 (And.intro @X5 (@hob))
 refine WS [1] [1] ?_
 refine WS [1, 3, 4] [1, 23, 40] ?_
 apply z6
 refine WS [1, 3, 4, 11, 12, 13] [1, 23, 40] ?_
 apply zc
 refine xz 23 1 (by omega) ?_
 refine y9 3 23 1 rfl rfl ?_
 refine WL (ι := {i : Nat // i ≤ o.Pairs.length}) [1, 4, 11, 12] [1, 22, 39, 40] (fun ⟨i, hi⟩ => [(3, .osl 23 1 0 (x3 pairI o.Pairs i).length), (13, .dat (iD i))]) (fun ⟨i, hi⟩ => [(23, ⟨1, ((x3 pairI o.Pairs i).map iD).map .dat⟩)]) (fun ⟨i, hi⟩ => o.Pairs.length - i) (⟨0, by omega⟩) ?_
 rintro ⟨i, hi⟩
 refine LA ?_
 have hl := hpl i hi
 refine WS [1, 3, 4, 11, 12, 13, 14] [1, 22, 23, 40] ?_
 apply z6
 refine WI ?_ ?_ <;> intro hb
 ·have hl2 := hpl (i + 1) (by omega)
  have hsc := j2 pairI o.Pairs i (by omega)
  have hE := And.intro hE (And.intro hsc (pairI.eq_1 (o.Pairs.getD i default)))
  apply z9
  apply z7
  apply z6
  apply zc
  refine WS [1, 3, 4, 6, 11, 12, 13] [1, 6, 22, 23, 40] ?_
  refine WQ [1, 3, 4, 11, 12, 13] [1, 22, 23, 40] ?_
  apply zg
  apply z7
  refine WQ [1, 3, 4, 11, 12, 13] [1, 22, 23, 40] ?_
  refine WN (⟨i + 1, by omega⟩)
 ·apply zn
  apply zh
  have hend : i = o.Pairs.length := by omega
  subst hend
  have hf := vp pairI o.Pairs
  have hE := And.intro hE hf
  apply ze
  apply zw
  apply z7
  apply z6
  refine WS [1, 3, 4, 26, 27, 28] [1, 22, 23, 40] ?_
  apply zc
  refine xz 40 1 (by omega) ?_
  refine y9 4 40 1 rfl rfl ?_
  refine WL (ι := {i : Nat // i ≤ o.Refs.length}) [1, 3, 26, 27] [1, 22, 23, 39] (fun ⟨i, hi⟩ => [(4, .osl 40 1 0 (x3 idI o.Refs i).length), (28, .dat (iD i))]) (fun ⟨i, hi⟩ => [(40, ⟨1, ((x3 idI o.Refs i).map iD).map .dat⟩)]) (fun ⟨i, hi⟩ => o.Refs.length - i) (⟨0, by omega⟩) ?_
  rintro ⟨i, hi⟩
  refine LA ?_
  have hl := hrl i hi
  refine WS [1, 3, 4, 26, 27, 28, 29] [1, 22, 23, 39, 40] ?_
  apply z6
  refine WI ?_ ?_ <;> intro hb
  ·have hl2 := hrl (i + 1) (by omega)
   have hsc := j2 idI o.Refs i (by omega)
   have hE := And.intro hE (And.intro hsc (idI.eq_1 (o.Refs.getD i default)))
   apply z9
   apply z7
   apply z6
   apply zc
   refine WS [1, 3, 4, 8, 26, 27, 28] [1, 8, 22, 23, 39, 40] ?_
   refine WQ [1, 3, 4, 26, 27, 28] [1, 22, 23, 39, 40] ?_
   apply zg
   apply z7
   refine WQ [1, 3, 4, 26, 27, 28] [1, 22, 23, 39, 40] ?_
   refine WN (⟨i + 1, by omega⟩)
  ·apply zn
   apply zh
   have hend : i = o.Refs.length := by omega
   subst hend
   have hf2 := vp idI o.Refs
   have hE := And.intro hE hf2
   apply ze
   apply zw
   apply z7
   refine jh 23 hR.2.2.2 rfl (datE_map _) ?_
   refine jh 40 hR.2.2.2 rfl (by simp only [zgm]; exact datE_map _) ?_
   have hc := gvF hP hG (Zc G (y7 o) h.head (by simp [y7]))
   refine WSc [1, 3, 4, 9] [1, 22, 23, 39, 40] ?_
   apply wn [2] [] [0, 1, 2, 3, 4, 5, 6, 7, 8, 9, 10, 11, 12, 13] []
   ·rw [hP]; kernel_rfl
   ·exact hR
   ·kernel_rfl
   ·(repeat (apply PickL.cons; exact rfl)); exact PickL.nil _
   ·refine RN ?_
    refine CU (zdw G o.Text (by have := h.text; omega)) ?_
    refine CU (z5w G o.Texts (fun s hs => by have := h.texts s hs; omega) (by have := h.ntexts; omega)) ?_
    refine CU (Zc G (o.Pairs.flatMap pairI) (zhc h) (by rw [← vp pairI, hpl _ (Nat.le_refl _)]; omega)) ?_
    refine CU (Zc G (o.Refs.flatMap idI) (zr3 h) (by rw [← vp idI, hrl _ (Nat.le_refl _)]; omega)) ?_
    refine CU (zis G [intsM (y7 o), x7 o.Text, strsM o.Texts, intsM (o.Pairs.flatMap pairI), intsM (o.Refs.flatMap idI)] (by simp) (zo0 h) (by rw [hob]; exact h.all)) ?_
    exact SC
   apply za
   exact E0
theorem zk7 (G) (l : List (Int × Int)) (hl : l.length ≤ 100000) : zo Tryz.prog G 86 [z2c l] [isD (l.flatMap pairI)] := by
 have hpl := kr (f := pairI) (k := 2) (fun _ => rfl) l
 skip
 skip
 skip
 refine GI [23] [] [] Tryz.func86 Tryz.ntmps86 fun F hP hG hN hR hA => ?_
 have hE := And.intro @Tryz.results86 (@X5)
 refine WS [0] [3] ?_
 refine WS [0, 3] [23, 3] ?_
 apply z6
 refine WS [0, 3, 4] [23, 3] ?_
 apply zc
 refine xz 3 1 (by omega) ?_
 refine y9 3 3 1 rfl rfl ?_
 refine WL (ι := {i : Nat // i ≤ l.length}) [0] [22, 23] (fun ⟨i, hi⟩ => [(3, .osl 3 1 0 (x3 pairI l i).length), (4, .dat (iD i))]) (fun ⟨i, hi⟩ => [(3, ⟨1, ((x3 pairI l i).map iD).map .dat⟩)]) (fun ⟨i, hi⟩ => l.length - i) (⟨0, by omega⟩) ?_
 rintro ⟨i, hi⟩
 refine LA ?_
 have hl1 := hpl i hi
 apply z6
 refine WS [0, 3, 4, 8] [22, 23, 3] ?_
 refine WI ?_ ?_ <;> intro hb
 ·have hl2 := hpl (i + 1) (by omega)
  have hsc := j2 pairI l i (by omega)
  have hE := And.intro hE (And.intro hsc (pairI.eq_1 (l.getD i default)))
  apply z9
  apply z7
  apply z6
  apply zc
  refine WDQ [0, 3, 4] [22, 23, 3] [0, 1, 2, 3, 4, 5, 6, 7, 8, 9, 10, 11, 12, 13] [23] ?_
  apply zg
  apply z7
  refine wv 23 3 (by omega) (by omega) ?_
  refine WQ [0, 3, 4] [22, 23, 3] ?_
  refine WN (⟨i + 1, by omega⟩)
 ·apply zn
  apply zh
  have hend : i = l.length := by omega
  subst hend
  have hf := vp pairI l
  have hE := And.intro hE hf
  apply ze
  apply zw
  apply z7
  refine WS [2] [22, 23, 3] ?_
  apply za
  exact E0
theorem zsf (G) (l : List IdM) (hl : l.length ≤ 100000) : zo Tryz.prog G 87 [zr4 l] [isD (l.flatMap idI)] := by
 have hpl := kr (f := idI) (k := 3) (fun _ => rfl) l
 skip
 skip
 skip
 refine GI [28] [] [] Tryz.func87 Tryz.ntmps87 fun F hP hG hN hR hA => ?_
 have hE := And.intro @Tryz.results87 (@X5)
 refine WS [0] [3] ?_
 refine WS [0, 3] [28, 3] ?_
 apply z6
 refine WS [0, 3, 4] [28, 3] ?_
 apply zc
 refine xz 3 1 (by omega) ?_
 refine y9 3 3 1 rfl rfl ?_
 refine WL (ι := {i : Nat // i ≤ l.length}) [0] [27, 28] (fun ⟨i, hi⟩ => [(3, .osl 3 1 0 (x3 idI l i).length), (4, .dat (iD i))]) (fun ⟨i, hi⟩ => [(3, ⟨1, ((x3 idI l i).map iD).map .dat⟩)]) (fun ⟨i, hi⟩ => l.length - i) (⟨0, by omega⟩) ?_
 rintro ⟨i, hi⟩
 refine LA ?_
 have hl1 := hpl i hi
 apply z6
 refine WS [0, 3, 4, 8] [27, 28, 3] ?_
 refine WI ?_ ?_ <;> intro hb
 ·have hl2 := hpl (i + 1) (by omega)
  have hsc := j2 idI l i (by omega)
  have hE := And.intro hE (And.intro hsc (idI.eq_1 (l.getD i default)))
  apply z9
  apply z7
  apply z6
  apply zc
  refine WDQ [0, 3, 4] [27, 28, 3] [0, 1, 2, 3, 4, 5, 6, 7, 8, 9, 10, 11, 12, 13, 14, 15, 16, 17, 18] [28] ?_
  apply zg
  apply z7
  refine wv 28 3 (by omega) (by omega) ?_
  refine WQ [0, 3, 4] [27, 28, 3] ?_
  refine WN (⟨i + 1, by omega⟩)
 ·apply zn
  apply zh
  have hend : i = l.length := by omega
  subst hend
  have hf := vp idI l
  have hE := And.intro hE hf
  apply ze
  apply zw
  apply z7
  refine WS [2] [27, 28, 3] ?_
  apply za
  exact E0
set_option maxRecDepth 100000 in
theorem zau (G) (o : OpM) (h : OkOp o) : zo Tryz.prog G 48 [opD o] [wm (opB o)] := by
 have hpl := kr (f := pairI) (k := 2) (fun _ => rfl) o.Pairs o.Pairs.length (Nat.le_refl _)
 have hrl := kr (f := idI) (k := 3) (fun _ => rfl) o.Refs o.Refs.length (Nat.le_refl _)
 rw [vp] at hpl hrl
 have hnp := h.npairs
 have hnr := h.nrefs
 have hall := h.all
 simp only [opB, List.length_append] at hall
 have c1 : (List.map AV.dat (List.map u8D (intsM (y7 o))) ++ List.map AV.dat (List.map u8D (x7 o.Text))).length = (intsM (y7 o)).length + (x7 o.Text).length := by simp only [List.length_append, List.length_map]
 have c2 : (List.map AV.dat (List.map u8D (intsM (y7 o))) ++ List.map AV.dat (List.map u8D (x7 o.Text)) ++ List.map AV.dat (List.map u8D (strsM o.Texts))).length = (intsM (y7 o)).length + (x7 o.Text).length + (strsM o.Texts).length := by simp only [List.length_append, List.length_map]
 have c3 : (List.map AV.dat (List.map u8D (intsM (y7 o))) ++ List.map AV.dat (List.map u8D (x7 o.Text)) ++ List.map AV.dat (List.map u8D (strsM o.Texts)) ++ List.map AV.dat (List.map u8D (intsM (o.Pairs.flatMap pairI)))).length = (intsM (y7 o)).length + (x7 o.Text).length + (strsM o.Texts).length + (intsM (o.Pairs.flatMap pairI)).length := by simp only [List.length_append, List.length_map]
 have c4 : (List.map AV.dat (List.map u8D (intsM (y7 o))) ++ List.map AV.dat (List.map u8D (x7 o.Text)) ++ List.map AV.dat (List.map u8D (strsM o.Texts)) ++ List.map AV.dat (List.map u8D (intsM (o.Pairs.flatMap pairI))) ++ List.map AV.dat (List.map u8D (intsM (o.Refs.flatMap idI)))).length = (intsM (y7 o)).length + (x7 o.Text).length + (strsM o.Texts).length + (intsM (o.Pairs.flatMap pairI)).length + (intsM (o.Refs.flatMap idI)).length := by simp only [List.length_append, List.length_map]
 skip
 skip
 skip
 refine GI [45, 49, 55, 60] [40] [] Tryz.func48 Tryz.ntmps48 fun F hP hG hN hR hA => ?_
 have hE := And.intro @Tryz.results48 (And.intro @Nat.min_self (@List.take_of_length_le.{0}))
 refine WS [1] [1, 40] ?_
 apply zu [1, 3] [1, 40]
 ·refine RN ?_
  refine CX (fun _ => 40) [20] (z6u G (y7 o) h.head (by simp [y7])) ?_
  exact SC
 apply wn [1, 3] [1, 45, 49, 40] [0, 1, 2, 3, 4, 5, 6, 7, 8, 9] [45, 49]
 ·rw [hP]; kernel_rfl
 ·exact hR
 ·kernel_rfl
 ·(repeat (apply PickL.cons; exact rfl)); exact PickL.nil _
 ·refine RN ?_
  refine CU (zdb G o.Text (by have := h.text; omega)) ?_
  refine CU (z0p G o.Texts (fun s hs => by have := h.texts s hs; omega) (by have := h.ntexts; omega)) ?_
  exact SC
 apply wn [2] [45, 49, 55, 60, 40] [0, 1, 2, 3, 4, 5, 6, 7, 8, 9, 10, 11] [55, 60]
 ·rw [hP]; kernel_rfl
 ·exact hR
 ·kernel_rfl
 ·(repeat (apply PickL.cons; exact rfl)); exact PickL.nil _
 ·refine RN ?_
  refine CU (zk7 G o.Pairs hnp) ?_
  refine CU (Z9 G (o.Pairs.flatMap pairI) (zhc h) (by omega)) ?_
  refine CU (zsf G o.Refs hnr) ?_
  refine CU (Z9 G (o.Refs.flatMap idI) (zr3 h) (by omega)) ?_
  exact SC
 apply za
 simp only [kz, ym, vv, qt, qi, qr, vn, qg, qa, xu, qx, vg, xk, xx, xt, vf, xw, xh, xy, xd, avA, zl, zp, seval, ↓List.forall_mem_cons, Op.operands, hP, hG, tiA, hE, opB]
 all_goals try trivial
 simp only [← List.map_append, datE_map]
 rfl
end Go.Proofs.YtabjaaonfaejmaaGreatDoor

