/- The data of events, and how a walk knows them. -/
import Derived.Test.YtabjaaonfaejmaaGreatDoorHAv42
import Derived.IntWalk
import Derived.Test.YtabjaaonfaejmaaGreatDoorHAv52
import Derived.Test.YtabjaaonfaejmaaGreatDoorHAv50
import Derived.Test.YtabjaaonfaejmaaGreatDoorRows
import Derived.WalkKit
import Derived.ProofKit
import Derived.OpenShut
import Derived.WideKeyArgs
import Derived.Deep.DeepHandedRow
import Derived.Lib.LaidTab
import Derived.Test.YtabjaaonfaejmaaGreatDoorCards
import Derived.Test.YtabjaaonfaejmaaGreatDoorTie
import Derived.Stop.LaidErr
import Derived.ChangeMaps5
import Derived.KernelRfl
import Derived.Test.YtabjaaonfaejmaaGreatDoorHP1
import Derived.Test.YtabjaaonfaejmaaGreatDoorHAv53
import Derived.Test.YtabjaaonfaejmaaGreatDoorHAv54
import Derived.Test.YtabjaaonfaejmaaGreatDoorHAv44
import Derived.Test.YtabjaaonfaejmaaGreatDoorChecked
import Derived.Lib.Strings
import Derived.Lib.Slices
import Derived.Lib.Walk
import Derived.Lib.Bytealg
set_option linter.all false
namespace Go.Proofs.YtabjaaonfaejmaaGreatDoor
open Go.Av

structure NameM where
  By : Int
  Seq : Int
  deriving DecidableEq, Inhabited
structure IdM where
  By : Int
  Seq : Int
  K : Int
  deriving DecidableEq, Inhabited
structure SpotM where
  Volume : Int
  Article : Int
  Index : Int
  deriving DecidableEq, Inhabited
structure OpM where
  Kind : Int
  At : IdM
  To : IdM
  Spot : SpotM
  N : Int
  Form : Int
  Lang : Int
  Text : ByteArray
  Texts : List ByteArray
  Pairs : List (Int × Int)
  Refs : List IdM
  deriving Inhabited
structure TermM where
  Name : ByteArray
  Kind : Int
  Lang : Int
  See : ByteArray
  Broader : List ByteArray
  deriving Inhabited
structure PostM where
  ID : IdM
  Path : List ByteArray
  Main : Bool
  deriving Inhabited
structure EventM where
  By : Int
  Seq : Int
  Tick : Int
  Kind : Int
  Refs : List NameM
  Op : OpM
  Term : TermM
  ID : IdM
  Posts : List PostM
  N : Int
  deriving Inhabited

abbrev bD (b : Bool) : Dat := .bool b
abbrev sD (s : ByteArray) : Dat := .str s
abbrev ssD (l : List ByteArray) : Dat := .sl (l.map .str)
abbrev u8D (n : Int) : Dat := .int .u8 n
abbrev u8sD (l : List Int) : Dat := .sl (l.map u8D)
abbrev nameD (n : NameM) : Dat := .agg [iD n.By, iD n.Seq]
abbrev namesD (l : List NameM) : Dat := .sl (l.map nameD)
abbrev idL (i : IdM) : List Dat := [iD i.By, iD i.Seq, iD i.K]
abbrev idD (i : IdM) : Dat := .agg [iD i.By, iD i.Seq, iD i.K]
abbrev idsD (l : List IdM) : Dat := .sl (l.map idD)
abbrev spotD (s : SpotM) : Dat := .agg [iD s.Volume, iD s.Article, iD s.Index]
abbrev pairD (p : Int × Int) : Dat := .agg [iD p.1, iD p.2]
abbrev pairsD (l : List (Int × Int)) : Dat := .sl (l.map pairD)
abbrev opD (o : OpM) : Dat := .agg [iD o.Kind, iD o.At.By, iD o.At.Seq, iD o.At.K, iD o.To.By, iD o.To.Seq, iD o.To.K, iD o.Spot.Volume, iD o.Spot.Article, iD o.Spot.Index, iD o.N, iD o.Form, iD o.Lang, sD o.Text, ssD o.Texts, pairsD o.Pairs, idsD o.Refs]
abbrev termD (t : TermM) : Dat := .agg [sD t.Name, iD t.Kind, iD t.Lang, sD t.See, ssD t.Broader]
abbrev postD (p : PostM) : Dat := .agg [iD p.ID.By, iD p.ID.Seq, iD p.ID.K, ssD p.Path, bD p.Main]
abbrev postsD (l : List PostM) : Dat := .sl (l.map postD)
abbrev eventD (e : EventM) : Dat := .agg [iD e.By, iD e.Seq, iD e.Tick, iD e.Kind, namesD e.Refs,
  iD e.Op.Kind, iD e.Op.At.By, iD e.Op.At.Seq, iD e.Op.At.K, iD e.Op.To.By, iD e.Op.To.Seq, iD e.Op.To.K, iD e.Op.Spot.Volume, iD e.Op.Spot.Article, iD e.Op.Spot.Index, iD e.Op.N, iD e.Op.Form, iD e.Op.Lang, sD e.Op.Text, ssD e.Op.Texts, pairsD e.Op.Pairs, idsD e.Op.Refs,
  sD e.Term.Name, iD e.Term.Kind, iD e.Term.Lang, sD e.Term.See, ssD e.Term.Broader, iD e.ID.By, iD e.ID.Seq, iD e.ID.K, postsD e.Posts, iD e.N]
abbrev eventsD (l : List EventM) : Dat := .sl (l.map eventD)

theorem getD_all {α : Type} [Inhabited α] {p : α → Prop} {l : List α} (h : ∀ x ∈ l, p x) {i : Nat} (hi : i < l.length) : p (l.getD i default) := by
  rw [List.getD_eq_getElem?_getD, List.getElem?_eq_getElem hi]
  exact h _ (List.getElem_mem hi)

/-- A number made one from 0 up to most. -/
def aroundM (n m : Int) : Int := (if n < 0 then -(n + 1) else n).tmod m
theorem aroundM_range {n m : Int} (hm : 0 < m) : 0 ≤ aroundM n m ∧ aroundM n m < m := by
  unfold aroundM
  have h : 0 ≤ (if n < 0 then -(n + 1) else n) := by split <;> omega
  exact ⟨Int.tmod_nonneg _ h, Int.tmod_lt_of_pos _ hm⟩
def atM (l : List Int) (i m : Int) : Int := if i < 0 ∨ (l.length : Int) ≤ i then 0 else aroundM (l.getD i.toNat default) m
theorem atM_range {l : List Int} {i m : Int} (hm : 0 < m) : 0 ≤ atM l i m ∧ atM l i m < m := by
  unfold atM
  split
  · omega
  · exact aroundM_range hm

def possibleM (n : NameM) : Bool := decide (0 ≤ n.By) && decide (n.By < 6) && decide (0 ≤ n.Seq) && decide (n.Seq ≤ 63)
def lessM (a b : NameM) : Bool := if a.By ≠ b.By then decide (a.By < b.By) else decide (a.Seq < b.Seq)
def withinM (n m : Int) : Bool := decide (0 ≤ n) && decide (n ≤ m)
def evName (e : EventM) : NameM := ⟨e.By, e.Seq⟩
def beforeM (a b : EventM) : Bool := if a.Tick ≠ b.Tick then decide (a.Tick < b.Tick) else lessM (evName a) (evName b)

/-- Two lists that are the same, element by element. -/
def sameL {α : Type} (f : α → α → Bool) : List α → List α → Bool
  | [], [] => true
  | x :: a, y :: b => f x y && sameL f a b
  | _, _ => false
theorem sameL_len {α : Type} {f : α → α → Bool} : ∀ {a b : List α}, a.length ≠ b.length → sameL f a b = false
  | [], [], h => absurd rfl h
  | x :: a, y :: b, h => by
    have := sameL_len (f := f) (a := a) (b := b) (by simpa using h)
    simp [sameL, this]
  | [], _ :: _, _ => rfl
  | _ :: _, [], _ => rfl
theorem sameL_bad {α : Type} [Inhabited α] {f : α → α → Bool} : ∀ {a b : List α} (i : Nat), i < a.length → a.length = b.length → f (a.getD i default) (b.getD i default) = false → sameL f a b = false
  | [], _, _, h, _, _ => by simp at h
  | _ :: _, [], _, _, h, _ => by simp at h
  | x :: a, y :: b, 0, _, _, h => by simp at h; simp [sameL, h]
  | x :: a, y :: b, i + 1, h1, h2, h => by
    have := sameL_bad (f := f) (a := a) (b := b) i (by simpa using h1) (by simpa using h2) (by simpa using h)
    simp [sameL, this]
theorem sameL_all {α : Type} [Inhabited α] {f : α → α → Bool} : ∀ {a b : List α}, a.length = b.length → (∀ i, i < a.length → f (a.getD i default) (b.getD i default) = true) → sameL f a b = true
  | [], [], _, _ => rfl
  | [], _ :: _, h, _ => by simp at h
  | _ :: _, [], h, _ => by simp at h
  | x :: a, y :: b, hl, h => by
    have h0 := h 0 (by simp)
    have h1 := sameL_all (f := f) (a := a) (b := b) (by simpa using hl) fun i hi => by simpa using h (i + 1) (by simpa using hi)
    simp at h0
    simp [sameL, h0, h1]
theorem allstep {p : Nat → Prop} {i : Nat} (h : ∀ j, j < i → p j) (hi : p i) : ∀ j, j < i + 1 → p j := fun j hj => by
  rcases Nat.lt_or_eq_of_le (Nat.lt_succ_iff.1 hj) with h1 | h1
  · exact h j h1
  · exact h1 ▸ hi
def sameName (a b : NameM) : Bool := a.By == b.By && a.Seq == b.Seq
def sameID (a b : IdM) : Bool := a.By == b.By && a.Seq == b.Seq && a.K == b.K
def sameSpot (a b : SpotM) : Bool := a.Volume == b.Volume && a.Article == b.Article && a.Index == b.Index
def sameStr (a b : ByteArray) : Bool := decide (a = b)
theorem str_inj {a b : ByteArray} (h : a.toList = b.toList) : a = b := by
  rw [ByteArray.toList_eq, ByteArray.toList_eq] at h
  cases a; cases b
  simp only at h
  congr
  exact Array.ext' h

theorem str_beq (a b : ByteArray) : (a.toList == b.toList) = sameStr a b := by
  unfold sameStr
  by_cases h : a = b
  · subst h; simp
  · have : a.toList ≠ b.toList := fun e => h (str_inj e)
    simp [h, this]
def sameTermM (t u : TermM) : Bool := sameStr t.Name u.Name && t.Kind == u.Kind && t.Lang == u.Lang && sameStr t.See u.See && sameL sameStr t.Broader u.Broader
def samePostM (p q : PostM) : Bool := sameID p.ID q.ID && p.Main == q.Main && sameL sameStr p.Path q.Path
def samePair (x y : Int × Int) : Bool := x.1 == y.1 && x.2 == y.2
def sameOpM (o p : OpM) : Bool := o.Kind == p.Kind && sameID o.At p.At && sameID o.To p.To && sameSpot o.Spot p.Spot && o.N == p.N && o.Form == p.Form && o.Lang == p.Lang && sameStr o.Text p.Text &&
  sameL sameStr o.Texts p.Texts && sameL samePair o.Pairs p.Pairs && sameL sameID o.Refs p.Refs
/-- Which fields the kinds of events use. -/
structure UsesM where
  op : Bool := false
  term : Bool := false
  id : Bool := false
  posts : Bool := false
  n : Bool := false
abbrev usesD (u : UsesM) : Dat := .agg [bD u.op, bD u.term, bD u.id, bD u.posts, bD u.n]
def ofM (k : Int) : UsesM := if k = 0 then { op := true } else if k = 2 then { term := true } else if k = 3 ∨ k = 4 then { id := true, posts := true } else if k = 5 ∨ k = 6 then { id := true, n := true } else {}
/-- The generators' words. -/
def wordsL : List ByteArray := [⟨#[97, 110, 110, 97]⟩, ⟨#[114, 111, 109, 101]⟩, ⟨#[107, 105, 110, 103]⟩, ⟨#[107, 105, 110, 103, 32, 97, 110, 110, 97]⟩, ⟨#[111, 100, 101]⟩, ⟨#[108, 121, 114, 101, 32, 111, 102, 32, 114, 111, 109, 101]⟩, ⟨#[120, 32, 49, 50]⟩, ⟨#[116, 104, 101, 32, 101, 110, 100, 46]⟩]
def wordM (n : Int) : ByteArray := wordsL.getD (aroundM n 8).toNat default
def idM (n : Int) : IdM := ⟨n.tmod 4, (n.tdiv 4).tmod 8, (n.tdiv 32).tmod 3⟩
def listM (l : List Int) (at_ : Int) (i : Nat) : List ByteArray := (List.range i).map fun (j : Nat) => wordM (atM l (at_ + (j : Int)) 64)

/-- The index of the first element that has a property; -1: there is none. -/
def idxM {α : Type} (p : α → Bool) (l : List α) : Int := if l.findIdx p < l.length then (l.findIdx p : Int) else -1
theorem idxM_some {α : Type} [Inhabited α] {p : α → Bool} {l : List α} {i : Nat} (hi : i < l.length) (h : p (l.getD i default) = true) (hn : ∀ j, j < i → p (l.getD j default) = false) : idxM p l = i := by
  have e : ∀ j (h : j < l.length), l.getD j default = l[j] := fun j h => by rw [List.getD_eq_getElem?_getD, List.getElem?_eq_getElem h]; rfl
  have : l.findIdx p = i := (List.findIdx_eq hi).2 ⟨by rw [← e i hi]; exact h, fun j hj => by rw [← e j (by omega)]; simpa using hn j hj⟩
  unfold idxM
  rw [this, if_pos hi]
theorem idxM_none {α : Type} [Inhabited α] {p : α → Bool} {l : List α} (hn : ∀ j, j < l.length → p (l.getD j default) = false) : idxM p l = -1 := by
  have e : ∀ j (h : j < l.length), l.getD j default = l[j] := fun j h => by rw [List.getD_eq_getElem?_getD, List.getElem?_eq_getElem h]; rfl
  have : l.findIdx p = l.length := List.findIdx_eq_length.2 fun x hx => by
    obtain ⟨j, hj, rfl⟩ := List.getElem_of_mem hx
    rw [← e j hj]
    simpa using hn j hj
  unfold idxM
  rw [this, if_neg (by omega)]
theorem idxM_nonneg {α : Type} {p : α → Bool} {l : List α} : 0 ≤ idxM p l ↔ l.any p = true := by
  unfold idxM
  constructor
  · intro h
    split at h
    · rename_i hl
      rw [List.any_eq_true]
      exact ⟨l[l.findIdx p], List.getElem_mem hl, List.findIdx_getElem⟩
    · omega
  · intro h
    rw [List.any_eq_true] at h
    have := List.findIdx_lt_length.2 h
    rw [if_pos this]
    omega
theorem none0 {p : Nat → Prop} : ∀ j, j < 0 → p j := fun j h => absurd h (Nat.not_lt_zero j)

end Go.Proofs.YtabjaaonfaejmaaGreatDoor

namespace Go.Proofs.YtabjaaonfaejmaaGreatDoor
open Go.Av

/-- How many bytes a number takes. -/
def digs (m : Nat) : Nat := if m = 0 then 0 else digs (m / 256) + 1
termination_by m
decreasing_by omega
theorem digs_zero : digs 0 = 0 := by rw [digs]; rfl
theorem digs_pos {m : Nat} (h : 0 < m) : digs m = digs (m / 256) + 1 := by rw [digs]; rw [if_neg (by omega)]
theorem digs_div (m : Nat) : ∀ j, digs (m / 256 ^ j) = digs m - j
  | 0 => by simp
  | j + 1 => by
    rw [Nat.pow_succ, ← Nat.div_div_eq_div_mul]
    have ih := digs_div m j
    by_cases h : m / 256 ^ j = 0
    · rw [h] at ih ⊢
      simp only [Nat.zero_div, digs_zero] at ih ⊢
      omega
    · rw [digs_pos (Nat.pos_of_ne_zero h)] at ih
      omega
theorem digs_iff (m j : Nat) : 0 < m / 256 ^ j ↔ j < digs m := by
  have h := digs_div m j
  constructor
  · intro h1
    rw [digs_pos h1] at h
    omega
  · intro h1
    rcases Nat.eq_zero_or_pos (m / 256 ^ j) with h2 | h2
    · rw [h2, digs_zero] at h; omega
    · exact h2
theorem digs_le {m k : Nat} (h : m < 256 ^ k) : digs m ≤ k := by
  rcases Nat.lt_or_ge k (digs m) with h1 | h1
  · have := (digs_iff m k).2 h1
    rw [Nat.div_eq_of_lt h] at this
    omega
  · exact h1
theorem digs_8 {m : Nat} (h : m < 18446744073709551616) : digs m ≤ 8 := digs_le (by simpa using h)

/-- A number without its sign. -/
def negM (n : Int) : Int := if n < 0 then -1 - n else n
theorem negM_range {n : Int} (h : I64 n) : 0 ≤ negM n ∧ negM n < 9223372036854775808 := by
  unfold negM
  unfold I64 at h
  split <;> omega
/-- A byte, or its complement. -/
def flipM (n b : Int) : Int := if n < 0 then 255 - b else b
def kM (n : Int) : Nat := digs (negM n).toNat
theorem kM_le {n : Int} (h : I64 n) : kM n ≤ 8 := digs_8 (by have := negM_range h; omega)
/-- Digit i of a number. -/
def digM (n : Int) (i : Nat) : Int := flipM n (((negM n).toNat / 256 ^ i % 256 : Nat) : Int)
/-- The first j + 1 bytes of a number. -/
def intN (n : Int) (j : Nat) : List Int := flipM n (128 + kM n) :: (List.range j).map fun i => digM n (kM n - 1 - i)
/-- The bytes of a number. -/
def intM (n : Int) : List Int := intN n (kM n)
theorem intM_eq (n : Int) : intM n = intN n (kM n) := rfl
theorem intN_zero (n : Int) : intN n 0 = [flipM n (128 + kM n)] := rfl
theorem intN_succ (n : Int) (j : Nat) : intN n (j + 1) = intN n j ++ [digM n (kM n - 1 - j)] := by simp [intN, List.range_succ]
theorem intN_len (n : Int) (j : Nat) : (intN n j).length = j + 1 := by simp [intN]
theorem intM_len (n : Int) : (intM n).length = kM n + 1 := intN_len _ _

theorem xor_flip (n b : Int) (h : 0 ≤ b ∧ b ≤ 255) : IntKind.u8.wrap ((BitVec.ofInt IntKind.u8.bits b ^^^ BitVec.ofInt IntKind.u8.bits (flipM n 0)).toNat : Int) = flipM n b := by
  have h0 : ∀ b : Fin 256, IntKind.u8.wrap ((BitVec.ofInt IntKind.u8.bits (b.val : Int) ^^^ BitVec.ofInt IntKind.u8.bits 0).toNat : Int) = b.val := by decide +kernel
  have h1 : ∀ b : Fin 256, IntKind.u8.wrap ((BitVec.ofInt IntKind.u8.bits (b.val : Int) ^^^ BitVec.ofInt IntKind.u8.bits 255).toNat : Int) = 255 - b.val := by decide +kernel
  have hb : b = ((⟨b.toNat, by omega⟩ : Fin 256).val : Int) := by simp; omega
  unfold flipM
  rw [hb]
  split
  · exact h1 _
  · exact h0 _

theorem not_u64 {n : Int} (h : I64 n) (hn : n < 0) : IntKind.u64.wrap ((BitVec.ofInt IntKind.u64.bits IntKind.u64.max ^^^ BitVec.ofInt IntKind.u64.bits (IntKind.u64.wrap n)).toNat : Int) = negM n := by
  unfold I64 at h
  have e1 : IntKind.u64.wrap n = 18446744073709551616 + n := by unfold IntKind.wrap; simp [IntKind.bits, IntKind.signed]; omega
  have e2 : BitVec.ofInt 64 18446744073709551615 = BitVec.allOnes 64 := by decide
  rw [e1]
  show IntKind.u64.wrap ((BitVec.ofInt 64 18446744073709551615 ^^^ BitVec.ofInt 64 (18446744073709551616 + n)).toNat : Int) = negM n
  rw [e2, BitVec.allOnes_xor, BitVec.toNat_not, BitVec.toNat_ofInt]
  unfold negM
  rw [if_pos hn, IntWalk.u64_in _ (by omega)]
  omega

theorem not_u64i {n : Int} (h : I64 n) (hn : n < 0) : IntKind.u64.wrap ((BitVec.ofInt IntKind.u64.bits (if IntKind.u64.signed = true then -1 else IntKind.u64.max) ^^^ BitVec.ofInt IntKind.u64.bits (IntKind.u64.wrap n)).toNat : Int) = negM n := not_u64 h hn

theorem wrap8_nat (x : Nat) : IntKind.u8.wrap (x : Int) = ((x % 256 : Nat) : Int) := by
  rw [IntKind.wrap_u8]
  omega

/-- What a shift leaves: the program's way to a digit. -/
theorem shr_digit {m : Int} {j : Nat} (h0 : 0 ≤ m) (hj : j < 8) : Int.fdiv m (2 ^ (min (8 * (j : Int)).toNat IntKind.u64.bits)) = ((m.toNat / 256 ^ j : Nat) : Int) := by
  obtain ⟨k, rfl⟩ := Int.eq_ofNat_of_zero_le h0
  rw [show min (8 * (j : Int)).toNat IntKind.u64.bits = 8 * j by simp only [IntKind.bits]; omega, Int.toNat_natCast, Int.fdiv_eq_ediv_of_nonneg _ (Int.pow_nonneg (by omega)), show (2 : Int) ^ (8 * j) = ((256 ^ j : Nat) : Int) by rw [Int.pow_mul]; simp]
  exact (Int.natCast_ediv k (256 ^ j)).symm

/-- A list of numbers. -/
def intsN (l : List Int) (i : Nat) : List Int := intM l.length ++ (preM l i).flatMap intM
def intsM (l : List Int) : List Int := intsN l l.length
def bytesM (s : ByteArray) : List Int := intM s.size ++ strB s
def strsN (l : List ByteArray) (i : Nat) : List Int := intM l.length ++ (preM l i).flatMap bytesM
def strsM (l : List ByteArray) : List Int := strsN l l.length

/-- The numbers of an operation. -/
def headL (o : OpM) : List Int := [o.Kind, o.At.By, o.At.Seq, o.At.K, o.To.By, o.To.Seq, o.To.K, o.Spot.Volume, o.Spot.Article, o.Spot.Index, o.N, o.Form, o.Lang]
def pairI (p : Int × Int) : List Int := [p.1, p.2]
def idI (r : IdM) : List Int := [r.By, r.Seq, r.K]
def nameI (r : NameM) : List Int := [r.By, r.Seq]
def flatN {α : Type} (f : α → List Int) (l : List α) (i : Nat) : List Int := (preM l i).flatMap f
theorem flatN_zero {α : Type} (f : α → List Int) (l : List α) : flatN f l 0 = [] := rfl
theorem flatN_all {α : Type} (f : α → List Int) (l : List α) : flatN f l l.length = l.flatMap f := by simp [flatN, preM_all]
theorem flatN_succ {α : Type} [Inhabited α] (f : α → List Int) (l : List α) (i : Nat) (h : i < l.length) : flatN f l (i + 1) = flatN f l i ++ f (l.getD i default) := by simp [flatN, preM_succ l i h]
theorem flatN_len {α : Type} {f : α → List Int} {k : Nat} (hf : ∀ x, (f x).length = k) (l : List α) (i : Nat) (h : i ≤ l.length) : (flatN f l i).length = k * i := by
  have : ∀ q : List α, (q.flatMap f).length = k * q.length := fun q => by
    induction q with
    | nil => simp
    | cons x q ih => rw [List.flatMap_cons, List.length_append, ih, hf, List.length_cons, Nat.mul_succ]; omega
  rw [flatN, this, preM_len l i h]
/-- The bytes of an operation. -/
def opB (o : OpM) : List Int := intsM (headL o) ++ bytesM o.Text ++ strsM o.Texts ++ intsM (o.Pairs.flatMap pairI) ++ intsM (o.Refs.flatMap idI)
def idOK (i : IdM) : Prop := I64 i.By ∧ I64 i.Seq ∧ I64 i.K
/-- An operation that can be written down. -/
structure OkOp (o : OpM) : Prop where
  head : ∀ x ∈ headL o, I64 x
  pairs : ∀ p ∈ o.Pairs, I64 p.1 ∧ I64 p.2
  refs : ∀ r ∈ o.Refs, idOK r
  text : o.Text.size ≤ 900000
  texts : ∀ s ∈ o.Texts, s.size ≤ 900000
  ntexts : o.Texts.length ≤ 100000
  npairs : o.Pairs.length ≤ 100000
  nrefs : o.Refs.length ≤ 100000
  all : (opB o).length ≤ 1000000

end Go.Proofs.YtabjaaonfaejmaaGreatDoor

namespace Go.Proofs.YtabjaaonfaejmaaGreatDoor
open Go.Av

def isB (b : List Int) : Prop := ∀ x ∈ b, 0 ≤ x ∧ x ≤ 255
/-- Whether the number is negative: then all bytes are turned. -/
def giS (b : List Int) : Int := if b.getD 0 default < 128 then -1 else 0
def giK (b : List Int) : Int := flipM (giS b) (b.getD 0 default) - 128
def giM (b : List Int) : Nat → Int
  | 0 => 0
  | j + 1 => giM b j * 256 + flipM (giS b) (b.getD (j + 1) default)
def getIntM (b : List Int) : Int × Int × Int :=
  if b.length = 0 then (0, 0, 3)
  else if 8 < giK b then (0, 0, 2)
  else if (b.length : Int) ≤ giK b then (0, 0, 3)
  else if 0 < giK b ∧ flipM (giS b) (b.getD 1 default) = 0 then (0, 0, 2)
  else if 9223372036854775808 ≤ giM b (giK b).toNat then (0, 0, 2)
  else (if giS b < 0 then -1 - giM b (giK b).toNat else giM b (giK b).toNat, giK b + 1, 0)
theorem flip_rng {n b : Int} (h : 0 ≤ b ∧ b ≤ 255) : 0 ≤ flipM n b ∧ flipM n b ≤ 255 := by
  unfold flipM
  split <;> omega
theorem isB_get {b : List Int} (h : isB b) (i : Nat) : 0 ≤ b.getD i default ∧ b.getD i default ≤ 255 := by
  by_cases hi : i < b.length
  · exact getD_all h hi
  · rw [List.getD_eq_getElem?_getD, List.getElem?_eq_none (by omega)]
    exact ⟨Int.le_refl _, by decide⟩
theorem giM_rng {b : List Int} (h : isB b) : ∀ j : Nat, 0 ≤ giM b j ∧ giM b j < ((256 ^ j : Nat) : Int)
  | 0 => by simp [giM]
  | j + 1 => by
    have h1 := giM_rng h j
    have h2 := flip_rng (n := giS b) (isB_get h (j + 1))
    rw [giM, Nat.pow_succ]
    omega
theorem giM_7 {b : List Int} (h : isB b) {j : Nat} (hj : j ≤ 7) : giM b j < 72057594037927936 := by
  have h1 := (giM_rng h j).2
  have h2 := Nat.pow_le_pow_right (n := 256) (by omega) hj
  have h3 : (256 : Nat) ^ 7 = 72057594037927936 := by rfl
  omega
theorem giM_8 {b : List Int} (h : isB b) {j : Nat} (hj : j ≤ 8) : giM b j < 18446744073709551616 := by
  have h1 := (giM_rng h j).2
  have h2 := Nat.pow_le_pow_right (n := 256) (by omega) hj
  have h3 : (256 : Nat) ^ 8 = 18446744073709551616 := by rfl
  omega
/-- A byte is put behind a number. -/
theorem or_byte {m d : Int} (hm : 0 ≤ m ∧ m < 72057594037927936) (hd : 0 ≤ d ∧ d ≤ 255) : IntKind.u64.wrap ↑(BitVec.ofInt IntKind.u64.bits (IntKind.u64.wrap (m * 2 ^ min 8 IntKind.u64.bits)) ||| BitVec.ofInt IntKind.u64.bits d).toNat = m * 256 + d := by
  obtain ⟨a, rfl⟩ := Int.eq_ofNat_of_zero_le hm.1
  obtain ⟨c, rfl⟩ := Int.eq_ofNat_of_zero_le hd.1
  have e8 : (2 : Int) ^ min 8 IntKind.u64.bits = 256 := by decide
  have hb : IntKind.u64.bits = 64 := rfl
  have h0 : IntKind.u64.wrap ((a : Int) * 2 ^ min 8 IntKind.u64.bits) = (a : Int) * 256 := by rw [e8]; exact IntWalk.u64_in _ (by omega)
  have h1 : (BitVec.ofInt IntKind.u64.bits ((a : Int) * 256)).toNat = 2 ^ 8 * a := by
    rw [hb, BitVec.toNat_ofInt]; omega
  have h2 : (BitVec.ofInt IntKind.u64.bits (c : Int)).toNat = c := by
    rw [hb, BitVec.toNat_ofInt]; omega
  rw [h0, BitVec.toNat_or, h1, h2, ← Nat.two_pow_add_eq_or_of_lt (by omega : c < 2 ^ 8), IntWalk.u64_in _ (by omega)]
  omega
theorem shr_top {m : Int} (hm : 0 ≤ m ∧ m < 18446744073709551616) : 0 < m.fdiv (2 ^ min 63 IntKind.u64.bits) ↔ 9223372036854775808 ≤ m := by
  have e : (2 : Int) ^ min 63 IntKind.u64.bits = 9223372036854775808 := by decide
  rw [e]
  rw [Int.fdiv_eq_ediv_of_nonneg _ (by omega)]
  omega
theorem not_top {m : Int} (hm : 0 ≤ m ∧ m < 9223372036854775808) : IntKind.i64.wrap (IntKind.u64.wrap ↑(BitVec.ofInt IntKind.u64.bits (if IntKind.u64.signed = true then -1 else IntKind.u64.max) ^^^ BitVec.ofInt IntKind.u64.bits m).toNat) = -1 - m := by
  have e2 : BitVec.ofInt 64 18446744073709551615 = BitVec.allOnes 64 := by decide
  show IntKind.i64.wrap (IntKind.u64.wrap ((BitVec.ofInt 64 18446744073709551615 ^^^ BitVec.ofInt 64 m).toNat : Int)) = -1 - m
  rw [e2, BitVec.allOnes_xor, BitVec.toNat_not, BitVec.toNat_ofInt, IntWalk.u64_in _ (by omega), IntKind.wrap_i64]
  omega
theorem getInt_full {b : List Int} (h : b.length ≠ 0) (h1 : ¬ 8 < giK b) (h2 : ¬ (b.length : Int) ≤ giK b) (h3 : ¬ (0 < giK b ∧ flipM (giS b) (b.getD 1 default) = 0)) (h4 : ¬ 9223372036854775808 ≤ giM b (giK b).toNat) :
    getIntM b = (if giS b < 0 then -1 - giM b (giK b).toNat else giM b (giK b).toNat, giK b + 1, 0) := by
  unfold getIntM
  rw [if_neg h, if_neg h1, if_neg h2, if_neg h3, if_neg h4]
theorem mid_get {b : List Int} {k j : Nat} (hj : j < k) : (List.drop 1 (List.take (k + 1) b)).getD j default = b.getD (j + 1) default := by
  rw [List.getD_eq_getElem?_getD, List.getElem?_drop, List.getElem?_take, if_pos (by omega), ← List.getD_eq_getElem?_getD, Nat.add_comm]
theorem u8_take (l : List Int) (i : Nat) : List.take i (List.map u8D l) = List.map u8D (List.take i l) := List.map_take.symm
theorem u8_drop (l : List Int) (i : Nat) : List.drop i (List.map u8D l) = List.map u8D (List.drop i l) := List.map_drop.symm
end Go.Proofs.YtabjaaonfaejmaaGreatDoor

namespace Go.Proofs.YtabjaaonfaejmaaGreatDoor
open Go.Av

abbrev W32 := BitVec 32
abbrev wD (x : W32) : Dat := .int .u32 x.toNat
def rotrW (x : W32) (n : Nat) : W32 := x >>> n ||| x <<< (32 - n)
def kH : List W32 := [
  0x428a2f98, 0x71374491, 0xb5c0fbcf, 0xe9b5dba5, 0x3956c25b, 0x59f111f1, 0x923f82a4, 0xab1c5ed5,
  0xd807aa98, 0x12835b01, 0x243185be, 0x550c7dc3, 0x72be5d74, 0x80deb1fe, 0x9bdc06a7, 0xc19bf174,
  0xe49b69c1, 0xefbe4786, 0x0fc19dc6, 0x240ca1cc, 0x2de92c6f, 0x4a7484aa, 0x5cb0a9dc, 0x76f988da,
  0x983e5152, 0xa831c66d, 0xb00327c8, 0xbf597fc7, 0xc6e00bf3, 0xd5a79147, 0x06ca6351, 0x14292967,
  0x27b70a85, 0x2e1b2138, 0x4d2c6dfc, 0x53380d13, 0x650a7354, 0x766a0abb, 0x81c2c92e, 0x92722c85,
  0xa2bfe8a1, 0xa81a664b, 0xc24b8b70, 0xc76c51a3, 0xd192e819, 0xd6990624, 0xf40e3585, 0x106aa070,
  0x19a4c116, 0x1e376c08, 0x2748774c, 0x34b0bcb5, 0x391c0cb3, 0x4ed8aa4a, 0x5b9cca4f, 0x682e6ff3,
  0x748f82ee, 0x78a5636f, 0x84c87814, 0x8cc70208, 0x90befffa, 0xa4506ceb, 0xbef9a3f7, 0xc67178f2]
structure S8 where
  a : W32
  b : W32
  c : W32
  d : W32
  e : W32
  f : W32
  g : W32
  h : W32
  deriving Inhabited
def S8.l (s : S8) : List W32 := [s.a, s.b, s.c, s.d, s.e, s.f, s.g, s.h]
def iv8 : S8 := ⟨0x6a09e667, 0xbb67ae85, 0x3c6ef372, 0xa54ff53a, 0x510e527f, 0x9b05688c, 0x1f83d9ab, 0x5be0cd19⟩
/-- The word that four bytes make. -/
def byteW (b : List Int) (i : Nat) : W32 := BitVec.ofInt 32 (b.getD i default)
def wordH (b : List Int) (t : Nat) : W32 := byteW b (4 * t) <<< 24 ||| byteW b (4 * t + 1) <<< 16 ||| byteW b (4 * t + 2) <<< 8 ||| byteW b (4 * t + 3)
def wordP (b : List Int) (t : Nat) : Nat → W32
  | 0 => 0#32
  | j + 1 => wordP b t j <<< 8 ||| byteW b (4 * t + j)
theorem wordP_4 (b : List Int) (t : Nat) : wordP b t 4 = wordH b t := by
  simp only [wordP, wordH, BitVec.shiftLeft_or_distrib, ← BitVec.shiftLeft_add]
  have h0 : 0#32 <<< (8 + 8 + 8 + 8) = 0#32 := by decide
  rw [h0, BitVec.zero_or]
  rfl
def sg0 (x : W32) : W32 := rotrW x 7 ^^^ rotrW x 18 ^^^ x >>> 3
def sg1 (x : W32) : W32 := rotrW x 17 ^^^ rotrW x 19 ^^^ x >>> 10
def nextW (b : List Int) (l : List W32) (t : Nat) : W32 :=
  if t < 16 then wordH b t else l.getD (t - 16) 0#32 + sg0 (l.getD (t - 15) 0#32) + l.getD (t - 7) 0#32 + sg1 (l.getD (t - 2) 0#32)
def schM (b : List Int) : Nat → List W32
  | 0 => []
  | t + 1 => schM b t ++ [nextW b (schM b t) t]
theorem schM_len (b : List Int) : ∀ t, (schM b t).length = t
  | 0 => rfl
  | t + 1 => by simp [schM, schM_len b t]
def bs0 (x : W32) : W32 := rotrW x 2 ^^^ rotrW x 13 ^^^ rotrW x 22
def bs1 (x : W32) : W32 := rotrW x 6 ^^^ rotrW x 11 ^^^ rotrW x 25
def xM (s : S8) (k w : W32) : W32 := s.h + bs1 s.e + (s.e &&& s.f ^^^ ~~~s.e &&& s.g) + k + w
def yM (s : S8) : W32 := bs0 s.a + (s.a &&& s.b ^^^ s.a &&& s.c ^^^ s.b &&& s.c)
def roundM (s : S8) (k w : W32) : S8 := ⟨xM s k w + yM s, s.a, s.b, s.c, s.d + xM s k w, s.e, s.f, s.g⟩
def roundsM (w : List W32) (s : S8) : Nat → S8
  | 0 => s
  | t + 1 => roundM (roundsM w s t) (kH.getD t 0#32) (w.getD t 0#32)
def addS (s t : S8) : S8 := ⟨s.a + t.a, s.b + t.b, s.c + t.c, s.d + t.d, s.e + t.e, s.f + t.f, s.g + t.g, s.h + t.h⟩
/-- A block is taken in. -/
def compM (s : S8) (b : List Int) : S8 := addS s (roundsM (schM b 64) s 64)
def blkM (m : List Int) (k : Nat) : List Int := (m.drop (64 * k)).take 64
def blocksM (s : S8) (m : List Int) : Nat → S8
  | 0 => s
  | k + 1 => compM (blocksM s m k) (blkM m k)
/-- The bytes of a length, of 8 bytes. -/
def lenB (n : Nat) : List Int := (List.range 8).map fun i => ((8 * n / 2 ^ (56 - 8 * i) % 256 : Nat) : Int)
def zerosM (n : Nat) : Nat := (119 - n % 64) % 64
def padM (b : List Int) : List Int := b ++ 128 :: (List.replicate (zerosM b.length) 0 ++ lenB b.length)
def outM (s : S8) : List Int := (List.range 32).map fun i => (((s.l.getD (i / 4) 0#32).toNat / 2 ^ (24 - 8 * (i % 4)) % 256 : Nat) : Int)
def sumM (b : List Int) : List Int := outM (blocksM iv8 (padM b) ((padM b).length / 64))
/-- The key of a code, of 64 bytes, combined with a byte. -/
def keyM (key : List Int) : List Int := if 64 < key.length then sumM key else key
def padKeyM (key : List Int) (c : Int) : List Int := (List.range 64).map fun i => (((keyM key).getD i 0).toNat ^^^ c.toNat : Nat)
def macM (key text : List Int) : List Int := sumM (padKeyM key 92 ++ sumM (padKeyM key 54 ++ text))

-- the walks' arithmetic, as words
theorem bw_add (x y : W32) : IntKind.u32.wrap ((x.toNat : Int) + (y.toNat : Int)) = ((x + y).toNat : Int) := by
  rw [IntKind.wrap_u32, BitVec.toNat_add]
  omega
theorem ofInt_toNat (x : W32) : BitVec.ofInt IntKind.u32.bits (x.toNat : Int) = x := by
  show BitVec.ofInt 32 (x.toNat : Int) = x
  apply BitVec.eq_of_toNat_eq
  have := x.isLt
  rw [BitVec.toNat_ofInt]
  omega
theorem wrap_toNat (x : BitVec IntKind.u32.bits) : IntKind.u32.wrap (x.toNat : Int) = (x.toNat : Int) := by
  have := x.isLt
  have hb : (2 : Nat) ^ IntKind.u32.bits = 4294967296 := rfl
  rw [hb] at this
  exact IntWalk.u32_in _ (by omega)
theorem bw_xor (x y : W32) : IntKind.u32.wrap ((BitVec.ofInt IntKind.u32.bits (x.toNat : Int) ^^^ BitVec.ofInt IntKind.u32.bits (y.toNat : Int)).toNat : Int) = ((x ^^^ y).toNat : Int) := by
  rw [ofInt_toNat, ofInt_toNat, wrap_toNat]
  rfl
theorem bw_and (x y : W32) : IntKind.u32.wrap ((BitVec.ofInt IntKind.u32.bits (x.toNat : Int) &&& BitVec.ofInt IntKind.u32.bits (y.toNat : Int)).toNat : Int) = ((x &&& y).toNat : Int) := by
  rw [ofInt_toNat, ofInt_toNat, wrap_toNat]
  rfl
theorem bw_or (x y : W32) : IntKind.u32.wrap ((BitVec.ofInt IntKind.u32.bits (x.toNat : Int) ||| BitVec.ofInt IntKind.u32.bits (y.toNat : Int)).toNat : Int) = ((x ||| y).toNat : Int) := by
  rw [ofInt_toNat, ofInt_toNat, wrap_toNat]
  rfl
theorem ofInt_ones : BitVec.ofInt IntKind.u32.bits 4294967295 = (BitVec.allOnes 32 : W32) := by rfl
theorem bw_xor1 (x : W32) : IntKind.u32.wrap ((BitVec.ofInt IntKind.u32.bits (x.toNat : Int) ^^^ BitVec.ofInt IntKind.u32.bits 4294967295).toNat : Int) = ((~~~x).toNat : Int) := by
  rw [ofInt_toNat, ofInt_ones, wrap_toNat]
  show ((x ^^^ BitVec.allOnes 32).toNat : Int) = _
  rw [BitVec.xor_allOnes]
theorem bw_not (x : W32) : IntKind.u32.wrap ((BitVec.ofInt IntKind.u32.bits (if IntKind.u32.signed = true then -1 else IntKind.u32.max) ^^^ BitVec.ofInt IntKind.u32.bits (x.toNat : Int)).toNat : Int) = ((~~~x).toNat : Int) := by
  have : (if IntKind.u32.signed = true then (-1 : Int) else IntKind.u32.max) = 4294967295 := rfl
  rw [this, BitVec.xor_comm]
  exact bw_xor1 x
theorem bw_shl (x : W32) (n : Nat) (h : n ≤ 32) : IntKind.u32.wrap ((x.toNat : Int) * 2 ^ min n IntKind.u32.bits) = ((x <<< n).toNat : Int) := by
  have hb : IntKind.u32.bits = 32 := rfl
  rw [hb, Nat.min_eq_left h, IntKind.wrap_u32, BitVec.toNat_shiftLeft, Nat.shiftLeft_eq]
  have e : ((x.toNat * 2 ^ n : Nat) : Int) = (x.toNat : Int) * 2 ^ n := by push_cast; rfl
  rw [← e]
  omega
theorem bw_shr (x : W32) (n : Nat) (h : n ≤ 32) : (x.toNat : Int).fdiv (2 ^ min n IntKind.u32.bits) = ((x >>> n).toNat : Int) := by
  have hb : IntKind.u32.bits = 32 := rfl
  have e : ((2 ^ n : Nat) : Int) = (2 : Int) ^ n := by push_cast; rfl
  rw [hb, Nat.min_eq_left h, BitVec.toNat_ushiftRight, Nat.shiftRight_eq_div_pow, ← e, Int.fdiv_eq_ediv_of_nonneg _ (Int.natCast_nonneg _)]
  rfl

-- arrays
abbrev wsD (l : List W32) : Dat := .agg (l.map wD)
abbrev bsD (l : List Int) : Dat := .agg (l.map u8D)
theorem mkAgg_dats (l : List Dat) : mkAgg (l.map AV.dat) = .dat (.agg l) ∨ ∃ d ∈ l, d.isAgg = true := by
  by_cases h : ∃ d ∈ l, d.isAgg = true
  · exact .inr h
  · left
    have : datsOf (l.map AV.dat) = some l := by
      induction l with
      | nil => rfl
      | cons d l ih =>
        have hd : d.isAgg = false := by
          cases hq : d.isAgg
          · rfl
          · exact absurd ⟨d, by simp, hq⟩ h
        have := ih fun ⟨x, hx, hq⟩ => h ⟨x, by simp [hx], hq⟩
        simp only [List.map_cons, datsOf, hd, this, Option.map_some]
        rfl
    unfold mkAgg
    rw [this]
theorem mkAgg_ws (l : List W32) : mkAgg ((l.map wD).map AV.dat) = .dat (wsD l) := by
  rcases mkAgg_dats (l.map wD) with h | ⟨d, hd, hq⟩
  · exact h
  · obtain ⟨x, _, rfl⟩ := List.mem_map.1 hd
    simp [Dat.isAgg] at hq
theorem mkAgg_bs (l : List Int) : mkAgg ((l.map u8D).map AV.dat) = .dat (bsD l) := by
  rcases mkAgg_dats (l.map u8D) with h | ⟨d, hd, hq⟩
  · exact h
  · obtain ⟨x, _, rfl⟩ := List.mem_map.1 hd
    simp [Dat.isAgg] at hq
theorem zero_ws (n : Nat) : mkAgg (List.replicate n (AV.dat (.int .u32 0))) = .dat (wsD (List.replicate n 0)) := by
  rw [← mkAgg_ws, List.map_replicate, List.map_replicate]
  rfl
theorem zero_bs (n : Nat) : mkAgg (List.replicate n (AV.dat (.int .u8 0))) = .dat (bsD (List.replicate n 0)) := by
  rw [← mkAgg_bs, List.map_replicate, List.map_replicate]
def z64 : List W32 := List.replicate 64 0#32
def y64 : List Int := List.replicate 64 0
theorem z64_len : z64.length = 64 := by simp [z64]
theorem y64_len : y64.length = 64 := by simp [y64]
theorem zero_z64 : mkAgg (List.replicate 64 (AV.dat (.int .u32 0))) = .dat (wsD z64) := zero_ws 64
theorem zero_y64 : mkAgg (List.replicate 64 (AV.dat (.int .u8 0))) = .dat (bsD y64) := zero_bs 64
theorem cells_ws (l : List W32) : (AV.dat (wsD l)).cells = (l.map wD).map AV.dat := rfl
theorem cells_bs (l : List Int) : (AV.dat (bsD l)).cells = (l.map u8D).map AV.dat := rfl
theorem get_ws (l : List W32) (k : Nat) (h : k < l.length) : (((l.map wD).map AV.dat)[k]?).getD .junk = .dat (wD (l.getD k 0#32)) := by
  simp [h]
theorem isAgg_ws (l : List W32) : (AV.dat (wsD l)).isAgg = true := rfl
theorem isAgg_bs (l : List Int) : (AV.dat (bsD l)).isAgg = true := rfl
theorem len_ws (l : List W32) : ((l.map wD).map AV.dat).length = l.length := by simp
theorem len_bs (l : List Int) : ((l.map u8D).map AV.dat).length = l.length := by simp
theorem bw_byte {b : List Int} (h : isB b) (i : Nat) : IntKind.u32.wrap (b.getD i default) = ((byteW b i).toNat : Int) := by
  have := isB_get h i
  rw [IntWalk.u32_in _ (by omega)]
  unfold byteW
  rw [BitVec.toNat_ofInt]
  omega
/-- The array while its words are made. -/
def schA (b : List Int) (t : Nat) (x : W32) : List W32 := schM b t ++ x :: List.replicate (63 - t) 0#32
theorem schA_len (b : List Int) {t : Nat} (h : t < 64) (x : W32) : (schA b t x).length = 64 := by
  simp [schA, schM_len]; omega
theorem schA_get (b : List Int) {t : Nat} (x : W32) : (schA b t x).getD t 0#32 = x := by
  simp [schA, schM_len]
theorem schA_old (b : List Int) {t k : Nat} (h : k < t) (x : W32) : (schA b t x).getD k 0#32 = (schM b t).getD k 0#32 := by
  simp [schA, List.getElem?_append_left (show k < (schM b t).length by rw [schM_len]; exact h)]
theorem schA_set (b : List Int) {t : Nat} (x y : W32) : (schA b t x).set t y = schA b t y := by
  unfold schA
  rw [List.set_append_right _ _ (by rw [schM_len]; exact Nat.le_refl _), schM_len, Nat.sub_self]
  rfl
def schZ (b : List Int) (t : Nat) : List W32 := schM b t ++ List.replicate (64 - t) 0#32
theorem schZ_A (b : List Int) {t : Nat} (h : t < 64) : schZ b t = schA b t 0#32 := by
  unfold schZ schA
  rw [show 64 - t = (63 - t) + 1 from by omega, List.replicate_succ]
theorem schZ_next (b : List Int) {t : Nat} (h : t < 64) : schZ b (t + 1) = schA b t (nextW b (schM b t) t) := by
  unfold schZ schA
  rw [show 64 - (t + 1) = 63 - t from by omega, schM]
  simp
theorem schZ_0 (b : List Int) : schZ b 0 = z64 := rfl
theorem schZ_64 (b : List Int) : schZ b 64 = schM b 64 := by simp [schZ]
theorem ldA (b : List Int) {t k : Nat} (h : t < 64) (hk : k < t) (x : W32) : (((schA b t x).map wD).map AV.dat)[k]?.getD .junk = .dat (wD ((schM b t).getD k 0#32)) := by
  rw [get_ws _ _ (by rw [schA_len b h]; omega), schA_old b hk]
theorem ldT (b : List Int) {t : Nat} (h : t < 64) (x : W32) : (((schA b t x).map wD).map AV.dat)[t]?.getD .junk = .dat (wD x) := by
  rw [get_ws _ _ (by rw [schA_len b h]; omega), schA_get b]
theorem get_bs (l : List Int) (k : Nat) (h : k < l.length) : (((l.map u8D).map AV.dat)[k]?).getD .junk = .dat (.int .u8 (l.getD k 0)) := by
  simp [h]
theorem store_ws (l : List W32) (k : Nat) (x : W32) (h : k < l.length) (h1 : 1 < l.length) : storeW (.dat (wD x)) k (.dat (wsD l)) = .dat (wsD (l.set k x)) := by
  unfold storeW
  rw [cells_ws, if_neg (by simp [AV.cells]; omega)]
  rw [← mkAgg_ws]
  congr 1
  simp only [AV.cells, List.length_singleton, ← List.map_take, ← List.map_drop]
  rw [List.set_eq_take_append_cons_drop, if_pos h]
  simp [List.map_append]
theorem stA (b : List Int) (t : Nat) (x y : W32) : List.take t (schA b t x) ++ y :: List.drop (t + 1) (schA b t x) = schA b t y := by
  unfold schA
  rw [List.take_append_of_le_length (by rw [schM_len]; exact Nat.le_refl _), List.take_of_length_le (by rw [schM_len]; exact Nat.le_refl _)]
  rw [List.drop_append, schM_len, List.drop_of_length_le (by rw [schM_len]; omega)]
  simp
theorem ds_list (l : List Dat) (h : ∀ d ∈ l, d.isAgg = false) : datsOf (l.map AV.dat) = some l := by
  induction l with
  | nil => rfl
  | cons d l ih =>
    have h1 := h d (by simp)
    have h2 := ih fun x hx => h x (by simp [hx])
    simp only [List.map_cons, datsOf, h1, h2, Option.map_some]
    rfl
theorem ds_ws (A B : List W32) (x : W32) : datsOf ((A.map wD).map AV.dat ++ [AV.dat (.int .u32 (x.toNat : Int))] ++ (B.map wD).map AV.dat) = some ((A ++ x :: B).map wD) := by
  have : (A.map wD).map AV.dat ++ [AV.dat (.int .u32 (x.toNat : Int))] ++ (B.map wD).map AV.dat = ((A ++ x :: B).map wD).map AV.dat := by simp
  rw [this]
  exact ds_list _ fun d hd => by obtain ⟨y, _, rfl⟩ := List.mem_map.1 hd; rfl
theorem ds_bs (A B : List Int) (x : Int) : datsOf ((A.map u8D).map AV.dat ++ [AV.dat (.int .u8 x)] ++ (B.map u8D).map AV.dat) = some ((A ++ x :: B).map u8D) := by
  have : (A.map u8D).map AV.dat ++ [AV.dat (.int .u8 x)] ++ (B.map u8D).map AV.dat = ((A ++ x :: B).map u8D).map AV.dat := by simp
  rw [this]
  exact ds_list _ fun d hd => by obtain ⟨y, _, rfl⟩ := List.mem_map.1 hd; rfl
theorem store_bs (l : List Int) (k : Nat) (x : Int) (h : k < l.length) (h1 : 1 < l.length) : storeW (.dat (.int .u8 x)) k (.dat (bsD l)) = .dat (bsD (l.set k x)) := by
  unfold storeW
  rw [cells_bs, if_neg (by simp [AV.cells]; omega)]
  rw [← mkAgg_bs]
  congr 1
  simp only [AV.cells, List.length_singleton, ← List.map_take, ← List.map_drop]
  rw [List.set_eq_take_append_cons_drop, if_pos h]
  simp [List.map_append]
theorem ws_set (l : List W32) (n : Nat) (x : W32) (h : l.length < n) : (l ++ List.replicate (n - l.length) 0).set l.length x = (l ++ [x]) ++ List.replicate (n - (l.length + 1)) 0 := by
  rw [List.set_append_right _ _ (Nat.le_refl _), Nat.sub_self]
  have : n - l.length = (n - (l.length + 1)) + 1 := by omega
  rw [this, List.replicate_succ]
  simp

-- padding
def ppM (b : List Int) (j : Nat) : List Int := b ++ 128 :: List.replicate j 0
theorem ppM_len (b : List Int) (j : Nat) : (ppM b j).length = b.length + 1 + j := by simp [ppM]; omega
theorem ppM_0 (b : List Int) : ppM b 0 = b ++ [128] := rfl
theorem ppM_succ (b : List Int) (j : Nat) : ppM b (j + 1) = ppM b j ++ [0] := by
  unfold ppM
  rw [List.replicate_succ']
  simp
def qpM (b : List Int) (i : Nat) : List Int := ppM b (zerosM b.length) ++ (lenB b.length).take i
theorem lenB_len (n : Nat) : (lenB n).length = 8 := by simp [lenB]
theorem qpM_len (b : List Int) (i : Nat) (h : i ≤ 8) : (qpM b i).length = b.length + 1 + zerosM b.length + i := by
  simp [qpM, ppM_len, lenB_len, Nat.min_eq_left h]
theorem qpM_0 (b : List Int) : qpM b 0 = ppM b (zerosM b.length) := by simp [qpM]
theorem qpM_8 (b : List Int) : qpM b 8 = padM b := by
  unfold qpM padM ppM
  rw [List.take_of_length_le (by rw [lenB_len]; exact Nat.le_refl _)]
  simp
theorem qpM_succ (b : List Int) (i : Nat) (h : i < 8) : qpM b (i + 1) = qpM b i ++ [((8 * b.length / 2 ^ (56 - 8 * i) % 256 : Nat) : Int)] := by
  unfold qpM
  rw [List.append_assoc]
  congr 1
  have hi : i < (lenB b.length).length := by rw [lenB_len]; exact h
  rw [List.take_succ, List.getElem?_eq_getElem hi]
  simp [lenB]
theorem padM_len (b : List Int) : (padM b).length = b.length + 1 + zerosM b.length + 8 := by rw [← qpM_8, qpM_len b 8 (by omega)]
theorem padM_take (b : List Int) : List.take (b.length + 1 + zerosM b.length + 8) (padM b) = padM b := List.take_of_length_le (by rw [padM_len]; exact Nat.le_refl _)
theorem zerosM_rng (n : Nat) : zerosM n < 64 ∧ (n + 1 + zerosM n) % 64 = 56 := by unfold zerosM; omega
theorem len_byte (n i : Nat) (h : i < 8) (hn : n ≤ 281474976710656) : IntKind.u8.wrap (((8 * n : Nat) : Int).fdiv (2 ^ min (56 - 8 * i) IntKind.u64.bits)) = ((8 * n / 2 ^ (56 - 8 * i) % 256 : Nat) : Int) := by
  have hb : IntKind.u64.bits = 64 := rfl
  have e : ((2 ^ (56 - 8 * i) : Nat) : Int) = (2 : Int) ^ (56 - 8 * i) := by push_cast; rfl
  rw [hb, Nat.min_eq_left (by omega), ← e, Int.fdiv_eq_ediv_of_nonneg _ (Int.natCast_nonneg _), IntKind.wrap_u8]
  omega

-- a block is taken in
abbrev s8D (s : S8) : Dat := .agg [wD s.a, wD s.b, wD s.c, wD s.d, wD s.e, wD s.f, wD s.g, wD s.h]
def sL (s : S8) : List W32 := s.l
def vL (s : S8) : List W32 := [s.a, s.b, s.c, s.d]
def eL (s : S8) : List W32 := [s.e, s.f, s.g, s.h]
theorem sL_D (s : S8) : s8D s = wsD (sL s) := rfl
theorem vL_D (s : S8) : Dat.agg [wD s.a, wD s.b, wD s.c, wD s.d] = wsD (vL s) := rfl
theorem eL_D (s : S8) : Dat.agg [wD s.e, wD s.f, wD s.g, wD s.h] = wsD (eL s) := rfl
theorem rm_a (s : S8) (k w : W32) : (roundM s k w).a = xM s k w + yM s := rfl
theorem rm_b (s : S8) (k w : W32) : (roundM s k w).b = s.a := rfl
theorem rm_c (s : S8) (k w : W32) : (roundM s k w).c = s.b := rfl
theorem rm_d (s : S8) (k w : W32) : (roundM s k w).d = s.c := rfl
theorem rm_e (s : S8) (k w : W32) : (roundM s k w).e = s.d + xM s k w := rfl
theorem rm_f (s : S8) (k w : W32) : (roundM s k w).f = s.e := rfl
theorem rm_g (s : S8) (k w : W32) : (roundM s k w).g = s.f := rfl
theorem rm_h (s : S8) (k w : W32) : (roundM s k w).h = s.g := rfl
theorem flat_ws (l : List W32) : (l.map wD).all Dat.flat = true := by simp [Dat.flat]
theorem kH_len : kH.length = 64 := rfl
def addL (s r : S8) : Nat → List W32
  | 0 => sL s
  | i + 1 => ((addL s r i).set i ((addL s r i).getD i 0#32 + (vL r).getD i 0#32)).set (i + 4) (((addL s r i).set i ((addL s r i).getD i 0#32 + (vL r).getD i 0#32)).getD (i + 4) 0#32 + (eL r).getD i 0#32)
theorem addL_len (s r : S8) : ∀ i, (addL s r i).length = 8
  | 0 => rfl
  | i + 1 => by simp [addL, addL_len s r i]
theorem addL_4 (s r : S8) : wsD (addL s r 4) = s8D (addS s r) := rfl
theorem set_ws (l : List W32) (k : Nat) (h : k < l.length) (y : W32) : List.take k l ++ y :: List.drop (k + 1) l = l.set k y := by
  rw [List.set_eq_take_append_cons_drop, if_pos h]
theorem set_bs (l : List Int) (k : Nat) (h : k < l.length) (y : Int) : List.take k l ++ y :: List.drop (k + 1) l = l.set k y := by
  rw [List.set_eq_take_append_cons_drop, if_pos h]

-- the bytes of a hash
def y32 : List Int := List.replicate 32 0
theorem y32_D : Dat.agg [.int .u8 0, .int .u8 0, .int .u8 0, .int .u8 0, .int .u8 0, .int .u8 0, .int .u8 0, .int .u8 0, .int .u8 0, .int .u8 0, .int .u8 0, .int .u8 0, .int .u8 0, .int .u8 0, .int .u8 0, .int .u8 0, .int .u8 0, .int .u8 0, .int .u8 0, .int .u8 0, .int .u8 0, .int .u8 0, .int .u8 0, .int .u8 0, .int .u8 0, .int .u8 0, .int .u8 0, .int .u8 0, .int .u8 0, .int .u8 0, .int .u8 0, .int .u8 0] = bsD y32 := rfl
def outB (s : S8) (i : Nat) : Int := (((sL s).getD (i / 4) 0#32 >>> (24 - 8 * (i % 4))).toNat % 256 : Nat)
def outL (s : S8) : Nat → List Int
  | 0 => y32
  | i + 1 => (outL s i).set i (outB s i)
theorem outL_len (s : S8) : ∀ i, (outL s i).length = 32
  | 0 => rfl
  | i + 1 => by simp [outL, outL_len s i]
theorem outB_eq (s : S8) (i : Nat) : outB s i = (((s.l.getD (i / 4) 0#32).toNat / 2 ^ (24 - 8 * (i % 4)) % 256 : Nat) : Int) := by
  unfold outB sL
  rw [BitVec.toNat_ushiftRight, Nat.shiftRight_eq_div_pow]
theorem outL_get (s : S8) : ∀ (i k : Nat), i ≤ 32 → (outL s i)[k]? = if k < i then some (outB s k) else if k < 32 then some 0 else none
  | 0, k, _ => by
    simp only [outL, y32, List.getElem?_replicate, Nat.not_lt_zero, if_false]
  | i + 1, k, h => by
    simp only [outL, List.getElem?_set, outL_len]
    rw [outL_get s i k (by omega)]
    by_cases h1 : i = k
    · subst h1
      rw [if_pos rfl, if_pos (by omega), if_pos (by omega)]
    · rw [if_neg h1]
      by_cases h2 : k < i
      · rw [if_pos h2, if_pos (by omega)]
      · have h3 : ¬ k < i + 1 := by omega
        rw [if_neg h2, if_neg h3]
theorem outL_32 (s : S8) : outL s 32 = outM s := by
  apply List.ext_getElem?
  intro k
  rw [outL_get s 32 k (by omega)]
  unfold outM
  rw [List.getElem?_map]
  by_cases h : k < 32
  · rw [if_pos h, List.getElem?_eq_getElem (by simpa using h)]
    simp only [List.getElem_range, Option.map_some, outB_eq]
  · rw [if_neg h, if_neg h, List.getElem?_eq_none (by simpa using h)]
    rfl
theorem bw_out (x : W32) : IntKind.u8.wrap (x.toNat : Int) = ((x.toNat % 256 : Nat) : Int) := by
  rw [IntKind.wrap_u8]; omega
theorem padM_64 (b : List Int) : (padM b).length % 64 = 0 := by
  have := zerosM_rng b.length
  rw [padM_len]; omega
theorem isB_pad {b : List Int} (h : isB b) : isB (padM b) := by
  intro x hx
  unfold padM at hx
  simp only [List.mem_append, List.mem_cons, List.mem_replicate, lenB, List.mem_map] at hx
  rcases hx with hx | rfl | ⟨_, rfl⟩ | ⟨i, _, rfl⟩
  · exact h x hx
  · omega
  · omega
  · omega
theorem blk_eq (m : List Int) (k : Nat) : List.drop (64 * k) (List.take (64 * k + 64) m) = blkM m k := by
  rw [List.drop_take]; unfold blkM; congr 1; omega
theorem blk_len {m : List Int} {k : Nat} (h : 64 * k + 64 ≤ m.length) : (blkM m k).length = 64 := by
  unfold blkM; rw [List.length_take, List.length_drop]; omega
theorem isB_blk {m : List Int} (h : isB m) (k : Nat) : isB (blkM m k) := fun x hx => h x (List.mem_of_mem_drop (List.mem_of_mem_take hx))

-- keys of codes
def keyS (s : ByteArray) : ByteArray := if 64 < s.size then bstr (sumM (strB s)) else s
def kbM (s : ByteArray) (i : Nat) : Int := if i < (keyS s).size then byteAt (keyS s) i else 0
def xorB (a c : Int) : Int := IntKind.u8.wrap ((BitVec.ofInt IntKind.u8.bits a ^^^ BitVec.ofInt IntKind.u8.bits c).toNat : Int)
def pkL (s : ByteArray) (c : Int) : Nat → List Int
  | 0 => []
  | i + 1 => pkL s c i ++ [xorB (kbM s i) c]
theorem pkL_len (s : ByteArray) (c : Int) : ∀ i, (pkL s c i).length = i
  | 0 => rfl
  | i + 1 => by simp [pkL, pkL_len s c i]
theorem isB_str (s : ByteArray) : isB (strB s) := by
  intro x hx
  obtain ⟨b, _, rfl⟩ := List.mem_map.1 hx
  have := b.toNat_lt
  omega
theorem outM_len (s : S8) : (outM s).length = 32 := by simp [outM]
theorem sumM_len (b : List Int) : (sumM b).length = 32 := outM_len _
theorem bstr_len (l : List Int) : (bstr l).size = l.length := by
  show (List.map (fun n : Int => UInt8.ofNat n.toNat) l).toArray.size = l.length
  simp
theorem keyS_len (s : ByteArray) : (keyS s).size ≤ 64 := by
  unfold keyS
  split
  · rw [bstr_len, sumM_len]; omega
  · omega
/-- The code of a text, as a string. -/
def innerS (s text : ByteArray) : ByteArray := bstr (sumM (pkL s 54 64 ++ strB text))
def macS (s text : ByteArray) : ByteArray := bstr (sumM (pkL s 92 64 ++ strB (innerS s text)))
theorem xorB_rng (a c : Int) : 0 ≤ xorB a c ∧ xorB a c ≤ 255 := by
  unfold xorB
  rw [IntKind.wrap_u8]; omega
theorem isB_pk (s : ByteArray) (c : Int) : ∀ i, isB (pkL s c i)
  | 0 => by intro x hx; simp [pkL] at hx
  | i + 1 => by
    intro x hx
    simp only [pkL, List.mem_append, List.mem_singleton] at hx
    rcases hx with hx | rfl
    · exact isB_pk s c i x hx
    · exact xorB_rng _ _
theorem isB_app {a b : List Int} (ha : isB a) (hb : isB b) : isB (a ++ b) := fun x hx => (List.mem_append.1 hx).elim (ha x) (hb x)
end Go.Proofs.YtabjaaonfaejmaaGreatDoor

namespace Go.Proofs.YtabjaaonfaejmaaGreatDoor
open Go.Av Go.ChangeShapes Go.WideShapes Go.ChangeAt Go.RowKit

abbrev Old (w : World) : Nat → Nat → Prop := fun b _ => b < w.heap.size

theorem cell_spot {w : World} {a : Addr} {v : Value} (h : w.cell? a = some v) : a.spot = none ∧ a.block < w.heap.size := by
  unfold World.cell? at h
  split at h
  · rename_i c e f hb
    split at h
    · cases h
    · rename_i hs
      exact ⟨by simpa using hs, (Array.getElem?_eq_some_iff.1 hb).1⟩
  · cases h
theorem addr_none {a : Addr} (h : a.spot = none) (n : Nat) : a.add n = ⟨a.block, a.off + n, none⟩ := by
  obtain ⟨b, o, s⟩ := a
  simp only at h
  subst h
  exact add_none b o n
theorem add_spot {a : Addr} (h : (a.add 0).spot = none) : a.spot = none := by
  obtain ⟨b, o, s⟩ := a
  cases s with
  | none => rfl
  | some s => simp [Addr.add] at h
theorem wf_i64 {n : Int} (h : (Lit.int .i64 n).wf = true) : I64 n := by
  simp only [Lit.wf, Bool.and_eq_true, decide_eq_true_eq] at h
  unfold I64
  have h1 : IntKind.i64.min = -9223372036854775808 := by decide
  have h2 : IntKind.i64.max = 9223372036854775807 := by decide
  omega

theorem rep_ints {w : World} {b : Nat} (hb : b < w.heap.size) : ∀ (zs : List Int) (off : Nat), (∀ i, i < zs.length → w.cell? ⟨b, off + i, none⟩ = some (.int .i64 (zs.getD i 0))) → RepS (Old w) w 1 (zs.map iD) (some ⟨b, off, none⟩)
  | [], _, _ => by simp [RepS]
  | z :: zs, off, h => by
    simp only [List.map_cons, RepS]
    refine ⟨b, off, rfl, by simp, ?_, rep_ints hb zs (off + 1) fun i hi => ?_⟩
    · have := h 0 (by simp)
      simp only [RepAt]
      exact ⟨hb, by simpa using this⟩
    · have := h (i + 1) (by simp; omega)
      rw [show off + 1 + i = off + (i + 1) by omega]
      simpa using this

section
variable {H : Type} {enc : TypeId × Value → H} {P : Program} {w : World}

theorem slice_of {r : Reach} {base : Nat} {t e : TypeId} {v : Value} (ht : P.underlying t = some (.slice e)) (hv : Value.okWide P w r base t v) : ∃ a len cap, v = .slice a len cap := by
  simp only [Value.okWide, ht, Cell.okWide, Cell.ok] at hv
  cases v <;> simp at hv
  exact ⟨_, _, _, rfl⟩

theorem ints_in {r : Reach} {base : Nat} {t e : TypeId} {v : Value} {d : DataW H} {ps : List MemPlace} {sp : Nat → Bool} {held : Bool} (ht : P.underlying t = some (.slice e)) (he : P.underlying e = some (.int .i64)) (hc : P.cellsOf e = 1)
    (hv : Value.okWide P w r base t v) (hd : DataW.Trod enc P w 0 sp held t v d ps) : ∃ zs : List Int, (∀ z ∈ zs, I64 z) ∧ RepX (Old w) w (isD zs) v := by
  obtain ⟨a, len, cap, rfl⟩ := slice_of ht hv
  obtain ⟨fuel, hd⟩ := hd
  rcases open_ints ht he hc hd with ⟨h1, _⟩ | ⟨a', len', cap', zs, h1, _, hl, _, hz, _, hcell, hwf⟩
  · simp [Value.cells] at h1
    obtain ⟨rfl, rfl, rfl⟩ := h1
    refine ⟨[], by simp, ?_⟩
    simp only [RepX]
    exact ⟨1, none, 0, rfl, by simp, by simp [RepS]⟩
  · simp [Value.cells] at h1
    obtain ⟨rfl, rfl, rfl⟩ := h1
    have hlz : len ≤ zs.length := by rw [hz]; split <;> omega
    refine ⟨zs.take len, fun z hz' => wf_i64 (hwf z (List.mem_of_mem_take hz')), ?_⟩
    simp only [RepX]
    refine ⟨1, some a', cap, by simp [Nat.min_eq_left hlz], by simp [Nat.min_eq_left hlz, hl], ?_⟩
    cases zs with
    | nil => simp [RepS]
    | cons z zs =>
      obtain ⟨hs, hb⟩ := cell_spot (hcell 0 (by simp))
      have hs := add_spot hs
      rw [addr_none hs 0] at hb
      simp only at hb
      have ha : a' = ⟨a'.block, a'.off, none⟩ := by
        obtain ⟨b, o, s⟩ := a'
        simp only at hs
        subst hs
        rfl
      rw [ha]
      refine rep_ints hb _ _ fun i hi => ?_
      have h2 := hcell i (by simp at hi; simp; omega)
      rw [addr_none hs i] at h2
      rw [h2]
      simp at hi
      simp [List.getD_eq_getElem?_getD, List.getElem?_take, show i < len by omega]

theorem same_of_ext {w' : World} (h : Ext (fun _ => False) w w') {p : MemPlace} (hp : p.block < w.heap.size) : w.sameAt w' p := by
  have hb := h.block p.block hp (fun f => f)
  cases p with
  | cell b off =>
    simp only [MemPlace.block] at hb
    simp only [World.sameAt, World.cell?, hb]
  | map b =>
    simp only [MemPlace.block] at hb
    simpa only [World.sameAt] using hb

theorem all_stays (hl : laidOutB P = true) {w' : World} {sp' : Nat → Bool} (hx : Ext (fun _ => False) w w') : ∀ {ts : List TypeId} {vs : List Value} {ds : List (DataW H)} {ps : List MemPlace}, (∀ t ∈ ts, P.readableRec t = true ∧ t < P.types.size) → DataW.TrodAll enc P w 0 (fun _ => true) true ts vs ds ps → (∀ p ∈ ps, p.block < w.heap.size) → (∀ p ∈ ps, sp' p.block = true) → DataW.TrodAll enc P w' 0 sp' true ts vs ds ps
  | [], [], [], _, _, h, _, _ => h
  | _ :: _, _ :: _, _ :: _, _, ht, ⟨p, q, h1, h2, e⟩, hb, hs => ⟨p, q,
      WideElems.Trod_stays hl (ht _ (List.mem_cons.2 (Or.inl rfl))).1 (ht _ (List.mem_cons.2 (Or.inl rfl))).2 h1 (fun x hx' => same_of_ext hx (hb x (by rw [e]; exact List.mem_append_left _ hx'))) (fun x hx' => hs x (by rw [e]; exact List.mem_append_left _ hx')),
      all_stays hl hx (fun t h => ht t (List.mem_cons.2 (Or.inr h))) h2 (fun x hx' => hb x (by rw [e]; exact List.mem_append_right _ hx')) (fun x hx' => hs x (by rw [e]; exact List.mem_append_right _ hx')), e⟩

theorem frozen_ext {w' : World} (h : Ext (fun _ => False) w w') {a : Addr} (ha : a.block < w.heap.size) : w'.frozen? a = w.frozen? a := by
  simp only [World.frozen?, h.block a.block ha (fun f => f)]

theorem kept_ext {w' : World} (h : Ext (fun _ => False) w w') (may : MemPlace → Prop) : w.keptBut w' may := by
  refine ⟨h.os, h.output, fun i hi => ?_⟩
  rw [h.block i hi (fun f => f)]
  cases w.heap[i]? with
  | none => rfl
  | some o => cases o with
    | cells c t fr => exact ⟨rfl, rfl, rfl, fun _ _ => rfl⟩
    | map es clock => exact .inr ⟨rfl, rfl⟩
    | _ => rfl

/-- The call answers true and leaves its arguments alone: what such a row asks. -/
theorem post_of_ext {f : Func} {s : ChangeSpec} {apart fresh handsOn again : Bool} {W W' : World} {args : Array Value} {ds gs : List (DataW H)} {before : List MemPlace} (hl : laidOutB P = true)
    (hrd : ∀ t ∈ f.params.toList, P.readableRec t = true ∧ t < P.types.size) {tb : TypeId} (hres : f.resultTypes = #[tb]) (htb : P.underlying tb = some .bool)
    (hvars : s.vars = []) (hfn : s.fn H ds = { results := [.lit (.bool true)], args := ds })
    (hW : DataW.Whole enc P f.params.toList s.vars apart W args.toList ds gs before) (hx : Ext (fun _ => False) W W') :
    s.post enc P f apart fresh handsOn again W args (.bool true) W' := by
  have hW0 := hW
  obtain ⟨p, q, hA, hV, hpq, hz, hn⟩ := hW
  rw [hvars] at hV
  obtain ⟨rfl, rfl⟩ := trodVars_none hV
  simp only [List.append_nil] at hpq
  subst hpq
  have hlt : ∀ x ∈ before, x.block < W.heap.size := fun x h => hW0.lt x h
  have hold : ∀ x ∈ before, (fun b => decide (b < W.heap.size)) x.block = true := fun x h => by simpa using hlt x h
  have hR : ∀ (b : Nat) (sp : Nat → Bool) (hd : Bool), DataW.TrodAll enc P W' b sp hd f.resultTypes.toList ((Value.bool true).resultList f.resultTypes.size) [.lit (.bool true)] [] := fun b sp hd => by
    rw [hres]
    exact trodAll_cons_mk (shut_bool htb _) trodAll_mk0
  have hAr : ∀ sp : Nat → Bool, (∀ x ∈ before, sp x.block = true) → DataW.TrodAll enc P W' 0 sp true f.params.toList args.toList ds before := fun sp hs => all_stays hl hx hrd hA hlt hs
  refine ⟨ds, [], before, [], before, [], hW0, ?_, ?_, ?_, ?_, fun _ => ?_⟩
  · rw [List.append_nil, hfn]; exact hR _ _ _
  · rw [List.append_nil, hfn]; exact hAr _ hold
  · rw [List.append_nil, hfn, hvars]; rfl
  · exact kept_ext hx _
  · refine ⟨?_, [.lit (.bool true)] ++ ds, [], ([] ++ before) ++ [], ⟨[] ++ before, [], trodAll_append (hAr _ (fun _ _ => rfl)) (hR _ _ _), ?_, rfl, ?_, ?_⟩, ?_⟩
    · exact ok_one hres rfl (okWide_bool_mk htb _)
    · rw [hvars]; rfl
    · intro b off hp
      have hp : MemPlace.cell b off ∈ before := by simpa using hp
      rw [frozen_ext hx (hlt _ hp)]
      exact hz b off hp
    · intro ha
      simpa using hn ha
    · intro x hx' _
      simpa using hx'
end

end Go.Proofs.YtabjaaonfaejmaaGreatDoor

namespace Go.Proofs.YtabjaaonfaejmaaGreatDoor
open Go.Av Go.ChangeShapes Go.WideShapes Go.ChangeAt Go.RowKit

theorem ownG : ownKnob Tryz.prog.godebug = none := by kernel_rfl
theorem cells3 : Tryz.prog.cellsOf 3 = 1 := by kernel_rfl
theorem laidB : laidOutB Tryz.prog = true := by kernel_rfl
theorem g0Named : Tryz.prog.globalNamed "passim/passimref02.constants" = some 0 := by kernel_rfl
theorem g1Named : Tryz.prog.globalNamed "passim/hash.constants" = some 1 := by kernel_rfl
theorem g0Type : (Tryz.prog.globals[0]?).map (·.type) = some 157 := by kernel_rfl
theorem g1Type : (Tryz.prog.globals[1]?).map (·.type) = some 157 := by kernel_rfl
theorem cells157 : Tryz.prog.cellsOf 157 = 64 := by kernel_rfl
theorem cells79 : Tryz.prog.cellsOf 79 = 1 := by kernel_rfl
def kZ : List Int := kH.map fun x => (x.toNat : Int)
def gH : List (Nat × Dat) := [(0, wsD kH), (1, wsD kH)]
theorem gH0 : gH.lookup 0 = some (wsD kH) := rfl
theorem gH1 : gH.lookup 1 = some (wsD kH) := rfl
theorem data0 : (Rows.laid_passim_passimref02_constants : DataW Unit) = Lib.tabData .u32 kZ := by kernel_rfl
theorem data1 : (Rows.laid_passim_hash_constants : DataW Unit) = Lib.tabData .u32 kZ := by kernel_rfl

theorem rep_tab {w : World} {g : Nat} {k : IntKind} : ∀ (zs : List Int) (off : Nat), (∀ i, i < zs.length → w.cell? ⟨g, off + i, none⟩ = some (.int k (zs.getD i 0))) → RepC (fun b _ => b = g) w (zs.map (Dat.int k)) g off
  | [], _, _ => by simp [RepC]
  | z :: zs, off, h => by
    simp only [List.map_cons, RepC, Rep1]
    refine ⟨⟨trivial, _, by simpa using h 0 (by simp), rfl⟩, rep_tab zs (off + 1) fun i hi => ?_⟩
    have := h (i + 1) (by simp; omega)
    rw [show off + 1 + i = off + (i + 1) by omega]
    simpa using this
theorem wsD_kZ : wsD kH = .agg (kZ.map (Dat.int .u32)) := by
  unfold kZ
  rw [List.map_map]
  rfl
theorem gok_tab {W : World} {name : String} {g : Nat} (h : Lib.TabIs Tryz.prog W name .u32 kZ) (hg : Tryz.prog.globalNamed name = some g) : g < W.heap.size ∧ RepC (fun b _ => b = g) W (wsD kH).cells g 0 := by
  have hl : kZ.length = 64 := rfl
  have c0 := h.cell hg 0 (by omega)
  refine ⟨(cell_spot c0).2, ?_⟩
  rw [wsD_kZ, Dat.cells_agg]
  refine rep_tab kZ 0 fun i hi => ?_
  rw [Nat.zero_add]
  exact h.cell hg i hi
theorem gokH {W : World} (h : laidMetH Tryz.prog [("passim/passimref02.constants", Rows.laid_passim_passimref02_constants), ("passim/hash.constants", Rows.laid_passim_hash_constants)] W) : GOK gH W := by
  have h' : laidMet Tryz.prog [("passim/passimref02.constants", Rows.laid_passim_passimref02_constants), ("passim/hash.constants", Rows.laid_passim_hash_constants)] W := h
  rw [data0, data1] at h'
  have t0 : Lib.TabIs Tryz.prog W "passim/passimref02.constants" .u32 kZ := Lib.tabIs_of_head g0Named g0Type Tryz.underlying157 Tryz.underlying79 cells79 cells157 h'
  have t1 : Lib.TabIs Tryz.prog W "passim/hash.constants" .u32 kZ := Lib.tabIs_of_head (rest := []) g1Named g1Type Tryz.underlying157 Tryz.underlying79 cells79 cells157 h'.tail
  intro p hp
  simp only [gH, List.mem_cons, List.not_mem_nil, or_false] at hp
  rcases hp with rfl | rfl
  · exact gok_tab t0 g0Named
  · exact gok_tab t1 g1Named
end Go.Proofs.YtabjaaonfaejmaaGreatDoor

namespace Go.Proofs.YtabjaaonfaejmaaGreatDoor
open Go.Av
theorem ti2 : ti Tryz.prog 2 = some { size := 1, bytes := 8, zero := some [.dat (.int .i64 0)], tk := .int .i64 } := by kernel_rfl
theorem ti3 : ti Tryz.prog 3 = some { size := 1, bytes := 8, zero := some [.dat (.int .i64 0)], tk := .int .i64 } := by kernel_rfl
theorem ti4 : ti Tryz.prog 4 = some { size := 1, bytes := 1, zero := some [.dat (.bool false)], tk := .bool } := by kernel_rfl
theorem ti5 : ti Tryz.prog 5 = some { size := 1, bytes := 1, zero := some [.dat (.int .u8 0)], tk := .int .u8 } := by kernel_rfl
theorem ti6 : ti Tryz.prog 6 = some { size := 1, bytes := 1, zero := some [.dat (.int .u8 0)], tk := .int .u8 } := by kernel_rfl
theorem ti7 : ti Tryz.prog 7 = some { size := 4, bytes := 24, zero := some [.dat (.int .i64 0), .dat (.int .i64 0), .dat (.bool false), .dat (.int .u8 0)], tk := .struct [(0, 2), (1, 3), (2, 4), (3, 6)] } := by kernel_rfl
theorem ti8 : ti Tryz.prog 8 = some { size := 4, bytes := 24, zero := some [.dat (.int .i64 0), .dat (.int .i64 0), .dat (.bool false), .dat (.int .u8 0)], tk := .struct [(0, 2), (1, 3), (2, 4), (3, 6)] } := by kernel_rfl
theorem ti9 : ti Tryz.prog 9 = some { size := 1, bytes := 16, zero := some [.dat (.str ⟨#[]⟩)], tk := .str } := by kernel_rfl
theorem ti10 : ti Tryz.prog 10 = some { size := 1, bytes := 16, zero := some [.dat (.str ⟨#[]⟩)], tk := .str } := by kernel_rfl
theorem ti11 : ti Tryz.prog 11 = some { size := 1, bytes := 16, zero := some [.dat (.str ⟨#[]⟩)], tk := .str } := by kernel_rfl
theorem ti12 : ti Tryz.prog 12 = some { size := 1, bytes := 8, zero := some [.dat (.int .u64 0)], tk := .int .u64 } := by kernel_rfl
theorem ti13 : ti Tryz.prog 13 = some { size := 2, bytes := 24, zero := some [.dat (.str ⟨#[]⟩), .dat (.int .u64 0)], tk := .struct [(0, 9), (1, 12)] } := by kernel_rfl
theorem ti14 : ti Tryz.prog 14 = some { size := 2, bytes := 24, zero := some [.dat (.str ⟨#[]⟩), .dat (.int .u64 0)], tk := .struct [(0, 9), (1, 12)] } := by kernel_rfl
theorem ti15 : ti Tryz.prog 15 = some { size := 1, bytes := 8, zero := some [.dat .nilp], tk := .ptr 195 } := by kernel_rfl
theorem ti16 : ti Tryz.prog 16 = some { size := 1, bytes := 8, zero := some [.dat .nilp], tk := .ptr 198 } := by kernel_rfl
theorem ti17 : ti Tryz.prog 17 = some { size := 1, bytes := 8, zero := some [.dat .nilp], tk := .ptr 207 } := by kernel_rfl
theorem ti18 : ti Tryz.prog 18 = some { size := 1, bytes := 8, zero := some [.dat .nilp], tk := .struct [(0, 17)] } := by kernel_rfl
theorem ti19 : ti Tryz.prog 19 = some { size := 1, bytes := 8, zero := some [.dat .nilp], tk := .struct [(0, 17)] } := by kernel_rfl
theorem ti20 : ti Tryz.prog 20 = some { size := 1, bytes := 16, zero := some [.dat .nilI], tk := .iface } := by kernel_rfl
theorem ti21 : ti Tryz.prog 21 = some { size := 1, bytes := 4, zero := some [.dat (.int .i32 0)], tk := .int .i32 } := by kernel_rfl
theorem ti22 : ti Tryz.prog 22 = some { size := 1, bytes := 24, zero := some [.nils], tk := .slice 3 } := by kernel_rfl
theorem ti23 : ti Tryz.prog 23 = some { size := 1, bytes := 24, zero := some [.nils], tk := .slice 65 } := by kernel_rfl
theorem ti24 : ti Tryz.prog 24 = some { size := 3, bytes := 24, zero := some [.dat (.int .i64 0), .dat (.int .i64 0), .dat (.int .i64 0)], tk := .struct [(0, 3), (1, 3), (2, 3)] } := by kernel_rfl
theorem ti25 : ti Tryz.prog 25 = some { size := 3, bytes := 24, zero := some [.dat (.int .i64 0), .dat (.int .i64 0), .dat (.int .i64 0)], tk := .struct [(0, 3), (1, 3), (2, 3)] } := by kernel_rfl
theorem ti26 : ti Tryz.prog 26 = some { size := 3, bytes := 24, zero := some [.dat (.int .i64 0), .dat (.int .i64 0), .dat (.int .i64 0)], tk := .struct [(0, 3), (1, 3), (2, 3)] } := by kernel_rfl
theorem ti27 : ti Tryz.prog 27 = some { size := 3, bytes := 24, zero := some [.dat (.int .i64 0), .dat (.int .i64 0), .dat (.int .i64 0)], tk := .struct [(0, 3), (1, 3), (2, 3)] } := by kernel_rfl
theorem ti28 : ti Tryz.prog 28 = some { size := 1, bytes := 24, zero := some [.nils], tk := .slice 9 } := by kernel_rfl
theorem ti29 : ti Tryz.prog 29 = some { size := 1, bytes := 24, zero := some [.nils], tk := .slice 119 } := by kernel_rfl
theorem ti30 : ti Tryz.prog 30 = some { size := 1, bytes := 24, zero := some [.nils], tk := .slice 25 } := by kernel_rfl
theorem ti31 : ti Tryz.prog 31 = some { size := 17, bytes := 192, zero := some [.dat (.int .i64 0), .dat (.int .i64 0), .dat (.int .i64 0), .dat (.int .i64 0), .dat (.int .i64 0), .dat (.int .i64 0), .dat (.int .i64 0), .dat (.int .i64 0), .dat (.int .i64 0), .dat (.int .i64 0), .dat (.int .i64 0), .dat (.int .i64 0), .dat (.int .i64 0), .dat (.str ⟨#[]⟩), .nils, .nils, .nils], tk := .struct [(0, 3), (1, 25), (4, 25), (7, 27), (10, 3), (11, 3), (12, 3), (13, 9), (14, 28), (15, 29), (16, 30)] } := by kernel_rfl
theorem ti32 : ti Tryz.prog 32 = some { size := 17, bytes := 192, zero := some [.dat (.int .i64 0), .dat (.int .i64 0), .dat (.int .i64 0), .dat (.int .i64 0), .dat (.int .i64 0), .dat (.int .i64 0), .dat (.int .i64 0), .dat (.int .i64 0), .dat (.int .i64 0), .dat (.int .i64 0), .dat (.int .i64 0), .dat (.int .i64 0), .dat (.int .i64 0), .dat (.str ⟨#[]⟩), .nils, .nils, .nils], tk := .struct [(0, 3), (1, 25), (4, 25), (7, 27), (10, 3), (11, 3), (12, 3), (13, 9), (14, 28), (15, 29), (16, 30)] } := by kernel_rfl
theorem ti33 : ti Tryz.prog 33 = some { size := 5, bytes := 72, zero := some [.dat (.str ⟨#[]⟩), .dat (.int .i64 0), .dat (.int .i64 0), .dat (.str ⟨#[]⟩), .nils], tk := .struct [(0, 9), (1, 3), (2, 3), (3, 9), (4, 28)] } := by kernel_rfl
theorem ti34 : ti Tryz.prog 34 = some { size := 5, bytes := 72, zero := some [.dat (.str ⟨#[]⟩), .dat (.int .i64 0), .dat (.int .i64 0), .dat (.str ⟨#[]⟩), .nils], tk := .struct [(0, 9), (1, 3), (2, 3), (3, 9), (4, 28)] } := by kernel_rfl
theorem ti35 : ti Tryz.prog 35 = some { size := 1, bytes := 24, zero := some [.nils], tk := .slice 72 } := by kernel_rfl
theorem ti36 : ti Tryz.prog 36 = some { size := 32, bytes := 376, zero := some [.dat (.int .i64 0), .dat (.int .i64 0), .dat (.int .i64 0), .dat (.int .i64 0), .nils, .dat (.int .i64 0), .dat (.int .i64 0), .dat (.int .i64 0), .dat (.int .i64 0), .dat (.int .i64 0), .dat (.int .i64 0), .dat (.int .i64 0), .dat (.int .i64 0), .dat (.int .i64 0), .dat (.int .i64 0), .dat (.int .i64 0), .dat (.int .i64 0), .dat (.int .i64 0), .dat (.str ⟨#[]⟩), .nils, .nils, .nils, .dat (.str ⟨#[]⟩), .dat (.int .i64 0), .dat (.int .i64 0), .dat (.str ⟨#[]⟩), .nils, .dat (.int .i64 0), .dat (.int .i64 0), .dat (.int .i64 0), .nils, .dat (.int .i64 0)], tk := .struct [(0, 3), (1, 3), (2, 3), (3, 3), (4, 23), (5, 32), (22, 34), (27, 25), (30, 35), (31, 3)] } := by kernel_rfl
theorem ti37 : ti Tryz.prog 37 = some { size := 32, bytes := 376, zero := some [.dat (.int .i64 0), .dat (.int .i64 0), .dat (.int .i64 0), .dat (.int .i64 0), .nils, .dat (.int .i64 0), .dat (.int .i64 0), .dat (.int .i64 0), .dat (.int .i64 0), .dat (.int .i64 0), .dat (.int .i64 0), .dat (.int .i64 0), .dat (.int .i64 0), .dat (.int .i64 0), .dat (.int .i64 0), .dat (.int .i64 0), .dat (.int .i64 0), .dat (.int .i64 0), .dat (.str ⟨#[]⟩), .nils, .nils, .nils, .dat (.str ⟨#[]⟩), .dat (.int .i64 0), .dat (.int .i64 0), .dat (.str ⟨#[]⟩), .nils, .dat (.int .i64 0), .dat (.int .i64 0), .dat (.int .i64 0), .nils, .dat (.int .i64 0)], tk := .struct [(0, 3), (1, 3), (2, 3), (3, 3), (4, 23), (5, 32), (22, 34), (27, 25), (30, 35), (31, 3)] } := by kernel_rfl
theorem ti41 : ti Tryz.prog 41 = some { size := 1, bytes := 24, zero := some [.nils], tk := .slice 37 } := by kernel_rfl
theorem ti42 : ti Tryz.prog 42 = some { size := 1, bytes := 8, zero := some [.dat (.int .i64 0)], tk := .int .i64 } := by kernel_rfl
theorem ti47 : ti Tryz.prog 47 = some { size := 1, bytes := 24, zero := some [.nils], tk := .slice 5 } := by kernel_rfl
theorem ti52 : ti Tryz.prog 52 = some { size := 16, bytes := 16, zero := some [.dat (.int .u8 0), .dat (.int .u8 0), .dat (.int .u8 0), .dat (.int .u8 0), .dat (.int .u8 0), .dat (.int .u8 0), .dat (.int .u8 0), .dat (.int .u8 0), .dat (.int .u8 0), .dat (.int .u8 0), .dat (.int .u8 0), .dat (.int .u8 0), .dat (.int .u8 0), .dat (.int .u8 0), .dat (.int .u8 0), .dat (.int .u8 0)], tk := .array 16 5 } := by kernel_rfl
theorem ti53 : ti Tryz.prog 53 = some { size := 16, bytes := 16, zero := some [.dat (.int .u8 0), .dat (.int .u8 0), .dat (.int .u8 0), .dat (.int .u8 0), .dat (.int .u8 0), .dat (.int .u8 0), .dat (.int .u8 0), .dat (.int .u8 0), .dat (.int .u8 0), .dat (.int .u8 0), .dat (.int .u8 0), .dat (.int .u8 0), .dat (.int .u8 0), .dat (.int .u8 0), .dat (.int .u8 0), .dat (.int .u8 0)], tk := .array 16 5 } := by kernel_rfl
theorem ti58 : ti Tryz.prog 58 = some { size := 1, bytes := 24, zero := some [.nils], tk := .slice 47 } := by kernel_rfl
theorem ti64 : ti Tryz.prog 64 = some { size := 2, bytes := 16, zero := some [.dat (.int .i64 0), .dat (.int .i64 0)], tk := .struct [(0, 3), (1, 3)] } := by kernel_rfl
theorem ti65 : ti Tryz.prog 65 = some { size := 2, bytes := 16, zero := some [.dat (.int .i64 0), .dat (.int .i64 0)], tk := .struct [(0, 3), (1, 3)] } := by kernel_rfl
theorem ti71 : ti Tryz.prog 71 = some { size := 5, bytes := 56, zero := some [.dat (.int .i64 0), .dat (.int .i64 0), .dat (.int .i64 0), .nils, .dat (.bool false)], tk := .struct [(0, 25), (3, 28), (4, 4)] } := by kernel_rfl
theorem ti72 : ti Tryz.prog 72 = some { size := 5, bytes := 56, zero := some [.dat (.int .i64 0), .dat (.int .i64 0), .dat (.int .i64 0), .nils, .dat (.bool false)], tk := .struct [(0, 25), (3, 28), (4, 4)] } := by kernel_rfl
theorem ti75 : ti Tryz.prog 75 = some { size := 32, bytes := 32, zero := some [.dat (.int .u8 0), .dat (.int .u8 0), .dat (.int .u8 0), .dat (.int .u8 0), .dat (.int .u8 0), .dat (.int .u8 0), .dat (.int .u8 0), .dat (.int .u8 0), .dat (.int .u8 0), .dat (.int .u8 0), .dat (.int .u8 0), .dat (.int .u8 0), .dat (.int .u8 0), .dat (.int .u8 0), .dat (.int .u8 0), .dat (.int .u8 0), .dat (.int .u8 0), .dat (.int .u8 0), .dat (.int .u8 0), .dat (.int .u8 0), .dat (.int .u8 0), .dat (.int .u8 0), .dat (.int .u8 0), .dat (.int .u8 0), .dat (.int .u8 0), .dat (.int .u8 0), .dat (.int .u8 0), .dat (.int .u8 0), .dat (.int .u8 0), .dat (.int .u8 0), .dat (.int .u8 0), .dat (.int .u8 0)], tk := .array 32 5 } := by kernel_rfl
theorem ti77 : ti Tryz.prog 77 = some { size := 64, bytes := 64, zero := some (List.replicate 64 (.dat (.int .u8 0))), tk := .array 64 5 } := by kernel_rfl
theorem ti79 : ti Tryz.prog 79 = some { size := 1, bytes := 4, zero := some [.dat (.int .u32 0)], tk := .int .u32 } := by kernel_rfl
theorem ti80 : ti Tryz.prog 80 = some { size := 8, bytes := 32, zero := some [.dat (.int .u32 0), .dat (.int .u32 0), .dat (.int .u32 0), .dat (.int .u32 0), .dat (.int .u32 0), .dat (.int .u32 0), .dat (.int .u32 0), .dat (.int .u32 0)], tk := .array 8 79 } := by kernel_rfl
theorem ti81 : ti Tryz.prog 81 = some { size := 1, bytes := 8, zero := some [.dat (.int .u64 0)], tk := .int .u64 } := by kernel_rfl
theorem ti82 : ti Tryz.prog 82 = some { size := 73, bytes := 104, zero := some (List.replicate 8 (.dat (.int .u32 0)) ++ List.replicate 64 (.dat (.int .u8 0)) ++ List.replicate 1 (.dat (.int .u64 0))), tk := .struct [(0, 80), (8, 77), (72, 81)] } := by kernel_rfl
theorem ti83 : ti Tryz.prog 83 = some { size := 73, bytes := 104, zero := some (List.replicate 8 (.dat (.int .u32 0)) ++ List.replicate 64 (.dat (.int .u8 0)) ++ List.replicate 1 (.dat (.int .u64 0))), tk := .struct [(0, 80), (8, 77), (72, 81)] } := by kernel_rfl
theorem ti88 : ti Tryz.prog 88 = some { size := 5, bytes := 5, zero := some [.dat (.bool false), .dat (.bool false), .dat (.bool false), .dat (.bool false), .dat (.bool false)], tk := .struct [(0, 4), (1, 4), (2, 4), (3, 4), (4, 4)] } := by kernel_rfl
theorem ti89 : ti Tryz.prog 89 = some { size := 5, bytes := 5, zero := some [.dat (.bool false), .dat (.bool false), .dat (.bool false), .dat (.bool false), .dat (.bool false)], tk := .struct [(0, 4), (1, 4), (2, 4), (3, 4), (4, 4)] } := by kernel_rfl
theorem ti100 : ti Tryz.prog 100 = some { size := 1, bytes := 8, zero := some [.dat .nilp], tk := .ptr 102 } := by kernel_rfl
theorem ti101 : ti Tryz.prog 101 = some { size := 2, bytes := 32, zero := some [.nils, .dat (.int .i64 0)], tk := .struct [(0, 47), (1, 3)] } := by kernel_rfl
theorem ti102 : ti Tryz.prog 102 = some { size := 2, bytes := 32, zero := some [.nils, .dat (.int .i64 0)], tk := .struct [(0, 47), (1, 3)] } := by kernel_rfl
theorem ti119 : ti Tryz.prog 119 = some { size := 2, bytes := 16, zero := some [.dat (.int .i64 0), .dat (.int .i64 0)], tk := .array 2 3 } := by kernel_rfl
theorem ti130 : ti Tryz.prog 130 = some { size := 1, bytes := 24, zero := some [.nils], tk := .slice 28 } := by kernel_rfl
theorem ti132 : ti Tryz.prog 132 = some { size := 1, bytes := 8, zero := some [.raw (.map none)], tk := .map 65 3 } := by kernel_rfl
theorem ti133 : ti Tryz.prog 133 = some { size := 1, bytes := 8, zero := some [.raw (.map none)], tk := .map 3 3 } := by kernel_rfl
theorem ti157 : ti Tryz.prog 157 = some { size := 64, bytes := 256, zero := some (List.replicate 64 (.dat (.int .u32 0))), tk := .array 64 79 } := by kernel_rfl
theorem ti160 : ti Tryz.prog 160 = some { size := 4, bytes := 16, zero := some [.dat (.int .u32 0), .dat (.int .u32 0), .dat (.int .u32 0), .dat (.int .u32 0)], tk := .array 4 79 } := by kernel_rfl
theorem ti161 : ti Tryz.prog 161 = some { size := 1, bytes := 24, zero := some [.nils], tk := .slice 79 } := by kernel_rfl
theorem ti165 : ti Tryz.prog 165 = some { size := 1, bytes := 8, zero := some [.dat .nilp], tk := .ptr 167 } := by kernel_rfl
theorem ti166 : ti Tryz.prog 166 = some { size := 3, bytes := 40, zero := some [.nils, .dat (.int .i64 0), .dat (.int .i64 0)], tk := .struct [(0, 47), (1, 3), (2, 42)] } := by kernel_rfl
theorem ti167 : ti Tryz.prog 167 = some { size := 3, bytes := 40, zero := some [.nils, .dat (.int .i64 0), .dat (.int .i64 0)], tk := .struct [(0, 47), (1, 3), (2, 42)] } := by kernel_rfl
theorem ti170 : ti Tryz.prog 170 = some { size := 1, bytes := 8, zero := some [.raw .nilFunc], tk := .other } := by kernel_rfl
theorem ti174 : ti Tryz.prog 174 = some { size := 1, bytes := 24, zero := some [.nils], tk := .slice 186 } := by kernel_rfl
theorem ti177 : ti Tryz.prog 177 = some { size := 1, bytes := 24, zero := some [.nils], tk := .slice 187 } := by kernel_rfl
theorem ti179 : ti Tryz.prog 179 = some { size := 1, bytes := 8, zero := some [.dat (.int .u64 0)], tk := .int .u64 } := by kernel_rfl
theorem ti185 : ti Tryz.prog 185 = some { size := 3, bytes := 24, zero := some [.dat (.int .i64 0), .dat (.int .i64 0), .dat (.int .i64 0)], tk := .struct [(0, 3), (1, 3), (2, 3)] } := by kernel_rfl
theorem ti186 : ti Tryz.prog 186 = some { size := 3, bytes := 24, zero := some [.dat (.int .i64 0), .dat (.int .i64 0), .dat (.int .i64 0)], tk := .struct [(0, 3), (1, 3), (2, 3)] } := by kernel_rfl
theorem ti187 : ti Tryz.prog 187 = some { size := 3, bytes := 24, zero := some [.dat (.int .i64 0), .dat (.int .i64 0), .dat (.int .i64 0)], tk := .struct [(0, 3), (1, 3), (2, 3)] } := by kernel_rfl
theorem ti194 : ti Tryz.prog 194 = some { size := 4, bytes := 40, zero := some [.dat .nilp, .dat .nilp, .dat .nilp, .dat (.str ⟨#[]⟩)], tk := .struct [(0, 17), (1, 17), (2, 17), (3, 9)] } := by kernel_rfl
theorem ti195 : ti Tryz.prog 195 = some { size := 4, bytes := 40, zero := some [.dat .nilp, .dat .nilp, .dat .nilp, .dat (.str ⟨#[]⟩)], tk := .struct [(0, 17), (1, 17), (2, 17), (3, 9)] } := by kernel_rfl
theorem ti196 : ti Tryz.prog 196 = some { size := 0, bytes := 0, zero := some [], tk := .array 0 16 } := by kernel_rfl
theorem ti197 : ti Tryz.prog 197 = some { size := 0, bytes := 0, zero := some [], tk := .struct [(0, 196)] } := by kernel_rfl
theorem ti198 : ti Tryz.prog 198 = some { size := 0, bytes := 0, zero := some [], tk := .struct [(0, 196)] } := by kernel_rfl
theorem ti200 : ti Tryz.prog 200 = some { size := 1, bytes := 1, zero := some [.dat (.int .u8 0)], tk := .int .u8 } := by kernel_rfl
theorem ti201 : ti Tryz.prog 201 = some { size := 1, bytes := 1, zero := some [.dat (.int .u8 0)], tk := .int .u8 } := by kernel_rfl
theorem ti203 : ti Tryz.prog 203 = some { size := 1, bytes := 8, zero := some [.dat .nilp], tk := .ptr 5 } := by kernel_rfl
theorem ti204 : ti Tryz.prog 204 = some { size := 1, bytes := 4, zero := some [.dat (.int .i32 0)], tk := .int .i32 } := by kernel_rfl
theorem ti205 : ti Tryz.prog 205 = some { size := 1, bytes := 4, zero := some [.dat (.int .i32 0)], tk := .int .i32 } := by kernel_rfl
theorem ti206 : ti Tryz.prog 206 = some { size := 11, bytes := 48, zero := some [.dat (.int .u64 0), .dat (.int .u64 0), .dat (.int .u32 0), .dat (.int .u8 0), .dat (.int .u8 0), .dat (.int .u8 0), .dat (.int .u8 0), .raw .nilFunc, .dat .nilp, .dat (.int .i32 0), .dat (.int .i32 0)], tk := .struct [(0, 12), (1, 12), (2, 79), (3, 200), (4, 5), (5, 5), (6, 201), (7, 202), (8, 203), (9, 204), (10, 205)] } := by kernel_rfl
theorem ti207 : ti Tryz.prog 207 = some { size := 11, bytes := 48, zero := some [.dat (.int .u64 0), .dat (.int .u64 0), .dat (.int .u32 0), .dat (.int .u8 0), .dat (.int .u8 0), .dat (.int .u8 0), .dat (.int .u8 0), .raw .nilFunc, .dat .nilp, .dat (.int .i32 0), .dat (.int .i32 0)], tk := .struct [(0, 12), (1, 12), (2, 79), (3, 200), (4, 5), (5, 5), (6, 201), (7, 202), (8, 203), (9, 204), (10, 205)] } := by kernel_rfl
theorem ti208 : ti Tryz.prog 208 = some { size := 1, bytes := 8, zero := some [.dat .nilp], tk := .other } := by kernel_rfl
theorem tiA : type_of% (And.intro (And.intro (And.intro (And.intro (And.intro (And.intro (ti2) (ti3)) (And.intro (ti4) (And.intro (ti5) (ti6)))) (And.intro (And.intro (ti7) (And.intro (ti8) (ti9))) (And.intro (ti10) (And.intro (ti11) (ti12))))) (And.intro (And.intro (And.intro (ti13) (ti14)) (And.intro (ti15) (And.intro (ti16) (ti17)))) (And.intro (And.intro (ti18) (And.intro (ti19) (ti20))) (And.intro (ti21) (And.intro (ti22) (ti23)))))) (And.intro (And.intro (And.intro (And.intro (ti24) (ti25)) (And.intro (ti26) (And.intro (ti27) (ti28)))) (And.intro (And.intro (ti29) (And.intro (ti30) (ti31))) (And.intro (ti32) (And.intro (ti33) (ti34))))) (And.intro (And.intro (And.intro (ti35) (ti36)) (And.intro (ti37) (And.intro (ti41) (ti42)))) (And.intro (And.intro (ti47) (And.intro (ti52) (ti53))) (And.intro (ti58) (And.intro (ti64) (ti65))))))) (And.intro (And.intro (And.intro (And.intro (And.intro (ti71) (ti72)) (And.intro (ti75) (And.intro (ti77) (ti79)))) (And.intro (And.intro (ti80) (And.intro (ti81) (ti82))) (And.intro (ti83) (And.intro (ti88) (ti89))))) (And.intro (And.intro (And.intro (ti100) (ti101)) (And.intro (ti102) (And.intro (ti119) (ti130)))) (And.intro (And.intro (ti132) (And.intro (ti133) (ti157))) (And.intro (ti160) (And.intro (ti161) (ti165)))))) (And.intro (And.intro (And.intro (And.intro (ti166) (ti167)) (And.intro (ti170) (And.intro (ti174) (ti177)))) (And.intro (And.intro (ti179) (And.intro (ti185) (ti186))) (And.intro (ti187) (And.intro (ti194) (ti195))))) (And.intro (And.intro (And.intro (ti196) (ti197)) (And.intro (ti198) (And.intro (ti200) (ti201)))) (And.intro (And.intro (ti203) (And.intro (ti204) (ti205))) (And.intro (ti206) (And.intro (ti207) (ti208)))))))) := And.intro (And.intro (And.intro (And.intro (And.intro (And.intro (ti2) (ti3)) (And.intro (ti4) (And.intro (ti5) (ti6)))) (And.intro (And.intro (ti7) (And.intro (ti8) (ti9))) (And.intro (ti10) (And.intro (ti11) (ti12))))) (And.intro (And.intro (And.intro (ti13) (ti14)) (And.intro (ti15) (And.intro (ti16) (ti17)))) (And.intro (And.intro (ti18) (And.intro (ti19) (ti20))) (And.intro (ti21) (And.intro (ti22) (ti23)))))) (And.intro (And.intro (And.intro (And.intro (ti24) (ti25)) (And.intro (ti26) (And.intro (ti27) (ti28)))) (And.intro (And.intro (ti29) (And.intro (ti30) (ti31))) (And.intro (ti32) (And.intro (ti33) (ti34))))) (And.intro (And.intro (And.intro (ti35) (ti36)) (And.intro (ti37) (And.intro (ti41) (ti42)))) (And.intro (And.intro (ti47) (And.intro (ti52) (ti53))) (And.intro (ti58) (And.intro (ti64) (ti65))))))) (And.intro (And.intro (And.intro (And.intro (And.intro (ti71) (ti72)) (And.intro (ti75) (And.intro (ti77) (ti79)))) (And.intro (And.intro (ti80) (And.intro (ti81) (ti82))) (And.intro (ti83) (And.intro (ti88) (ti89))))) (And.intro (And.intro (And.intro (ti100) (ti101)) (And.intro (ti102) (And.intro (ti119) (ti130)))) (And.intro (And.intro (ti132) (And.intro (ti133) (ti157))) (And.intro (ti160) (And.intro (ti161) (ti165)))))) (And.intro (And.intro (And.intro (And.intro (ti166) (ti167)) (And.intro (ti170) (And.intro (ti174) (ti177)))) (And.intro (And.intro (ti179) (And.intro (ti185) (ti186))) (And.intro (ti187) (And.intro (ti194) (ti195))))) (And.intro (And.intro (And.intro (ti196) (ti197)) (And.intro (ti198) (And.intro (ti200) (ti201)))) (And.intro (And.intro (ti203) (And.intro (ti204) (ti205))) (And.intro (ti206) (And.intro (ti207) (ti208)))))))
end Go.Proofs.YtabjaaonfaejmaaGreatDoor

namespace Go.Proofs.YtabjaaonfaejmaaGreatDoor
open Go.Av


theorem around_ok (G) (n m : Int) (hn : I64 n) (hm : 0 < m) (hmr : I64 m) : Gives Tryz.prog G 20 [iD n, iD m] [iD (aroundM n m)] := by
  have hr := aroundM_range (n := n) hm
  unfold aroundM at hr ⊢
  unfold I64 at hn hmr
  refine gives_intro [] [] [] Tryz.func20 rfl (by rfl) (by simp [Tryz.ntmps20]) fun F hP hG hN hR => ?_
  rw [Tryz.ntmps20] at hN
  have hA := And.intro hN (And.intro hP (And.intro hG (And.intro hR.1 (And.intro hR.2.1 hR.2.2.1))))
  have hE := @Tryz.results20
  refine WS [0, 1] [] ?_
  apply aw_seq
  refine WS [0, 1, 6] [] ?_
  refine WI (fun hb => ?_) (fun hb => ?_)
  · skip
    rw [if_pos hb] at hr ⊢
    have e1 : IntKind.i64.wrap (n + 1) = n + 1 := IntWalk.i64_in _ (by omega)
    have e2 : IntKind.i64.wrap (0 - (n + 1)) = -(n + 1) := by rw [IntWalk.i64_in _ (by omega)]; omega
    apply aw_reg [0, 1] []
    · simp (maxSteps := 2000000) (disch := omega) only [avR2, avA, datsOf, fillA, seval, ↓List.forall_mem_cons, Op.operands, hA, tiA, hE, e1, e2]
      exact SC
    apply q_seq
    refine WS [4] [] ?_
    apply aw_ret
    simp only [QRet, QRetM, QRetX, retsX_nil, retsX_cons, objsAre, resA, mapO_nil, mapO_cons, vD_dat, vD_nils, vD_rp, vD_osl, vD_ptr, vD_agg, vD_fn, vD_isl, vL_dat, vL_app, viewL, avA, datsOf, fillA, seval, ↓List.forall_mem_cons, Op.operands, hP, hG, tiA, hE]
    all_goals try (first | done | rfl | trivial)
  · skip
    rw [if_neg (by omega)] at hr ⊢
    apply aw_skip
    apply q_seq
    refine WS [4] [] ?_
    apply aw_ret
    simp only [QRet, QRetM, QRetX, retsX_nil, retsX_cons, objsAre, resA, mapO_nil, mapO_cons, vD_dat, vD_nils, vD_rp, vD_osl, vD_ptr, vD_agg, vD_fn, vD_isl, vL_dat, vL_app, viewL, avA, datsOf, fillA, seval, ↓List.forall_mem_cons, Op.operands, hP, hG, tiA, hE]
    all_goals try (first | done | rfl | trivial)

theorem within_ok (G) (n m : Int) : Gives Tryz.prog G 67 [iD n, iD m] [bD (withinM n m)] := by
  refine gives_intro [] [] [] Tryz.func67 rfl (by rfl) (by simp [Tryz.ntmps67]) fun F hP hG hN hR => ?_
  rw [Tryz.ntmps67] at hN
  have hA := And.intro hN (And.intro hP (And.intro hG (And.intro hR.1 (And.intro hR.2.1 hR.2.2.1))))
  have hE := @Tryz.results67
  refine WS [0, 1] [] ?_
  refine WS [4] [] ?_
  apply aw_ret
  simp only [QRet, QRetM, QRetX, retsX_nil, retsX_cons, objsAre, resA, mapO_nil, mapO_cons, vD_dat, vD_nils, vD_rp, vD_osl, vD_ptr, vD_agg, vD_fn, vD_isl, vL_dat, vL_app, viewL, avA, datsOf, fillA, seval, ↓List.forall_mem_cons, Op.operands, hP, hG, tiA, hE, withinM]
  all_goals try (first | done | rfl | trivial)

theorem possible_ok (G) (n : NameM) : Gives Tryz.prog G 65 [nameD n] [bD (possibleM n)] := by
  refine gives_intro [] [] [] Tryz.func65 rfl (by rfl) (by simp [Tryz.ntmps65]) fun F hP hG hN hR => ?_
  rw [Tryz.ntmps65] at hN
  have hA := And.intro hN (And.intro hP (And.intro hG (And.intro hR.1 (And.intro hR.2.1 hR.2.2.1))))
  have hE := @Tryz.results65
  refine WS [1] [1] ?_
  refine WS [2] [] ?_
  apply aw_ret
  simp only [QRet, QRetM, QRetX, retsX_nil, retsX_cons, objsAre, resA, mapO_nil, mapO_cons, vD_dat, vD_nils, vD_rp, vD_osl, vD_ptr, vD_agg, vD_fn, vD_isl, vL_dat, vL_app, viewL, avA, datsOf, fillA, seval, ↓List.forall_mem_cons, Op.operands, hP, hG, tiA, hE, possibleM]
  all_goals try (first | done | rfl | trivial)

theorem less_ok (G) (a b : NameM) : Gives Tryz.prog G 70 [nameD a, nameD b] [bD (lessM a b)] := by
  refine gives_intro [] [] [] Tryz.func70 rfl (by rfl) (by simp [Tryz.ntmps70]) fun F hP hG hN hR => ?_
  rw [Tryz.ntmps70] at hN
  have hA := And.intro hN (And.intro hP (And.intro hG (And.intro hR.1 (And.intro hR.2.1 hR.2.2.1))))
  have hE := @Tryz.results70
  refine WS [2, 3] [2, 3] ?_
  apply aw_seq
  refine WS [2, 3, 9] [2, 3] ?_
  refine WI (fun hb => ?_) (fun hb => ?_)
  · skip
    have hl : lessM a b = decide (a.By < b.By) := by unfold lessM; rw [if_pos hb]
    refine WS [4] [] ?_
    apply aw_ret
    apply q_ret_seq
    simp only [QRet, QRetM, QRetX, retsX_nil, retsX_cons, objsAre, resA, mapO_nil, mapO_cons, vD_dat, vD_nils, vD_rp, vD_osl, vD_ptr, vD_agg, vD_fn, vD_isl, vL_dat, vL_app, viewL, avA, datsOf, fillA, seval, ↓List.forall_mem_cons, Op.operands, hP, hG, tiA, hE, hl]
    all_goals try (first | done | rfl | trivial)
  · skip
    have hl : lessM a b = decide (a.Seq < b.Seq) := by unfold lessM; rw [if_neg (by omega)]
    apply aw_skip
    apply q_seq
    refine WS [4] [] ?_
    apply aw_ret
    simp only [QRet, QRetM, QRetX, retsX_nil, retsX_cons, objsAre, resA, mapO_nil, mapO_cons, vD_dat, vD_nils, vD_rp, vD_osl, vD_ptr, vD_agg, vD_fn, vD_isl, vL_dat, vL_app, viewL, avA, datsOf, fillA, seval, ↓List.forall_mem_cons, Op.operands, hP, hG, tiA, hE, hl]
    all_goals try (first | done | rfl | trivial)

theorem name_ok (G) (e : EventM) : Gives Tryz.prog G 66 [eventD e] [nameD (evName e)] := by
  refine gives_intro [] [] [] Tryz.func66 rfl (by rfl) (by simp [Tryz.ntmps66]) fun F hP hG hN hR => ?_
  rw [Tryz.ntmps66] at hN
  have hA := And.intro hN (And.intro hP (And.intro hG (And.intro hR.1 (And.intro hR.2.1 hR.2.2.1))))
  have hE := @Tryz.results66
  refine WS [1, 2] [1, 2] ?_
  refine WS [2] [2] ?_
  apply aw_ret
  simp only [QRet, QRetM, QRetX, retsX_nil, retsX_cons, objsAre, resA, mapO_nil, mapO_cons, vD_dat, vD_nils, vD_rp, vD_osl, vD_ptr, vD_agg, vD_fn, vD_isl, vL_dat, vL_app, viewL, avA, datsOf, fillA, seval, ↓List.forall_mem_cons, Op.operands, hP, hG, tiA, hE, evName]
  all_goals try (first | done | rfl | trivial)

end Go.Proofs.YtabjaaonfaejmaaGreatDoor

namespace Go.Proofs.YtabjaaonfaejmaaGreatDoor
open Go.Av

theorem rot_s : ∀ n : Nat, n < 32 → 0 < n → IntKind.u64.wrap ((BitVec.ofInt IntKind.u64.bits (IntKind.u64.wrap (-(n : Int))) &&& BitVec.ofInt IntKind.u64.bits 31).toNat : Int) = ((32 - n : Nat) : Int) := by decide
theorem rot_or (x : W32) (n : Nat) : x <<< (32 - n) ||| x >>> n = rotrW x n := BitVec.or_comm _ _

theorem rotl_ok (G) (x : W32) (n : Nat) (h : 0 < n ∧ n < 32) : Gives Tryz.prog G 130 [wD x, iD (-(n : Int))] [wD (rotrW x n)] := by
  have hs := rot_s n h.2 h.1
  have hs2 : IntKind.u64.wrap (32 - ((32 - n : Nat) : Int)) = (n : Int) := by rw [IntWalk.u64_in _ (by omega)]; omega
  have h1 := bw_shl x (32 - n) (by omega)
  have h2 := bw_shr x n (by omega)
  have h3 := rot_or x n
  skip
  refine gives_intro [] [] [] Tryz.func130 rfl (by rfl) (by simp [Tryz.ntmps130]) fun F hP hG hN hR => ?_
  rw [Tryz.ntmps130] at hN
  have hA := And.intro hN (And.intro hP (And.intro hG (And.intro hR.1 (And.intro hR.2.1 hR.2.2.1))))
  have hE := And.intro @Tryz.results130 (And.intro @hs (And.intro @hs2 (And.intro @Int.toNat_natCast (And.intro @h1 (And.intro @h2 (And.intro @bw_or (@h3)))))))
  refine WS [0, 1] [] ?_
  refine WS [0, 5] [] ?_
  refine WS [4] [] ?_
  apply aw_ret
  simp only [QRet, QRetM, QRetX, retsX_nil, retsX_cons, objsAre, resA, mapO_nil, mapO_cons, vD_dat, vD_nils, vD_rp, vD_osl, vD_ptr, vD_agg, vD_fn, vD_isl, vL_dat, vL_app, viewL, avA, datsOf, fillA, seval, ↓List.forall_mem_cons, Op.operands, hP, hG, tiA, hE]
  all_goals try (first | done | rfl | trivial)

theorem rotr_ok (G) (x : W32) (n : Nat) (h : 0 < n ∧ n < 32) : Gives Tryz.prog G 112 [wD x, iD (n : Int)] [wD (rotrW x n)] := by
  have hs2 : IntKind.i64.wrap (32 - (n : Int)) = ((32 - n : Nat) : Int) := by rw [IntWalk.i64_in _ (by omega)]; omega
  have h1 := bw_shl x (32 - n) (by omega)
  have h2 := bw_shr x n (by omega)
  skip
  refine gives_intro [] [] [] Tryz.func112 rfl (by rfl) (by simp [Tryz.ntmps112]) fun F hP hG hN hR => ?_
  rw [Tryz.ntmps112] at hN
  have hA := And.intro hN (And.intro hP (And.intro hG (And.intro hR.1 (And.intro hR.2.1 hR.2.2.1))))
  have hE := And.intro @Tryz.results112 (And.intro @hs2 (And.intro @Int.toNat_natCast (And.intro @h1 (And.intro @h2 (@bw_or)))))
  refine WS [0, 1] [] ?_
  refine WD [4] [] [0, 1, 2, 3, 4, 5, 6, 7, 8] [] ?_
  apply aw_ret
  simp only [QRet, QRetM, QRetX, retsX_nil, retsX_cons, objsAre, resA, mapO_nil, mapO_cons, vD_dat, vD_nils, vD_rp, vD_osl, vD_ptr, vD_agg, vD_fn, vD_isl, vL_dat, vL_app, viewL, avA, datsOf, fillA, seval, ↓List.forall_mem_cons, Op.operands, hP, hG, tiA, hE]
  all_goals try (first | done | rfl | trivial)

theorem mix_ok (G) (x : W32) (i j k : Nat) (hi : 0 < i ∧ i < 32) (hj : 0 < j ∧ j < 32) (hk : 0 < k ∧ k < 32) : Gives Tryz.prog G 114 [wD x, iD (i : Int), iD (j : Int), iD (k : Int)] [wD (rotrW x i ^^^ rotrW x j ^^^ rotrW x k)] := by
  skip
  refine gives_intro [] [] [] Tryz.func114 rfl (by rfl) (by simp [Tryz.ntmps114]) fun F hP hG hN hR => ?_
  rw [Tryz.ntmps114] at hN
  have hA := And.intro hN (And.intro hP (And.intro hG (And.intro hR.1 (And.intro hR.2.1 hR.2.2.1))))
  have hE := And.intro @Tryz.results114 (And.intro @bw_xor (And.intro @Int.zero_sub (@IntWalk.i64_in)))
  refine WS [0, 1, 2, 3] [] ?_
  apply aw_regs [8] []
  · simp (maxSteps := 2000000) (disch := omega) only [avR2, avA, datsOf, fillA, seval, ↓List.forall_mem_cons, Op.operands, hA, tiA, hE]
    (repeat' refine And.intro ?_ ?_) <;> try exact SD
    refine CallC.use (gvF hP hG (rotl_ok G x i hi)) rfl ?_
    try simp (maxSteps := 2000000) (disch := omega) only [avR2, avA, datsOf, fillA, seval, ↓List.forall_mem_cons, Op.operands, hA, tiA, hE]
    (repeat' refine And.intro ?_ ?_) <;> try exact SD
    refine CallC.use (gvF hP hG (rotl_ok G x j hj)) rfl ?_
    try simp (maxSteps := 2000000) (disch := omega) only [avR2, avA, datsOf, fillA, seval, ↓List.forall_mem_cons, Op.operands, hA, tiA, hE]
    (repeat' refine And.intro ?_ ?_) <;> try exact SD
    refine CallC.use (gvF hP hG (rotl_ok G x k hk)) rfl ?_
    try simp (maxSteps := 2000000) (disch := omega) only [avR2, avA, datsOf, fillA, seval, ↓List.forall_mem_cons, Op.operands, hA, tiA, hE]
    exact SC
  apply aw_ret
  simp only [QRet, QRetM, QRetX, retsX_nil, retsX_cons, objsAre, resA, mapO_nil, mapO_cons, vD_dat, vD_nils, vD_rp, vD_osl, vD_ptr, vD_agg, vD_fn, vD_isl, vL_dat, vL_app, viewL, avA, datsOf, fillA, seval, ↓List.forall_mem_cons, Op.operands, hP, hG, tiA, hE]
  all_goals try (first | done | rfl | trivial)

end Go.Proofs.YtabjaaonfaejmaaGreatDoor

namespace Go.Proofs.YtabjaaonfaejmaaGreatDoor
open Go.Av

theorem rotl_c (G) (x : W32) (n : Nat) (c : Int) (hc : c = -(n : Int)) (h : 0 < n ∧ n < 32) : Gives Tryz.prog G 130 [wD x, iD c] [wD (rotrW x n)] := by
  subst hc
  exact rotl_ok G x n h

set_option maxRecDepth 100000 in
set_option maxHeartbeats 2000000 in
theorem schedule_ok (G) (b : List Int) (hib : isB b) (hl : b.length = 64) : Gives Tryz.prog G 113 [u8sD b] [wsD (schM b 64)] := by
  skip
  refine gives_intro [] [] [] Tryz.func113 rfl (by rfl) (by simp [Tryz.ntmps113]) fun F hP hG hN hR => ?_
  rw [Tryz.ntmps113] at hN
  have hA := And.intro hN (And.intro hP (And.intro hG (And.intro hR.1 (And.intro hR.2.1 hR.2.2.1))))
  have hE := And.intro @Tryz.results113 (And.intro @schZ_0 (And.intro @len_ws (And.intro @ds_ws (And.intro @schZ_64 (And.intro @Int.toNat_natCast (And.intro @u8_take (And.intro @u8_drop (And.intro @bw_xor (And.intro @bw_or (And.intro @bw_shl (And.intro @bw_shr (@bw_add))))))))))))
  apply aw_regs [0, 2] [2]
  · simp (maxSteps := 2000000) (disch := omega) only [avR2, avA, datsOf, fillA, seval, ↓List.forall_mem_cons, Op.operands, hA, tiA, hE, ↓zero_z64, -List.reduceReplicate]
    exact SC
  apply aw_regs [0, 2, 3] [2, 3]
  · simp (maxSteps := 2000000) (disch := omega) only [avR2, avA, datsOf, fillA, seval, ↓List.forall_mem_cons, Op.operands, hA, tiA, hE, ↓zero_z64, -List.reduceReplicate]
    exact SC
  apply aw_seq
  refine WS [0, 2, 3, 11] [2, 3] ?_
  apply aw_block
  refine WL (ι := {t : Nat // t ≤ 64}) [0, 2, 3] [2] (fun ⟨t, ht⟩ => [(11, .dat (iD t))]) (fun ⟨t, ht⟩ => [(3, ⟨64, [.dat (wsD (schZ b t))]⟩)]) (fun ⟨t, ht⟩ => 64 - t) (⟨0, by omega⟩) ?_
  rintro ⟨t, ht⟩
  dsimp only [List.cons_append, List.nil_append]
  refine WS [0, 2, 3, 11, 12] [2, 3] ?_
  apply aw_seq
  refine WI (fun hb => ?_) (fun hb => ?_)
  · skip
    have ht4 : t < 64 := by omega
    have hE := And.intro hE (And.intro (schZ_A b ht4) (And.intro (fun x => schA_len b ht4 x) (And.intro (fun x => ldT b ht4 x) (stA b t))))
    apply aw_skip
    apply q_seq
    apply aw_seq
    apply aw_block
    refine WS [0, 2, 3, 4, 11] [2, 3] ?_
    apply aw_seq
    refine WS [0, 2, 3, 4, 11, 15] [2, 3] ?_
    refine WI (fun hb => ?_) (fun hb => ?_)
    · skip
      have h4 : IntKind.i64.wrap (4 * (t : Int)) = ((4 * t : Nat) : Int) := by rw [IntWalk.i64_in _ (by omega)]; omega
      have h5 : IntKind.i64.wrap (((4 * t : Nat) : Int) + 4) = ((4 * t + 4 : Nat) : Int) := by rw [IntWalk.i64_in _ (by omega)]; omega
      have h6 : (List.drop (4 * t) (List.take (4 * t + 4) b)).length = 4 := by rw [List.length_drop, List.length_take]; omega
      have hn : schZ b (t + 1) = schA b t (wordP b t 4) := by rw [schZ_next b ht4, wordP_4, nextW, if_pos (by omega)]
      have hE := And.intro hE (And.intro h4 (And.intro h5 (And.intro h6 hn)))
      apply aw_seq
      refine WS [0, 2, 3, 4, 11, 22, 23, 24] [2, 3] ?_
      apply aw_block
      refine WL (ι := {j : Nat // j ≤ 4}) [0, 2, 3, 4, 11, 22, 23] [2] (fun ⟨j, hj⟩ => [(24, .dat (iD j))]) (fun ⟨j, hj⟩ => [(3, ⟨64, [.dat (wsD (schA b t (wordP b t j)))]⟩)]) (fun ⟨j, hj⟩ => 4 - j) (⟨0, by omega⟩) ?_
      rintro ⟨j, hj⟩
      dsimp only [List.cons_append, List.nil_append]
      refine WS [0, 2, 3, 4, 11, 22, 23, 24, 25] [2, 3] ?_
      apply aw_seq
      refine WI (fun hb => ?_) (fun hb => ?_)
      · skip
        have hm : (List.drop (4 * t) (List.take (4 * t + 4) b)).getD j default = b.getD (4 * t + j) default := by
          simp only [List.getD_eq_getElem?_getD, List.getElem?_drop, List.getElem?_take]
          rw [if_pos (by omega)]
        have hby := bw_byte hib (4 * t + j)
        have hE := And.intro hE (And.intro hm (And.intro hby (wordP.eq_2 b t j)))
        apply aw_skip
        apply q_seq
        apply aw_seq
        apply aw_block
        refine WS [0, 2, 3, 4, 6, 11, 22, 23, 24] [2, 3] ?_
        refine WQ [0, 2, 3, 4, 11, 22, 23, 24] [2, 3] ?_
        apply q_block
        apply q_seq
        refine WQ [0, 2, 3, 4, 11, 22, 23, 24] [2, 3] ?_
        refine WN (⟨j + 1, by omega⟩)
      · skip
        apply aw_exit
        apply q_exit_seq
        have hend : j = 4 := by omega
        subst hend
        apply q_exit_loop
        apply q_exit
        apply q_seq
        apply aw_exit
        apply q_exit_seq
        apply q_exit
        apply q_seq
        refine WQ [0, 2, 3, 11] [2, 3] ?_
        refine WN (⟨t + 1, by omega⟩)
    · skip
      have h15 : IntKind.i64.wrap ((t : Int) - 15) = ((t - 15 : Nat) : Int) := by rw [IntWalk.i64_in _ (by omega)]; omega
      have h2 : IntKind.i64.wrap ((t : Int) - 2) = ((t - 2 : Nat) : Int) := by rw [IntWalk.i64_in _ (by omega)]; omega
      have h16 : IntKind.i64.wrap ((t : Int) - 16) = ((t - 16 : Nat) : Int) := by rw [IntWalk.i64_in _ (by omega)]; omega
      have h7 : IntKind.i64.wrap ((t : Int) - 7) = ((t - 7 : Nat) : Int) := by rw [IntWalk.i64_in _ (by omega)]; omega
      have hn : schZ b (t + 1) = schA b t (nextW b (schM b t) t) := schZ_next b ht4
      have hv : nextW b (schM b t) t = (schM b t).getD (t - 16) 0#32 + sg0 ((schM b t).getD (t - 15) 0#32) + (schM b t).getD (t - 7) 0#32 + sg1 ((schM b t).getD (t - 2) 0#32) := if_neg (by omega)
      have hE := And.intro hE (And.intro h15 (And.intro h2 (And.intro h16 (And.intro h7 (And.intro hn (And.intro hv (And.intro (fun x => ldA b ht4 (show t - 15 < t by omega) x) (And.intro (fun x => ldA b ht4 (show t - 2 < t by omega) x) (And.intro (fun x => ldA b ht4 (show t - 16 < t by omega) x) (And.intro (fun x => ldA b ht4 (show t - 7 < t by omega) x) (And.intro sg0.eq_1 sg1.eq_1)))))))))))
      apply aw_skip
      apply q_seq
      refine WD [0, 2, 3, 4, 7, 8, 11] [2, 3] [0, 1, 2, 3, 4, 5, 6, 7, 8, 9] [] ?_
      apply aw_regs [0, 2, 3, 4, 8, 9, 11] [2, 3]
      · simp (maxSteps := 2000000) (disch := omega) only [avR2, avA, datsOf, fillA, seval, ↓List.forall_mem_cons, Op.operands, hA, tiA, hE]
        (repeat' refine And.intro ?_ ?_) <;> try exact SD
        refine CallC.use (gvF hP hG (rotl_c G ((schM b t).getD (t - 15) 0#32) 7 (-7) rfl (by omega))) rfl ?_
        try simp (maxSteps := 2000000) (disch := omega) only [avR2, avA, datsOf, fillA, seval, ↓List.forall_mem_cons, Op.operands, hA, tiA, hE]
        (repeat' refine And.intro ?_ ?_) <;> try exact SD
        refine CallC.use (gvF hP hG (rotl_c G ((schM b t).getD (t - 15) 0#32) 18 (-18) rfl (by omega))) rfl ?_
        try simp (maxSteps := 2000000) (disch := omega) only [avR2, avA, datsOf, fillA, seval, ↓List.forall_mem_cons, Op.operands, hA, tiA, hE]
        exact SC
      apply aw_regs [0, 2, 3, 4, 9, 10, 11] [2, 3]
      · simp (maxSteps := 2000000) (disch := omega) only [avR2, avA, datsOf, fillA, seval, ↓List.forall_mem_cons, Op.operands, hA, tiA, hE]
        (repeat' refine And.intro ?_ ?_) <;> try exact SD
        refine CallC.use (gvF hP hG (rotl_c G ((schM b t).getD (t - 2) 0#32) 17 (-17) rfl (by omega))) rfl ?_
        try simp (maxSteps := 2000000) (disch := omega) only [avR2, avA, datsOf, fillA, seval, ↓List.forall_mem_cons, Op.operands, hA, tiA, hE]
        (repeat' refine And.intro ?_ ?_) <;> try exact SD
        refine CallC.use (gvF hP hG (rotl_c G ((schM b t).getD (t - 2) 0#32) 19 (-19) rfl (by omega))) rfl ?_
        try simp (maxSteps := 2000000) (disch := omega) only [avR2, avA, datsOf, fillA, seval, ↓List.forall_mem_cons, Op.operands, hA, tiA, hE]
        exact SC
      refine WDQ [0, 2, 3, 11] [2, 3] [0, 1, 2, 3, 4, 5, 6, 7, 8, 9, 10, 11, 12, 13, 14, 15] [] ?_
      apply q_block
      apply q_seq
      refine WQ [0, 2, 3, 11] [2, 3] ?_
      refine WN (⟨t + 1, by omega⟩)
  · skip
    apply aw_exit
    apply q_exit_seq
    have hend : t = 64 := by omega
    subst hend
    apply q_exit_loop
    apply q_exit
    apply q_seq
    have hE := And.intro hE (And.intro (schM_len b 64) (And.intro z64_len (len_ws z64)))
    refine WS [2] [2] ?_
    apply aw_ret
    simp only [QRet, QRetM, QRetX, retsX_nil, retsX_cons, objsAre, resA, mapO_nil, mapO_cons, vD_dat, vD_nils, vD_rp, vD_osl, vD_ptr, vD_agg, vD_fn, vD_isl, vL_dat, vL_app, viewL, avA, datsOf, fillA, seval, ↓List.forall_mem_cons, Op.operands, hP, hG, tiA, hE]
    all_goals try (first | done | rfl | trivial)

end Go.Proofs.YtabjaaonfaejmaaGreatDoor

namespace Go.Proofs.YtabjaaonfaejmaaGreatDoor
open Go.Av

theorem rotr_c (G) (x : W32) (n : Nat) (c : Int) (hc : c = (n : Int)) (h : 0 < n ∧ n < 32) : Gives Tryz.prog G 112 [wD x, iD c] [wD (rotrW x n)] := by
  subst hc
  exact rotr_ok G x n h

set_option maxRecDepth 100000 in
set_option maxHeartbeats 4000000 in
theorem hwords_ok (G) (b : List Int) (hib : isB b) (hl : b.length = 64) : Gives Tryz.prog G 111 [u8sD b] [wsD (schM b 64)] := by
  skip
  refine gives_intro [] [] [] Tryz.func111 rfl (by rfl) (by simp [Tryz.ntmps111]) fun F hP hG hN hR => ?_
  rw [Tryz.ntmps111] at hN
  have hA := And.intro hN (And.intro hP (And.intro hG (And.intro hR.1 (And.intro hR.2.1 hR.2.2.1))))
  have hE := And.intro @Tryz.results111 (And.intro @schZ_0 (And.intro @len_ws (And.intro @ds_ws (And.intro @schZ_64 (And.intro @Int.toNat_natCast (And.intro @bw_xor (And.intro @bw_or (And.intro @bw_shl (And.intro @bw_shr (@bw_add))))))))))
  apply aw_regs [0, 2] [2]
  · simp (maxSteps := 2000000) (disch := omega) only [avR2, avA, datsOf, fillA, seval, ↓List.forall_mem_cons, Op.operands, hA, tiA, hE, ↓zero_z64, -List.reduceReplicate]
    exact SC
  apply aw_regs [0, 2, 3] [2, 3]
  · simp (maxSteps := 2000000) (disch := omega) only [avR2, avA, datsOf, fillA, seval, ↓List.forall_mem_cons, Op.operands, hA, tiA, hE, ↓zero_z64, -List.reduceReplicate]
    exact SC
  apply aw_seq
  refine WS [0, 2, 3, 4] [2, 3] ?_
  apply aw_block
  refine WL (ι := {t : Nat // t ≤ 16}) [0, 2, 3] [2] (fun ⟨t, ht⟩ => [(4, .dat (iD t))]) (fun ⟨t, ht⟩ => [(3, ⟨64, [.dat (wsD (schZ b t))]⟩)]) (fun ⟨t, ht⟩ => 16 - t) (⟨0, by omega⟩) ?_
  rintro ⟨t, ht⟩
  dsimp only [List.cons_append, List.nil_append]
  apply aw_seq
  refine WS [0, 2, 3, 4, 9] [2, 3] ?_
  refine WI (fun hb => ?_) (fun hb => ?_)
  · skip
    have ht4 : t < 64 := by omega
    have h4 : IntKind.i64.wrap (4 * (t : Int)) = ((4 * t : Nat) : Int) := by rw [IntWalk.i64_in _ (by omega)]; omega
    have h5 : IntKind.i64.wrap (((4 * t : Nat) : Int) + 1) = ((4 * t + 1 : Nat) : Int) := by rw [IntWalk.i64_in _ (by omega)]; omega
    have h6 : IntKind.i64.wrap (((4 * t : Nat) : Int) + 2) = ((4 * t + 2 : Nat) : Int) := by rw [IntWalk.i64_in _ (by omega)]; omega
    have h7 : IntKind.i64.wrap (((4 * t : Nat) : Int) + 3) = ((4 * t + 3 : Nat) : Int) := by rw [IntWalk.i64_in _ (by omega)]; omega
    have hn : schZ b (t + 1) = schA b t (wordH b t) := by rw [schZ_next b ht4, nextW, if_pos (by omega)]
    have hE := And.intro hE (And.intro (schZ_A b ht4) (And.intro (fun x => schA_len b ht4 x) (And.intro (fun x => ldT b ht4 x) (And.intro (stA b t) (And.intro h4 (And.intro h5 (And.intro h6 (And.intro h7 (And.intro hn (And.intro (wordH.eq_1 b t) (And.intro (bw_byte hib (4 * t)) (And.intro (bw_byte hib (4 * t + 1)) (And.intro (bw_byte hib (4 * t + 2)) (bw_byte hib (4 * t + 3)))))))))))))))
    apply aw_skip
    apply q_seq
    apply aw_seq
    apply aw_block
    refine WDQ [0, 2, 3, 4] [2, 3] [0, 1, 2, 3, 4, 5, 6, 7, 8, 9, 10, 11, 12, 13, 14, 15, 16, 17, 18, 19, 20, 21, 22, 23, 24, 25, 26, 27, 28, 29, 30, 31, 32, 33, 34, 35] [] ?_
    apply q_block
    apply q_seq
    refine WQ [0, 2, 3, 4] [2, 3] ?_
    refine WN (⟨t + 1, by omega⟩)
  · skip
    apply aw_exit
    apply q_exit_seq
    have hend : t = 16 := by omega
    subst hend
    apply q_exit_loop
    apply q_exit
    apply q_seq
    apply aw_seq
    refine WS [2, 3, 5] [2, 3] ?_
    apply aw_block
    refine WL (ι := {t : Nat // 16 ≤ t ∧ t ≤ 64}) [2, 3] [2] (fun ⟨t, ht⟩ => [(5, .dat (iD t))]) (fun ⟨t, ht⟩ => [(3, ⟨64, [.dat (wsD (schZ b t))]⟩)]) (fun ⟨t, ht⟩ => 64 - t) (⟨16, by omega⟩) ?_
    rintro ⟨t, ht⟩
    dsimp only [List.cons_append, List.nil_append]
    apply aw_seq
    refine WS [2, 3, 5, 48] [2, 3] ?_
    refine WI (fun hb => ?_) (fun hb => ?_)
    · skip
      have ht4 : t < 64 := by omega
      have h15 : IntKind.i64.wrap ((t : Int) - 15) = ((t - 15 : Nat) : Int) := by rw [IntWalk.i64_in _ (by omega)]; omega
      have h2 : IntKind.i64.wrap ((t : Int) - 2) = ((t - 2 : Nat) : Int) := by rw [IntWalk.i64_in _ (by omega)]; omega
      have h16 : IntKind.i64.wrap ((t : Int) - 16) = ((t - 16 : Nat) : Int) := by rw [IntWalk.i64_in _ (by omega)]; omega
      have h7 : IntKind.i64.wrap ((t : Int) - 7) = ((t - 7 : Nat) : Int) := by rw [IntWalk.i64_in _ (by omega)]; omega
      have hn : schZ b (t + 1) = schA b t (nextW b (schM b t) t) := schZ_next b ht4
      have hv : nextW b (schM b t) t = (schM b t).getD (t - 16) 0#32 + sg0 ((schM b t).getD (t - 15) 0#32) + (schM b t).getD (t - 7) 0#32 + sg1 ((schM b t).getD (t - 2) 0#32) := if_neg (by omega)
      have hE := And.intro hE (And.intro (schZ_A b ht4) (And.intro (fun x => schA_len b ht4 x) (And.intro (fun x => ldT b ht4 x) (And.intro (stA b t) (And.intro h15 (And.intro h2 (And.intro h16 (And.intro h7 (And.intro hn (And.intro hv (And.intro (fun x => ldA b ht4 (show t - 15 < t by omega) x) (And.intro (fun x => ldA b ht4 (show t - 2 < t by omega) x) (And.intro (fun x => ldA b ht4 (show t - 16 < t by omega) x) (And.intro (fun x => ldA b ht4 (show t - 7 < t by omega) x) (And.intro sg0.eq_1 sg1.eq_1)))))))))))))))
      apply aw_skip
      apply q_seq
      apply aw_seq
      apply aw_block
      apply aw_rgds [2, 3, 5, 6] [2, 3] [0, 1, 2, 3, 4, 5, 6, 7, 8, 9, 10, 11, 12, 13, 14, 15, 16, 17] []
      · rw [hP]; kernel_rfl
      · exact hR
      · kernel_rfl
      · (repeat (apply PickL.cons; exact rfl)); exact PickL.nil _
      · simp (maxSteps := 2000000) (disch := omega) only [avR2, avA, datsOf, fillA, seval, ↓List.forall_mem_cons, Op.operands, hA, tiA, hE]
        (repeat' refine And.intro ?_ ?_) <;> try exact SD
        refine CallC.use (gvF hP hG (rotr_c G ((schM b t).getD (t - 15) 0#32) 7 7 rfl (by omega))) rfl ?_
        try simp (maxSteps := 2000000) (disch := omega) only [avR2, avA, datsOf, fillA, seval, ↓List.forall_mem_cons, Op.operands, hA, tiA, hE]
        (repeat' refine And.intro ?_ ?_) <;> try exact SD
        refine CallC.use (gvF hP hG (rotr_c G ((schM b t).getD (t - 15) 0#32) 18 18 rfl (by omega))) rfl ?_
        try simp (maxSteps := 2000000) (disch := omega) only [avR2, avA, datsOf, fillA, seval, ↓List.forall_mem_cons, Op.operands, hA, tiA, hE]
        exact SC
      apply aw_rgds [2, 3, 5, 6, 7] [2, 3] [0, 1, 2, 3, 4, 5, 6, 7, 8, 9, 10, 11, 12, 13, 14, 15, 16, 17] []
      · rw [hP]; kernel_rfl
      · exact hR
      · kernel_rfl
      · (repeat (apply PickL.cons; exact rfl)); exact PickL.nil _
      · simp (maxSteps := 2000000) (disch := omega) only [avR2, avA, datsOf, fillA, seval, ↓List.forall_mem_cons, Op.operands, hA, tiA, hE]
        (repeat' refine And.intro ?_ ?_) <;> try exact SD
        refine CallC.use (gvF hP hG (rotr_c G ((schM b t).getD (t - 2) 0#32) 17 17 rfl (by omega))) rfl ?_
        try simp (maxSteps := 2000000) (disch := omega) only [avR2, avA, datsOf, fillA, seval, ↓List.forall_mem_cons, Op.operands, hA, tiA, hE]
        (repeat' refine And.intro ?_ ?_) <;> try exact SD
        refine CallC.use (gvF hP hG (rotr_c G ((schM b t).getD (t - 2) 0#32) 19 19 rfl (by omega))) rfl ?_
        try simp (maxSteps := 2000000) (disch := omega) only [avR2, avA, datsOf, fillA, seval, ↓List.forall_mem_cons, Op.operands, hA, tiA, hE]
        exact SC
      refine WDQ [2, 3, 5] [2, 3] [0, 1, 2, 3, 4, 5, 6, 7, 8, 9, 10, 11, 12, 13, 14, 15] [] ?_
      apply q_block
      apply q_seq
      refine WQ [2, 3, 5] [2, 3] ?_
      refine WN (⟨t + 1, by omega⟩)
    · skip
      have hend : t = 64 := by omega
      subst hend
      have hE := And.intro hE (And.intro (schM_len b 64) (And.intro z64_len (len_ws z64)))
      apply aw_exit
      apply q_exit_seq
      apply q_exit_loop
      apply q_exit
      apply q_seq
      refine WS [2] [2] ?_
      apply aw_ret
      simp only [QRet, QRetM, QRetX, retsX_nil, retsX_cons, objsAre, resA, mapO_nil, mapO_cons, vD_dat, vD_nils, vD_rp, vD_osl, vD_ptr, vD_agg, vD_fn, vD_isl, vL_dat, vL_app, viewL, avA, datsOf, fillA, seval, ↓List.forall_mem_cons, Op.operands, hP, hG, tiA, hE]
      all_goals try (first | done | rfl | trivial)

end Go.Proofs.YtabjaaonfaejmaaGreatDoor

namespace Go.Proofs.YtabjaaonfaejmaaGreatDoor
open Go.Av


set_option maxRecDepth 100000 in
set_option maxHeartbeats 1000000 in
theorem padded_ok (G) (b : List Int) (hl : b.length ≤ 1099511627776) : Gives Tryz.prog G 110 [u8sD b] [u8sD (padM b)] := by
  have hz := zerosM_rng b.length
  have h8n : IntKind.u64.wrap (8 * IntKind.u64.wrap (b.length : Int)) = ((8 * b.length : Nat) : Int) := by rw [IntWalk.u64_in (b.length : Int) (by omega), IntWalk.u64_in _ (by omega)]; omega
  skip
  refine gives_intro [6] [] [] Tryz.func110 rfl (by rfl) (by simp [Tryz.ntmps110]) fun F hP hG hN hR => ?_
  rw [Tryz.ntmps110] at hN
  have hA := And.intro hN (And.intro hP (And.intro hG (And.intro hR.1 (And.intro hR.2.1 hR.2.2.1))))
  have hE := And.intro @Tryz.results110 (And.intro @ppM_len (And.intro @ppM_0 (And.intro @qpM_0 (And.intro @qpM_8 (And.intro @Int.toNat_natCast (@h8n))))))
  refine WS [0] [] ?_
  refine WS [0, 3] [6, 8, 10, 11, 17, 18, 34, 35] ?_
  refine WS [0, 3] [6, 8, 10, 11, 17, 18, 34, 35] ?_
  apply aw_seq
  apply aw_block
  refine aw_swap 11 18 (by omega) (by omega) ?_
  refine WL (ι := {j : Nat // j ≤ zerosM b.length}) [0] [6, 8, 10, 11, 17, 34, 35] (fun ⟨j, hj⟩ => [(3, .osl 18 1 0 (b.length + 1 + j))]) (fun ⟨j, hj⟩ => [(18, ⟨1, ((ppM b j).map u8D).map .dat⟩)]) (fun ⟨j, hj⟩ => zerosM b.length - j) (⟨0, by omega⟩) ?_
  rintro ⟨j, hj⟩
  dsimp only [List.cons_append, List.nil_append]
  have hpl := ppM_len b j
  apply aw_seq
  refine WS [0, 3, 15] [6, 8, 10, 11, 17, 18, 34, 35] ?_
  refine WI (fun hb => ?_) (fun hb => ?_)
  · skip
    have htm : (((b.length + 1 + j : Nat) : Int)).tmod 64 = (((b.length + 1 + j) % 64 : Nat) : Int) := by rw [Int.tmod_eq_emod_of_nonneg (by omega)]; rfl
    rw [htm] at hb
    have hs := ppM_succ b j
    have hE := And.intro hE hs
    apply aw_skip
    apply q_seq
    apply aw_block
    refine WQ [0, 3] [6, 8, 10, 11, 17, 18, 34, 35] ?_
    apply q_block
    refine WN (⟨j + 1, by omega⟩)
  · skip
    have htm : (((b.length + 1 + j : Nat) : Int)).tmod 64 = (((b.length + 1 + j) % 64 : Nat) : Int) := by rw [Int.tmod_eq_emod_of_nonneg (by omega)]; rfl
    rw [htm] at hb
    have hend : j = zerosM b.length := by omega
    subst hend
    apply aw_exit
    apply q_exit_seq
    apply q_exit_loop
    apply q_exit
    apply q_seq
    refine WS [3, 4] [6, 8, 10, 11, 17, 18, 34, 35] ?_
    apply aw_seq
    refine WS [3, 4, 5] [6, 8, 10, 11, 17, 18, 34, 35] ?_
    apply aw_block
    refine aw_swap 18 35 (by omega) (by omega) ?_
    refine WL (ι := {i : Nat // i ≤ 8}) [4] [6, 8, 10, 11, 17, 18, 34] (fun ⟨i, hi⟩ => [(3, .osl 35 1 0 (b.length + 1 + zerosM b.length + i)), (5, .dat (iD i))]) (fun ⟨i, hi⟩ => [(35, ⟨1, ((qpM b i).map u8D).map .dat⟩)]) (fun ⟨i, hi⟩ => 8 - i) (⟨0, by omega⟩) ?_
    rintro ⟨i, hi⟩
    dsimp only [List.cons_append, List.nil_append]
    have hql := qpM_len b i (by omega)
    apply aw_seq
    refine WS [3, 4, 5, 24] [6, 8, 10, 11, 17, 18, 34, 35] ?_
    refine WI (fun hb => ?_) (fun hb => ?_)
    · skip
      have hs := qpM_succ b i (by omega)
      have hb1 := len_byte b.length i (by omega) (by omega)
      have hb2 : IntKind.i64.wrap (8 * (i : Int)) = ((8 * i : Nat) : Int) := by rw [IntWalk.i64_in _ (by omega)]; omega
      have hb3 : IntKind.i64.wrap (56 - ((8 * i : Nat) : Int)) = ((56 - 8 * i : Nat) : Int) := by rw [IntWalk.i64_in _ (by omega)]; omega
      have hE := And.intro hE (And.intro hs (And.intro hb1 (And.intro hb2 (And.intro hb3 hql))))
      apply aw_skip
      apply q_seq
      apply aw_seq
      apply aw_block
      refine WQ [3, 4, 5] [6, 8, 10, 11, 17, 18, 34, 35] ?_
      apply q_block
      apply q_seq
      refine WQ [3, 4, 5] [6, 8, 10, 11, 17, 18, 34, 35] ?_
      refine WN (⟨i + 1, by omega⟩)
    · skip
      apply aw_exit
      apply q_exit_seq
      have hend : i = 8 := by omega
      subst hend
      apply q_exit_loop
      apply q_exit
      apply q_seq
      have hE := And.intro hE (And.intro (padM_len b) (padM_take b))
      refine WS [2] [6, 8, 10, 11, 17, 18, 34, 35] ?_
      apply aw_ret
      simp only [QRet, QRetM, QRetX, retsX_nil, retsX_cons, objsAre, resA, mapO_nil, mapO_cons, vD_dat, vD_nils, vD_rp, vD_osl, vD_ptr, vD_agg, vD_fn, vD_isl, vL_dat, vL_app, viewL, avA, datsOf, fillA, seval, ↓List.forall_mem_cons, Op.operands, hP, hG, tiA, hE]
      all_goals try (first | done | rfl | trivial)

end Go.Proofs.YtabjaaonfaejmaaGreatDoor

namespace Go.Proofs.YtabjaaonfaejmaaGreatDoor
open Go.Av

theorem take_get (l : List Int) (i : Nat) (h : i < l.length) : l.take (i + 1) = l.take i ++ [l.getD i 0] := by
  rw [List.take_add_one, List.getElem?_eq_getElem h]
  simp [h]

set_option maxRecDepth 100000 in
set_option maxHeartbeats 1000000 in
theorem bytes32_ok (G) (h : List Int) (hl : h.length = 32) : Gives Tryz.prog G 79 [bsD h] [.str (bstr h)] := by
  skip
  skip
  refine gives_intro [] [] [] Tryz.func79 rfl (by rfl) (by simp [Tryz.ntmps79]) fun F hP hG hN hR => ?_
  rw [Tryz.ntmps79] at hN
  have hA := And.intro hN (And.intro hP (And.intro hG (And.intro hR.1 (And.intro hR.2.1 hR.2.2.1))))
  have hE := And.intro @Tryz.results79 (And.intro @len_bs (@hl))
  refine WS [1] [1, 14] ?_
  refine WS [1, 3] [1, 13, 14] ?_
  apply aw_seq
  refine WS [1, 3, 4] [1, 13, 14] ?_
  apply aw_block
  refine aw_new0 14 1 (by omega) ?_
  refine aw_nilE 3 14 1 rfl rfl ?_
  refine WL (ι := {i : Nat // i ≤ 32}) [1] [1, 13] (fun ⟨i, hi⟩ => [(3, .osl 14 1 0 i), (4, .dat (iD i))]) (fun ⟨i, hi⟩ => [(14, ⟨1, ((h.take i).map u8D).map .dat⟩)]) (fun ⟨i, hi⟩ => 32 - i) (⟨0, by omega⟩) ?_
  rintro ⟨i, hi⟩
  dsimp only [List.cons_append, List.nil_append]
  have htl : (h.take i).length = i := by rw [List.length_take]; omega
  apply aw_seq
  refine WS [1, 3, 4, 6] [1, 13, 14] ?_
  refine WI (fun hb => ?_) (fun hb => ?_)
  · skip
    have hs := take_get h i (by omega)
    have hg := get_bs h i (by omega)
    have hE := And.intro hE (And.intro hs (And.intro hg htl))
    apply aw_skip
    apply q_seq
    apply aw_seq
    apply aw_block
    refine WQ [1, 3, 4] [1, 13, 14] ?_
    apply q_block
    apply q_seq
    refine WQ [1, 3, 4] [1, 13, 14] ?_
    refine WN (⟨i + 1, by omega⟩)
  · skip
    apply aw_exit
    apply q_exit_seq
    have hend : i = 32 := by omega
    subst hend
    apply q_exit_loop
    apply q_exit
    apply q_seq
    have htf : h.take 32 = h := List.take_of_length_le (by omega)
    rw [htf]
    refine aw_frz 14 hR.2.2.2 rfl (datE_map _) ?_
    have hft : List.take 32 (List.drop 0 (List.map u8D h)) = List.map u8D h := List.take_of_length_le (by simp; omega)
    have hft2 : List.take 32 (List.map u8D h) = List.map u8D h := List.take_of_length_le (by simp; omega)
    have hE := And.intro hE (And.intro hft hft2)
    refine WS [2] [14] ?_
    apply aw_ret
    simp only [QRet, QRetM, QRetX, retsX_nil, retsX_cons, objsAre, resA, mapO_nil, mapO_cons, vD_dat, vD_nils, vD_rp, vD_osl, vD_ptr, vD_agg, vD_fn, vD_isl, vL_dat, vL_app, viewL, avA, datsOf, fillA, seval, ↓List.forall_mem_cons, Op.operands, hP, hG, tiA, hE]
    all_goals try (first | done | rfl | trivial)

end Go.Proofs.YtabjaaonfaejmaaGreatDoor

namespace Go.Proofs.YtabjaaonfaejmaaGreatDoor
open Go.Av


set_option maxRecDepth 100000 in
set_option maxHeartbeats 1000000 in
theorem rsum_ok (G) (hgk : G.lookup 0 = some (wsD kH)) (b : List Int) (hib : isB b) (hl : b.length ≤ 1099511627776) : Gives Tryz.prog G 80 [u8sD b] [bsD (sumM b)] := by
  have hm0 := padM_64 b
  have hml := padM_len b
  have hmz := zerosM_rng b.length
  have hmb := isB_pad hib
  obtain ⟨n, hn⟩ : ∃ n : Nat, (padM b).length = 64 * n := ⟨(padM b).length / 64, by omega⟩
  skip
  refine gives_intro [] [] [] Tryz.func80 rfl (by rfl) (by simp [Tryz.ntmps80]) fun F hP hG hN hR => ?_
  rw [Tryz.ntmps80] at hN
  have hA := And.intro hN (And.intro hP (And.intro hG (And.intro hR.1 (And.intro hR.2.1 hR.2.2.1))))
  have hE := And.intro @Tryz.results80 (And.intro @hgk (And.intro @flat_ws (And.intro @len_ws (And.intro @len_bs (And.intro @kH_len (And.intro @schM_len (And.intro @ds_ws (And.intro @ds_bs (And.intro @Int.toNat_natCast (And.intro @bw_xor (And.intro @bw_xor1 (And.intro @bw_and (And.intro @bw_add (And.intro @bw_shr (And.intro @bw_out (And.intro @u8_take (And.intro @u8_drop (@hn))))))))))))))))))
  refine WS [0, 2] [2] ?_
  refine WS [0, 2, 3] [2, 3] ?_
  have hc := gvF hP hG (padded_ok G b hl)
  refine WSc [2, 3, 4] [2, 3] ?_
  apply aw_seq
  refine WS [2, 3, 4, 5] [2, 3] ?_
  apply aw_block
  refine WL (ι := {k : Nat // k ≤ n}) [2, 3, 4] [2] (fun ⟨k, hk⟩ => [(5, .dat (iD ((64 * k : Nat) : Int)))]) (fun ⟨k, hk⟩ => [(3, ⟨8, [.dat (s8D (blocksM iv8 (padM b) k))]⟩)]) (fun ⟨k, hk⟩ => n - k) (⟨0, by omega⟩) ?_
  rintro ⟨k, hk⟩
  dsimp only [List.cons_append, List.nil_append]
  apply aw_seq
  refine WS [2, 3, 4, 5, 26] [2, 3] ?_
  refine WI (fun hb => ?_) (fun hb => ?_)
  · skip
    have hk64 : 64 * k + 64 ≤ (padM b).length := by omega
    have h64 : IntKind.i64.wrap (((64 * k : Nat) : Int) + 64) = ((64 * k + 64 : Nat) : Int) := by rw [IntWalk.i64_in _ (by omega)]; omega
    have h64b : ((64 * k + 64 : Nat) : Int) = ((64 * (k + 1) : Nat) : Int) := by omega
    have hE := And.intro hE (And.intro (blk_eq (padM b) k) h64)
    apply aw_skip
    apply q_seq
    apply aw_seq
    apply aw_block
    have hc := gvF hP hG (hwords_ok G (blkM (padM b) k) (isB_blk hmb k) (blk_len hk64))
    refine WSc [2, 3, 4, 5, 6] [2, 3, 6] ?_
    refine WD [2, 3, 4, 5, 6, 7, 8, 9, 10, 11, 12, 13, 14] [2, 3, 6] [0, 1, 2, 3, 4, 5, 6, 7, 8, 9, 10, 11, 12, 13, 14, 15, 16, 17, 18, 19, 20, 21, 22, 23] [] ?_
    apply aw_seq
    have hE := And.intro hE (roundsM.eq_1 (schM (blkM (padM b) k) 64) (blocksM iv8 (padM b) k))
    refine WS [2, 3, 4, 5, 6, 7, 8, 9, 10, 11, 12, 13, 14, 15] [2, 3, 6] ?_
    apply aw_block
    refine WL (ι := {t : Nat // t ≤ 64}) [2, 3, 4, 5, 6] [2, 3, 6] (fun ⟨t, ht⟩ => [(15, .dat (iD t)), (7, .dat (wD (roundsM (schM (blkM (padM b) k) 64) (blocksM iv8 (padM b) k) t).a)), (8, .dat (wD (roundsM (schM (blkM (padM b) k) 64) (blocksM iv8 (padM b) k) t).b)), (9, .dat (wD (roundsM (schM (blkM (padM b) k) 64) (blocksM iv8 (padM b) k) t).c)), (10, .dat (wD (roundsM (schM (blkM (padM b) k) 64) (blocksM iv8 (padM b) k) t).d)), (11, .dat (wD (roundsM (schM (blkM (padM b) k) 64) (blocksM iv8 (padM b) k) t).e)), (12, .dat (wD (roundsM (schM (blkM (padM b) k) 64) (blocksM iv8 (padM b) k) t).f)), (13, .dat (wD (roundsM (schM (blkM (padM b) k) 64) (blocksM iv8 (padM b) k) t).g)), (14, .dat (wD (roundsM (schM (blkM (padM b) k) 64) (blocksM iv8 (padM b) k) t).h))]) (fun ⟨t, ht⟩ => []) (fun ⟨t, ht⟩ => 64 - t) (⟨0, by omega⟩) ?_
    rintro ⟨t, ht⟩
    dsimp only [List.cons_append, List.nil_append]
    apply aw_seq
    refine WS [2, 3, 4, 5, 6, 7, 8, 9, 10, 11, 12, 13, 14, 15, 52] [2, 3, 6] ?_
    refine WI (fun hb => ?_) (fun hb => ?_)
    · skip
      have hk := get_ws kH t (by rw [kH_len]; omega)
      have hw := get_ws (schM (blkM (padM b) k) 64) t (by rw [schM_len]; omega)
      have hE := And.intro hE (And.intro hk (And.intro hw (And.intro (roundsM.eq_2 (schM (blkM (padM b) k) 64) (blocksM iv8 (padM b) k) t) (And.intro rm_a (And.intro rm_b (And.intro rm_c (And.intro rm_d (And.intro rm_e (And.intro rm_f (And.intro rm_g (And.intro rm_h (And.intro xM.eq_1 (And.intro yM.eq_1 (And.intro bs0.eq_1 bs1.eq_1))))))))))))))
      apply aw_skip
      apply q_seq
      apply aw_seq
      apply aw_block
      apply aw_rgds [2, 3, 4, 5, 6, 7, 8, 9, 10, 11, 12, 13, 15, 16] [2, 3, 6] [0, 1, 2, 3, 4, 5, 6, 7, 8, 9, 10, 11, 12, 13, 14, 15, 16, 17, 18, 19, 20, 21, 22, 23, 24, 25, 26, 27] []
      · rw [hP]; kernel_rfl
      · exact hR
      · kernel_rfl
      · (repeat (apply PickL.cons; exact rfl)); exact PickL.nil _
      · simp (maxSteps := 2000000) (disch := omega) only [avR2, avA, datsOf, fillA, seval, ↓List.forall_mem_cons, Op.operands, hA, tiA, hE]
        (repeat' refine And.intro ?_ ?_) <;> try exact SD
        refine CallC.use (gvF hP hG (rotr_c G _ 6 6 rfl (by omega))) rfl ?_
        try simp (maxSteps := 2000000) (disch := omega) only [avR2, avA, datsOf, fillA, seval, ↓List.forall_mem_cons, Op.operands, hA, tiA, hE]
        (repeat' refine And.intro ?_ ?_) <;> try exact SD
        refine CallC.use (gvF hP hG (rotr_c G _ 11 11 rfl (by omega))) rfl ?_
        try simp (maxSteps := 2000000) (disch := omega) only [avR2, avA, datsOf, fillA, seval, ↓List.forall_mem_cons, Op.operands, hA, tiA, hE]
        (repeat' refine And.intro ?_ ?_) <;> try exact SD
        refine CallC.use (gvF hP hG (rotr_c G _ 25 25 rfl (by omega))) rfl ?_
        try simp (maxSteps := 2000000) (disch := omega) only [avR2, avA, datsOf, fillA, seval, ↓List.forall_mem_cons, Op.operands, hA, tiA, hE]
        exact SC
      apply aw_regs [2, 3, 4, 5, 6, 7, 8, 9, 10, 11, 12, 13, 15, 16, 17] [2, 3, 6]
      · simp (maxSteps := 2000000) (disch := omega) only [avR2, avA, datsOf, fillA, seval, ↓List.forall_mem_cons, Op.operands, hA, tiA, hE]
        (repeat' refine And.intro ?_ ?_) <;> try exact SD
        refine CallC.use (gvF hP hG (rotr_c G _ 2 2 rfl (by omega))) rfl ?_
        try simp (maxSteps := 2000000) (disch := omega) only [avR2, avA, datsOf, fillA, seval, ↓List.forall_mem_cons, Op.operands, hA, tiA, hE]
        (repeat' refine And.intro ?_ ?_) <;> try exact SD
        refine CallC.use (gvF hP hG (rotr_c G _ 13 13 rfl (by omega))) rfl ?_
        try simp (maxSteps := 2000000) (disch := omega) only [avR2, avA, datsOf, fillA, seval, ↓List.forall_mem_cons, Op.operands, hA, tiA, hE]
        (repeat' refine And.intro ?_ ?_) <;> try exact SD
        refine CallC.use (gvF hP hG (rotr_c G _ 22 22 rfl (by omega))) rfl ?_
        try simp (maxSteps := 2000000) (disch := omega) only [avR2, avA, datsOf, fillA, seval, ↓List.forall_mem_cons, Op.operands, hA, tiA, hE]
        exact SC
      refine WS [2, 3, 4, 5, 6, 7, 8, 9, 10, 11, 12, 14, 15, 16, 17] [2, 3, 6] ?_
      refine WS [2, 3, 4, 5, 6, 7, 8, 9, 10, 11, 13, 14, 15, 16, 17] [2, 3, 6] ?_
      refine WS [2, 3, 4, 5, 6, 7, 8, 9, 10, 12, 13, 14, 15, 16, 17] [2, 3, 6] ?_
      refine WS [2, 3, 4, 5, 6, 7, 8, 9, 11, 12, 13, 14, 15, 16, 17] [2, 3, 6] ?_
      refine WS [2, 3, 4, 5, 6, 7, 8, 10, 11, 12, 13, 14, 15, 16, 17] [2, 3, 6] ?_
      refine WS [2, 3, 4, 5, 6, 7, 9, 10, 11, 12, 13, 14, 15, 16, 17] [2, 3, 6] ?_
      refine WS [2, 3, 4, 5, 6, 8, 9, 10, 11, 12, 13, 14, 15, 16, 17] [2, 3, 6] ?_
      refine WQ [2, 3, 4, 5, 6, 7, 8, 9, 10, 11, 12, 13, 14, 15] [2, 3, 6] ?_
      apply q_block
      apply q_seq
      refine WQ [2, 3, 4, 5, 6, 7, 8, 9, 10, 11, 12, 13, 14, 15] [2, 3, 6] ?_
      refine WN (⟨t + 1, by omega⟩)
    · skip
      apply aw_exit
      apply q_exit_seq
      have hend : t = 64 := by omega
      subst hend
      apply q_exit_loop
      apply q_exit
      apply q_seq
      have hE := And.intro hE (And.intro (blocksM.eq_2 iv8 (padM b) k) (And.intro compM.eq_1 (And.intro addS.eq_1 h64b)))
      refine WQ [2, 3, 4, 5] [2, 3] ?_
      apply q_block
      apply q_seq
      refine WQ [2, 3, 4, 5] [2, 3] ?_
      refine WN (⟨k + 1, by omega⟩)
  · skip
    apply aw_exit
    apply q_exit_seq
    have hend : k = n := by omega
    subst hend
    apply q_exit_loop
    apply q_exit
    apply q_seq
    refine WS [2, 3, 18] [2, 3, 18] ?_
    apply aw_seq
    rw [y32_D, sL_D]
    have hfin : bsD (outL (blocksM iv8 (padM b) k) 32) = bsD (sumM b) := by rw [outL_32]; unfold sumM; rw [hn, Nat.mul_div_cancel_left _ (by omega)]
    have hsl : (sL (blocksM iv8 (padM b) k)).length = 8 := rfl
    have hE := And.intro hE (And.intro hsl (outL_len (blocksM iv8 (padM b) k)))
    refine WS [2, 3, 18, 19] [2, 3, 18] ?_
    apply aw_block
    refine WL (ι := {i : Nat // i ≤ 32}) [2, 3, 18] [2, 3] (fun ⟨i, hi⟩ => [(19, .dat (iD i))]) (fun ⟨i, hi⟩ => [(18, ⟨32, [.dat (bsD (outL (blocksM iv8 (padM b) k) i))]⟩)]) (fun ⟨i, hi⟩ => 32 - i) (⟨0, by omega⟩) ?_
    rintro ⟨i, hi⟩
    dsimp only [List.cons_append, List.nil_append]
    apply aw_seq
    refine WS [2, 3, 18, 19, 148] [2, 3, 18] ?_
    refine WI (fun hb => ?_) (fun hb => ?_)
    · skip
      have q1 : IntKind.i64.wrap ((i : Int).tdiv 4) = ((i / 4 : Nat) : Int) := by rw [Int.tdiv_eq_ediv_of_nonneg (by omega), IntWalk.i64_in _ (by omega)]; omega
      have q2 : (i : Int).tmod 4 = ((i % 4 : Nat) : Int) := by rw [Int.tmod_eq_emod_of_nonneg (by omega)]; omega
      have q3 : IntKind.i64.wrap (8 * ((i % 4 : Nat) : Int)) = ((8 * (i % 4) : Nat) : Int) := by rw [IntWalk.i64_in _ (by omega)]; omega
      have q4 : IntKind.i64.wrap (24 - ((8 * (i % 4) : Nat) : Int)) = ((24 - 8 * (i % 4) : Nat) : Int) := by rw [IntWalk.i64_in _ (by omega)]; omega
      have g1 := get_ws (sL (blocksM iv8 (padM b) k)) (i / 4) (by rw [hsl]; omega)
      have t1 := set_bs (outL (blocksM iv8 (padM b) k) i) i (by rw [outL_len]; omega)
      have hE := And.intro hE (And.intro q1 (And.intro q2 (And.intro q3 (And.intro q4 (And.intro g1 (And.intro t1 (And.intro (outL.eq_2 (blocksM iv8 (padM b) k) i) (outB.eq_1 (blocksM iv8 (padM b) k) i))))))))
      apply aw_skip
      apply q_seq
      apply aw_seq
      apply aw_block
      refine WQ [2, 3, 18, 19] [2, 3, 18] ?_
      apply q_block
      apply q_seq
      refine WQ [2, 3, 18, 19] [2, 3, 18] ?_
      refine WN (⟨i + 1, by omega⟩)
    · skip
      apply aw_exit
      apply q_exit_seq
      have hend : i = 32 := by omega
      subst hend
      apply q_exit_loop
      apply q_exit
      apply q_seq
      rw [hfin]
      refine WS [2] [2] ?_
      apply aw_ret
      simp only [QRet, QRetM, QRetX, retsX_nil, retsX_cons, objsAre, resA, mapO_nil, mapO_cons, vD_dat, vD_nils, vD_rp, vD_osl, vD_ptr, vD_agg, vD_fn, vD_isl, vL_dat, vL_app, viewL, avA, datsOf, fillA, seval, ↓List.forall_mem_cons, Op.operands, hP, hG, tiA, hE]
      all_goals try (first | done | rfl | trivial)

end Go.Proofs.YtabjaaonfaejmaaGreatDoor

namespace Go.Proofs.YtabjaaonfaejmaaGreatDoor
open Go.Av


set_option maxRecDepth 100000 in
set_option maxHeartbeats 1000000 in
theorem padKey_okX (G) (hgk : G.lookup 0 = some (wsD kH)) (s : ByteArray) (c : Int) (hs : s.size ≤ 1099511627776) : GivesX Tryz.prog G 78 [.dat (.str s), .dat (.int .u8 c)] [] [.osl 33 1 0 64] [(33, ⟨1, ((pkL s c 64).map u8D).map .dat⟩)] := by
  have hkl := keyS_len s
  have hsb : (strB s).length = s.size := strB_len s
  skip
  refine gives_introX' [] [] [] Tryz.func78 rfl (by rfl) (by simp [Tryz.ntmps78]) (by kernel_rfl) (by simp [onlyL_nil, onlyL_cons, AV.only, inIds]) (by simp only [onlyOs, onlyL_nil, onlyL_cons, onlyL_append, onlyL_dats, onlyL_row, AV.only, Bool.and_true] <;> simp [inIds]) fun F hP hG hN hR => ?_
  rw [Tryz.ntmps78] at hN
  have hA := And.intro hN (And.intro hP (And.intro hG (And.intro hR.1 (And.intro hR.2.1 hR.2.2.1))))
  have hE := @Tryz.results78
  refine WS [0, 1] [33] ?_
  refine WS [0, 1, 5] [33] ?_
  refine aw_meet (.of [(1, .dat (.int .u8 c)), (5, .dat (.str (keyS s)))] []) ?_ ?_
  · skip
    refine WS [0, 1, 5, 12] [33] ?_
    refine WI (fun hb => ?_) (fun hb => ?_)
    · skip
      have hk : keyS s = bstr (sumM (strB s)) := by unfold keyS; rw [if_pos (by omega)]
      have hE := And.intro hE hk
      refine aw_list ?_
      apply al_seg
      · (iterate 1 apply Seg.cons); exact Seg.nil _
      · simp (maxSteps := 2000000) (disch := omega) only [avR2, avA, datsOf, fillA, seval, ↓List.forall_mem_cons, Op.operands, hA, tiA, hE, KeptS]
        exact SC
      refine al_step rfl (conv_sb_ok rfl rfl (by rw [hN]; omega) (by rw [hP]; exact ti9) (by rw [hP]; exact ti47) rfl (by rw [hP]; exact ti5) rfl rfl) ?_
      rw [of_put]
      apply al_last [1, 5] [33]
      · simp (maxSteps := 2000000) (disch := omega) only [avR2, avA, datsOf, fillA, seval, ↓List.forall_mem_cons, Op.operands, hA, tiA, hE]
        (repeat' refine And.intro ?_ ?_) <;> try exact SD
        refine CallC.use (gvF hP hG (rsum_ok G hgk (strB s) (isB_str s) (by omega))) rfl ?_
        try simp (maxSteps := 2000000) (disch := omega) only [avR2, avA, datsOf, fillA, seval, ↓List.forall_mem_cons, Op.operands, hA, tiA, hE]
        (repeat' refine And.intro ?_ ?_) <;> try exact SD
        refine CallC.use (gvF hP hG (bytes32_ok G (sumM (strB s)) (sumM_len _))) rfl ?_
        try simp (maxSteps := 2000000) (disch := omega) only [avR2, avA, datsOf, fillA, seval, ↓List.forall_mem_cons, Op.operands, hA, tiA, hE]
        exact SC
      refine Le.of ?_ ?_
      · try simp (disch := omega) only [LeE, LeO, avA, datsOf, fillA, seval, ↓List.forall_mem_cons, Op.operands, hE]
        all_goals first | done | (repeat' apply And.intro) <;> first | rfl | omega | assumption | (simp only [AV.dat.injEq, Dat.int.injEq, true_and]; omega) | (congr <;> omega)
      · try simp (disch := omega) only [LeE, LeO, avA, datsOf, fillA, seval, ↓List.forall_mem_cons, Op.operands, hE]
        all_goals first | done | (repeat' apply And.intro) <;> first | rfl | omega | assumption | (simp only [AV.dat.injEq, Dat.int.injEq, true_and]; omega) | (congr <;> omega)
    · skip
      have hk : keyS s = s := by unfold keyS; rw [if_neg (by omega)]
      have hE := And.intro hE hk
      apply aw_skip
      refine Le.of ?_ ?_
      · try simp (disch := omega) only [LeE, LeO, avA, datsOf, fillA, seval, ↓List.forall_mem_cons, Op.operands, hE]
        all_goals first | done | (repeat' apply And.intro) <;> first | rfl | omega | assumption | (simp only [AV.dat.injEq, Dat.int.injEq, true_and]; omega) | (congr <;> omega)
      · try simp (disch := omega) only [LeE, LeO, avA, datsOf, fillA, seval, ↓List.forall_mem_cons, Op.operands, hE]
        all_goals first | done | (repeat' apply And.intro) <;> first | rfl | omega | assumption | (simp only [AV.dat.injEq, Dat.int.injEq, true_and]; omega) | (congr <;> omega)
  refine WS [1, 5, 6] [32, 33] ?_
  apply aw_seq
  refine WS [1, 5, 6, 7] [32, 33] ?_
  apply aw_block
  refine aw_new0 33 1 (by omega) ?_
  refine aw_nilE 6 33 1 rfl rfl ?_
  refine WL (ι := {i : Nat // i ≤ 64}) [1, 5] [32] (fun ⟨i, hi⟩ => [(6, .osl 33 1 0 i), (7, .dat (iD i))]) (fun ⟨i, hi⟩ => [(33, ⟨1, ((pkL s c i).map u8D).map .dat⟩)]) (fun ⟨i, hi⟩ => 64 - i) (⟨0, by omega⟩) ?_
  rintro ⟨i, hi⟩
  dsimp only [List.cons_append, List.nil_append]
  have hpl := pkL_len s c i
  have hE := And.intro hE (And.intro hpl (And.intro (pkL.eq_2 s c i) (xorB.eq_1 (kbM s i) c)))
  apply aw_seq
  refine WS [1, 5, 6, 7, 18] [32, 33] ?_
  refine WI (fun hb => ?_) (fun hb => ?_)
  · skip
    apply aw_skip
    apply q_seq
    apply aw_seq
    apply aw_block
    refine WS [1, 5, 6, 7, 8] [32, 33] ?_
    refine aw_meet (.of [(1, .dat (.int .u8 c)), (5, .dat (.str (keyS s))), (6, .osl 33 1 0 i), (7, .dat (iD i)), (8, .dat (.int .u8 (kbM s i)))] [(33, ⟨1, ((pkL s c i).map u8D).map .dat⟩)]) ?_ ?_
    · skip
      refine WS [1, 5, 6, 7, 8, 24] [32, 33] ?_
      refine WI (fun hb => ?_) (fun hb => ?_)
      · skip
        have hv : kbM s i = byteAt (keyS s) i := by unfold kbM; rw [if_pos (by omega)]
        have hE := And.intro hE hv
        refine WQ [1, 5, 6, 7, 8] [32, 33] ?_
        refine Le.of ?_ ?_
        · try simp (disch := omega) only [LeE, LeO, avA, datsOf, fillA, seval, ↓List.forall_mem_cons, Op.operands, hE]
          all_goals first | done | (repeat' apply And.intro) <;> first | rfl | omega | assumption | (simp only [AV.dat.injEq, Dat.int.injEq, true_and]; omega) | (congr <;> omega)
        · try simp (disch := omega) only [LeE, LeO, avA, datsOf, fillA, seval, ↓List.forall_mem_cons, Op.operands, hE]
          all_goals first | done | (repeat' apply And.intro) <;> first | rfl | omega | assumption | (simp only [AV.dat.injEq, Dat.int.injEq, true_and]; omega) | (congr <;> omega)
      · skip
        have hv : kbM s i = 0 := by unfold kbM; rw [if_neg (by omega)]
        have hE := And.intro hE hv
        apply aw_skip
        refine Le.of ?_ ?_
        · try simp (disch := omega) only [LeE, LeO, avA, datsOf, fillA, seval, ↓List.forall_mem_cons, Op.operands, hE]
          all_goals first | done | (repeat' apply And.intro) <;> first | rfl | omega | assumption | (simp only [AV.dat.injEq, Dat.int.injEq, true_and]; omega) | (congr <;> omega)
        · try simp (disch := omega) only [LeE, LeO, avA, datsOf, fillA, seval, ↓List.forall_mem_cons, Op.operands, hE]
          all_goals first | done | (repeat' apply And.intro) <;> first | rfl | omega | assumption | (simp only [AV.dat.injEq, Dat.int.injEq, true_and]; omega) | (congr <;> omega)
    refine WQ [1, 5, 6, 7] [32, 33] ?_
    apply q_block
    apply q_seq
    refine WQ [1, 5, 6, 7] [32, 33] ?_
    refine WN (⟨i + 1, by omega⟩)
  · skip
    apply aw_exit
    apply q_exit_seq
    have hend : i = 64 := by omega
    subst hend
    apply q_exit_loop
    apply q_exit
    apply q_seq
    refine WS [4] [32, 33] ?_
    apply aw_ret
    simp only [QRet, QRetM, QRetX, retsX_nil, retsX_cons, objsAre, resA, mapO_nil, mapO_cons, vD_dat, vD_nils, vD_rp, vD_osl, vD_ptr, vD_agg, vD_fn, vD_isl, vL_dat, vL_app, viewL, avA, datsOf, fillA, seval, ↓List.forall_mem_cons, Op.operands, hP, hG, tiA, hE]
    all_goals try (first | done | rfl | trivial)

end Go.Proofs.YtabjaaonfaejmaaGreatDoor

namespace Go.Proofs.YtabjaaonfaejmaaGreatDoor
open Go.Av

def v4 (s : S8) : AV := .dat (.agg [wD s.a, wD s.b, wD s.c, wD s.d])
def e4 (s : S8) : AV := .dat (.agg [wD s.e, wD s.f, wD s.g, wD s.h])
def z4 : AV := .dat (.agg [.int .u32 0, .int .u32 0, .int .u32 0, .int .u32 0])
def cEv (s : S8) : List (Nat × Nat × AV) := [(0, 15, .isl 2 8 0 0 4 8), (1, 16, .ptr 2 8 0 0), (2, 17, v4 s), (3, 18, .isl 2 8 0 4 4 4), (4, 19, .ptr 2 8 0 4), (5, 20, e4 s), (6, 6, .ptr 6 4 0 0), (7, 7, .ptr 7 4 0 0)]
def cOv (s : S8) : List (Nat × Nat × AObj) := [(8, 6, ⟨4, [v4 s]⟩), (9, 7, ⟨4, [e4 s]⟩), (6, 6, ⟨4, [z4]⟩), (7, 7, ⟨4, [z4]⟩)]
theorem mix6 (G) (x : W32) : Gives Tryz.prog G 114 [wD x, iD 6, iD 11, iD 25] [wD (bs1 x)] := mix_ok G x 6 11 25 (by omega) (by omega) (by omega)
theorem mix2 (G) (x : W32) : Gives Tryz.prog G 114 [wD x, iD 2, iD 13, iD 22] [wD (bs0 x)] := mix_ok G x 2 13 22 (by omega) (by omega) (by omega)

set_option maxRecDepth 100000 in
set_option maxHeartbeats 1000000 in
theorem compress_ok (G) (hgk : G.lookup 1 = some (wsD kH)) (s : S8) (b : List Int) (hib : isB b) (hl : b.length = 64) : Gives Tryz.prog G 81 [s8D s, u8sD b] [s8D (compM s b)] := by
  skip
  refine gives_intro [] [] [] Tryz.func81 rfl (by rfl) (by simp [Tryz.ntmps81]) fun F hP hG hN hR => ?_
  rw [Tryz.ntmps81] at hN
  have hA := And.intro hN (And.intro hP (And.intro hG (And.intro hR.1 (And.intro hR.2.1 hR.2.2.1))))
  have hE := And.intro @Tryz.results81 (And.intro @hgk (And.intro @flat_ws (And.intro @len_ws (And.intro @kH_len (And.intro @schM_len (And.intro @ds_ws (And.intro @Int.toNat_natCast (And.intro @bw_xor (And.intro @bw_and (And.intro @bw_not (@bw_add)))))))))))
  refine WS [1, 2, 4] [2, 4] ?_
  have hc := gvF hP hG (schedule_ok G b hib hl)
  refine WSc [2, 4, 5] [2, 4, 5] ?_
  refine aw_invs [2, 4, 5, 6, 7] [2, 4, 5, 6, 7] (jD (cEv s) (cOv s)) (e := [(2, .ptr 2 8 0 0), (4, .ptr 4 8 0 0), (5, .ptr 5 64 0 0), (6, .ptr 6 4 0 0), (7, .ptr 7 4 0 0)]) (o := [(2, ⟨8, [.dat (s8D s)]⟩), (4, ⟨8, [.dat (.agg [.int .u32 0, .int .u32 0, .int .u32 0, .int .u32 0, .int .u32 0, .int .u32 0, .int .u32 0, .int .u32 0])]⟩), (5, ⟨64, [.dat (wsD (schM b 64))]⟩), (6, ⟨4, [.dat (.agg [wD s.a, wD s.b, wD s.c, wD s.d])]⟩), (7, ⟨4, [.dat (.agg [wD s.e, wD s.f, wD s.g, wD s.h])]⟩)]) (by rw [hP]; kernel_rfl) (by kernel_rfl) (by kernel_rfl) ?_ (fun D hD => jD_none (by simp only [cEv, List.forall_mem_cons]; simp [hD]) (by simp only [cOv, List.forall_mem_cons]; simp [hD])) ⟨rfl, rfl⟩ ?_
  · intro D i' o ho hD hdep hcd
    have fix6 := of_fix (id := 6) (e := [(2, .ptr 2 8 0 0), (4, .ptr 4 8 0 0), (5, .ptr 5 64 0 0)]) (o := [(2, ⟨8, [.dat (s8D s)]⟩), (4, ⟨8, [.dat (.agg [.int .u32 0, .int .u32 0, .int .u32 0, .int .u32 0, .int .u32 0, .int .u32 0, .int .u32 0, .int .u32 0])]⟩), (5, ⟨64, [.dat (wsD (schM b 64))]⟩)]) (by simp [AV.kill]) (by simp [AV.kill])
    have fix7 := of_fix (id := 7) (e := [(2, .ptr 2 8 0 0), (4, .ptr 4 8 0 0), (5, .ptr 5 64 0 0)]) (o := [(2, ⟨8, [.dat (s8D s)]⟩), (4, ⟨8, [.dat (.agg [.int .u32 0, .int .u32 0, .int .u32 0, .int .u32 0, .int .u32 0, .int .u32 0, .int .u32 0, .int .u32 0])]⟩), (5, ⟨64, [.dat (wsD (schM b 64))]⟩)]) (by simp [AV.kill]) (by simp [AV.kill])
    generalize hst : ASt.of _ _ = st0 at fix6 fix7 ⊢
    have s2 : st0.env 2 = .ptr 2 8 0 0 := by rw [← hst]; rfl
    have o2 : st0.objs 2 = some ⟨8, [.dat (s8D s)]⟩ := by rw [← hst]; rfl
    clear hst
    have hi10 : i' < 10 := (List.getElem?_eq_some_iff.1 ho).1
    have hcs : i' = 0 ∨ i' = 1 ∨ i' = 2 ∨ i' = 3 ∨ i' = 4 ∨ i' = 5 ∨ i' = 6 ∨ i' = 7 ∨ i' = 8 ∨ i' = 9 := by omega
    rcases hcs with rfl | rfl | rfl | rfl | rfl | rfl | rfl | rfl | rfl | rfl
    · simp only [List.getElem?_cons_zero, List.getElem?_cons_succ, Option.some.injEq] at ho
      subst ho
      have f0 : (jD (cEv s) (cOv s) st0 D).env 2 = .ptr 2 8 0 0 := (jD_env_off (by simp [cEv])).trans s2
      rw [← jD_put (i := 0) (d := 15) (v := .isl 2 8 0 0 4 8) (by simp [cEv]) (by simp [cEv]) (by simp [cEv]) (by simp [cOv])]
      generalize jD (cEv s) (cOv s) st0 D = st1 at *
      refine step_run (ops := #[]) rfl ?_
      simp (maxSteps := 2000000) (disch := omega) only [avR2, avA, datsOf, fillA, seval, ↓List.forall_mem_cons, Op.operands, hA, tiA, hE, f0]
      all_goals exact SC
    · simp only [List.getElem?_cons_zero, List.getElem?_cons_succ, Option.some.injEq] at ho
      subst ho
      have f0 : (jD (cEv s) (cOv s) st0 D).env 15 = .isl 2 8 0 0 4 8 := jD_env_get (i := 0) (hdep ⟨0, .data⟩ (by simp) rfl) (by simp [cEv]) (by simp [cEv])
      rw [← jD_put (i := 1) (d := 16) (v := .ptr 2 8 0 0) (by simp [cEv]) (by simp [cEv]) (by simp [cEv]) (by simp [cOv])]
      generalize jD (cEv s) (cOv s) st0 D = st1 at *
      refine step_run (ops := #[]) rfl ?_
      simp (maxSteps := 2000000) (disch := omega) only [avR2, avA, datsOf, fillA, seval, ↓List.forall_mem_cons, Op.operands, hA, tiA, hE, f0]
      all_goals exact SC
    · simp only [List.getElem?_cons_zero, List.getElem?_cons_succ, Option.some.injEq] at ho
      subst ho
      have f0 : (jD (cEv s) (cOv s) st0 D).env 16 = .ptr 2 8 0 0 := jD_env_get (i := 1) (hdep ⟨1, .data⟩ (by simp) rfl) (by simp [cEv]) (by simp [cEv])
      have f1 : (jD (cEv s) (cOv s) st0 D).objs 2 = some ⟨8, [.dat (s8D s)]⟩ := (jD_obj_off (by simp [cOv])).trans o2
      have f2 := v4.eq_1 s
      rw [← jD_put (i := 2) (d := 17) (v := v4 s) (by simp [cEv]) (by simp [cEv]) (by simp [cEv]) (by simp [cOv])]
      generalize jD (cEv s) (cOv s) st0 D = st1 at *
      refine step_run (ops := #[]) rfl ?_
      simp (maxSteps := 2000000) (disch := omega) only [avR2, avA, datsOf, fillA, seval, ↓List.forall_mem_cons, Op.operands, hA, tiA, hE, f0, f1, f2]
      all_goals exact SC
    · simp only [List.getElem?_cons_zero, List.getElem?_cons_succ, Option.some.injEq] at ho
      subst ho
      have f0 : (jD (cEv s) (cOv s) st0 D).env 2 = .ptr 2 8 0 0 := (jD_env_off (by simp [cEv])).trans s2
      rw [← jD_put (i := 3) (d := 18) (v := .isl 2 8 0 4 4 4) (by simp [cEv]) (by simp [cEv]) (by simp [cEv]) (by simp [cOv])]
      generalize jD (cEv s) (cOv s) st0 D = st1 at *
      refine step_run (ops := #[]) rfl ?_
      simp (maxSteps := 2000000) (disch := omega) only [avR2, avA, datsOf, fillA, seval, ↓List.forall_mem_cons, Op.operands, hA, tiA, hE, f0]
      all_goals exact SC
    · simp only [List.getElem?_cons_zero, List.getElem?_cons_succ, Option.some.injEq] at ho
      subst ho
      have f0 : (jD (cEv s) (cOv s) st0 D).env 18 = .isl 2 8 0 4 4 4 := jD_env_get (i := 3) (hdep ⟨3, .data⟩ (by simp) rfl) (by simp [cEv]) (by simp [cEv])
      rw [← jD_put (i := 4) (d := 19) (v := .ptr 2 8 0 4) (by simp [cEv]) (by simp [cEv]) (by simp [cEv]) (by simp [cOv])]
      generalize jD (cEv s) (cOv s) st0 D = st1 at *
      refine step_run (ops := #[]) rfl ?_
      simp (maxSteps := 2000000) (disch := omega) only [avR2, avA, datsOf, fillA, seval, ↓List.forall_mem_cons, Op.operands, hA, tiA, hE, f0]
      all_goals exact SC
    · simp only [List.getElem?_cons_zero, List.getElem?_cons_succ, Option.some.injEq] at ho
      subst ho
      have f0 : (jD (cEv s) (cOv s) st0 D).env 19 = .ptr 2 8 0 4 := jD_env_get (i := 4) (hdep ⟨4, .data⟩ (by simp) rfl) (by simp [cEv]) (by simp [cEv])
      have f1 : (jD (cEv s) (cOv s) st0 D).objs 2 = some ⟨8, [.dat (s8D s)]⟩ := (jD_obj_off (by simp [cOv])).trans o2
      have f2 := e4.eq_1 s
      rw [← jD_put (i := 5) (d := 20) (v := e4 s) (by simp [cEv]) (by simp [cEv]) (by simp [cEv]) (by simp [cOv])]
      generalize jD (cEv s) (cOv s) st0 D = st1 at *
      refine step_run (ops := #[]) rfl ?_
      simp (maxSteps := 2000000) (disch := omega) only [avR2, avA, datsOf, fillA, seval, ↓List.forall_mem_cons, Op.operands, hA, tiA, hE, f0, f1, f2]
      all_goals exact SC
    · simp only [List.getElem?_cons_zero, List.getElem?_cons_succ, Option.some.injEq] at ho
      subst ho
      have d8 : D 8 = false := by
        cases h8 : D 8
        · rfl
        · have := hcd 8 _ rfl h8 ⟨6, .data⟩ (by simp) rfl
          rw [hD] at this; cases this
      rw [← jD_both (i := 6) (d := 6) (id := 6) (v := .ptr 6 4 0 0) (o := ⟨4, [z4]⟩) (by simp [cEv]) (by simp [cEv]) (by simp [cEv]) (by simp [cOv, objOK, d8])]
      rw [← kill_obj (jD_fix fix6 (by simp [cEv, v4, e4, AV.kill, hD]) (by simp [cOv, v4, e4, z4, AV.kill]))]
      exact alloc_ok (i := { size := 4, bytes := 16, zero := some [.dat (.int .u32 0), .dat (.int .u32 0), .dat (.int .u32 0), .dat (.int .u32 0)], tk := .array 4 79 }) (z := z4) rfl rfl (by rw [hN]; omega) (by rw [hP]; exact ti160) rfl rfl rfl
    · simp only [List.getElem?_cons_zero, List.getElem?_cons_succ, Option.some.injEq] at ho
      subst ho
      have d8 : D 9 = false := by
        cases h8 : D 9
        · rfl
        · have := hcd 9 _ rfl h8 ⟨7, .data⟩ (by simp) rfl
          rw [hD] at this; cases this
      rw [← jD_both (i := 7) (d := 7) (id := 7) (v := .ptr 7 4 0 0) (o := ⟨4, [z4]⟩) (by simp [cEv]) (by simp [cEv]) (by simp [cEv]) (by simp [cOv, objOK, d8])]
      rw [← kill_obj (jD_fix fix7 (by simp [cEv, v4, e4, AV.kill, hD]) (by simp [cOv, v4, e4, z4, AV.kill]))]
      exact alloc_ok (i := { size := 4, bytes := 16, zero := some [.dat (.int .u32 0), .dat (.int .u32 0), .dat (.int .u32 0), .dat (.int .u32 0)], tk := .array 4 79 }) (z := z4) rfl rfl (by rw [hN]; omega) (by rw [hP]; exact ti160) rfl rfl rfl
    · simp only [List.getElem?_cons_zero, List.getElem?_cons_succ, Option.some.injEq] at ho
      have ho2 := ho
      subst ho
      have da := hdep ⟨6, .data⟩ (by simp) rfl
      have fa : (jD (cEv s) (cOv s) st0 D).env 6 = .ptr 6 4 0 0 := jD_env_get (i := 6) da (by simp [cEv]) (by simp [cEv])
      have fv : (jD (cEv s) (cOv s) st0 D).env 17 = v4 s := jD_env_get (i := 2) (hdep ⟨2, .data⟩ (by simp) rfl) (by simp [cEv]) (by simp [cEv])
      have fo : (jD (cEv s) (cOv s) st0 D).objs 6 = some ⟨4, [z4]⟩ := by simp [jD, cOv, objD, hD, da]
      rw [← jD_obj (i := 8) (id := 6) (o := ⟨4, [v4 s]⟩) (by simp [cOv, objOK]) (by simp [cEv])]
      have he : evA (jD (cEv s) (cOv s) st0 D).env (.tmp 17) = v4 s := fv
      have e : (⟨4, [v4 s]⟩ : AObj) = ⟨4, [z4].set 0 (storeW (evA (jD (cEv s) (cOv s) st0 D).env (.tmp 17)) 0 (([z4][0]?).getD .junk))⟩ := by rw [he]; rfl
      rw [e]
      exact store_ok (ob := ⟨4, [z4]⟩) rfl rfl (by rw [hP]; exact ti160) fa fo rfl (by simp) (by rw [he]; rfl) (by rw [he]; rfl) (by simp [z4, AV.cells])
    · simp only [List.getElem?_cons_zero, List.getElem?_cons_succ, Option.some.injEq] at ho
      have ho2 := ho
      subst ho
      have da := hdep ⟨7, .data⟩ (by simp) rfl
      have fa : (jD (cEv s) (cOv s) st0 D).env 7 = .ptr 7 4 0 0 := jD_env_get (i := 7) da (by simp [cEv]) (by simp [cEv])
      have fv : (jD (cEv s) (cOv s) st0 D).env 20 = e4 s := jD_env_get (i := 5) (hdep ⟨5, .data⟩ (by simp) rfl) (by simp [cEv]) (by simp [cEv])
      have fo : (jD (cEv s) (cOv s) st0 D).objs 7 = some ⟨4, [z4]⟩ := by simp [jD, cOv, objD, hD, da]
      rw [← jD_obj (i := 9) (id := 7) (o := ⟨4, [e4 s]⟩) (by simp [cOv, objOK]) (by simp [cEv])]
      have he : evA (jD (cEv s) (cOv s) st0 D).env (.tmp 20) = e4 s := fv
      have e : (⟨4, [e4 s]⟩ : AObj) = ⟨4, [z4].set 0 (storeW (evA (jD (cEv s) (cOv s) st0 D).env (.tmp 20)) 0 (([z4][0]?).getD .junk))⟩ := by rw [he]; rfl
      rw [e]
      exact store_ok (ob := ⟨4, [z4]⟩) rfl rfl (by rw [hP]; exact ti160) fa fo rfl (by simp) (by rw [he]; rfl) (by rw [he]; rfl) (by simp [z4, AV.cells])
  apply aw_seq
  refine WS [2, 4, 5, 6, 7, 21, 22] [2, 4, 5, 6, 7] ?_
  apply aw_block
  refine WL (ι := {t : Nat // t ≤ 64}) [2, 4, 5, 6, 7, 21] [2, 4, 5] (fun ⟨t, ht⟩ => [(22, .dat (iD t))]) (fun ⟨t, ht⟩ => [(6, ⟨4, [.dat (.agg [wD (roundsM (schM b 64) s t).a, wD (roundsM (schM b 64) s t).b, wD (roundsM (schM b 64) s t).c, wD (roundsM (schM b 64) s t).d])]⟩), (7, ⟨4, [.dat (.agg [wD (roundsM (schM b 64) s t).e, wD (roundsM (schM b 64) s t).f, wD (roundsM (schM b 64) s t).g, wD (roundsM (schM b 64) s t).h])]⟩)]) (fun ⟨t, ht⟩ => 64 - t) (⟨0, by omega⟩) ?_
  rintro ⟨t, ht⟩
  dsimp only [List.cons_append, List.nil_append]
  refine WS [2, 4, 5, 6, 7, 21, 22, 23] [2, 4, 5, 6, 7] ?_
  apply aw_seq
  refine WI (fun hb => ?_) (fun hb => ?_)
  · skip
    have hk := get_ws kH t (by rw [kH_len]; omega)
    have hw := get_ws (schM b 64) t (by rw [schM_len]; omega)
    have hE := And.intro hE (And.intro hk (And.intro hw (And.intro (roundsM.eq_2 (schM b 64) s t) (And.intro rm_a (And.intro rm_b (And.intro rm_c (And.intro rm_d (And.intro rm_e (And.intro rm_f (And.intro rm_g (And.intro rm_h (And.intro xM.eq_1 yM.eq_1))))))))))))
    apply aw_skip
    apply q_seq
    apply aw_seq
    apply aw_block
    refine WS [2, 4, 5, 6, 7, 8, 9, 21, 22] [2, 4, 5, 6, 7] ?_
    apply aw_rgds [2, 4, 5, 6, 7, 10, 21, 22] [2, 4, 5, 6, 7] [0, 1, 2, 3, 4, 5, 6, 7, 8, 9, 10, 11, 12, 13, 14, 15, 16, 17, 18, 19, 20, 21, 22, 23, 24, 25] []
    · rw [hP]; kernel_rfl
    · exact hR
    · kernel_rfl
    · (repeat (apply PickL.cons; exact rfl)); exact PickL.nil _
    · simp (maxSteps := 2000000) (disch := omega) only [avR2, avA, datsOf, fillA, seval, ↓List.forall_mem_cons, Op.operands, hA, tiA, hE]
      (repeat' refine And.intro ?_ ?_) <;> try exact SD
      refine CallC.use (gvF hP hG (mix6 G _)) rfl ?_
      try simp (maxSteps := 2000000) (disch := omega) only [avR2, avA, datsOf, fillA, seval, ↓List.forall_mem_cons, Op.operands, hA, tiA, hE]
      exact SC
    apply aw_rgds [2, 4, 5, 6, 7, 10, 11, 21, 22] [2, 4, 5, 6, 7] [0, 1, 2, 3, 4, 5, 6, 7, 8, 9, 10, 11, 12, 13, 14, 15, 16, 17, 18, 19, 20, 21] []
    · rw [hP]; kernel_rfl
    · exact hR
    · kernel_rfl
    · (repeat (apply PickL.cons; exact rfl)); exact PickL.nil _
    · simp (maxSteps := 2000000) (disch := omega) only [avR2, avA, datsOf, fillA, seval, ↓List.forall_mem_cons, Op.operands, hA, tiA, hE]
      (repeat' refine And.intro ?_ ?_) <;> try exact SD
      refine CallC.use (gvF hP hG (mix2 G _)) rfl ?_
      try simp (maxSteps := 2000000) (disch := omega) only [avR2, avA, datsOf, fillA, seval, ↓List.forall_mem_cons, Op.operands, hA, tiA, hE]
      exact SC
    refine WS [2, 4, 5, 6, 7, 10, 11, 21, 22] [2, 4, 5, 6, 7] ?_
    refine WQ [2, 4, 5, 6, 7, 21, 22] [2, 4, 5, 6, 7] ?_
    apply q_block
    apply q_seq
    refine WQ [2, 4, 5, 6, 7, 21, 22] [2, 4, 5, 6, 7] ?_
    refine WN (⟨t + 1, by omega⟩)
  · skip
    apply aw_exit
    apply q_exit_seq
    have hend : t = 64 := by omega
    subst hend
    apply q_exit_loop
    apply q_exit
    apply q_seq
    apply aw_seq
    have hE := And.intro hE (And.intro (fun i => addL_len s (roundsM (schM b 64) s 64) i) (And.intro (show (vL (roundsM (schM b 64) s 64)).length = 4 from rfl) (And.intro (show (eL (roundsM (schM b 64) s 64)).length = 4 from rfl) (@List.length_set W32))))
    rw [sL_D, vL_D, eL_D]
    refine WS [2, 4, 6, 7, 94] [2, 4, 6, 7] ?_
    apply aw_block
    refine WL (ι := {i : Nat // i ≤ 4}) [2, 4, 6, 7] [4, 6, 7] (fun ⟨i, hi⟩ => [(94, .dat (iD i))]) (fun ⟨i, hi⟩ => [(2, ⟨8, [.dat (wsD (addL s (roundsM (schM b 64) s 64) i))]⟩)]) (fun ⟨i, hi⟩ => 4 - i) (⟨0, by omega⟩) ?_
    rintro ⟨i, hi⟩
    dsimp only [List.cons_append, List.nil_append]
    refine WS [2, 4, 6, 7, 94, 95] [2, 4, 6, 7] ?_
    apply aw_seq
    refine WI (fun hb => ?_) (fun hb => ?_)
    · skip
      have h4 : IntKind.i64.wrap ((i : Int) + 4) = ((i + 4 : Nat) : Int) := by rw [IntWalk.i64_in _ (by omega)]; omega
      have g1 := get_ws (addL s (roundsM (schM b 64) s 64) i) i (by rw [addL_len]; omega)
      have g2 := get_ws (vL (roundsM (schM b 64) s 64)) i (by show i < 4; omega)
      have g3 := get_ws (eL (roundsM (schM b 64) s 64)) i (by show i < 4; omega)
      have g4 := fun y => get_ws ((addL s (roundsM (schM b 64) s 64) i).set i y) (i + 4) (by rw [List.length_set, addL_len]; omega)
      have t1 := set_ws (addL s (roundsM (schM b 64) s 64) i) i (by rw [addL_len]; omega)
      have t2 := fun y => set_ws ((addL s (roundsM (schM b 64) s 64) i).set i y) (i + 4) (by rw [List.length_set, addL_len]; omega)
      have hE := And.intro hE (And.intro h4 (And.intro g1 (And.intro g2 (And.intro g3 (And.intro g4 (And.intro t1 (And.intro t2 (addL.eq_2 s (roundsM (schM b 64) s 64) i))))))))
      apply aw_skip
      apply q_seq
      apply aw_seq
      apply aw_block
      refine WS [2, 4, 6, 7, 12, 94] [2, 4, 6, 7] ?_
      refine WD [2, 4, 6, 7, 12, 94] [2, 4, 6, 7] [0, 1, 2, 3, 4, 5, 6, 7, 8] [] ?_
      refine WDQ [2, 4, 6, 7, 94] [2, 4, 6, 7] [0, 1, 2, 3, 4, 5, 6, 7, 8, 9] [] ?_
      apply q_block
      apply q_seq
      refine WQ [2, 4, 6, 7, 94] [2, 4, 6, 7] ?_
      refine WN (⟨i + 1, by omega⟩)
    · skip
      apply aw_exit
      apply q_exit_seq
      have hend : i = 4 := by omega
      subst hend
      apply q_exit_loop
      apply q_exit
      apply q_seq
      rw [addL_4]
      refine WS [4] [4] ?_
      apply aw_ret
      simp only [QRet, QRetM, QRetX, retsX_nil, retsX_cons, objsAre, resA, mapO_nil, mapO_cons, vD_dat, vD_nils, vD_rp, vD_osl, vD_ptr, vD_agg, vD_fn, vD_isl, vL_dat, vL_app, viewL, avA, datsOf, fillA, seval, ↓List.forall_mem_cons, Op.operands, hP, hG, tiA, hE]
      all_goals try (first | done | rfl | trivial)

end Go.Proofs.YtabjaaonfaejmaaGreatDoor

namespace Go.Proofs.YtabjaaonfaejmaaGreatDoor
open Go.Av

/-- The last block's bytes, while they come in: from place n0 of the message on, j bytes. -/
def bkF (M blk : List Int) (n0 : Nat) : Nat → List Int
  | 0 => blk
  | j + 1 => (bkF M blk n0 j).set ((n0 + j) % 64) (M.getD (n0 + j) 0)
theorem bkF_len (M blk : List Int) (n0 : Nat) : ∀ j, (bkF M blk n0 j).length = blk.length
  | 0 => rfl
  | j + 1 => by simp [bkF, bkF_len M blk n0 j]
/-- What the block holds of the message. -/
def BkOK (M : List Int) (n : Nat) (blk : List Int) : Prop := blk.length = 64 ∧ ∀ i, i < n % 64 → blk.getD i 0 = M.getD (64 * (n / 64) + i) 0
theorem getD_set (l : List Int) (i k : Nat) (x : Int) (hi : i < l.length) : (l.set i x).getD k 0 = if k = i then x else l.getD k 0 := by
  simp only [List.getD_eq_getElem?_getD, List.getElem?_set]
  by_cases h : i = k
  · subst h; simp [hi]
  · simp [h, Ne.symm h]
theorem bkF_at {M blk : List Int} {n0 : Nat} (h : BkOK M n0 blk) : ∀ j i, i < 64 → (i < (n0 + j) % 64 → (bkF M blk n0 j).getD i 0 = M.getD (64 * ((n0 + j) / 64) + i) 0) ∧ (0 < j → (n0 + j) % 64 = 0 → (bkF M blk n0 j).getD i 0 = M.getD (64 * ((n0 + j) / 64 - 1) + i) 0)
  | 0, i, hi => ⟨fun h1 => h.2 i h1, fun h0 => absurd h0 (Nat.lt_irrefl 0)⟩
  | j + 1, i, hi => by
    have ih := bkF_at h j i hi
    have hl : (n0 + j) % 64 < (bkF M blk n0 j).length := by rw [bkF_len, h.1]; omega
    simp only [bkF]
    rw [getD_set _ _ _ _ hl]
    constructor
    · intro h1
      by_cases he : i = (n0 + j) % 64
      · rw [if_pos he]
        congr 1
        omega
      · rw [if_neg he, ih.1 (by omega)]
        congr 2
        omega
    · intro _ h1
      by_cases he : i = (n0 + j) % 64
      · rw [if_pos he]
        congr 1
        omega
      · rw [if_neg he, ih.1 (by omega)]
        congr 2
        omega
theorem bkF_ok {M blk : List Int} {n0 : Nat} (h : BkOK M n0 blk) (j : Nat) : BkOK M (n0 + j) (bkF M blk n0 j) :=
  ⟨by rw [bkF_len]; exact h.1, fun i hi => (bkF_at h j i (by omega)).1 hi⟩
theorem bkF_full {M blk : List Int} {n0 j : Nat} (h : BkOK M n0 blk) (hj : 0 < j) (h0 : (n0 + j) % 64 = 0) (hl : n0 + j ≤ M.length) : bkF M blk n0 j = blkM M ((n0 + j) / 64 - 1) := by
  have hlen : (bkF M blk n0 j).length = 64 := by rw [bkF_len]; exact h.1
  have hb : (blkM M ((n0 + j) / 64 - 1)).length = 64 := blk_len (by omega)
  refine List.ext_getElem (by rw [hlen, hb]) fun i h1 h2 => ?_
  have h3 := (bkF_at h j i (by omega)).2 hj h0
  have e1 : (bkF M blk n0 j).getD i 0 = (bkF M blk n0 j)[i] := by simp [h1]
  rw [← e1, h3]
  have h4 : 64 * ((n0 + j) / 64 - 1) + i < M.length := by omega
  simp only [blkM, List.getElem_take, List.getElem_drop]
  simp [h4]
/-- Some bytes of the message, in one go. -/
theorem bkF_chunk {M blk : List Int} {n0 : Nat} (hb : blk.length = 64) (j : Nat) : ∀ k, (n0 + j) % 64 + k ≤ 64 → n0 + j + k ≤ M.length →
    bkF M blk n0 (j + k) = (bkF M blk n0 j).take ((n0 + j) % 64) ++ (M.drop (n0 + j)).take k ++ (bkF M blk n0 j).drop ((n0 + j) % 64 + k)
  | 0, _, _ => by simp
  | k + 1, h1, h2 => by
    have ih := bkF_chunk (M := M) (n0 := n0) hb j k (by omega) (by omega)
    have hlen : (bkF M blk n0 j).length = 64 := by rw [bkF_len]; exact hb
    rw [← Nat.add_assoc]
    simp only [bkF]
    rw [ih]
    have hm : (n0 + (j + k)) % 64 = (n0 + j) % 64 + k := by omega
    have hA : ((bkF M blk n0 j).take ((n0 + j) % 64)).length = (n0 + j) % 64 := by rw [List.length_take]; omega
    have hB : ((M.drop (n0 + j)).take k).length = k := by rw [List.length_take, List.length_drop]; omega
    rw [hm, List.set_append_right _ _ (by rw [List.length_append, hA, hB]; exact Nat.le_refl _), List.length_append, hA, hB, Nat.sub_self]
    have hd : (bkF M blk n0 j).drop ((n0 + j) % 64 + k) = (bkF M blk n0 j)[(n0 + j) % 64 + k]'(by omega) :: (bkF M blk n0 j).drop ((n0 + j) % 64 + k + 1) := List.drop_eq_getElem_cons (by omega)
    rw [hd, List.set_cons_zero]
    have ht : (M.drop (n0 + j)).take (k + 1) = (M.drop (n0 + j)).take k ++ [M.getD (n0 + (j + k)) 0] := by
      rw [List.take_add_one, List.getElem?_drop, List.getElem?_eq_getElem (show n0 + j + k < M.length by omega)]
      have : n0 + j + k < M.length := by omega
      simp [← Nat.add_assoc, this]
    rw [ht]
    simp [Nat.add_assoc]

theorem blk_app (m t : List Int) {k : Nat} (h : 64 * k + 64 ≤ m.length) : blkM (m ++ t) k = blkM m k := by
  unfold blkM
  rw [List.drop_append_of_le_length (by omega), List.take_append_of_le_length (by rw [List.length_drop]; omega)]
theorem blocks_app (s : S8) (m t : List Int) : ∀ k, 64 * k ≤ m.length → blocksM s (m ++ t) k = blocksM s m k
  | 0, _ => rfl
  | k + 1, h => by
    simp only [blocksM]
    rw [blocks_app s m t k (by omega), blk_app m t (by omega)]
theorem bkOK_app {m t blk : List Int} (h : BkOK m m.length blk) : BkOK (m ++ t) m.length blk :=
  ⟨h.1, fun i hi => by
    rw [h.2 i hi]
    have : 64 * (m.length / 64) + i < m.length := by omega
    simp [List.getElem?_append_left this]⟩
theorem bkOK_nil {blk : List Int} (h : blk.length = 64) : BkOK [] 0 blk := ⟨h, fun i hi => by simp at hi⟩

/-- What is left of a text. -/
def restS (s : ByteArray) (p : Nat) : ByteArray := s.extract p s.size
theorem restS_0 (s : ByteArray) : restS s 0 = s := by simp [restS]
theorem restS_size (s : ByteArray) (p : Nat) : (restS s p).size = s.size - p := by simp [restS]
theorem restS_B (s : ByteArray) (p : Nat) : strB (restS s p) = (strB s).drop p := by
  unfold strB restS
  rw [← List.map_drop]
  congr 1
  rw [ByteArray.data_extract, Array.toList_extract, List.extract_eq_take_drop, List.take_of_length_le (by simp)]
theorem restS_cut (s : ByteArray) (p k : Nat) : (restS s p).extract k (restS s p).size = restS s (p + k) := by
  rw [restS_size]
  unfold restS
  rw [ByteArray.extract_extract]
  congr 1
  omega

-- streams as data
abbrev strmD (s : S8) (blk : List Int) (n : Nat) : Dat := .agg (wD s.a :: wD s.b :: wD s.c :: wD s.d :: wD s.e :: wD s.f :: wD s.g :: wD s.h :: (blk.map u8D ++ [.int .u64 n]))
/-- The stream of a message. -/
abbrev stD (m blk : List Int) : Dat := strmD (blocksM iv8 m (m.length / 64)) blk m.length
section
variable {blk : List Int} (h : blk.length = 64)
include h
theorem st_get (x : AV) : (List.map AV.dat (List.map u8D blk) ++ [x])[64]?.getD .junk = x := by
  rw [List.getElem?_append_right (by simp [h])]
  simp [h]
theorem st_take (x : AV) : List.take 64 (List.map AV.dat (List.map u8D blk) ++ [x]) = List.map AV.dat (List.map u8D blk) := by
  rw [List.take_append_of_le_length (by simp [h])]
  exact List.take_of_length_le (by simp [h])
theorem st_all (x : AV) : List.take 65 (List.map AV.dat (List.map u8D blk) ++ [x]) = List.map AV.dat (List.map u8D blk) ++ [x] := List.take_of_length_le (by simp [h])
theorem st_drop (x : AV) : List.drop 65 (List.map AV.dat (List.map u8D blk) ++ [x]) = [] := List.drop_of_length_le (by simp [h])
end
theorem st_takeD {blk : List Int} (h : blk.length = 64) (x : Dat) : List.take 64 (List.map u8D blk ++ [x]) = List.map u8D blk := by
  rw [List.take_append_of_le_length (by simp [h])]
  exact List.take_of_length_le (by simp [h])
theorem st_ds (blk : List Int) (n : Int) : datsOf (List.map AV.dat (List.map u8D blk) ++ [.dat (.int .u64 n)]) = some (List.map u8D blk ++ [.int .u64 n]) := by
  have e : List.map AV.dat (List.map u8D blk) ++ [AV.dat (.int .u64 n)] = (List.map u8D blk ++ [Dat.int .u64 n]).map AV.dat := by simp
  rw [e]
  exact ds_list _ fun d hd => by
    simp only [List.mem_append, List.mem_map, List.mem_singleton] at hd
    rcases hd with ⟨y, _, rfl⟩ | rfl <;> rfl
/-- Bytes are copied into the block. -/
theorem st_copy (s : S8) {blk : List Int} (h : blk.length = 64) (n : Nat) (at_ k : Nat) (hk : at_ + k ≤ 64) (c : List Int) :
    Dat.agg (List.take (8 + at_) (wD s.a :: wD s.b :: wD s.c :: wD s.d :: wD s.e :: wD s.f :: wD s.g :: wD s.h :: (blk.map u8D ++ [.int .u64 n])) ++ c.map (Dat.int .u8) ++ List.drop (8 + at_ + k) (wD s.a :: wD s.b :: wD s.c :: wD s.d :: wD s.e :: wD s.f :: wD s.g :: wD s.h :: (blk.map u8D ++ [.int .u64 n])))
      = strmD s (blk.take at_ ++ c ++ blk.drop (at_ + k)) n := by
  have e1 : 8 + at_ = at_ + 1 + 1 + 1 + 1 + 1 + 1 + 1 + 1 := by omega
  have e2 : 8 + at_ + k = (at_ + k) + 1 + 1 + 1 + 1 + 1 + 1 + 1 + 1 := by omega
  rw [e2, e1]
  simp only [List.take_succ_cons, List.drop_succ_cons, List.cons_append]
  rw [List.take_append_of_le_length (by rw [List.length_map]; omega), List.drop_append_of_le_length (by rw [List.length_map]; omega)]
  simp only [strmD, List.map_append, List.map_take, List.map_drop, List.append_assoc]
theorem st_word (s : S8) (l : List AV) {k : Nat} (h : k < 8) : ((AV.dat (wD s.a) :: AV.dat (wD s.b) :: AV.dat (wD s.c) :: AV.dat (wD s.d) :: AV.dat (wD s.e) :: AV.dat (wD s.f) :: AV.dat (wD s.g) :: AV.dat (wD s.h) :: l)[k]?).getD .junk = .dat (wD ((sL s).getD k 0#32)) := by
  have hk : k = 0 ∨ k = 1 ∨ k = 2 ∨ k = 3 ∨ k = 4 ∨ k = 5 ∨ k = 6 ∨ k = 7 := by omega
  rcases hk with rfl | rfl | rfl | rfl | rfl | rfl | rfl | rfl <;> rfl
theorem add_step {M blk : List Int} {n0 : Nat} {text : ByteArray} (hb : blk.length = 64) (hM : M.length = n0 + text.size) (ht : strB text = M.drop n0) {p a k : Nat} (ha : a = (n0 + p) % 64) (hk : k = min (text.size - p) (64 - a)) (hp : p ≤ text.size) :
    (bkF M blk n0 p).take a ++ (strB (restS text p)).take (64 - a) ++ (bkF M blk n0 p).drop (a + k) = bkF M blk n0 (p + k) := by
  have e : strB (restS text p) = M.drop (n0 + p) := by rw [restS_B, ht, List.drop_drop]
  have e2 : (M.drop (n0 + p)).take (64 - a) = (M.drop (n0 + p)).take k := by
    rw [List.take_eq_take_iff, List.length_drop]
    omega
  rw [e, e2, bkF_chunk hb p k (by omega) (by omega), ← ha]
theorem restS_end (s : ByteArray) : restS s s.size = ⟨#[]⟩ := by
  apply ByteArray.ext
  rw [restS, ByteArray.data_extract]
  apply Array.eq_empty_of_size_eq_zero
  simp
def z8 : S8 := ⟨0, 0, 0, 0, 0, 0, 0, 0⟩
theorem zero_st : mkAgg (List.replicate 8 (AV.dat (.int .u32 0)) ++ List.replicate 64 (AV.dat (.int .u8 0)) ++ List.replicate 1 (AV.dat (.int .u64 0))) = .dat (strmD z8 y64 0) := by rfl
theorem add_len (m : List Int) (text : ByteArray) : (m ++ strB text).length = m.length + text.size := by rw [List.length_append, strB_len]
end Go.Proofs.YtabjaaonfaejmaaGreatDoor

namespace Go.Proofs.YtabjaaonfaejmaaGreatDoor
open Go.Av


set_option maxRecDepth 100000 in
set_option maxHeartbeats 1000000 in
theorem begin_ok (G) : Gives Tryz.prog G 36 [] [stD [] y64] := by
  refine gives_intro [] [] [] Tryz.func36 rfl (by rfl) (by simp [Tryz.ntmps36]) fun F hP hG hN hR => ?_
  rw [Tryz.ntmps36] at hN
  have hA := And.intro hN (And.intro hP (And.intro hG (And.intro hR.1 (And.intro hR.2.1 hR.2.2.1))))
  have hE := @Tryz.results36
  refine WS [0] [0] ?_
  refine WS [0] [0] ?_
  apply aw_ret
  simp only [QRet, QRetM, QRetX, retsX_nil, retsX_cons, objsAre, resA, mapO_nil, mapO_cons, vD_dat, vD_nils, vD_rp, vD_osl, vD_ptr, vD_agg, vD_fn, vD_isl, vL_dat, vL_app, viewL, avA, datsOf, fillA, seval, ↓List.forall_mem_cons, Op.operands, hP, hG, tiA, hE]
  all_goals try (first | done | rfl | trivial)

set_option maxRecDepth 100000 in
set_option maxHeartbeats 1000000 in
theorem add_core (G) (hgk : G.lookup 1 = some (wsD kH)) (M blk : List Int) (n0 : Nat) (hb0 : BkOK M n0 blk) (text : ByteArray) (hib : isB M) (hM : M.length = n0 + text.size) (ht : strB text = M.drop n0) (hl : M.length ≤ 2199023255552) : Gives Tryz.prog G 37 [strmD (blocksM iv8 M (n0 / 64)) blk n0, .str text] [strmD (blocksM iv8 M ((n0 + text.size) / 64)) (bkF M blk n0 text.size) (n0 + text.size)] := by
  have hbl : ∀ p, (bkF M blk n0 p).length = 64 := fun p => by rw [bkF_len]; exact hb0.1
  skip
  refine gives_intro [] [] [] Tryz.func37 rfl (by rfl) (by simp [Tryz.ntmps37]) fun F hP hG hN hR => ?_
  rw [Tryz.ntmps37] at hN
  have hA := And.intro hN (And.intro hP (And.intro hG (And.intro hR.1 (And.intro hR.2.1 hR.2.2.1))))
  have hE := And.intro @Tryz.results37 (And.intro @hbl (And.intro @hb0.1 (And.intro @Int.toNat_natCast (And.intro @Nat.add_zero (And.intro (bkF.eq_1 M blk n0) (And.intro @restS_0 (And.intro (fun q => st_get (hbl q)) (And.intro (fun q => st_take (hbl q)) (And.intro (fun q => st_all (hbl q)) (And.intro (fun q => st_drop (hbl q)) (@st_ds)))))))))))
  apply aw_regs [1, 2, 4] [2, 4]
  · simp (maxSteps := 2000000) (disch := omega) only [avR2, avA, datsOf, fillA, seval, ↓List.forall_mem_cons, Op.operands, hA, tiA, hE, ↓zero_st, -List.reduceReplicate]
    exact SC
  apply aw_seq
  apply aw_block
  refine WL (ι := {p : Nat // p ≤ text.size}) [2, 4] [4] (fun ⟨p, hp⟩ => [(1, .dat (.str (restS text p)))]) (fun ⟨p, hp⟩ => [(2, ⟨73, [.dat (strmD (blocksM iv8 M ((n0 + p) / 64)) (bkF M blk n0 p) (n0 + p))]⟩)]) (fun ⟨p, hp⟩ => text.size - p) (⟨0, by omega⟩) ?_
  rintro ⟨p, hp⟩
  dsimp only [List.cons_append, List.nil_append]
  have hrs := restS_size text p
  apply aw_seq
  refine WS [1, 2, 4, 8] [2, 4] ?_
  refine WI (fun hb => ?_) (fun hb => ?_)
  · skip
    have hlt : p < text.size := by
      rcases Nat.lt_or_ge p text.size with h | h
      · exact h
      · exfalso
        have : p = text.size := by omega
        subst this
        exact hb (by rw [restS_end])
    obtain ⟨a, ha⟩ : ∃ a, a = (n0 + p) % 64 := ⟨_, rfl⟩
    obtain ⟨k, hk⟩ : ∃ k, k = min (text.size - p) (64 - a) := ⟨_, rfl⟩
    have q1 : IntKind.i64.wrap (((n0 + p : Nat) : Int).tmod 64) = ((a : Nat) : Int) := by rw [Int.tmod_eq_emod_of_nonneg (by omega), IntWalk.i64_in _ (by omega)]; omega
    have hmk : min (restS text p).size (64 - a) = k := by rw [hrs]; exact hk.symm
    have hcut : (restS text p).extract k (restS text p).size = restS text (p + k) := restS_cut text p k
    have q4 : IntKind.u64.wrap ((k : Nat) : Int) = ((k : Nat) : Int) := IntWalk.u64_in _ (by omega)
    have q5 : IntKind.u64.wrap (((n0 + p : Nat) : Int) + ((k : Nat) : Int)) = ((n0 + (p + k) : Nat) : Int) := by rw [IntWalk.u64_in _ (by omega)]; omega
    have q6 : IntKind.i64.wrap (((a : Nat) : Int) + ((k : Nat) : Int)) = ((a + k : Nat) : Int) := by rw [IntWalk.i64_in _ (by omega)]; omega
    have hcp := st_copy (blocksM iv8 M ((n0 + p) / 64)) (hbl p) (n0 + p) a k (by omega) ((strB (restS text p)).take (64 - a))
    rw [add_step hb0.1 hM ht ha hk hp] at hcp
    have hE := And.intro hE (And.intro q1 (And.intro hcut (And.intro q4 (And.intro q5 q6))))
    apply aw_skip
    apply q_seq
    apply aw_block
    refine WS [1, 2, 4, 5] [2, 4] ?_
    refine aw_lists ?_
    apply al_seg
    · (iterate 4 apply Seg.cons); exact Seg.nil _
    · simp (maxSteps := 2000000) (disch := omega) only [avR2, avA, datsOf, fillA, seval, ↓List.forall_mem_cons, Op.operands, hA, tiA, hE, KeptS]
      exact SC
    refine al_step rfl (copyS_ok rfl rfl (by rw [hN]; omega) (by rw [hP]; exact ti47) rfl (by rw [hP]; exact ti5) rfl rfl rfl rfl rfl rfl (by simp only [List.length_cons, List.length_append, List.length_map, List.length_nil, hbl]; omega)) ?_
    rw [of_obj, of_put, hmk]
    rw [hcp]
    apply al_last [1, 2, 4, 5, 6] [2, 4]
    · simp (maxSteps := 2000000) (disch := omega) only [avR2, avA, datsOf, fillA, seval, ↓List.forall_mem_cons, Op.operands, hA, tiA, hE]
      exact SC
    refine WS [1, 2, 4, 5, 6] [2, 4] ?_
    refine WS [1, 2, 4, 5, 6] [2, 4] ?_
    refine WS [1, 2, 4, 30] [2, 4] ?_
    refine WI (fun hb => ?_) (fun hb => ?_)
    · skip
      have hdiv : (n0 + (p + k)) / 64 = (n0 + p) / 64 + 1 := by omega
      have hfull : bkF M blk n0 (p + k) = blkM M ((n0 + p) / 64) := by rw [bkF_full hb0 (by omega) (by omega) (by omega), hdiv, Nat.add_sub_cancel]
      have hlb : (blkM M ((n0 + p) / 64)).length = 64 := blk_len (by omega)
      have hE := And.intro hE (And.intro hdiv (And.intro hfull (And.intro hlb (And.intro (st_takeD hlb) (And.intro (st_get hlb) (And.intro (st_take hlb) (And.intro (st_all hlb) (And.intro (st_drop hlb) (blocksM.eq_2 iv8 M ((n0 + p) / 64))))))))))
      apply aw_rgd [1, 2, 4] [2, 4] [0, 1, 2, 3, 4, 5, 6] []
      · rw [hP]; kernel_rfl
      · exact hR
      · kernel_rfl
      · (repeat (apply PickL.cons; exact rfl)); exact PickL.nil _
      · simp (maxSteps := 2000000) (disch := omega) only [avR2, avA, datsOf, fillA, seval, ↓List.forall_mem_cons, Op.operands, hA, tiA, hE]
        (repeat' refine And.intro ?_ ?_) <;> try exact SD
        refine CallC.use (gvF hP hG (compress_ok G hgk (blocksM iv8 M ((n0 + p) / 64)) (blkM M ((n0 + p) / 64)) (isB_blk hib _) hlb)) (by simp only [callArgs, mapO_nil, mapO_cons, vD_dat, vD_nils, vD_rp, vD_osl, vD_ptr, vD_agg, vD_fn, vD_isl, vL_dat, vL_app, avA, datsOf, fillA, seval, ↓List.forall_mem_cons, Op.operands, hE] <;> rfl) ?_
        try simp (maxSteps := 2000000) (disch := omega) only [avR2, avA, datsOf, fillA, seval, ↓List.forall_mem_cons, Op.operands, hA, tiA, hE]
        exact SC
      apply q_block
      refine WN (⟨p + k, by omega⟩)
    · skip
      have hdiv : (n0 + (p + k)) / 64 = (n0 + p) / 64 := by omega
      have hE := And.intro hE hdiv
      apply aw_skip
      apply q_block
      refine WN (⟨p + k, by omega⟩)
  · skip
    apply aw_exit
    apply q_exit_seq
    have hend : p = text.size := by
      have h1 : restS text p = ⟨#[]⟩ := str_inj hb
      have h2 := congrArg ByteArray.size h1
      rw [hrs] at h2
      have h3 : (⟨#[]⟩ : ByteArray).size = 0 := rfl
      omega
    subst hend
    apply q_exit_loop
    apply q_exit
    apply q_seq
    apply aw_regs [4] [4]
    · simp (maxSteps := 2000000) (disch := omega) only [avR2, avA, datsOf, fillA, seval, ↓List.forall_mem_cons, Op.operands, hA, tiA, hE, y64_len]
      exact SC
    apply aw_ret
    simp only [QRet, QRetM, QRetX, retsX_nil, retsX_cons, objsAre, resA, mapO_nil, mapO_cons, vD_dat, vD_nils, vD_rp, vD_osl, vD_ptr, vD_agg, vD_fn, vD_isl, vL_dat, vL_app, viewL, avA, datsOf, fillA, seval, ↓List.forall_mem_cons, Op.operands, hP, hG, tiA, hE]
    all_goals try (first | done | rfl | trivial)

theorem add_ok (G) (hgk : G.lookup 1 = some (wsD kH)) (m blk : List Int) (hb0 : BkOK m m.length blk) (text : ByteArray) (hib : isB m) (hl : m.length + text.size ≤ 2199023255552) : Gives Tryz.prog G 37 [stD m blk, .str text] [stD (m ++ strB text) (bkF (m ++ strB text) blk m.length text.size)] := by
  have h := add_core G hgk (m ++ strB text) blk m.length (bkOK_app hb0) text (isB_app hib (isB_str text)) (add_len m text) (by simp) (by rw [add_len]; exact hl)
  rw [blocks_app iv8 m (strB text) _ (by omega)] at h
  have e := add_len m text
  show Gives Tryz.prog G 37 [strmD (blocksM iv8 m (m.length / 64)) blk m.length, .str text] [strmD (blocksM iv8 (m ++ strB text) ((m ++ strB text).length / 64)) (bkF (m ++ strB text) blk m.length text.size) ((m ++ strB text).length : Nat)]
  rw [e]
  exact h
end Go.Proofs.YtabjaaonfaejmaaGreatDoor

namespace Go.Proofs.YtabjaaonfaejmaaGreatDoor
open Go.Av

/-- The bytes behind a message. -/
def zpM (j : Nat) : List Int := 128 :: List.replicate j 0
def tpM (n i : Nat) : List Int := zpM (zerosM n) ++ (lenB n).take i
theorem zpM_len (j : Nat) : (zpM j).length = 1 + j := by simp [zpM]; omega
theorem zpM_succ (j : Nat) : zpM (j + 1) = zpM j ++ [0] := by
  unfold zpM
  rw [List.replicate_succ']
  simp
theorem tpM_len (n i : Nat) (h : i ≤ 8) : (tpM n i).length = 1 + zerosM n + i := by simp [tpM, zpM_len, lenB_len, Nat.min_eq_left h]
theorem tpM_0 (n : Nat) : tpM n 0 = zpM (zerosM n) := by simp [tpM]
theorem tpM_succ (n i : Nat) (h : i < 8) : tpM n (i + 1) = tpM n i ++ [((8 * n / 2 ^ (56 - 8 * i) % 256 : Nat) : Int)] := by
  unfold tpM
  rw [List.append_assoc]
  congr 1
  have hi : i < (lenB n).length := by rw [lenB_len]; exact h
  rw [List.take_succ, List.getElem?_eq_getElem hi]
  simp [lenB]
theorem tpM_pad (m : List Int) : m ++ tpM m.length 8 = padM m := by
  unfold tpM zpM padM
  rw [List.take_of_length_le (by rw [lenB_len]; exact Nat.le_refl _)]
  simp
theorem isB_tp (n : Nat) : isB (tpM n 8) := by
  intro x hx
  unfold tpM zpM at hx
  have hx' := List.mem_append.1 hx
  rcases hx' with hx | hx
  · simp only [List.mem_cons, List.mem_replicate] at hx
    rcases hx with rfl | ⟨_, rfl⟩ <;> omega
  · have hx := List.mem_of_mem_take hx
    simp only [lenB, List.mem_map] at hx
    obtain ⟨i, _, rfl⟩ := hx
    omega
theorem strB_bstr' {b : List Int} (h : isB b) : strB (bstr b) = b := by
  apply List.ext_getElem?
  intro i
  show (List.map (fun c : UInt8 => (c.toNat : Int)) (bstr b).data.toList)[i]? = _
  have e : (bstr b).data.toList = b.map fun n : Int => UInt8.ofNat n.toNat := rfl
  rw [e, List.map_map, List.getElem?_map]
  cases hq : b[i]? with
  | none => rfl
  | some x =>
    have := h x (List.mem_of_getElem? hq)
    simp only [Option.map_some, Function.comp, Option.some.injEq]
    rw [UInt8.toNat_ofNat']
    omega
theorem add_to (G) (hgk : G.lookup 1 = some (wsD kH)) (m blk t : List Int) (hb0 : BkOK m m.length blk) (hib : isB m) (hit : isB t) (hl : m.length + t.length ≤ 2199023255552) : Gives Tryz.prog G 37 [stD m blk, .str (bstr t)] [stD (m ++ t) (bkF (m ++ t) blk m.length t.length)] := by
  have h := add_ok G hgk m blk hb0 (bstr t) hib (by rw [bstr_len]; exact hl)
  rwa [strB_bstr' hit, bstr_len] at h
theorem bk_to {m blk : List Int} (t : List Int) (hb0 : BkOK m m.length blk) : BkOK (m ++ t) (m ++ t).length (bkF (m ++ t) blk m.length t.length) := by
  have h := bkF_ok (bkOK_app (t := t) hb0) t.length
  rwa [← List.length_append] at h
theorem add_pad (G) (hgk : G.lookup 1 = some (wsD kH)) (m blk : List Int) (hb0 : BkOK m m.length blk) (hib : isB m) (hl : m.length ≤ 1099511627776) : Gives Tryz.prog G 37 [stD m blk, .str (bstr (tpM m.length 8))] [stD (padM m) (bkF (padM m) blk m.length (tpM m.length 8).length)] := by
  have h := add_to G hgk m blk (tpM m.length 8) hb0 hib (isB_tp _) (by rw [tpM_len _ _ (by omega)]; have := zerosM_rng m.length; omega)
  rwa [tpM_pad] at h


set_option maxRecDepth 100000 in
set_option maxHeartbeats 1000000 in
theorem ssum_ok (G) (hgk : G.lookup 1 = some (wsD kH)) (m blk : List Int) (hb0 : BkOK m m.length blk) (hib : isB m) (hl : m.length ≤ 1099511627776) : Gives Tryz.prog G 38 [stD m blk] [bsD (sumM m)] := by
  have hz := zerosM_rng m.length
  have h8n : IntKind.u64.wrap (8 * (m.length : Int)) = ((8 * m.length : Nat) : Int) := by rw [IntWalk.u64_in _ (by omega)]; omega
  have hpm := padM_len m
  skip
  refine gives_intro [11] [] [] Tryz.func38 rfl (by rfl) (by simp [Tryz.ntmps38]) fun F hP hG hN hR => ?_
  rw [Tryz.ntmps38] at hN
  have hA := And.intro hN (And.intro hP (And.intro hG (And.intro hR.1 (And.intro hR.2.1 hR.2.2.1))))
  have hE := And.intro @Tryz.results38 (And.intro @hb0.1 (And.intro (st_get hb0.1) (And.intro (st_take hb0.1) (And.intro (st_drop hb0.1) (And.intro (st_all hb0.1) (And.intro @st_ds (And.intro @h8n (And.intro @zpM_len (@Int.toNat_natCast)))))))))
  refine WS [1, 2] [1, 2] ?_
  refine WS [1, 2, 3] [1, 2] ?_
  refine WS [1, 2, 3, 4] [1, 2, 11, 21, 22, 33, 34] ?_
  apply aw_seq
  apply aw_block
  refine aw_swap 11 22 (by omega) (by omega) ?_
  refine WL (ι := {j : Nat // j ≤ zerosM m.length}) [1, 2, 3] [1, 2, 11, 21, 33, 34] (fun ⟨j, hj⟩ => [(4, .osl 22 1 0 (1 + j))]) (fun ⟨j, hj⟩ => [(22, ⟨1, ((zpM j).map u8D).map .dat⟩)]) (fun ⟨j, hj⟩ => zerosM m.length - j) (⟨0, by omega⟩) ?_
  rintro ⟨j, hj⟩
  dsimp only [List.cons_append, List.nil_append]
  have hpl := zpM_len j
  apply aw_seq
  refine WS [1, 2, 3, 4, 19] [1, 2, 11, 21, 22, 33, 34] ?_
  refine WI (fun hb => ?_) (fun hb => ?_)
  · skip
    have htm : ((m.length : Int) + ((1 + j : Nat) : Int)).tmod 64 = (((m.length + (1 + j)) % 64 : Nat) : Int) := by rw [Int.tmod_eq_emod_of_nonneg (by omega)]; omega
    rw [htm] at hb
    have hs := zpM_succ j
    have hE := And.intro hE hs
    apply aw_skip
    apply q_seq
    apply aw_block
    refine WQ [1, 2, 3, 4] [1, 2, 11, 21, 22, 33, 34] ?_
    apply q_block
    refine WN (⟨j + 1, by omega⟩)
  · skip
    have htm : ((m.length : Int) + ((1 + j : Nat) : Int)).tmod 64 = (((m.length + (1 + j)) % 64 : Nat) : Int) := by rw [Int.tmod_eq_emod_of_nonneg (by omega)]; omega
    rw [htm] at hb
    have hend : j = zerosM m.length := by omega
    subst hend
    rw [← tpM_0]
    apply aw_exit
    apply q_exit_seq
    apply q_exit_loop
    apply q_exit
    apply q_seq
    apply aw_seq
    refine WS [1, 2, 3, 4, 23] [1, 2, 11, 21, 22, 33, 34] ?_
    apply aw_block
    refine aw_swap 22 34 (by omega) (by omega) ?_
    refine WL (ι := {i : Nat // i ≤ 8}) [1, 2, 3] [1, 2, 11, 21, 22, 33] (fun ⟨i, hi⟩ => [(4, .osl 34 1 0 (1 + zerosM m.length + i)), (23, .dat (iD i))]) (fun ⟨i, hi⟩ => [(34, ⟨1, ((tpM m.length i).map u8D).map .dat⟩)]) (fun ⟨i, hi⟩ => 8 - i) (⟨0, by omega⟩) ?_
    rintro ⟨i, hi⟩
    dsimp only [List.cons_append, List.nil_append]
    have hql := tpM_len m.length i (by omega)
    refine WS [1, 2, 3, 4, 23, 24] [1, 2, 11, 21, 22, 33, 34] ?_
    apply aw_seq
    refine WI (fun hb => ?_) (fun hb => ?_)
    · skip
      have hs := tpM_succ m.length i (by omega)
      have hb1 := len_byte m.length i (by omega) (by omega)
      have hb2 : IntKind.i64.wrap (8 * (i : Int)) = ((8 * i : Nat) : Int) := by rw [IntWalk.i64_in _ (by omega)]; omega
      have hb3 : IntKind.i64.wrap (56 - ((8 * i : Nat) : Int)) = ((56 - 8 * i : Nat) : Int) := by rw [IntWalk.i64_in _ (by omega)]; omega
      have hE := And.intro hE (And.intro hs (And.intro hb1 (And.intro hb2 (And.intro hb3 hql))))
      apply aw_skip
      apply q_seq
      apply aw_seq
      apply aw_block
      refine WS [1, 2, 3, 4, 5, 23] [1, 2, 11, 21, 22, 33, 34] ?_
      refine WQ [1, 2, 3, 4, 23] [1, 2, 11, 21, 22, 33, 34] ?_
      apply q_block
      apply q_seq
      refine WQ [1, 2, 3, 4, 23] [1, 2, 11, 21, 22, 33, 34] ?_
      refine WN (⟨i + 1, by omega⟩)
    · skip
      apply aw_exit
      apply q_exit_seq
      have hend : i = 8 := by omega
      subst hend
      apply q_exit_loop
      apply q_exit
      apply q_seq
      refine aw_frz 34 hR.2.2.2 rfl (datE_map _) ?_
      have hq8 := tpM_len m.length 8 (by omega)
      have hft : List.take (1 + zerosM m.length + 8) (List.map u8D (tpM m.length 8)) = List.map u8D (tpM m.length 8) := List.take_of_length_le (by rw [List.length_map]; omega)
      have hbq : ∀ j, (bkF (padM m) blk m.length j).length = 64 := fun j => by rw [bkF_len]; exact hb0.1
      have hE := And.intro hE (And.intro hft (And.intro hq8 hbq))
      have hc := gvF hP hG (add_pad G hgk m blk hb0 hib hl)
      refine WSc [1, 2] [1, 2] ?_
      obtain ⟨S, hS⟩ : ∃ S, S = blocksM iv8 (padM m) ((padM m).length / 64) := ⟨_, rfl⟩
      obtain ⟨pb, hpb⟩ : ∃ pb, pb = bkF (padM m) blk m.length (1 + zerosM m.length + 8) := ⟨_, rfl⟩
      rw [show stD (padM m) (bkF (padM m) blk m.length (1 + zerosM m.length + 8)) = strmD S pb (padM m).length from by rw [hS, hpb]]
      have hfin : bsD (outL S 32) = bsD (sumM m) := by rw [outL_32, hS]; rfl
      refine WS [1, 2, 6] [1, 2, 6] ?_
      apply aw_seq
      rw [y32_D]
      have hE := And.intro hE (And.intro (outL_len S) (And.intro len_bs ds_bs))
      refine WS [1, 2, 6, 40] [1, 2, 6] ?_
      apply aw_block
      refine WL (ι := {i : Nat // i ≤ 32}) [1, 2, 6] [1, 2] (fun ⟨i, hi⟩ => [(40, .dat (iD i))]) (fun ⟨i, hi⟩ => [(6, ⟨32, [.dat (bsD (outL S i))]⟩)]) (fun ⟨i, hi⟩ => 32 - i) (⟨0, by omega⟩) ?_
      rintro ⟨i, hi⟩
      dsimp only [List.cons_append, List.nil_append]
      refine WS [1, 2, 6, 40, 41] [1, 2, 6] ?_
      apply aw_seq
      refine WI (fun hb => ?_) (fun hb => ?_)
      · skip
        have q1 : IntKind.i64.wrap ((i : Int).tdiv 4) = ((i / 4 : Nat) : Int) := by rw [Int.tdiv_eq_ediv_of_nonneg (by omega), IntWalk.i64_in _ (by omega)]; omega
        have q2 : (i : Int).tmod 4 = ((i % 4 : Nat) : Int) := by rw [Int.tmod_eq_emod_of_nonneg (by omega)]; omega
        have q3 : IntKind.i64.wrap (8 * ((i % 4 : Nat) : Int)) = ((8 * (i % 4) : Nat) : Int) := by rw [IntWalk.i64_in _ (by omega)]; omega
        have q4 : IntKind.i64.wrap (24 - ((8 * (i % 4) : Nat) : Int)) = ((24 - 8 * (i % 4) : Nat) : Int) := by rw [IntWalk.i64_in _ (by omega)]; omega
        have g1 := fun l => st_word S l (k := i / 4) (by omega)
        have t1 := set_bs (outL S i) i (by rw [outL_len]; omega)
        have hE := And.intro hE (And.intro q1 (And.intro q2 (And.intro q3 (And.intro q4 (And.intro g1 (And.intro t1 (And.intro (outL.eq_2 S i) (And.intro (outB.eq_1 S i) (And.intro bw_shr bw_out)))))))))
        apply aw_skip
        apply q_seq
        apply aw_seq
        apply aw_block
        refine WS [1, 2, 6, 7, 40] [1, 2, 6] ?_
        refine WQ [1, 2, 6, 40] [1, 2, 6] ?_
        apply q_block
        apply q_seq
        refine WQ [1, 2, 6, 40] [1, 2, 6] ?_
        refine WN (⟨i + 1, by omega⟩)
      · skip
        apply aw_exit
        apply q_exit_seq
        have hend : i = 32 := by omega
        subst hend
        apply q_exit_loop
        apply q_exit
        apply q_seq
        rw [hfin]
        refine WS [2] [2] ?_
        apply aw_ret
        simp only [QRet, QRetM, QRetX, retsX_nil, retsX_cons, objsAre, resA, mapO_nil, mapO_cons, vD_dat, vD_nils, vD_rp, vD_osl, vD_ptr, vD_agg, vD_fn, vD_isl, vL_dat, vL_app, viewL, avA, datsOf, fillA, seval, ↓List.forall_mem_cons, Op.operands, hP, hG, tiA, hE]
        all_goals try (first | done | rfl | trivial)

set_option maxRecDepth 100000 in
set_option maxHeartbeats 1000000 in
theorem sum_ok (G) (hgk : G.lookup 1 = some (wsD kH)) (b : List Int) (hib : isB b) (hl : b.length ≤ 1099511627776) : Gives Tryz.prog G 34 [u8sD b] [bsD (sumM b)] := by
  have c1 : Gives Tryz.prog G 37 [stD [] y64, .str (bstr b)] [stD b (bkF b y64 0 b.length)] := add_to G hgk [] y64 b (bkOK_nil y64_len) (fun x hx => by cases hx) hib (by simp; omega)
  have k1 : BkOK b b.length (bkF b y64 0 b.length) := bk_to b (bkOK_nil y64_len)
  refine gives_intro [] [] [] Tryz.func34 rfl (by rfl) (by simp [Tryz.ntmps34]) fun F hP hG hN hR => ?_
  rw [Tryz.ntmps34] at hN
  have hA := And.intro hN (And.intro hP (And.intro hG (And.intro hR.1 (And.intro hR.2.1 hR.2.2.1))))
  have hE := @Tryz.results34
  refine WS [0, 2] [2] ?_
  apply aw_rgds [2] [2] [0, 1, 2, 3, 4, 5] []
  · rw [hP]; kernel_rfl
  · exact hR
  · kernel_rfl
  · (repeat (apply PickL.cons; exact rfl)); exact PickL.nil _
  · simp (maxSteps := 2000000) (disch := omega) only [avR2, avA, datsOf, fillA, seval, ↓List.forall_mem_cons, Op.operands, hA, tiA, hE]
    (repeat' refine And.intro ?_ ?_) <;> try exact SD
    refine CallC.use (gvF hP hG (begin_ok G)) rfl ?_
    try simp (maxSteps := 2000000) (disch := omega) only [avR2, avA, datsOf, fillA, seval, ↓List.forall_mem_cons, Op.operands, hA, tiA, hE]
    (repeat' refine And.intro ?_ ?_) <;> try exact SD
    refine CallC.use (gvF hP hG (c1)) rfl ?_
    try simp (maxSteps := 2000000) (disch := omega) only [avR2, avA, datsOf, fillA, seval, ↓List.forall_mem_cons, Op.operands, hA, tiA, hE]
    (repeat' refine And.intro ?_ ?_) <;> try exact SD
    refine CallC.use (gvF hP hG (ssum_ok G hgk b _ k1 hib hl)) rfl ?_
    try simp (maxSteps := 2000000) (disch := omega) only [avR2, avA, datsOf, fillA, seval, ↓List.forall_mem_cons, Op.operands, hA, tiA, hE]
    exact SC
  apply aw_ret
  simp only [QRet, QRetM, QRetX, retsX_nil, retsX_cons, objsAre, resA, mapO_nil, mapO_cons, vD_dat, vD_nils, vD_rp, vD_osl, vD_ptr, vD_agg, vD_fn, vD_isl, vL_dat, vL_app, viewL, avA, datsOf, fillA, seval, ↓List.forall_mem_cons, Op.operands, hP, hG, tiA, hE]
  all_goals try (first | done | rfl | trivial)

end Go.Proofs.YtabjaaonfaejmaaGreatDoor

namespace Go.Proofs.YtabjaaonfaejmaaGreatDoor
open Go.Av

def dfM (a b : ByteArray) : Nat → Int
  | 0 => 0
  | i + 1 => IntKind.u8.wrap ((BitVec.ofInt IntKind.u8.bits (dfM a b i) ||| BitVec.ofInt IntKind.u8.bits (xorB (byteAt a i) (byteAt b i))).toNat : Int)
theorem w8 (x : BitVec IntKind.u8.bits) : IntKind.u8.wrap (x.toNat : Int) = (x.toNat : Int) := by
  have := x.isLt
  have hb : (2 : Nat) ^ IntKind.u8.bits = 256 := rfl
  rw [hb] at this
  exact IntWalk.u8_in _ (by omega)
theorem of8 {x : Int} (h : 0 ≤ x ∧ x ≤ 255) : ((BitVec.ofInt IntKind.u8.bits x).toNat : Int) = x := by
  rw [BitVec.toNat_ofInt]
  have hb : (2 : Nat) ^ IntKind.u8.bits = 256 := rfl
  rw [hb]
  omega
theorem xorB_0 {x y : Int} (hx : 0 ≤ x ∧ x ≤ 255) (hy : 0 ≤ y ∧ y ≤ 255) : xorB x y = 0 ↔ x = y := by
  unfold xorB
  rw [w8]
  constructor
  · intro h
    have h1 : (BitVec.ofInt IntKind.u8.bits x ^^^ BitVec.ofInt IntKind.u8.bits y) = 0#_ := BitVec.eq_of_toNat_eq (by rw [BitVec.toNat_zero]; omega)
    have h2 := BitVec.xor_eq_zero_iff.1 h1
    rw [← of8 hx, ← of8 hy, h2]
  · rintro rfl
    rw [BitVec.xor_self]
    simp
theorem dfM_rng (a b : ByteArray) : ∀ i, 0 ≤ dfM a b i ∧ dfM a b i ≤ 255
  | 0 => by simp [dfM]
  | i + 1 => by
    unfold dfM
    rw [IntKind.wrap_u8]; omega
theorem byte_rng (a : ByteArray) (i : Nat) : 0 ≤ byteAt a i ∧ byteAt a i ≤ 255 := by
  unfold byteAt
  have := ((a.data[i]?).getD 0).toNat_lt
  omega
theorem dfM_0 (a b : ByteArray) : ∀ i, dfM a b i = 0 ↔ ∀ k, k < i → byteAt a k = byteAt b k
  | 0 => by simp [dfM]
  | i + 1 => by
    have ih := dfM_0 a b i
    unfold dfM
    rw [w8]
    have hx := xorB_0 (byte_rng a i) (byte_rng b i)
    have e1 := of8 (dfM_rng a b i)
    have e2 := of8 (xorB_rng (byteAt a i) (byteAt b i))
    constructor
    · intro h
      have h1 : (BitVec.ofInt IntKind.u8.bits (dfM a b i) ||| BitVec.ofInt IntKind.u8.bits (xorB (byteAt a i) (byteAt b i))) = 0#_ := BitVec.eq_of_toNat_eq (by rw [BitVec.toNat_zero]; omega)
      obtain ⟨h2, h3⟩ := BitVec.or_eq_zero_iff.1 h1
      rw [h2, BitVec.toNat_zero] at e1
      rw [h3, BitVec.toNat_zero] at e2
      intro k hk
      by_cases hki : k = i
      · subst hki; exact hx.1 e2.symm
      · exact ih.1 e1.symm k (by omega)
    · intro h
      have h2 := ih.2 fun k hk => h k (by omega)
      have h3 := hx.2 (h i (by omega))
      rw [h2, h3]
      simp
theorem df_eq {a b : ByteArray} (hs : a.size = b.size) : dfM a b a.size = 0 ↔ a = b := by
  rw [dfM_0]
  constructor
  · intro h
    apply ByteArray.ext
    apply Array.ext
    · exact hs
    · intro i h1 h2
      have h1' : i < a.size := h1
      have h2' : i < b.size := h2
      have := h i h1
      simp only [byteAt, Array.getElem?_eq_getElem h1, Array.getElem?_eq_getElem h2, Option.getD_some] at this
      apply UInt8.toNat_inj.1
      omega
  · rintro rfl k _
    rfl

def shortS (s : ByteArray) (n : Nat) : ByteArray := if n < s.size then s.extract 0 n else s
theorem shortS_le (s : ByteArray) (n : Nat) : (shortS s n).size ≤ n := by
  unfold shortS
  split
  · rw [ByteArray.size_extract]; omega
  · omega


theorem equal_ok (G) (a b : ByteArray) (ha : a.size ≤ 281474976710656) : Gives Tryz.prog G 33 [.str a, .str b] [bD (decide (a = b))] := by
  refine gives_intro [] [] [] Tryz.func33 rfl (by rfl) (by simp [Tryz.ntmps33]) fun F hP hG hN hR => ?_
  rw [Tryz.ntmps33] at hN
  have hA := And.intro hN (And.intro hP (And.intro hG (And.intro hR.1 (And.intro hR.2.1 hR.2.2.1))))
  have hE := @Tryz.results33
  refine WS [0, 1] [] ?_
  apply aw_seq
  refine WS [0, 1, 11] [] ?_
  refine WI (fun hb => ?_) (fun hb => ?_)
  · skip
    have hne : a ≠ b := fun e => by subst e; omega
    have hE := And.intro hE (decide_eq_false hne)
    refine WS [4] [] ?_
    apply aw_ret
    apply q_ret_seq
    simp only [QRet, QRetM, QRetX, retsX_nil, retsX_cons, objsAre, resA, mapO_nil, mapO_cons, vD_dat, vD_nils, vD_rp, vD_osl, vD_ptr, vD_agg, vD_fn, vD_isl, vL_dat, vL_app, viewL, avA, datsOf, fillA, seval, ↓List.forall_mem_cons, Op.operands, hP, hG, tiA, hE]
    all_goals try (first | done | rfl | trivial)
  · skip
    apply aw_skip
    apply q_seq
    refine WS [0, 1, 5] [] ?_
    apply aw_seq
    refine WS [0, 1, 5, 13, 14] [] ?_
    apply aw_block
    refine WL (ι := {i : Nat // i ≤ a.size}) [0, 1, 13] [] (fun ⟨i, hi⟩ => [(14, .dat (iD i)), (5, .dat (.int .u8 (dfM a b i)))]) (fun ⟨i, hi⟩ => []) (fun ⟨i, hi⟩ => a.size - i) (⟨0, by omega⟩) ?_
    rintro ⟨i, hi⟩
    dsimp only [List.cons_append, List.nil_append]
    refine WS [0, 1, 5, 13, 14, 15] [] ?_
    apply aw_seq
    refine WI (fun hb => ?_) (fun hb => ?_)
    · skip
      have hE := And.intro hE (And.intro (dfM.eq_2 a b i) (xorB.eq_1 (byteAt a i) (byteAt b i)))
      apply aw_skip
      apply q_seq
      apply aw_seq
      apply aw_block
      refine WS [0, 1, 5, 6, 13, 14] [] ?_
      refine WDQ [0, 1, 5, 13, 14] [] [0, 1, 2, 3, 4, 5, 6, 7, 8, 9] [] ?_
      apply q_block
      apply q_seq
      refine WQ [0, 1, 5, 13, 14] [] ?_
      refine WN (⟨i + 1, by omega⟩)
    · skip
      apply aw_exit
      apply q_exit_seq
      have hend : i = a.size := by omega
      subst hend
      have hs : a.size = b.size := by omega
      have hd := df_eq hs
      have hdd : (dfM a b a.size == 0) = decide (a = b) := by rw [Bool.eq_iff_iff]; simp [hd]
      have hE := And.intro hE hdd
      apply q_exit_loop
      apply q_exit
      apply q_seq
      refine WS [4] [] ?_
      apply aw_ret
      simp only [QRet, QRetM, QRetX, retsX_nil, retsX_cons, objsAre, resA, mapO_nil, mapO_cons, vD_dat, vD_nils, vD_rp, vD_osl, vD_ptr, vD_agg, vD_fn, vD_isl, vL_dat, vL_app, viewL, avA, datsOf, fillA, seval, ↓List.forall_mem_cons, Op.operands, hP, hG, tiA, hE]
      all_goals try (first | done | rfl | trivial)

theorem short_ok (G) (s : ByteArray) (n : Nat) : Gives Tryz.prog G 7 [.str s, iD n] [.str (shortS s n)] := by
  refine gives_intro [] [] [] Tryz.func7 rfl (by rfl) (by simp [Tryz.ntmps7]) fun F hP hG hN hR => ?_
  rw [Tryz.ntmps7] at hN
  have hA := And.intro hN (And.intro hP (And.intro hG (And.intro hR.1 (And.intro hR.2.1 hR.2.2.1))))
  have hE := @Tryz.results7
  refine WS [0, 1] [] ?_
  apply aw_seq
  refine WS [0, 1, 8] [] ?_
  refine WI (fun hb => ?_) (fun hb => ?_)
  · skip
    have hv : shortS s n = s.extract 0 n := if_pos (by omega)
    have hE := And.intro hE (And.intro hv Int.toNat_natCast)
    refine WS [4] [] ?_
    apply aw_ret
    apply q_ret_seq
    simp only [QRet, QRetM, QRetX, retsX_nil, retsX_cons, objsAre, resA, mapO_nil, mapO_cons, vD_dat, vD_nils, vD_rp, vD_osl, vD_ptr, vD_agg, vD_fn, vD_isl, vL_dat, vL_app, viewL, avA, datsOf, fillA, seval, ↓List.forall_mem_cons, Op.operands, hP, hG, tiA, hE]
    all_goals try (first | done | rfl | trivial)
  · skip
    have hv : shortS s n = s := if_neg (by omega)
    have hE := And.intro hE hv
    apply aw_skip
    apply q_seq
    refine WS [4] [] ?_
    apply aw_ret
    simp only [QRet, QRetM, QRetX, retsX_nil, retsX_cons, objsAre, resA, mapO_nil, mapO_cons, vD_dat, vD_nils, vD_rp, vD_osl, vD_ptr, vD_agg, vD_fn, vD_isl, vL_dat, vL_app, viewL, avA, datsOf, fillA, seval, ↓List.forall_mem_cons, Op.operands, hP, hG, tiA, hE]
    all_goals try (first | done | rfl | trivial)

end Go.Proofs.YtabjaaonfaejmaaGreatDoor

namespace Go.Proofs.YtabjaaonfaejmaaGreatDoor
open Go.Av

theorem dE_app (A B : List Int) : datE (List.map AV.dat (List.map u8D A) ++ List.map AV.dat (List.map (Dat.int IntKind.u8) B)) = some ((A ++ B).map u8D) := by
  rw [← List.map_append, datE_map, List.map_append]
theorem rsum_app (G) (hgk : G.lookup 0 = some (wsD kH)) (A B : List Int) (ha : isB A) (hb : isB B) (hl : A.length + B.length ≤ 1099511627776) : Gives Tryz.prog G 80 [.sl (List.map u8D A ++ List.map u8D B)] [bsD (sumM (A ++ B))] := by
  have h := rsum_ok G hgk (A ++ B) (isB_app ha hb) (by rw [List.length_append]; exact hl)
  have e : u8sD (A ++ B) = .sl (List.map u8D A ++ List.map u8D B) := by
    show Dat.sl ((A ++ B).map u8D) = _
    rw [List.map_append]
  rwa [e] at h
theorem tk_app (A B : List Int) (n : Nat) (h : A.length + B.length ≤ n) : List.take n (List.map u8D A ++ List.map u8D B) = List.map u8D A ++ List.map u8D B := List.take_of_length_le (by simpa using h)

set_option maxRecDepth 100000 in
set_option maxHeartbeats 1000000 in
theorem rmac_core (G) (hgk : G.lookup 0 = some (wsD kH)) (s text : ByteArray) (p1 p2 : List Int) (hp1 : p1.length = 64) (hp2 : p2.length = 64) (i1 : isB p1) (i2 : isB p2) (h1 : GivesX Tryz.prog G 78 [.dat (.str s), .dat (.int .u8 54)] [] [.osl 33 1 0 64] [(33, ⟨1, (p1.map u8D).map .dat⟩)]) (h2 : GivesX Tryz.prog G 78 [.dat (.str s), .dat (.int .u8 92)] [] [.osl 33 1 0 64] [(33, ⟨1, (p2.map u8D).map .dat⟩)]) (ht : text.size ≤ 549755813888) : Gives Tryz.prog G 32 [.str s, .str text] [.str (bstr (sumM (p2 ++ strB (bstr (sumM (p1 ++ strB text))))))] := by
  have hst : (strB text).length = text.size := strB_len text
  obtain ⟨u, hu⟩ : ∃ u, u = bstr (sumM (p1 ++ strB text)) := ⟨_, rfl⟩
  have hus : u.size = 32 := by rw [hu, bstr_len, sumM_len]
  have hsi : (strB u).length = 32 := by rw [strB_len]; exact hus
  have ht1 := tk_app p1 (strB text) (64 + text.size) (by omega)
  have ht2 := tk_app p2 (strB u) 96 (by omega)
  rw [← hu]
  skip
  skip
  refine gives_intro [] [8, 13] [] Tryz.func32 rfl (by rfl) (by simp [Tryz.ntmps32]) fun F hP hG hN hR => ?_
  rw [Tryz.ntmps32] at hN
  have hA := And.intro hN (And.intro hP (And.intro hG (And.intro hR.1 (And.intro hR.2.1 hR.2.2.1))))
  have hE := And.intro @Tryz.results32 (And.intro @hp1 (And.intro @hp2 (And.intro @hst (And.intro @hus (And.intro @hsi (And.intro @ht1 (@ht2)))))))
  refine WS [0, 1] [8, 13] ?_
  apply aw_regs [0, 1, 5] [11, 8, 13]
  · simp (maxSteps := 2000000) (disch := omega) only [avR2, avA, datsOf, fillA, seval, ↓List.forall_mem_cons, Op.operands, hA, tiA, hE]
    (repeat' refine And.intro ?_ ?_) <;> try exact SD
    refine CallC.useX (fun _ => 8) [33] (by simp [LitD, hR.2.1]) (gvFX hP hG (h1)) rfl (lentX_of hN (by first | trivial | ((try simp only [haveL, AObj.ren, AV.ren, renL, ren_row, List.map_cons, List.map_nil, objL_cons, objL_nil]) <;> ((repeat' apply And.intro) <;> first | trivial | rfl))) (by rfl)) ?_
    try simp (maxSteps := 2000000) (disch := omega) only [avR2, avA, datsOf, fillA, seval, ↓List.forall_mem_cons, Op.operands, hA, tiA, hE, avX]
    exact SC
  refine WS [0, 5] [11, 8, 13] ?_
  apply aw_regs [5, 6] [11, 18, 8, 13]
  · simp (maxSteps := 2000000) (disch := omega) only [avR2, avA, datsOf, fillA, seval, ↓List.forall_mem_cons, Op.operands, hA, tiA, hE]
    (repeat' refine And.intro ?_ ?_) <;> try exact SD
    refine CallC.useX (fun _ => 13) [33] (by simp [LitD, hR.2.1]) (gvFX hP hG (h2)) rfl (lentX_of hN (by first | trivial | ((try simp only [haveL, AObj.ren, AV.ren, renL, ren_row, List.map_cons, List.map_nil, objL_cons, objL_nil]) <;> ((repeat' apply And.intro) <;> first | trivial | rfl))) (by rfl)) ?_
    try simp (maxSteps := 2000000) (disch := omega) only [avR2, avA, datsOf, fillA, seval, ↓List.forall_mem_cons, Op.operands, hA, tiA, hE, avX]
    exact SC
  refine aw_frz 11 hR.2.2.2 rfl (dE_app p1 (strB text)) ?_
  apply aw_regs [6] [18, 8, 13]
  · simp (maxSteps := 2000000) (disch := omega) only [avR2, avA, datsOf, fillA, seval, ↓List.forall_mem_cons, Op.operands, hA, tiA, hE]
    (repeat' refine And.intro ?_ ?_) <;> try exact SD
    refine CallC.use (gvF hP hG (rsum_app G hgk p1 (strB text) i1 (isB_str text) (by omega))) rfl ?_
    try simp (maxSteps := 2000000) (disch := omega) only [avR2, avA, datsOf, fillA, seval, ↓List.forall_mem_cons, Op.operands, hA, tiA, hE, hu.symm]
    (repeat' refine And.intro ?_ ?_) <;> try exact SD
    refine CallC.use (gvF hP hG (bytes32_ok G (sumM (p1 ++ strB text)) (sumM_len _))) rfl ?_
    try simp (maxSteps := 2000000) (disch := omega) only [avR2, avA, datsOf, fillA, seval, ↓List.forall_mem_cons, Op.operands, hA, tiA, hE, hu.symm]
    exact SC
  refine aw_frz 18 hR.2.2.2 rfl (dE_app p2 (strB u)) ?_
  apply aw_regs [4] [8, 13]
  · simp (maxSteps := 2000000) (disch := omega) only [avR2, avA, datsOf, fillA, seval, ↓List.forall_mem_cons, Op.operands, hA, tiA, hE]
    (repeat' refine And.intro ?_ ?_) <;> try exact SD
    refine CallC.use (gvF hP hG (rsum_app G hgk p2 (strB u) i2 (isB_str u) (by omega))) rfl ?_
    try simp (maxSteps := 2000000) (disch := omega) only [avR2, avA, datsOf, fillA, seval, ↓List.forall_mem_cons, Op.operands, hA, tiA, hE]
    (repeat' refine And.intro ?_ ?_) <;> try exact SD
    refine CallC.use (gvF hP hG (bytes32_ok G (sumM (p2 ++ strB u)) (sumM_len _))) rfl ?_
    try simp (maxSteps := 2000000) (disch := omega) only [avR2, avA, datsOf, fillA, seval, ↓List.forall_mem_cons, Op.operands, hA, tiA, hE]
    exact SC
  apply aw_ret
  simp only [QRet, QRetM, QRetX, retsX_nil, retsX_cons, objsAre, resA, mapO_nil, mapO_cons, vD_dat, vD_nils, vD_rp, vD_osl, vD_ptr, vD_agg, vD_fn, vD_isl, vL_dat, vL_app, viewL, avA, datsOf, fillA, seval, ↓List.forall_mem_cons, Op.operands, hP, hG, tiA, hE]
  all_goals try (first | done | rfl | trivial)

theorem rmac_ok (G) (hgk : G.lookup 0 = some (wsD kH)) (s text : ByteArray) (hs : s.size ≤ 1099511627776) (ht : text.size ≤ 549755813888) : Gives Tryz.prog G 32 [.str s, .str text] [.str (macS s text)] :=
  rmac_core G hgk s text (pkL s 54 64) (pkL s 92 64) (pkL_len s 54 64) (pkL_len s 92 64) (isB_pk s 54 64) (isB_pk s 92 64) (padKey_okX G hgk s 54 hs) (padKey_okX G hgk s 92 hs) ht
end Go.Proofs.YtabjaaonfaejmaaGreatDoor

namespace Go.Proofs.YtabjaaonfaejmaaGreatDoor
open Go.Av

/-- A key, filled up. -/
def fillB (k : ByteArray) : List Int := strB k ++ List.replicate (64 - k.size) 0
theorem fillB_len (k : ByteArray) (h : k.size ≤ 64) : (fillB k).length = 64 := by simp [fillB, strB_len]; omega
def xkL (b : List Int) (c : Int) : Nat → List Int
  | 0 => b
  | i + 1 => (xkL b c i).set i (xorB ((xkL b c i).getD i 0) c)
theorem xkL_len (b : List Int) (c : Int) : ∀ i, (xkL b c i).length = b.length
  | 0 => rfl
  | i + 1 => by simp [xkL, xkL_len b c i]
theorem xkL_get (b : List Int) (c : Int) : ∀ i k, (xkL b c i).getD k 0 = if k < i ∧ k < b.length then xorB (b.getD k 0) c else b.getD k 0
  | 0, k => by simp [xkL]
  | i + 1, k => by
    simp only [xkL]
    by_cases hi : i < b.length
    · rw [getD_set _ _ _ _ (by rw [xkL_len]; exact hi)]
      by_cases h : k = i
      · subst h
        rw [if_pos rfl, if_pos ⟨by omega, hi⟩, xkL_get b c k k, if_neg (by omega)]
      · rw [if_neg h, xkL_get b c i k]
        by_cases h2 : k < i ∧ k < b.length
        · rw [if_pos h2, if_pos ⟨by omega, h2.2⟩]
        · rw [if_neg h2, if_neg (by omega)]
    · rw [List.set_eq_of_length_le (by rw [xkL_len]; omega), xkL_get b c i k]
      by_cases h2 : k < i ∧ k < b.length
      · rw [if_pos h2, if_pos ⟨by omega, h2.2⟩]
      · rw [if_neg h2, if_neg (by omega)]
theorem strB_get (s : ByteArray) (k : Nat) : (strB s).getD k 0 = byteAt s k := by
  unfold strB byteAt
  simp only [List.getD_eq_getElem?_getD, List.getElem?_map, Array.getElem?_toList]
  cases s.data[k]? <;> rfl
theorem fillB_get (s : ByteArray) (k : Nat) : (fillB (keyS s)).getD k 0 = kbM s k := by
  unfold fillB kbM
  by_cases h : k < (keyS s).size
  · rw [if_pos h, ← strB_get]
    simp only [List.getD_eq_getElem?_getD]
    rw [List.getElem?_append_left (by rw [strB_len]; exact h)]
  · rw [if_neg h]
    simp only [List.getD_eq_getElem?_getD]
    rw [List.getElem?_append_right (by rw [strB_len]; omega)]
    simp only [List.getElem?_replicate]
    split <;> rfl
theorem pkL_get (s : ByteArray) (c : Int) : ∀ i k, k < i → (pkL s c i).getD k 0 = xorB (kbM s k) c
  | i + 1, k, h => by
    simp only [pkL, List.getD_eq_getElem?_getD]
    by_cases hk : k < i
    · rw [List.getElem?_append_left (by rw [pkL_len]; exact hk), ← List.getD_eq_getElem?_getD, pkL_get s c i k hk]
    · have : k = i := by omega
      subst this
      rw [List.getElem?_append_right (by rw [pkL_len]; exact Nat.le_refl _), pkL_len]
      simp
theorem xk_pk (s : ByteArray) (c : Int) : xkL (fillB (keyS s)) c 64 = pkL s c 64 := by
  have hl := fillB_len (keyS s) (keyS_len s)
  refine List.ext_getElem (by rw [xkL_len, hl, pkL_len]) fun k h1 h2 => ?_
  rw [xkL_len, hl] at h1
  have e1 := xkL_get (fillB (keyS s)) c 64 k
  have e2 := pkL_get s c 64 k h1
  rw [if_pos ⟨h1, by omega⟩, fillB_get] at e1
  have h3 : k < (xkL (fillB (keyS s)) c 64).length := by rw [xkL_len, hl]; exact h1
  have h4 : k < (pkL s c 64).length := by rw [pkL_len]; exact h1
  simp only [List.getD_eq_getElem?_getD, List.getElem?_eq_getElem h3, Option.getD_some] at e1
  simp only [List.getD_eq_getElem?_getD, List.getElem?_eq_getElem h4, Option.getD_some] at e2
  rw [e1, e2]
theorem fillB_copy (k : ByteArray) (h : k.size ≤ 64) : List.take 0 (List.map u8D y64) ++ List.map (Dat.int IntKind.u8) (List.take 64 (strB k)) ++ List.drop (0 + min k.size 64) (List.map u8D y64) = List.map u8D (fillB k) := by
  have e : List.take 64 (strB k) = strB k := List.take_of_length_le (by rw [strB_len]; exact h)
  rw [e, Nat.min_eq_left h, List.take_zero, List.nil_append, Nat.zero_add, ← List.map_drop]
  unfold fillB y64
  rw [List.drop_replicate, List.map_append]
def mEv (k : ByteArray) : List (Nat × Nat × AV) := [(0, 6, .isl 4 64 0 0 64 64), (1, 7, .dat (.str k)), (2, 8, .dat (.int .i64 (min k.size 64 : Nat)))]
def mOv (k : ByteArray) : List (Nat × Nat × AObj) := [(2, 4, ⟨64, [.dat (bsD (fillB k))]⟩)]

set_option maxRecDepth 100000 in
set_option maxHeartbeats 1000000 in
theorem padded_in (G) (c : Int) (k : ByteArray) (hk : k.size ≤ 64) : Gives Tryz.prog G 35 [.int .u8 c, .ref (.str k)] [.str (bstr (xkL (fillB k) c 64))] := by
  refine gives_intro [] [] [] Tryz.func35 rfl (by rfl) (by simp [Tryz.ntmps35]) fun F hP hG hN hR => ?_
  rw [Tryz.ntmps35] at hN
  have hA := And.intro hN (And.intro hP (And.intro hG (And.intro hR.1 (And.intro hR.2.1 hR.2.2.1))))
  have hE := @Tryz.results35
  refine WS [0, 1] [] ?_
  apply aw_regs [0, 1, 4] [4]
  · simp (maxSteps := 2000000) (disch := omega) only [avR2, avA, datsOf, fillA, seval, ↓List.forall_mem_cons, Op.operands, hA, tiA, hE, ↓zero_y64, -List.reduceReplicate]
    exact SC
  refine aw_invs [0, 4] [4] (jD (mEv k) (mOv k)) (e := [(0, .dat (.int .u8 c)), (4, .ptr 4 64 0 0)]) (o := [(4, ⟨64, [.dat (bsD (fillB k))]⟩)]) (by rw [hP]; kernel_rfl) (by kernel_rfl) (by kernel_rfl) ?_ (fun D hD => jD_none (by simp only [mEv, List.forall_mem_cons]; simp [hD]) (by simp only [mOv, List.forall_mem_cons]; simp [hD])) ⟨rfl, rfl⟩ ?_
  · intro D i' o ho hD hdep hcd
    generalize hst : ASt.of _ _ = st0
    have s4 : st0.env 4 = .ptr 4 64 0 0 := by rw [← hst]; rfl
    have s1 : st0.env 1 = .dat (.ref (.str k)) := by rw [← hst]; rfl
    have o4 : st0.objs 4 = some ⟨64, [.dat (bsD y64)]⟩ := by rw [← hst]; rfl
    clear hst
    have hi3 : i' < 3 := (List.getElem?_eq_some_iff.1 ho).1
    have hcs : i' = 0 ∨ i' = 1 ∨ i' = 2 := by omega
    rcases hcs with rfl | rfl | rfl
    · simp only [List.getElem?_cons_zero, List.getElem?_cons_succ, Option.some.injEq] at ho
      subst ho
      have f0 : (jD (mEv k) (mOv k) st0 D).env 4 = .ptr 4 64 0 0 := (jD_env_off (by simp [mEv])).trans s4
      rw [← jD_put (i := 0) (d := 6) (v := .isl 4 64 0 0 64 64) (by simp [mEv]) (by simp [mEv]) (by simp [mEv]) (by simp [mOv])]
      generalize jD (mEv k) (mOv k) st0 D = st1 at *
      refine step_run (ops := #[]) rfl ?_
      simp (maxSteps := 2000000) (disch := omega) only [avR2, avA, datsOf, fillA, seval, ↓List.forall_mem_cons, Op.operands, hA, tiA, hE, f0]
      all_goals exact SC
    · simp only [List.getElem?_cons_zero, List.getElem?_cons_succ, Option.some.injEq] at ho
      subst ho
      have f0 : (jD (mEv k) (mOv k) st0 D).env 1 = .dat (.ref (.str k)) := (jD_env_off (by simp [mEv])).trans s1
      rw [← jD_put (i := 1) (d := 7) (v := .dat (.str k)) (by simp [mEv]) (by simp [mEv]) (by simp [mEv]) (by simp [mOv])]
      generalize jD (mEv k) (mOv k) st0 D = st1 at *
      refine step_run (ops := #[]) rfl ?_
      simp (maxSteps := 2000000) (disch := omega) only [avR2, avA, datsOf, fillA, seval, ↓List.forall_mem_cons, Op.operands, hA, tiA, hE, f0]
      all_goals exact SC
    · simp only [List.getElem?_cons_zero, List.getElem?_cons_succ, Option.some.injEq] at ho
      subst ho
      have f6 : (jD (mEv k) (mOv k) st0 D).env 6 = .isl 4 64 0 0 64 64 := jD_env_get (i := 0) (hdep ⟨0, .data⟩ (by simp) rfl) (by simp [mEv]) (by simp [mEv])
      have f7 : (jD (mEv k) (mOv k) st0 D).env 7 = .dat (.str k) := jD_env_get (i := 1) (hdep ⟨1, .data⟩ (by simp) rfl) (by simp [mEv]) (by simp [mEv])
      have fo : (jD (mEv k) (mOv k) st0 D).objs 4 = some ⟨64, [.dat (bsD y64)]⟩ := by simp [jD, mOv, objD, hD, o4]
      rw [← jD_both (i := 2) (d := 8) (id := 4) (v := .dat (.int .i64 (min k.size 64 : Nat))) (o := ⟨64, [.dat (bsD (fillB k))]⟩) (by simp [mEv]) (by simp [mEv]) (by simp [mEv]) (by simp [mOv, objOK])]
      have h := copyS_ok (F := F) (st := jD (mEv k) (mOv k) st0 D) (d := 8) (x := .tmp 6) (y := .tmp 7) (t := 47) (t' := 9) (o := ⟨some 8, .call { callee := .builtin .copy, args := #[.tmp 6, .tmp 7], argTypes := #[47, 9] }, 3, "hash.go:0", #[], none⟩) rfl rfl (by rw [hN]; omega) (by rw [hP]; exact ti47) rfl (by rw [hP]; exact ti5) rfl f6 f7 fo rfl rfl (by simp only [List.length_map, y64_len]; omega)
      rw [fillB_copy k hk] at h
      exact h
  apply aw_seq
  refine WS [0, 4, 9] [4] ?_
  apply aw_block
  refine WL (ι := {i : Nat // i ≤ 64}) [0, 4] [] (fun ⟨i, hi⟩ => [(9, .dat (iD i))]) (fun ⟨i, hi⟩ => [(4, ⟨64, [.dat (bsD (xkL (fillB k) c i))]⟩)]) (fun ⟨i, hi⟩ => 64 - i) (⟨0, by omega⟩) ?_
  rintro ⟨i, hi⟩
  dsimp only [List.cons_append, List.nil_append]
  have hl := xkL_len (fillB k) c i
  rw [fillB_len k hk] at hl
  refine WS [0, 4, 9, 10] [4] ?_
  apply aw_seq
  refine WI (fun hb => ?_) (fun hb => ?_)
  · skip
    have g1 := get_bs (xkL (fillB k) c i) i (by omega)
    have t1 := set_bs (xkL (fillB k) c i) i (by omega)
    have hE := And.intro hE (And.intro g1 (And.intro t1 (And.intro (xkL.eq_2 (fillB k) c i) (And.intro (xorB.eq_1 ((xkL (fillB k) c i).getD i 0) c) (And.intro len_bs (And.intro ds_bs hl))))))
    apply aw_skip
    apply q_seq
    apply aw_seq
    apply aw_block
    refine WS [0, 4, 5, 9] [4] ?_
    refine WQ [0, 4, 9] [4] ?_
    apply q_block
    apply q_seq
    refine WQ [0, 4, 9] [4] ?_
    refine WN (⟨i + 1, by omega⟩)
  · skip
    apply aw_exit
    apply q_exit_seq
    have hend : i = 64 := by omega
    subst hend
    obtain ⟨X, hX⟩ : ∃ X, X = xkL (fillB k) c 64 := ⟨_, rfl⟩
    rw [← hX] at hl
    rw [← hX]
    apply q_exit_loop
    apply q_exit
    apply q_seq
    refine aw_frz 4 hR.2.2.2 rfl rfl ?_
    refine aw_rpD 4 (d := bsD X) rfl ?_
    have htk : List.take 64 (List.map u8D X) = List.map u8D X := List.take_of_length_le (by rw [List.length_map]; omega)
    have hE := And.intro hE (And.intro hl htk)
    refine WS [3] [] ?_
    apply aw_ret
    simp only [QRet, QRetM, QRetX, retsX_nil, retsX_cons, objsAre, resA, mapO_nil, mapO_cons, vD_dat, vD_nils, vD_rp, vD_osl, vD_ptr, vD_agg, vD_fn, vD_isl, vL_dat, vL_app, viewL, avA, datsOf, fillA, seval, ↓List.forall_mem_cons, Op.operands, hP, hG, tiA, hE]
    all_goals try (first | done | rfl | trivial)

end Go.Proofs.YtabjaaonfaejmaaGreatDoor

namespace Go.Proofs.YtabjaaonfaejmaaGreatDoor
open Go.Av

theorem isB_out (s : S8) : isB (outM s) := by
  intro x hx
  simp only [outM, List.mem_map] at hx
  obtain ⟨i, _, rfl⟩ := hx
  omega
theorem isB_sum (b : List Int) : isB (sumM b) := isB_out _
theorem isB_nil : isB [] := fun x hx => by cases hx
theorem add_first (G) (hgk : G.lookup 1 = some (wsD kH)) (b : List Int) (hib : isB b) (hl : b.length ≤ 1099511627776) : ∃ b1, BkOK b b.length b1 ∧ Gives Tryz.prog G 37 [stD [] y64, .str (bstr b)] [stD b b1] :=
  ⟨_, bk_to b (bkOK_nil y64_len), add_to G hgk [] y64 b (bkOK_nil y64_len) isB_nil hib (by simp; omega)⟩
theorem add_next (G) (hgk : G.lookup 1 = some (wsD kH)) (m blk t : List Int) (hb0 : BkOK m m.length blk) (hib : isB m) (hit : isB t) (hl : m.length + t.length ≤ 1099511627776) : ∃ b1, BkOK (m ++ t) (m ++ t).length b1 ∧ Gives Tryz.prog G 37 [stD m blk, .str (bstr t)] [stD (m ++ t) b1] :=
  ⟨_, bk_to t hb0, add_to G hgk m blk t hb0 hib hit (by omega)⟩
theorem add_text (G) (hgk : G.lookup 1 = some (wsD kH)) (m blk : List Int) (t : ByteArray) (hb0 : BkOK m m.length blk) (hib : isB m) (hl : m.length + t.size ≤ 1099511627776) : ∃ b1, BkOK (m ++ strB t) (m ++ strB t).length b1 ∧ Gives Tryz.prog G 37 [stD m blk, .str t] [stD (m ++ strB t) b1] :=
  ⟨_, by have h := bk_to (strB t) hb0; rwa [strB_len] at h, add_ok G hgk m blk hb0 t hib (by omega)⟩
theorem u8_at (l : List Int) (n : Nat) (h : l.length ≤ n) : List.take n (List.map u8D l) = List.map u8D l := List.take_of_length_le (by simpa using h)

set_option maxRecDepth 100000 in
set_option maxHeartbeats 1000000 in
theorem mac_core (G) (hgk : G.lookup 1 = some (wsD kH)) (s text : ByteArray) (k : ByteArray) (hk1 : 64 < s.size → k = bstr (sumM (strB s))) (hk2 : ¬ 64 < s.size → k = s) (p1 p2 : List Int) (hp1 : p1.length = 64) (hp2 : p2.length = 64) (i1 : isB p1) (i2 : isB p2) (h1 : Gives Tryz.prog G 35 [.int .u8 54, .ref (.str k)] [.str (bstr p1)]) (h2 : Gives Tryz.prog G 35 [.int .u8 92, .ref (.str k)] [.str (bstr p2)]) (hs : s.size ≤ 549755813888) (ht : text.size ≤ 549755813888) : Gives Tryz.prog G 11 [.str s, .str text] [.str (bstr (sumM (p2 ++ sumM (p1 ++ strB text))))] := by
  have hst : (strB text).length = text.size := strB_len text
  have hss : (strB s).length = s.size := strB_len s
  obtain ⟨b1, kb1, c1⟩ := add_first G hgk p1 i1 (by omega)
  obtain ⟨b2, kb2, c2⟩ := add_text G hgk p1 b1 text kb1 i1 (by omega)
  have c3 := ssum_ok G hgk (p1 ++ strB text) b2 kb2 (isB_app i1 (isB_str text)) (by rw [List.length_append]; omega)
  obtain ⟨y, hy⟩ : ∃ y, y = sumM (p1 ++ strB text) := ⟨_, rfl⟩
  have hyl : y.length = 32 := by rw [hy]; exact sumM_len _
  have hyB : isB y := by rw [hy]; exact isB_sum _
  rw [← hy] at c3 ⊢
  obtain ⟨b3, kb3, c4⟩ := add_first G hgk p2 i2 (by omega)
  obtain ⟨b4, kb4, c5⟩ := add_next G hgk p2 b3 y kb3 i2 hyB (by omega)
  have c6 := ssum_ok G hgk (p2 ++ y) b4 kb4 (isB_app i2 hyB) (by rw [List.length_append]; omega)
  obtain ⟨z, hz⟩ : ∃ z, z = sumM (p2 ++ y) := ⟨_, rfl⟩
  have hzl : z.length = 32 := by rw [hz]; exact sumM_len _
  rw [← hz] at c6 ⊢
  obtain ⟨x, hx⟩ : ∃ x, x = sumM (strB s) := ⟨_, rfl⟩
  have hxl : x.length = 32 := by rw [hx]; exact sumM_len _
  have c0 := fun h => sum_ok G hgk (strB s) (isB_str s) h
  rw [← hx] at hk1 c0
  have tx := u8_at x 32 (by omega)
  have ty := u8_at y 32 (by omega)
  have tz := u8_at z 32 (by omega)
  clear hx hy hz
  skip
  refine gives_intro [] [] [] Tryz.func11 rfl (by rfl) (by simp [Tryz.ntmps11]) fun F hP hG hN hR => ?_
  rw [Tryz.ntmps11] at hN
  have hA := And.intro hN (And.intro hP (And.intro hG (And.intro hR.1 (And.intro hR.2.1 hR.2.2.1))))
  have hE := And.intro @Tryz.results11 (And.intro @hst (And.intro @hss (And.intro @hyl (And.intro @hzl (And.intro @hxl (And.intro @tx (And.intro @ty (@tz))))))))
  refine WS [1, 2] [2] ?_
  refine aw_meet (.of [(1, .dat (.str text)), (2, .ptr 2 1 0 0)] [(2, ⟨1, [.dat (.str k)]⟩)]) ?_ ?_
  · skip
    refine WS [1, 2, 11] [2] ?_
    refine WI (fun hb => ?_) (fun hb => ?_)
    · skip
      have hk := hk1 (by omega)
      have hE := And.intro hE hk
      refine aw_lists ?_
      apply al_seg
      · (iterate 1 apply Seg.cons); exact Seg.nil _
      · simp (maxSteps := 2000000) (disch := omega) only [avR2, avA, datsOf, fillA, seval, ↓List.forall_mem_cons, Op.operands, hA, tiA, hE, KeptS]
        exact SC
      refine al_step rfl (conv_sb_ok rfl rfl (by rw [hN]; omega) (by rw [hP]; exact ti9) (by rw [hP]; exact ti47) rfl (by rw [hP]; exact ti5) rfl rfl) ?_
      rw [of_put]
      apply al_last [1, 2, 5] [2, 5]
      · simp (maxSteps := 2000000) (disch := omega) only [avR2, avA, datsOf, fillA, seval, ↓List.forall_mem_cons, Op.operands, hA, tiA, hE]
        (repeat' refine And.intro ?_ ?_) <;> try exact SD
        refine CallC.use (gvF hP hG (c0 (by omega))) rfl ?_
        try simp (maxSteps := 2000000) (disch := omega) only [avR2, avA, datsOf, fillA, seval, ↓List.forall_mem_cons, Op.operands, hA, tiA, hE]
        exact SC
      refine aw_frz 5 hR.2.2.2 rfl rfl ?_
      refine aw_rpD 5 (d := bsD x) rfl ?_
      refine WQ [1, 2] [2] ?_
      refine Le.of ?_ ?_
      · try simp (disch := omega) only [LeE, LeO, avA, datsOf, fillA, seval, ↓List.forall_mem_cons, Op.operands, hE]
        all_goals first | done | (repeat' apply And.intro) <;> first | rfl | omega | assumption | (simp only [AV.dat.injEq, Dat.int.injEq, true_and]; omega) | (congr <;> omega)
      · try simp (disch := omega) only [LeE, LeO, avA, datsOf, fillA, seval, ↓List.forall_mem_cons, Op.operands, hE]
        all_goals first | done | (repeat' apply And.intro) <;> first | rfl | omega | assumption | (simp only [AV.dat.injEq, Dat.int.injEq, true_and]; omega) | (congr <;> omega)
    · skip
      have hk := hk2 (by omega)
      have hE := And.intro hE hk
      apply aw_skip
      refine Le.of ?_ ?_
      · try simp (disch := omega) only [LeE, LeO, avA, datsOf, fillA, seval, ↓List.forall_mem_cons, Op.operands, hE]
        all_goals first | done | (repeat' apply And.intro) <;> first | rfl | omega | assumption | (simp only [AV.dat.injEq, Dat.int.injEq, true_and]; omega) | (congr <;> omega)
      · try simp (disch := omega) only [LeE, LeO, avA, datsOf, fillA, seval, ↓List.forall_mem_cons, Op.operands, hE]
        all_goals first | done | (repeat' apply And.intro) <;> first | rfl | omega | assumption | (simp only [AV.dat.injEq, Dat.int.injEq, true_and]; omega) | (congr <;> omega)
  refine aw_frz 2 hR.2.2.2 rfl rfl ?_
  refine aw_rpD 2 (d := .str k) rfl ?_
  refine WS [1, 6] [2] ?_
  apply aw_regs [6, 7] [2, 7]
  · simp (maxSteps := 2000000) (disch := omega) only [avR2, avA, datsOf, fillA, seval, ↓List.forall_mem_cons, Op.operands, hA, tiA, hE]
    (repeat' refine And.intro ?_ ?_) <;> try exact SD
    refine CallC.use (gvF hP hG (begin_ok G)) rfl ?_
    try simp (maxSteps := 2000000) (disch := omega) only [avR2, avA, datsOf, fillA, seval, ↓List.forall_mem_cons, Op.operands, hA, tiA, hE]
    (repeat' refine And.intro ?_ ?_) <;> try exact SD
    refine CallC.use (gvF hP hG (h1)) rfl ?_
    try simp (maxSteps := 2000000) (disch := omega) only [avR2, avA, datsOf, fillA, seval, ↓List.forall_mem_cons, Op.operands, hA, tiA, hE]
    (repeat' refine And.intro ?_ ?_) <;> try exact SD
    refine CallC.use (gvF hP hG (c1)) rfl ?_
    try simp (maxSteps := 2000000) (disch := omega) only [avR2, avA, datsOf, fillA, seval, ↓List.forall_mem_cons, Op.operands, hA, tiA, hE]
    (repeat' refine And.intro ?_ ?_) <;> try exact SD
    refine CallC.use (gvF hP hG (c2)) rfl ?_
    try simp (maxSteps := 2000000) (disch := omega) only [avR2, avA, datsOf, fillA, seval, ↓List.forall_mem_cons, Op.operands, hA, tiA, hE]
    (repeat' refine And.intro ?_ ?_) <;> try exact SD
    refine CallC.use (gvF hP hG (c3)) rfl ?_
    try simp (maxSteps := 2000000) (disch := omega) only [avR2, avA, datsOf, fillA, seval, ↓List.forall_mem_cons, Op.operands, hA, tiA, hE]
    exact SC
  refine aw_frz 7 hR.2.2.2 rfl rfl ?_
  refine aw_rpD 7 (d := bsD y) rfl ?_
  apply aw_rgds [8] [8] [0, 1, 2, 3, 4, 5, 6, 7, 8, 9] [8]
  · rw [hP]; kernel_rfl
  · exact hR
  · kernel_rfl
  · (repeat (apply PickL.cons; exact rfl)); exact PickL.nil _
  · simp (maxSteps := 2000000) (disch := omega) only [avR2, avA, datsOf, fillA, seval, ↓List.forall_mem_cons, Op.operands, hA, tiA, hE]
    (repeat' refine And.intro ?_ ?_) <;> try exact SD
    refine CallC.use (gvF hP hG (begin_ok G)) rfl ?_
    try simp (maxSteps := 2000000) (disch := omega) only [avR2, avA, datsOf, fillA, seval, ↓List.forall_mem_cons, Op.operands, hA, tiA, hE]
    (repeat' refine And.intro ?_ ?_) <;> try exact SD
    refine CallC.use (gvF hP hG (h2)) rfl ?_
    try simp (maxSteps := 2000000) (disch := omega) only [avR2, avA, datsOf, fillA, seval, ↓List.forall_mem_cons, Op.operands, hA, tiA, hE]
    (repeat' refine And.intro ?_ ?_) <;> try exact SD
    refine CallC.use (gvF hP hG (c4)) rfl ?_
    try simp (maxSteps := 2000000) (disch := omega) only [avR2, avA, datsOf, fillA, seval, ↓List.forall_mem_cons, Op.operands, hA, tiA, hE]
    (repeat' refine And.intro ?_ ?_) <;> try exact SD
    refine CallC.use (gvF hP hG (c5)) rfl ?_
    try simp (maxSteps := 2000000) (disch := omega) only [avR2, avA, datsOf, fillA, seval, ↓List.forall_mem_cons, Op.operands, hA, tiA, hE]
    (repeat' refine And.intro ?_ ?_) <;> try exact SD
    refine CallC.use (gvF hP hG (c6)) rfl ?_
    try simp (maxSteps := 2000000) (disch := omega) only [avR2, avA, datsOf, fillA, seval, ↓List.forall_mem_cons, Op.operands, hA, tiA, hE]
    exact SC
  refine aw_frz 8 hR.2.2.2 rfl rfl ?_
  refine aw_rpD 8 (d := bsD z) rfl ?_
  refine WS [4] [] ?_
  apply aw_ret
  simp only [QRet, QRetM, QRetX, retsX_nil, retsX_cons, objsAre, resA, mapO_nil, mapO_cons, vD_dat, vD_nils, vD_rp, vD_osl, vD_ptr, vD_agg, vD_fn, vD_isl, vL_dat, vL_app, viewL, avA, datsOf, fillA, seval, ↓List.forall_mem_cons, Op.operands, hP, hG, tiA, hE]
  all_goals try (first | done | rfl | trivial)

theorem strB_y {b : List Int} (h : isB b) : strB (bstr b) = b := strB_bstr' h
theorem mac_ok (G) (hgk : G.lookup 1 = some (wsD kH)) (s text : ByteArray) (hs : s.size ≤ 549755813888) (ht : text.size ≤ 549755813888) : Gives Tryz.prog G 11 [.str s, .str text] [.str (macS s text)] := by
  have hkl := keyS_len s
  have h1 := padded_in G 54 (keyS s) hkl
  have h2 := padded_in G 92 (keyS s) hkl
  rw [xk_pk] at h1 h2
  have h := mac_core G hgk s text (keyS s) (fun h => by unfold keyS; rw [if_pos h]) (fun h => by unfold keyS; rw [if_neg h]) (pkL s 54 64) (pkL s 92 64) (pkL_len s 54 64) (pkL_len s 92 64) (isB_pk s 54 64) (isB_pk s 92 64) h1 h2 hs ht
  have e : macS s text = bstr (sumM (pkL s 92 64 ++ sumM (pkL s 54 64 ++ strB text))) := by
    unfold macS innerS
    rw [strB_bstr' (isB_sum _)]
  rw [e]
  exact h
end Go.Proofs.YtabjaaonfaejmaaGreatDoor

namespace Go.Proofs.YtabjaaonfaejmaaGreatDoor
open Go.Av

def kindM (c : Int) : Int := if (97 ≤ c ∧ c ≤ 122) ∨ (65 ≤ c ∧ c ≤ 90) then 0 else if 48 ≤ c ∧ c ≤ 57 then 1 else if c = 64 then 3 else 2
def classM (c : Int) : Int := if c = 32 then -1 else kindM c
theorem kindM_range (c : Int) : 0 ≤ kindM c ∧ kindM c ≤ 3 := by
  unfold kindM
  repeat' split
  all_goals omega
theorem classM_range (c : Int) : -1 ≤ classM c ∧ classM c ≤ 3 := by
  have := kindM_range c
  unfold classM
  split <;> omega
theorem classM_neg (c : Int) : classM c < 0 ↔ c = 32 := by
  have := kindM_range c
  unfold classM
  split <;> omega
theorem classM_kind {c : Int} (h : c ≠ 32) : classM c = kindM c := by unfold classM; rw [if_neg h]
theorem kind_class {c k : Int} (hk : k = 0 ∨ k = 1) (h : kindM c = k) : classM c = k := by
  rw [classM_kind, h]
  rintro rfl
  simp [kindM] at h
  omega
theorem class_kind {c k : Int} (hk : 0 ≤ k) (h : classM c = k) : kindM c = k := by
  rw [← h, classM_kind]
  rintro rfl
  simp [classM] at h
  omega

abbrev TokM := Int × Int × Int
abbrev tokD (t : TokM) : Dat := .agg [iD t.1, iD t.2.1, iD t.2.2]
abbrev toksD (l : List TokM) : Dat := .sl (l.map tokD)
def clsM (s : ByteArray) (i : Nat) : Int := classM (byteAt s i)
/-- Whether byte i continues the token of the byte before it. -/
def contM (s : ByteArray) (i : Nat) : Prop := 0 < i ∧ 0 ≤ clsM s i ∧ clsM s i < 2 ∧ clsM s (i - 1) = clsM s i
instance (s : ByteArray) (i : Nat) : Decidable (contM s i) := by unfold contM; exact inferInstance
def setEnd (l : List TokM) (e : Int) : List TokM := l.set (l.length - 1) ((l.getD (l.length - 1) default).1, e, (l.getD (l.length - 1) default).2.2)
/-- The tokens of the first i bytes. -/
def toksM (s : ByteArray) : Nat → List TokM
  | 0 => []
  | i + 1 => if clsM s i < 0 then toksM s i else if contM s i then setEnd (toksM s i) (i + 1) else toksM s i ++ [((i : Int), (i : Int) + 1, clsM s i)]

theorem setEnd_len (l : List TokM) (e : Int) : (setEnd l e).length = l.length := by simp [setEnd]
theorem setEnd_app (l : List TokM) (a b k e : Int) : setEnd (l ++ [(a, b, k)]) e = l ++ [(a, e, k)] := by
  simp [setEnd, List.getD_eq_getElem?_getD]
theorem toks_pos (s : ByteArray) : ∀ i, 0 ≤ clsM s i → 0 < (toksM s (i + 1)).length
  | i, h => by
    rw [toksM, if_neg (by omega)]
    split
    · rename_i hc
      rw [setEnd_len]
      obtain ⟨h1, h2, h3, h4⟩ := hc
      obtain ⟨j, rfl⟩ : ∃ j, i = j + 1 := ⟨i - 1, by omega⟩
      exact toks_pos s j (by simp only [Nat.add_sub_cancel] at h4; omega)
    · simp
theorem cont_pos {s : ByteArray} {i : Nat} (h : contM s i) : 0 < (toksM s i).length := by
  obtain ⟨h1, h2, h3, h4⟩ := h
  obtain ⟨j, rfl⟩ : ∃ j, i = j + 1 := ⟨i - 1, by omega⟩
  exact toks_pos s j (by simp only [Nat.add_sub_cancel] at h4; omega)
theorem toks_len (s : ByteArray) : ∀ i, (toksM s i).length ≤ i
  | 0 => by simp [toksM]
  | i + 1 => by
    have := toks_len s i
    rw [toksM]
    split
    · omega
    · split
      · rw [setEnd_len]; omega
      · simp; omega
theorem toks_blank {s : ByteArray} {i : Nat} (h : byteAt s i = 32) : toksM s (i + 1) = toksM s i ∧ ¬ contM s (i + 1) := by
  have h1 : clsM s i < 0 := (classM_neg _).2 h
  refine ⟨by rw [toksM, if_pos h1], fun ⟨_, h2, _, h4⟩ => ?_⟩
  simp only [Nat.add_sub_cancel] at h4
  omega
/-- A run of bytes of one kind is one token. -/
theorem toks_run {s : ByteArray} {a : Nat} {k : Int} (hb : ¬ contM s a) (hk : clsM s a = k) (h0 : 0 ≤ k) : ∀ t, a < t → (∀ j, a < j → j < t → k < 2 ∧ clsM s j = k) → toksM s t = toksM s a ++ [((a : Int), (t : Int), k)]
  | 0, h, _ => by omega
  | t + 1, h, hj => by
    rcases Nat.lt_or_ge a t with h1 | h1
    · have ih := toks_run hb hk h0 t h1 fun j g1 g2 => hj j g1 (by omega)
      have ht := hj t h1 (by omega)
      have hp : clsM s (t - 1) = k := by
        rcases Nat.lt_or_ge a (t - 1) with g | g
        · exact (hj (t - 1) g (by omega)).2
        · rw [show t - 1 = a by omega]; exact hk
      rw [toksM, if_neg (by omega), if_pos ⟨by omega, by omega, by omega, by omega⟩, ih, setEnd_app]
      simp
    · obtain rfl : t = a := by omega
      rw [toksM, if_neg (by omega), if_neg hb, hk]
      simp
theorem toks_stop {s : ByteArray} {a t : Nat} {k : Int} (hk : clsM s a = k) (h0 : 0 ≤ k) (hat : a < t) (hj : ∀ j, a < j → j < t → k < 2 ∧ clsM s j = k) (hs : ¬ (k < 2 ∧ clsM s t = k)) : ¬ contM s t := fun ⟨_, h2, h3, h4⟩ => by
  have hp : clsM s (t - 1) = k := by
    rcases Nat.lt_or_ge a (t - 1) with g | g
    · exact (hj (t - 1) g (by omega)).2
    · rw [show t - 1 = a by omega]; exact hk
  exact hs ⟨by omega, by omega⟩

/-- Whether a run of kind k goes on at t. -/
def goM (s : ByteArray) (k : Int) (t : Nat) : Prop := (k = 0 ∨ k = 1) ∧ t < s.size ∧ kindM (byteAt s t) = k
instance (s : ByteArray) (k : Int) (t : Nat) : Decidable (goM s k t) := by unfold goM; exact inferInstance
def runM (s : ByteArray) (k : Int) : Nat → Nat → Nat
  | 0, t => t
  | n + 1, t => if goM s k t then runM s k n (t + 1) else t
/-- Where the run that begins at i ends. -/
def endM (s : ByteArray) (i : Nat) : Nat := runM s (kindM (byteAt s i)) (s.size - (i + 1)) (i + 1)
theorem runM_go {s : ByteArray} {k : Int} {t : Nat} (h : goM s k t) : runM s k (s.size - t) t = runM s k (s.size - (t + 1)) (t + 1) := by
  have h2 := h.2.1
  obtain ⟨n, hn⟩ : ∃ n, s.size - t = n + 1 := ⟨s.size - t - 1, by omega⟩
  rw [hn, runM, if_pos h, show s.size - (t + 1) = n by omega]
theorem runM_stop {s : ByteArray} {k : Int} {t : Nat} (h : ¬ goM s k t) (n : Nat) : runM s k n t = t := by
  cases n with
  | zero => rfl
  | succ n => rw [runM, if_neg h]
theorem runM_spec (s : ByteArray) (k : Int) : ∀ n t, t + n = s.size → t ≤ runM s k n t ∧ runM s k n t ≤ s.size ∧ (∀ j, t ≤ j → j < runM s k n t → goM s k j) ∧ ¬ goM s k (runM s k n t)
  | 0, t, h => ⟨Nat.le_refl _, by simp [runM]; omega, fun j h1 h2 => by simp [runM] at h2; omega, fun h2 => by
      have := h2.2.1
      simp only [runM] at this
      omega⟩
  | n + 1, t, h => by
    rw [runM]
    split
    · rename_i hg
      obtain ⟨h1, h2, h3, h4⟩ := runM_spec s k n (t + 1) (by omega)
      refine ⟨by omega, h2, fun j g1 g2 => ?_, h4⟩
      rcases Nat.lt_or_ge t j with g | g
      · exact h3 j g g2
      · obtain rfl : t = j := by omega
        exact hg
    · rename_i hg
      exact ⟨Nat.le_refl _, by omega, fun j g1 g2 => by omega, hg⟩
theorem endM_spec {s : ByteArray} {i : Nat} (h : i < s.size) : i < endM s i ∧ endM s i ≤ s.size ∧ (∀ j, i < j → j < endM s i → goM s (kindM (byteAt s i)) j) ∧ ¬ goM s (kindM (byteAt s i)) (endM s i) := by
  obtain ⟨h1, h2, h3, h4⟩ := runM_spec s (kindM (byteAt s i)) (s.size - (i + 1)) (i + 1) (by omega)
  exact ⟨by unfold endM; omega, h2, fun j g1 g2 => h3 j g1 g2, h4⟩
theorem byteAt_out {s : ByteArray} {i : Nat} (h : s.size ≤ i) : byteAt s i = 0 := by
  have : s.data[i]? = none := Array.getElem?_eq_none (by simpa using h)
  simp [byteAt, this]
theorem clsM_out {s : ByteArray} {i : Nat} (h : s.size ≤ i) : clsM s i = 2 := by
  unfold clsM
  rw [byteAt_out h]
  rfl
/-- What the program adds for a run is the token of the run. -/
theorem toks_end {s : ByteArray} {i : Nat} (h : i < s.size) (hb : ¬ contM s i) (hc : byteAt s i ≠ 32) : toksM s (endM s i) = toksM s i ++ [((i : Int), (endM s i : Int), kindM (byteAt s i))] ∧ ¬ contM s (endM s i) := by
  obtain ⟨h1, h2, h3, h4⟩ := endM_spec h
  have hk : clsM s i = kindM (byteAt s i) := classM_kind hc
  have h0 := kindM_range (byteAt s i)
  have hj : ∀ j, i < j → j < endM s i → kindM (byteAt s i) < 2 ∧ clsM s j = kindM (byteAt s i) := fun j g1 g2 => by
    obtain ⟨k1, k2, k3⟩ := h3 j g1 g2
    exact ⟨by omega, kind_class k1 k3⟩
  refine ⟨toks_run hb hk h0.1 _ h1 hj, toks_stop hk h0.1 h1 hj fun ⟨g1, g2⟩ => h4 ⟨by omega, ?_, class_kind h0.1 g2⟩⟩
  rcases Nat.lt_or_ge (endM s i) s.size with g | g
  · exact g
  · rw [clsM_out g] at g2
    omega

def badM (s : ByteArray) (i : Nat) : Bool := decide (byteAt s i < 32) || decide (126 < byteAt s i) || (byteAt s i == 32 && ((i : Int) == 0 || (i : Int) == (s.size : Int) - 1 || byteAt s (i - 1) == 32))
def tokValidM (s : ByteArray) : Int := if 4096 < s.size then 4 else if (∃ i, i < s.size ∧ badM s i = true) ∨ s.size = 0 then 2 else if 256 < (toksM s s.size).length then 4 else 0

end Go.Proofs.YtabjaaonfaejmaaGreatDoor

namespace Go.Proofs.YtabjaaonfaejmaaGreatDoor
open Go.Av

theorem byteAt_range (s : ByteArray) (n : Nat) : 0 ≤ byteAt s n ∧ byteAt s n ≤ 255 := by
  unfold byteAt
  have := ((s.data[n]?).getD 0).toNat_lt
  omega


theorem kind_ok (G) (c : Int) : Gives Tryz.prog G 137 [u8D c] [iD (kindM c)] := by
  refine gives_intro [] [] [] Tryz.func137 rfl (by rfl) (by simp [Tryz.ntmps137]) fun F hP hG hN hR => ?_
  rw [Tryz.ntmps137] at hN
  have hA := And.intro hN (And.intro hP (And.intro hG (And.intro hR.1 (And.intro hR.2.1 hR.2.2.1))))
  have hE := @Tryz.results137
  refine WS [0] [] ?_
  apply aw_seq
  apply aw_block
  refine WS [0, 3] [] ?_
  refine WI (fun hb => ?_) (fun hb => ?_)
  · skip
    have hv : kindM c = 0 := by unfold kindM; rw [if_pos (by omega)]
    have hE := And.intro hE hv
    refine WS [2] [] ?_
    apply aw_ret
    apply q_ret_block
    apply q_ret_seq
    simp only [QRet, QRetM, QRetX, retsX_nil, retsX_cons, objsAre, resA, mapO_nil, mapO_cons, vD_dat, vD_nils, vD_rp, vD_osl, vD_ptr, vD_agg, vD_fn, vD_isl, vL_dat, vL_app, viewL, avA, datsOf, fillA, seval, ↓List.forall_mem_cons, Op.operands, hP, hG, tiA, hE]
    all_goals try (first | done | rfl | trivial)
  · skip
    refine WS [0, 18] [] ?_
    refine WI (fun hb => ?_) (fun hb => ?_)
    · skip
      have hv : kindM c = 1 := by unfold kindM; rw [if_neg (by omega), if_pos (by omega)]
      have hE := And.intro hE hv
      refine WS [2] [] ?_
      apply aw_ret
      apply q_ret_block
      apply q_ret_seq
      simp only [QRet, QRetM, QRetX, retsX_nil, retsX_cons, objsAre, resA, mapO_nil, mapO_cons, vD_dat, vD_nils, vD_rp, vD_osl, vD_ptr, vD_agg, vD_fn, vD_isl, vL_dat, vL_app, viewL, avA, datsOf, fillA, seval, ↓List.forall_mem_cons, Op.operands, hP, hG, tiA, hE]
      all_goals try (first | done | rfl | trivial)
    · skip
      refine WS [25] [] ?_
      refine WI (fun hb => ?_) (fun hb => ?_)
      · skip
        have hv : kindM c = 3 := by unfold kindM; rw [if_neg (by omega), if_neg (by omega), if_pos (by omega)]
        have hE := And.intro hE hv
        refine WS [2] [] ?_
        apply aw_ret
        apply q_ret_block
        apply q_ret_seq
        simp only [QRet, QRetM, QRetX, retsX_nil, retsX_cons, objsAre, resA, mapO_nil, mapO_cons, vD_dat, vD_nils, vD_rp, vD_osl, vD_ptr, vD_agg, vD_fn, vD_isl, vL_dat, vL_app, viewL, avA, datsOf, fillA, seval, ↓List.forall_mem_cons, Op.operands, hP, hG, tiA, hE]
        all_goals try (first | done | rfl | trivial)
      · skip
        have hv : kindM c = 2 := by unfold kindM; rw [if_neg (by omega), if_neg (by omega), if_neg (by omega)]
        have hE := And.intro hE hv
        apply aw_skip
        apply q_block
        apply q_seq
        refine WS [2] [] ?_
        apply aw_ret
        simp only [QRet, QRetM, QRetX, retsX_nil, retsX_cons, objsAre, resA, mapO_nil, mapO_cons, vD_dat, vD_nils, vD_rp, vD_osl, vD_ptr, vD_agg, vD_fn, vD_isl, vL_dat, vL_app, viewL, avA, datsOf, fillA, seval, ↓List.forall_mem_cons, Op.operands, hP, hG, tiA, hE]
        all_goals try (first | done | rfl | trivial)

theorem class_ok (G) (c : Int) : Gives Tryz.prog G 138 [u8D c] [iD (classM c)] := by
  refine gives_intro [] [] [] Tryz.func138 rfl (by rfl) (by simp [Tryz.ntmps138]) fun F hP hG hN hR => ?_
  rw [Tryz.ntmps138] at hN
  have hA := And.intro hN (And.intro hP (And.intro hG (And.intro hR.1 (And.intro hR.2.1 hR.2.2.1))))
  have hE := @Tryz.results138
  refine WS [0] [] ?_
  apply aw_seq
  refine WS [0, 4] [] ?_
  refine WI (fun hb => ?_) (fun hb => ?_)
  · skip
    have hv : classM c = -1 := by unfold classM; rw [if_pos (by omega)]
    have hE := And.intro hE hv
    refine WS [2] [] ?_
    apply aw_ret
    apply q_ret_seq
    simp only [QRet, QRetM, QRetX, retsX_nil, retsX_cons, objsAre, resA, mapO_nil, mapO_cons, vD_dat, vD_nils, vD_rp, vD_osl, vD_ptr, vD_agg, vD_fn, vD_isl, vL_dat, vL_app, viewL, avA, datsOf, fillA, seval, ↓List.forall_mem_cons, Op.operands, hP, hG, tiA, hE]
    all_goals try (first | done | rfl | trivial)
  · skip
    have h0 : classM c = kindM c := classM_kind (by omega)
    apply aw_skip
    apply q_seq
    apply aw_seq
    refine WS [0, 18] [] ?_
    refine WI (fun hb => ?_) (fun hb => ?_)
    · skip
      have hv : classM c = 0 := by rw [h0]; unfold kindM; rw [if_pos (by omega)]
      have hE := And.intro hE hv
      refine WS [2] [] ?_
      apply aw_ret
      apply q_ret_seq
      simp only [QRet, QRetM, QRetX, retsX_nil, retsX_cons, objsAre, resA, mapO_nil, mapO_cons, vD_dat, vD_nils, vD_rp, vD_osl, vD_ptr, vD_agg, vD_fn, vD_isl, vL_dat, vL_app, viewL, avA, datsOf, fillA, seval, ↓List.forall_mem_cons, Op.operands, hP, hG, tiA, hE]
      all_goals try (first | done | rfl | trivial)
    · skip
      apply aw_skip
      apply q_seq
      apply aw_seq
      refine WS [0, 24] [] ?_
      refine WI (fun hb => ?_) (fun hb => ?_)
      · skip
        have hv : classM c = 1 := by rw [h0]; unfold kindM; rw [if_neg (by omega), if_pos (by omega)]
        have hE := And.intro hE hv
        refine WS [2] [] ?_
        apply aw_ret
        apply q_ret_seq
        simp only [QRet, QRetM, QRetX, retsX_nil, retsX_cons, objsAre, resA, mapO_nil, mapO_cons, vD_dat, vD_nils, vD_rp, vD_osl, vD_ptr, vD_agg, vD_fn, vD_isl, vL_dat, vL_app, viewL, avA, datsOf, fillA, seval, ↓List.forall_mem_cons, Op.operands, hP, hG, tiA, hE]
        all_goals try (first | done | rfl | trivial)
      · skip
        apply aw_skip
        apply q_seq
        apply aw_seq
        refine WS [26] [] ?_
        refine WI (fun hb => ?_) (fun hb => ?_)
        · skip
          have hv : classM c = 3 := by rw [h0]; unfold kindM; rw [if_neg (by omega), if_neg (by omega), if_pos (by omega)]
          have hE := And.intro hE hv
          refine WS [2] [] ?_
          apply aw_ret
          apply q_ret_seq
          simp only [QRet, QRetM, QRetX, retsX_nil, retsX_cons, objsAre, resA, mapO_nil, mapO_cons, vD_dat, vD_nils, vD_rp, vD_osl, vD_ptr, vD_agg, vD_fn, vD_isl, vL_dat, vL_app, viewL, avA, datsOf, fillA, seval, ↓List.forall_mem_cons, Op.operands, hP, hG, tiA, hE]
          all_goals try (first | done | rfl | trivial)
        · skip
          have hv : classM c = 2 := by rw [h0]; unfold kindM; rw [if_neg (by omega), if_neg (by omega), if_neg (by omega)]
          have hE := And.intro hE hv
          apply aw_skip
          apply q_seq
          refine WS [2] [] ?_
          apply aw_ret
          simp only [QRet, QRetM, QRetX, retsX_nil, retsX_cons, objsAre, resA, mapO_nil, mapO_cons, vD_dat, vD_nils, vD_rp, vD_osl, vD_ptr, vD_agg, vD_fn, vD_isl, vL_dat, vL_app, viewL, avA, datsOf, fillA, seval, ↓List.forall_mem_cons, Op.operands, hP, hG, tiA, hE]
          all_goals try (first | done | rfl | trivial)

theorem end_ok (G) (s : ByteArray) (i : Nat) (hi : i < s.size) (hs : s.size ≤ 281474976710656) : Gives Tryz.prog G 136 [iD i, .ref (sD s)] [iD (endM s i)] := by
  refine gives_intro [] [] [] Tryz.func136 rfl (by rfl) (by simp [Tryz.ntmps136]) fun F hP hG hN hR => ?_
  rw [Tryz.ntmps136] at hN
  have hA := And.intro hN (And.intro hP (And.intro hG (And.intro hR.1 (And.intro hR.2.1 hR.2.2.1))))
  have hE := @Tryz.results136
  refine WS [0, 1] [] ?_
  have hc := gvF hP hG (kind_ok G (byteAt s i))
  refine WSc [0, 1, 4] [] ?_
  refine WS [1, 4, 5] [] ?_
  apply aw_seq
  apply aw_block
  refine WL (ι := {t : Nat // i + 1 ≤ t ∧ t ≤ s.size ∧ runM s (kindM (byteAt s i)) (s.size - t) t = endM s i}) [1, 4] [] (fun ⟨t, ht⟩ => [(5, .dat (iD t))]) (fun ⟨t, ht⟩ => []) (fun ⟨t, ht⟩ => s.size - t) (⟨i + 1, Nat.le_refl _, by omega, rfl⟩) ?_
  rintro ⟨t, ht⟩
  dsimp only [List.cons_append, List.nil_append]
  obtain ⟨h1, h2, h3⟩ := id ht
  apply aw_seq
  apply aw_regs [1, 4, 5, 31] []
  · simp (maxSteps := 2000000) (disch := omega) only [avR2, avA, datsOf, fillA, seval, ↓List.forall_mem_cons, Op.operands, hA, tiA, hE]
    (repeat' refine And.intro ?_ ?_) <;> try exact SD
    refine CallGC.use rfl (fun hg => ⟨by first | trivial | (simp only [gdAll, AV.gd, avA, seval]; (repeat' apply And.intro) <;> first | trivial | rfl | exact hg) | simp_all [gdAll], gvF hP hG (kind_ok G (byteAt s t))⟩) ?_
    try simp (maxSteps := 2000000) (disch := omega) only [avR2, avA, datsOf, fillA, seval, ↓List.forall_mem_cons, Op.operands, hA, tiA, hE]
    exact SC
  refine WI (fun hb => ?_) (fun hb => ?_)
  · skip
    have hgo : goM s (kindM (byteAt s i)) t := ⟨by omega, by omega, by omega⟩
    apply aw_skip
    apply q_seq
    apply aw_block
    refine WQ [1, 4, 5] [] ?_
    apply q_block
    refine WN (⟨t + 1, by omega, by omega, (runM_go hgo).symm.trans ht.2.2⟩)
  · skip
    have hgo : ¬ goM s (kindM (byteAt s i)) t := fun ⟨g1, g2, g3⟩ => by omega
    have hv : endM s i = t := by rw [← h3, runM_stop hgo]
    have hE := And.intro hE hv
    apply aw_exit
    apply q_exit_seq
    apply q_exit_loop
    apply q_exit
    apply q_seq
    refine WS [3] [] ?_
    apply aw_ret
    simp only [QRet, QRetM, QRetX, retsX_nil, retsX_cons, objsAre, resA, mapO_nil, mapO_cons, vD_dat, vD_nils, vD_rp, vD_osl, vD_ptr, vD_agg, vD_fn, vD_isl, vL_dat, vL_app, viewL, avA, datsOf, fillA, seval, ↓List.forall_mem_cons, Op.operands, hP, hG, tiA, hE]
    all_goals try (first | done | rfl | trivial)

end Go.Proofs.YtabjaaonfaejmaaGreatDoor

namespace Go.Proofs.YtabjaaonfaejmaaGreatDoor
open Go.Av

theorem store_end (T : List TokM) (e : Int) : (List.map AV.dat (List.map tokD T)).set ((T.length : Int) - 1).toNat (AV.dat (.agg [iD (T.getD ((T.length : Int) - 1).toNat default).1, iD e, iD (T.getD ((T.length : Int) - 1).toNat default).2.2])) = List.map AV.dat (List.map tokD (setEnd T e)) := by
  unfold setEnd
  rw [show ((T.length : Int) - 1).toNat = T.length - 1 by omega]
  exact set_row tokD T (T.length - 1) ((T.getD (T.length - 1) default).1, e, (T.getD (T.length - 1) default).2.2)
theorem set_rowP {α : Type} (f : α → Dat) (l : List α) (i : Nat) (x : α) (d : AV) (h : d = .dat (f x)) : ((l.map f).map AV.dat).set i d = ((l.set i x).map f).map AV.dat := by rw [h, set_row]


theorem split_ok (G) (s : ByteArray) (hs : s.size ≤ 281474976710656 / 100) : Gives Tryz.prog G 127 [sD s] [toksD (toksM s s.size)] := by
  refine gives_intro [] [] [] Tryz.func127 rfl (by rfl) (by simp [Tryz.ntmps127]) fun F hP hG hN hR => ?_
  rw [Tryz.ntmps127] at hN
  have hA := And.intro hN (And.intro hP (And.intro hG (And.intro hR.1 (And.intro hR.2.1 hR.2.2.1))))
  have hE := @Tryz.results127
  refine WS [1] [1] ?_
  refine WS [1, 3] [1, 29, 30] ?_
  refine WS [1, 3, 4] [1, 29, 30] ?_
  apply aw_seq
  refine WS [1, 3, 4, 5] [1, 29, 30] ?_
  apply aw_block
  refine aw_new0 30 3 (by omega) ?_
  refine aw_nilE 3 30 3 rfl rfl ?_
  refine WL (ι := {i : Nat // i ≤ s.size ∧ ¬ contM s i}) [1, 4] [1, 29] (fun ⟨i, hic⟩ => [(3, .osl 30 3 0 (toksM s i).length), (5, .dat (iD i))]) (fun ⟨i, hic⟩ => [(30, ⟨3, ((toksM s i).map tokD).map .dat⟩)]) (fun ⟨i, hic⟩ => s.size - i) (⟨0, by omega, fun h => by have := h.1; omega⟩) ?_
  rintro ⟨i, hic⟩
  dsimp only [List.cons_append, List.nil_append]
  obtain ⟨hi, hnc⟩ := id hic
  have hl := toks_len s i
  apply aw_seq
  refine WS [1, 3, 4, 5, 11] [1, 29, 30] ?_
  refine WI (fun hb => ?_) (fun hb => ?_)
  · skip
    apply aw_skip
    apply q_seq
    apply aw_block
    apply aw_seq
    refine WS [1, 3, 4, 5, 15] [1, 29, 30] ?_
    refine WI (fun hb => ?_) (fun hb => ?_)
    · skip
      have hbl := toks_blank (s := s) (i := i) (by omega)
      have hE := And.intro hE hbl.1
      refine WS [1, 3, 4, 5] [1, 29, 30] ?_
      apply aw_exit
      apply q_exit_seq
      apply q_exit
      refine WN (⟨i + 1, by omega, hbl.2⟩)
    · skip
      have hen := toks_end (s := s) (i := i) (by omega) hnc (by omega)
      have hsp := endM_spec (s := s) (i := i) (by omega)
      have hsz : (toksM s (endM s i)).length = (toksM s i).length + 1 := by rw [hen.1]; simp
      have hE := And.intro hE (And.intro hen.1 hsz)
      apply aw_skip
      apply q_seq
      apply aw_regs [1, 3, 4, 5, 6] [1, 29, 30]
      · simp (maxSteps := 2000000) (disch := omega) only [avR2, avA, datsOf, fillA, seval, ↓List.forall_mem_cons, Op.operands, hA, tiA, hE]
        (repeat' refine And.intro ?_ ?_) <;> try exact SD
        refine CallC.use (gvF hP hG (end_ok G s i (by omega) (by omega))) (by simp only [callArgs, mapO_nil, mapO_cons, vD_dat, vD_nils, vD_rp, vD_osl, vD_ptr, vD_agg, vD_fn, vD_isl, vL_dat, vL_app, avA, datsOf, fillA, seval, ↓List.forall_mem_cons, Op.operands, hE] <;> rfl) ?_
        try simp (maxSteps := 2000000) (disch := omega) only [avR2, avA, datsOf, fillA, seval, ↓List.forall_mem_cons, Op.operands, hA, tiA, hE]
        exact SC
      have hc := gvF hP hG (kind_ok G (byteAt s i))
      refine WSc [1, 3, 4, 6] [1, 29, 30] ?_
      refine WQ [1, 3, 4, 5] [1, 29, 30] ?_
      apply q_block
      refine WN (⟨endM s i, hsp.2.1, hen.2⟩)
  · skip
    apply aw_exit
    apply q_exit_seq
    obtain rfl : i = s.size := by omega
    apply q_exit_loop
    apply q_exit
    apply q_seq
    refine WS [2] [29, 30] ?_
    apply aw_ret
    simp only [QRet, QRetM, QRetX, retsX_nil, retsX_cons, objsAre, resA, mapO_nil, mapO_cons, vD_dat, vD_nils, vD_rp, vD_osl, vD_ptr, vD_agg, vD_fn, vD_isl, vL_dat, vL_app, viewL, avA, datsOf, fillA, seval, ↓List.forall_mem_cons, Op.operands, hP, hG, tiA, hE]
    all_goals try (first | done | rfl | trivial)

theorem rsplit_ok (G) (s : ByteArray) (hs : s.size ≤ 281474976710656 / 100) : Gives Tryz.prog G 129 [sD s] [toksD (toksM s s.size)] := by
  refine gives_intro [] [] [] Tryz.func129 rfl (by rfl) (by simp [Tryz.ntmps129]) fun F hP hG hN hR => ?_
  rw [Tryz.ntmps129] at hN
  have hA := And.intro hN (And.intro hP (And.intro hG (And.intro hR.1 (And.intro hR.2.1 hR.2.2.1))))
  have hE := @Tryz.results129
  refine WS [0] [] ?_
  refine WS [0, 3] [53, 54] ?_
  apply aw_seq
  refine WS [0, 3, 4] [53, 54] ?_
  apply aw_block
  refine aw_new0 54 3 (by omega) ?_
  refine aw_nilE 3 54 3 rfl rfl ?_
  refine WL (ι := {i : Nat // i ≤ s.size}) [0] [53] (fun ⟨i, hi⟩ => [(3, .osl 54 3 0 (toksM s i).length), (4, .dat (iD i))]) (fun ⟨i, hi⟩ => [(54, ⟨3, ((toksM s i).map tokD).map .dat⟩)]) (fun ⟨i, hi⟩ => s.size - i) (⟨0, by omega⟩) ?_
  rintro ⟨i, hi⟩
  dsimp only [List.cons_append, List.nil_append]
  have hl := toks_len s i
  have hi1 : ((i : Int) - 1).toNat = i - 1 := by omega
  have hE := And.intro hE hi1
  apply aw_seq
  refine WS [0, 3, 4, 10] [53, 54] ?_
  refine WI (fun hb => ?_) (fun hb => ?_)
  · skip
    apply aw_skip
    apply q_seq
    apply aw_seq
    apply aw_block
    have hc := gvF hP hG (class_ok G (byteAt s i))
    refine WSc [0, 3, 4, 5] [53, 54] ?_
    refine WS [0, 3, 4, 5, 6] [53, 54] ?_
    apply aw_seq
    refine WS [0, 3, 4, 5, 6, 20] [53, 54] ?_
    refine WI (fun hb => ?_) (fun hb => ?_)
    · skip
      have hv : toksM s (i + 1) = toksM s i := by rw [toksM, if_pos (show clsM s i < 0 from hb)]
      have hE := And.intro hE hv
      apply aw_exit
      apply q_exit_seq
      apply q_exit
      apply q_seq
      refine WQ [0, 3, 4] [53, 54] ?_
      refine WN (⟨i + 1, by omega⟩)
    · skip
      have hcl : ¬ clsM s i < 0 := by unfold clsM; omega
      apply aw_skip
      apply q_seq
      apply aw_seq
      apply aw_regs [0, 3, 4, 5, 6, 39] [53, 54]
      · simp (maxSteps := 2000000) (disch := omega) only [avR2, avA, datsOf, fillA, seval, ↓List.forall_mem_cons, Op.operands, hA, tiA, hE]
        (repeat' refine And.intro ?_ ?_) <;> try exact SD
        refine CallGC.use rfl (fun hg => ⟨by first | trivial | (simp only [gdAll, AV.gd, avA, seval]; (repeat' apply And.intro) <;> first | trivial | rfl | exact hg) | simp_all [gdAll], gvF hP hG (class_ok G (byteAt s (i - 1)))⟩) ?_
        try simp (maxSteps := 2000000) (disch := omega) only [avR2, avA, datsOf, fillA, seval, ↓List.forall_mem_cons, Op.operands, hA, tiA, hE]
        exact SC
      refine WI (fun hb => ?_) (fun hb => ?_)
      · skip
        have hc : contM s i := by
          unfold contM clsM
          grind
        have hp := cont_pos hc
        have hv : toksM s (i + 1) = setEnd (toksM s i) (i + 1) := by rw [toksM, if_neg hcl, if_pos hc]
        have hE := And.intro hE (And.intro hv (And.intro (setEnd_len (toksM s i) (i + 1)) (store_end (toksM s i) (i + 1))))
        refine WS [0, 3, 4] [53, 54] ?_
        apply aw_exit
        apply q_exit_seq
        apply q_exit
        apply q_seq
        refine WQ [0, 3, 4] [53, 54] ?_
        refine WN (⟨i + 1, by omega⟩)
      · skip
        have hc : ¬ contM s i := by
          unfold contM clsM
          intro hc
          have hp := cont_pos (s := s) (i := i) hc
          grind
        have hv : toksM s (i + 1) = toksM s i ++ [((i : Int), (i : Int) + 1, classM (byteAt s i))] := by rw [toksM, if_neg hcl, if_neg hc]; rfl
        have hvl : (toksM s (i + 1)).length = (toksM s i).length + 1 := by rw [hv]; simp
        have hE := And.intro hE (And.intro hv hvl)
        apply aw_skip
        apply q_seq
        refine WQ [0, 3, 4] [53, 54] ?_
        apply q_block
        apply q_seq
        refine WQ [0, 3, 4] [53, 54] ?_
        refine WN (⟨i + 1, by omega⟩)
  · skip
    apply aw_exit
    apply q_exit_seq
    have hend : i = s.size := by omega
    subst hend
    apply q_exit_loop
    apply q_exit
    apply q_seq
    refine WS [2] [53, 54] ?_
    apply aw_ret
    simp only [QRet, QRetM, QRetX, retsX_nil, retsX_cons, objsAre, resA, mapO_nil, mapO_cons, vD_dat, vD_nils, vD_rp, vD_osl, vD_ptr, vD_agg, vD_fn, vD_isl, vL_dat, vL_app, viewL, avA, datsOf, fillA, seval, ↓List.forall_mem_cons, Op.operands, hP, hG, tiA, hE]
    all_goals try (first | done | rfl | trivial)

end Go.Proofs.YtabjaaonfaejmaaGreatDoor

namespace Go.Proofs

set_option maxHeartbeats 1000000 in
set_option maxRecDepth 100000 in

theorem Tryz.stringslite_IndexByte (s : ByteArray) (c : Int) (w : World) :
    Calls Tryz.prog 142 #[.string s, .int .u8 c] w fun e w' => e = .returned (.int .i64 (Lib.indexByte s.data.toList c.toNat.toUInt8)) ∧ w' = w := by
  go_enter Tryz.func142, Tryz.ntmps142
  go_wp2
  rw [run_callFunc_extern Tryz.func147 (by kernel_rfl) (by kernel_rfl) (by kernel_rfl) (e := Extern.BytealgIndexByte.indexByte) (by kernel_rfl), Lib.run_indexByteString]
  simp only [Result.andThen]
  rw [Oper.upon_value]
  go_wp2
  go_ret
  exact ⟨rfl, rfl⟩

set_option maxHeartbeats 2000000 in
set_option maxRecDepth 100000 in

theorem Tryz.stringslite_Index_one (s : ByteArray) (c : UInt8) (w : World) :
    Calls Tryz.prog 135 #[.string s, .string ⟨#[c]⟩] w fun e w' => e = .returned (.int .i64 (Lib.indexByte s.data.toList c)) ∧ w' = w := by
  go_enter Tryz.func135, Tryz.ntmps135
  go_wp2_with (go_at_call 142; refine (Tryz.stringslite_IndexByte _ _ _).mono ?_; rintro e w' ⟨rfl, rfl⟩)
  · have h : ([c] == s.toList) = true := by assumption
    go_ret
    refine ⟨?_, rfl⟩
    have e : s.data.toList = [c] := by rw [← Lib.toList_data]; exact (beq_iff_eq.1 h).symm
    rw [e]
    simp [Lib.indexByte]
  · go_ret
    exact ⟨rfl, rfl⟩

set_option maxHeartbeats 1000000 in

theorem Tryz.strings_Index_one (s : ByteArray) (c : UInt8) (w : World) :
    Calls Tryz.prog 125 #[.string s, .string ⟨#[c]⟩] w fun e w' => e = .returned (.int .i64 (Lib.indexByte s.data.toList c)) ∧ w' = w := by
  go_enter Tryz.func125, Tryz.ntmps125
  go_wp2_with (go_at_call 135; refine (Tryz.stringslite_Index_one _ _ _).mono ?_; rintro e w' ⟨rfl, rfl⟩)
  go_ret
  exact ⟨rfl, rfl⟩

set_option maxHeartbeats 1000000 in

theorem Tryz.strings_Contains_one (s : ByteArray) (c : UInt8) (w : World) :
    Calls Tryz.prog 105 #[.string s, .string ⟨#[c]⟩] w fun e w' => e = .returned (.bool (decide (0 ≤ Lib.indexByte s.data.toList c))) ∧ w' = w := by
  go_enter Tryz.func105, Tryz.ntmps105
  go_wp2_with (go_at_call 125; refine (Tryz.strings_Index_one _ _ _).mono ?_; rintro e w' ⟨rfl, rfl⟩)
  go_ret
  exact ⟨rfl, rfl⟩

end Go.Proofs

