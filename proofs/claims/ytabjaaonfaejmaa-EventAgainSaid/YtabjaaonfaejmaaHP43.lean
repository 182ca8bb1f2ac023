/- The data of events, and how a walk knows them. -/
import Derived.Test.YtabjaaonfaejmaaHAv42
import Derived.Test.YtabjaaonfaejmaaRows
import Derived.KernelRfl
import Derived.Test.YtabjaaonfaejmaaHP1
import Derived.Test.YtabjaaonfaejmaaHAv44
import Derived.Test.YtabjaaonfaejmaaChecked
import Derived.Lib.Strings
import Derived.Lib.Slices
import Derived.Lib.Walk
import Derived.Lib.Bytealg
import Derived.Lib.IndexLaws
import Derived.Test.YtabjaaonfaejmaaHAv45
import Derived.IntWalk
import Derived.Test.YtabjaaonfaejmaaHAv43
import Derived.Test.YtabjaaonfaejmaaHAv46
import Derived.Test.YtabjaaonfaejmaaHAv48
set_option linter.all false
namespace Go.Proofs.Ytabjaaonfaejmaa
open Go.Av
structure NameM where
  By : Int
  Seq : Int
  deriving DecidableEq, Inhabited
structure IdM where
  By : Int
  Seq : Int
  K : Int
  deriving DecidableEq, Inhabited
structure SpotM where
  Volume : Int
  Article : Int
  Index : Int
  deriving DecidableEq, Inhabited
structure OpM where
  Kind : Int
  At : IdM
  To : IdM
  Spot : SpotM
  N : Int
  Form : Int
  Lang : Int
  Text : ByteArray
  Texts : List ByteArray
  Pairs : List (Int × Int)
  Refs : List IdM
  deriving Inhabited
structure TermM where
  Name : ByteArray
  Kind : Int
  Lang : Int
  See : ByteArray
  Broader : List ByteArray
  deriving Inhabited
structure PostM where
  ID : IdM
  Path : List ByteArray
  Main : Bool
  deriving Inhabited
structure EventM where
  By : Int
  Seq : Int
  Tick : Int
  Kind : Int
  Refs : List NameM
  Op : OpM
  Term : TermM
  ID : IdM
  Posts : List PostM
  N : Int
  deriving Inhabited
abbrev bD (b : Bool) : Dat := .bool b
abbrev sD (s : ByteArray) : Dat := .str s
abbrev ssD (l : List ByteArray) : Dat := .sl (l.map .str)
abbrev u8D (n : Int) : Dat := .int .u8 n
abbrev u8sD (l : List Int) : Dat := .sl (l.map u8D)
abbrev nameD (n : NameM) : Dat := .agg [iD n.By, iD n.Seq]
abbrev namesD (l : List NameM) : Dat := .sl (l.map nameD)
abbrev idD (i : IdM) : Dat := .agg [iD i.By, iD i.Seq, iD i.K]
abbrev idsD (l : List IdM) : Dat := .sl (l.map idD)
abbrev pairD (p : Int × Int) : Dat := .agg [iD p.1, iD p.2]
abbrev pairsD (l : List (Int × Int)) : Dat := .sl (l.map pairD)
abbrev opD (o : OpM) : Dat := .agg [iD o.Kind, iD o.At.By, iD o.At.Seq, iD o.At.K, iD o.To.By, iD o.To.Seq, iD o.To.K, iD o.Spot.Volume, iD o.Spot.Article, iD o.Spot.Index, iD o.N, iD o.Form, iD o.Lang, sD o.Text, ssD o.Texts, pairsD o.Pairs, idsD o.Refs]
abbrev termD (t : TermM) : Dat := .agg [sD t.Name, iD t.Kind, iD t.Lang, sD t.See, ssD t.Broader]
abbrev postD (p : PostM) : Dat := .agg [iD p.ID.By, iD p.ID.Seq, iD p.ID.K, ssD p.Path, bD p.Main]
abbrev postsD (l : List PostM) : Dat := .sl (l.map postD)
abbrev eventD (e : EventM) : Dat := .agg [iD e.By, iD e.Seq, iD e.Tick, iD e.Kind, namesD e.Refs,
  iD e.Op.Kind, iD e.Op.At.By, iD e.Op.At.Seq, iD e.Op.At.K, iD e.Op.To.By, iD e.Op.To.Seq, iD e.Op.To.K, iD e.Op.Spot.Volume, iD e.Op.Spot.Article, iD e.Op.Spot.Index, iD e.Op.N, iD e.Op.Form, iD e.Op.Lang, sD e.Op.Text, ssD e.Op.Texts, pairsD e.Op.Pairs, idsD e.Op.Refs,
  sD e.Term.Name, iD e.Term.Kind, iD e.Term.Lang, sD e.Term.See, ssD e.Term.Broader, iD e.ID.By, iD e.ID.Seq, iD e.ID.K, postsD e.Posts, iD e.N]
abbrev eventsD (l : List EventM) : Dat := .sl (l.map eventD)
theorem getD_all {α : Type} [Inhabited α] {p : α → Prop} {l : List α} (h : ∀ x ∈ l, p x) {i : Nat} (hi : i < l.length) : p (l.getD i default) := by
  rw [List.getD_eq_getElem?_getD, List.getElem?_eq_getElem hi]
  exact h _ (List.getElem_mem hi)
def aroundM (n m : Int) : Int := (if n < 0 then -(n + 1) else n).tmod m
theorem aroundM_range {n m : Int} (hm : 0 < m) : 0 ≤ aroundM n m ∧ aroundM n m < m := by
  unfold aroundM
  have h : 0 ≤ (if n < 0 then -(n + 1) else n) := by split <;> omega
  exact ⟨Int.tmod_nonneg _ h, Int.tmod_lt_of_pos _ hm⟩
def atM (l : List Int) (i m : Int) : Int := if i < 0 ∨ (l.length : Int) ≤ i then 0 else aroundM (l.getD i.toNat default) m
theorem atM_range {l : List Int} {i m : Int} (hm : 0 < m) : 0 ≤ atM l i m ∧ atM l i m < m := by
  unfold atM
  split
  · omega
  · exact aroundM_range hm
def possibleM (n : NameM) : Bool := decide (0 ≤ n.By) && decide (n.By < 6) && decide (0 ≤ n.Seq) && decide (n.Seq ≤ 63)
def lessM (a b : NameM) : Bool := if a.By ≠ b.By then decide (a.By < b.By) else decide (a.Seq < b.Seq)
def withinM (n m : Int) : Bool := decide (0 ≤ n) && decide (n ≤ m)
def evName (e : EventM) : NameM := ⟨e.By, e.Seq⟩
def beforeM (a b : EventM) : Bool := if a.Tick ≠ b.Tick then decide (a.Tick < b.Tick) else lessM (evName a) (evName b)
def sameL {α : Type} (f : α → α → Bool) : List α → List α → Bool
  | [], [] => true
  | x :: a, y :: b => f x y && sameL f a b
  | _, _ => false
theorem sameL_len {α : Type} {f : α → α → Bool} : ∀ {a b : List α}, a.length ≠ b.length → sameL f a b = false
  | [], [], h => absurd rfl h
  | x :: a, y :: b, h => by
    have := sameL_len (f := f) (a := a) (b := b) (by simpa using h)
    simp [sameL, this]
  | [], _ :: _, _ => rfl
  | _ :: _, [], _ => rfl
theorem sameL_bad {α : Type} [Inhabited α] {f : α → α → Bool} : ∀ {a b : List α} (i : Nat), i < a.length → a.length = b.length → f (a.getD i default) (b.getD i default) = false → sameL f a b = false
  | [], _, _, h, _, _ => by simp at h
  | _ :: _, [], _, _, h, _ => by simp at h
  | x :: a, y :: b, 0, _, _, h => by simp at h; simp [sameL, h]
  | x :: a, y :: b, i + 1, h1, h2, h => by
    have := sameL_bad (f := f) (a := a) (b := b) i (by simpa using h1) (by simpa using h2) (by simpa using h)
    simp [sameL, this]
theorem sameL_all {α : Type} [Inhabited α] {f : α → α → Bool} : ∀ {a b : List α}, a.length = b.length → (∀ i, i < a.length → f (a.getD i default) (b.getD i default) = true) → sameL f a b = true
  | [], [], _, _ => rfl
  | [], _ :: _, h, _ => by simp at h
  | _ :: _, [], h, _ => by simp at h
  | x :: a, y :: b, hl, h => by
    have h0 := h 0 (by simp)
    have h1 := sameL_all (f := f) (a := a) (b := b) (by simpa using hl) fun i hi => by simpa using h (i + 1) (by simpa using hi)
    simp at h0
    simp [sameL, h0, h1]
theorem allstep {p : Nat → Prop} {i : Nat} (h : ∀ j, j < i → p j) (hi : p i) : ∀ j, j < i + 1 → p j := fun j hj => by
  rcases Nat.lt_or_eq_of_le (Nat.lt_succ_iff.1 hj) with h1 | h1
  · exact h j h1
  · exact h1 ▸ hi
def sameName (a b : NameM) : Bool := a.By == b.By && a.Seq == b.Seq
def sameID (a b : IdM) : Bool := a.By == b.By && a.Seq == b.Seq && a.K == b.K
def sameSpot (a b : SpotM) : Bool := a.Volume == b.Volume && a.Article == b.Article && a.Index == b.Index
def sameStr (a b : ByteArray) : Bool := decide (a = b)
theorem str_inj {a b : ByteArray} (h : a.toList = b.toList) : a = b := by
  rw [ByteArray.toList_eq, ByteArray.toList_eq] at h
  cases a; cases b
  simp only at h
  congr
  exact Array.ext' h
theorem str_beq (a b : ByteArray) : (a.toList == b.toList) = sameStr a b := by
  unfold sameStr
  by_cases h : a = b
  · subst h; simp
  · have : a.toList ≠ b.toList := fun e => h (str_inj e)
    simp [h, this]
def sameTermM (t u : TermM) : Bool := sameStr t.Name u.Name && t.Kind == u.Kind && t.Lang == u.Lang && sameStr t.See u.See && sameL sameStr t.Broader u.Broader
def samePostM (p q : PostM) : Bool := sameID p.ID q.ID && p.Main == q.Main && sameL sameStr p.Path q.Path
def samePair (x y : Int × Int) : Bool := x.1 == y.1 && x.2 == y.2
def sameOpM (o p : OpM) : Bool := o.Kind == p.Kind && sameID o.At p.At && sameID o.To p.To && sameSpot o.Spot p.Spot && o.N == p.N && o.Form == p.Form && o.Lang == p.Lang && sameStr o.Text p.Text &&
  sameL sameStr o.Texts p.Texts && sameL samePair o.Pairs p.Pairs && sameL sameID o.Refs p.Refs
structure UsesM where
  op : Bool := false
  term : Bool := false
  id : Bool := false
  posts : Bool := false
  n : Bool := false
abbrev usesD (u : UsesM) : Dat := .agg [bD u.op, bD u.term, bD u.id, bD u.posts, bD u.n]
def ofM (k : Int) : UsesM := if k = 0 then { op := true } else if k = 2 then { term := true } else if k = 3 ∨ k = 4 then { id := true, posts := true } else if k = 5 ∨ k = 6 then { id := true, n := true } else {}
def wordsL : List ByteArray := [⟨#[97, 110, 110, 97]⟩, ⟨#[114, 111, 109, 101]⟩, ⟨#[107, 105, 110, 103]⟩, ⟨#[107, 105, 110, 103, 32, 97, 110, 110, 97]⟩, ⟨#[111, 100, 101]⟩, ⟨#[108, 121, 114, 101, 32, 111, 102, 32, 114, 111, 109, 101]⟩, ⟨#[120, 32, 49, 50]⟩, ⟨#[116, 104, 101, 32, 101, 110, 100, 46]⟩]
def wordM (n : Int) : ByteArray := wordsL.getD (aroundM n 8).toNat default
def idM (n : Int) : IdM := ⟨n.tmod 4, (n.tdiv 4).tmod 8, (n.tdiv 32).tmod 3⟩
def listM (l : List Int) (at_ : Int) (i : Nat) : List ByteArray := (List.range i).map fun (j : Nat) => wordM (atM l (at_ + (j : Int)) 64)
def idxM {α : Type} (p : α → Bool) (l : List α) : Int := if l.findIdx p < l.length then (l.findIdx p : Int) else -1
theorem idxM_some {α : Type} [Inhabited α] {p : α → Bool} {l : List α} {i : Nat} (hi : i < l.length) (h : p (l.getD i default) = true) (hn : ∀ j, j < i → p (l.getD j default) = false) : idxM p l = i := by
  have e : ∀ j (h : j < l.length), l.getD j default = l[j] := fun j h => by rw [List.getD_eq_getElem?_getD, List.getElem?_eq_getElem h]; rfl
  have : l.findIdx p = i := (List.findIdx_eq hi).2 ⟨by rw [← e i hi]; exact h, fun j hj => by rw [← e j (by omega)]; simpa using hn j hj⟩
  unfold idxM
  rw [this, if_pos hi]
theorem idxM_none {α : Type} [Inhabited α] {p : α → Bool} {l : List α} (hn : ∀ j, j < l.length → p (l.getD j default) = false) : idxM p l = -1 := by
  have e : ∀ j (h : j < l.length), l.getD j default = l[j] := fun j h => by rw [List.getD_eq_getElem?_getD, List.getElem?_eq_getElem h]; rfl
  have : l.findIdx p = l.length := List.findIdx_eq_length.2 fun x hx => by
    obtain ⟨j, hj, rfl⟩ := List.getElem_of_mem hx
    rw [← e j hj]
    simpa using hn j hj
  unfold idxM
  rw [this, if_neg (by omega)]
theorem idxM_nonneg {α : Type} {p : α → Bool} {l : List α} : 0 ≤ idxM p l ↔ l.any p = true := by
  unfold idxM
  constructor
  · intro h
    split at h
    · rename_i hl
      rw [List.any_eq_true]
      exact ⟨l[l.findIdx p], List.getElem_mem hl, List.findIdx_getElem⟩
    · omega
  · intro h
    rw [List.any_eq_true] at h
    have := List.findIdx_lt_length.2 h
    rw [if_pos this]
    omega
theorem none0 {p : Nat → Prop} : ∀ j, j < 0 → p j := fun j h => absurd h (Nat.not_lt_zero j)
end Go.Proofs.Ytabjaaonfaejmaa

namespace Go.Proofs.Ytabjaaonfaejmaa
open Go.Av
theorem ti2 : ti Try.prog 2 = some { size := 1, bytes := 8, zero := some [.dat (.int .i64 0)], tk := .int .i64 } := by kernel_rfl
theorem ti3 : ti Try.prog 3 = some { size := 1, bytes := 8, zero := some [.dat (.int .i64 0)], tk := .int .i64 } := by kernel_rfl
theorem ti4 : ti Try.prog 4 = some { size := 1, bytes := 1, zero := some [.dat (.bool false)], tk := .bool } := by kernel_rfl
theorem ti5 : ti Try.prog 5 = some { size := 1, bytes := 1, zero := some [.dat (.int .u8 0)], tk := .int .u8 } := by kernel_rfl
theorem ti6 : ti Try.prog 6 = some { size := 1, bytes := 1, zero := some [.dat (.int .u8 0)], tk := .int .u8 } := by kernel_rfl
theorem ti7 : ti Try.prog 7 = some { size := 4, bytes := 24, zero := some [.dat (.int .i64 0), .dat (.int .i64 0), .dat (.bool false), .dat (.int .u8 0)], tk := .struct [(0, 2), (1, 3), (2, 4), (3, 6)] } := by kernel_rfl
theorem ti8 : ti Try.prog 8 = some { size := 4, bytes := 24, zero := some [.dat (.int .i64 0), .dat (.int .i64 0), .dat (.bool false), .dat (.int .u8 0)], tk := .struct [(0, 2), (1, 3), (2, 4), (3, 6)] } := by kernel_rfl
theorem ti9 : ti Try.prog 9 = some { size := 1, bytes := 16, zero := some [.dat (.str ⟨#[]⟩)], tk := .str } := by kernel_rfl
theorem ti10 : ti Try.prog 10 = some { size := 1, bytes := 16, zero := some [.dat (.str ⟨#[]⟩)], tk := .str } := by kernel_rfl
theorem ti11 : ti Try.prog 11 = some { size := 1, bytes := 16, zero := some [.dat (.str ⟨#[]⟩)], tk := .str } := by kernel_rfl
theorem ti12 : ti Try.prog 12 = some { size := 1, bytes := 8, zero := some [.dat (.int .u64 0)], tk := .int .u64 } := by kernel_rfl
theorem ti13 : ti Try.prog 13 = some { size := 2, bytes := 24, zero := some [.dat (.str ⟨#[]⟩), .dat (.int .u64 0)], tk := .struct [(0, 9), (1, 12)] } := by kernel_rfl
theorem ti14 : ti Try.prog 14 = some { size := 2, bytes := 24, zero := some [.dat (.str ⟨#[]⟩), .dat (.int .u64 0)], tk := .struct [(0, 9), (1, 12)] } := by kernel_rfl
theorem ti15 : ti Try.prog 15 = some { size := 1, bytes := 8, zero := some [.dat .nilp], tk := .ptr 168 } := by kernel_rfl
theorem ti16 : ti Try.prog 16 = some { size := 1, bytes := 8, zero := some [.dat .nilp], tk := .ptr 171 } := by kernel_rfl
theorem ti17 : ti Try.prog 17 = some { size := 1, bytes := 8, zero := some [.dat .nilp], tk := .ptr 180 } := by kernel_rfl
theorem ti18 : ti Try.prog 18 = some { size := 1, bytes := 8, zero := some [.dat .nilp], tk := .struct [(0, 17)] } := by kernel_rfl
theorem ti19 : ti Try.prog 19 = some { size := 1, bytes := 8, zero := some [.dat .nilp], tk := .struct [(0, 17)] } := by kernel_rfl
theorem ti20 : ti Try.prog 20 = some { size := 1, bytes := 16, zero := some [.dat .nilI], tk := .iface } := by kernel_rfl
theorem ti21 : ti Try.prog 21 = some { size := 1, bytes := 4, zero := some [.dat (.int .i32 0)], tk := .int .i32 } := by kernel_rfl
theorem ti22 : ti Try.prog 22 = some { size := 1, bytes := 24, zero := some [.nils], tk := .slice 3 } := by kernel_rfl
theorem ti23 : ti Try.prog 23 = some { size := 1, bytes := 24, zero := some [.nils], tk := .slice 55 } := by kernel_rfl
theorem ti24 : ti Try.prog 24 = some { size := 3, bytes := 24, zero := some [.dat (.int .i64 0), .dat (.int .i64 0), .dat (.int .i64 0)], tk := .struct [(0, 3), (1, 3), (2, 3)] } := by kernel_rfl
theorem ti25 : ti Try.prog 25 = some { size := 3, bytes := 24, zero := some [.dat (.int .i64 0), .dat (.int .i64 0), .dat (.int .i64 0)], tk := .struct [(0, 3), (1, 3), (2, 3)] } := by kernel_rfl
theorem ti26 : ti Try.prog 26 = some { size := 3, bytes := 24, zero := some [.dat (.int .i64 0), .dat (.int .i64 0), .dat (.int .i64 0)], tk := .struct [(0, 3), (1, 3), (2, 3)] } := by kernel_rfl
theorem ti27 : ti Try.prog 27 = some { size := 3, bytes := 24, zero := some [.dat (.int .i64 0), .dat (.int .i64 0), .dat (.int .i64 0)], tk := .struct [(0, 3), (1, 3), (2, 3)] } := by kernel_rfl
theorem ti28 : ti Try.prog 28 = some { size := 1, bytes := 24, zero := some [.nils], tk := .slice 9 } := by kernel_rfl
theorem ti29 : ti Try.prog 29 = some { size := 1, bytes := 24, zero := some [.nils], tk := .slice 107 } := by kernel_rfl
theorem ti30 : ti Try.prog 30 = some { size := 1, bytes := 24, zero := some [.nils], tk := .slice 25 } := by kernel_rfl
theorem ti31 : ti Try.prog 31 = some { size := 17, bytes := 192, zero := some [.dat (.int .i64 0), .dat (.int .i64 0), .dat (.int .i64 0), .dat (.int .i64 0), .dat (.int .i64 0), .dat (.int .i64 0), .dat (.int .i64 0), .dat (.int .i64 0), .dat (.int .i64 0), .dat (.int .i64 0), .dat (.int .i64 0), .dat (.int .i64 0), .dat (.int .i64 0), .dat (.str ⟨#[]⟩), .nils, .nils, .nils], tk := .struct [(0, 3), (1, 25), (4, 25), (7, 27), (10, 3), (11, 3), (12, 3), (13, 9), (14, 28), (15, 29), (16, 30)] } := by kernel_rfl
theorem ti32 : ti Try.prog 32 = some { size := 17, bytes := 192, zero := some [.dat (.int .i64 0), .dat (.int .i64 0), .dat (.int .i64 0), .dat (.int .i64 0), .dat (.int .i64 0), .dat (.int .i64 0), .dat (.int .i64 0), .dat (.int .i64 0), .dat (.int .i64 0), .dat (.int .i64 0), .dat (.int .i64 0), .dat (.int .i64 0), .dat (.int .i64 0), .dat (.str ⟨#[]⟩), .nils, .nils, .nils], tk := .struct [(0, 3), (1, 25), (4, 25), (7, 27), (10, 3), (11, 3), (12, 3), (13, 9), (14, 28), (15, 29), (16, 30)] } := by kernel_rfl
theorem ti33 : ti Try.prog 33 = some { size := 5, bytes := 72, zero := some [.dat (.str ⟨#[]⟩), .dat (.int .i64 0), .dat (.int .i64 0), .dat (.str ⟨#[]⟩), .nils], tk := .struct [(0, 9), (1, 3), (2, 3), (3, 9), (4, 28)] } := by kernel_rfl
theorem ti34 : ti Try.prog 34 = some { size := 5, bytes := 72, zero := some [.dat (.str ⟨#[]⟩), .dat (.int .i64 0), .dat (.int .i64 0), .dat (.str ⟨#[]⟩), .nils], tk := .struct [(0, 9), (1, 3), (2, 3), (3, 9), (4, 28)] } := by kernel_rfl
theorem ti35 : ti Try.prog 35 = some { size := 1, bytes := 24, zero := some [.nils], tk := .slice 75 } := by kernel_rfl
theorem ti36 : ti Try.prog 36 = some { size := 32, bytes := 376, zero := some [.dat (.int .i64 0), .dat (.int .i64 0), .dat (.int .i64 0), .dat (.int .i64 0), .nils, .dat (.int .i64 0), .dat (.int .i64 0), .dat (.int .i64 0), .dat (.int .i64 0), .dat (.int .i64 0), .dat (.int .i64 0), .dat (.int .i64 0), .dat (.int .i64 0), .dat (.int .i64 0), .dat (.int .i64 0), .dat (.int .i64 0), .dat (.int .i64 0), .dat (.int .i64 0), .dat (.str ⟨#[]⟩), .nils, .nils, .nils, .dat (.str ⟨#[]⟩), .dat (.int .i64 0), .dat (.int .i64 0), .dat (.str ⟨#[]⟩), .nils, .dat (.int .i64 0), .dat (.int .i64 0), .dat (.int .i64 0), .nils, .dat (.int .i64 0)], tk := .struct [(0, 3), (1, 3), (2, 3), (3, 3), (4, 23), (5, 32), (22, 34), (27, 25), (30, 35), (31, 3)] } := by kernel_rfl
theorem ti37 : ti Try.prog 37 = some { size := 32, bytes := 376, zero := some [.dat (.int .i64 0), .dat (.int .i64 0), .dat (.int .i64 0), .dat (.int .i64 0), .nils, .dat (.int .i64 0), .dat (.int .i64 0), .dat (.int .i64 0), .dat (.int .i64 0), .dat (.int .i64 0), .dat (.int .i64 0), .dat (.int .i64 0), .dat (.int .i64 0), .dat (.int .i64 0), .dat (.int .i64 0), .dat (.int .i64 0), .dat (.int .i64 0), .dat (.int .i64 0), .dat (.str ⟨#[]⟩), .nils, .nils, .nils, .dat (.str ⟨#[]⟩), .dat (.int .i64 0), .dat (.int .i64 0), .dat (.str ⟨#[]⟩), .nils, .dat (.int .i64 0), .dat (.int .i64 0), .dat (.int .i64 0), .nils, .dat (.int .i64 0)], tk := .struct [(0, 3), (1, 3), (2, 3), (3, 3), (4, 23), (5, 32), (22, 34), (27, 25), (30, 35), (31, 3)] } := by kernel_rfl
theorem ti40 : ti Try.prog 40 = some { size := 1, bytes := 24, zero := some [.nils], tk := .slice 37 } := by kernel_rfl
theorem ti42 : ti Try.prog 42 = some { size := 1, bytes := 8, zero := some [.dat (.int .i64 0)], tk := .int .i64 } := by kernel_rfl
theorem ti48 : ti Try.prog 48 = some { size := 1, bytes := 24, zero := some [.nils], tk := .slice 40 } := by kernel_rfl
theorem ti54 : ti Try.prog 54 = some { size := 2, bytes := 16, zero := some [.dat (.int .i64 0), .dat (.int .i64 0)], tk := .struct [(0, 3), (1, 3)] } := by kernel_rfl
theorem ti55 : ti Try.prog 55 = some { size := 2, bytes := 16, zero := some [.dat (.int .i64 0), .dat (.int .i64 0)], tk := .struct [(0, 3), (1, 3)] } := by kernel_rfl
theorem ti62 : ti Try.prog 62 = some { size := 1, bytes := 24, zero := some [.nils], tk := .slice 5 } := by kernel_rfl
theorem ti74 : ti Try.prog 74 = some { size := 5, bytes := 56, zero := some [.dat (.int .i64 0), .dat (.int .i64 0), .dat (.int .i64 0), .nils, .dat (.bool false)], tk := .struct [(0, 25), (3, 28), (4, 4)] } := by kernel_rfl
theorem ti75 : ti Try.prog 75 = some { size := 5, bytes := 56, zero := some [.dat (.int .i64 0), .dat (.int .i64 0), .dat (.int .i64 0), .nils, .dat (.bool false)], tk := .struct [(0, 25), (3, 28), (4, 4)] } := by kernel_rfl
theorem ti76 : ti Try.prog 76 = some { size := 5, bytes := 5, zero := some [.dat (.bool false), .dat (.bool false), .dat (.bool false), .dat (.bool false), .dat (.bool false)], tk := .struct [(0, 4), (1, 4), (2, 4), (3, 4), (4, 4)] } := by kernel_rfl
theorem ti77 : ti Try.prog 77 = some { size := 5, bytes := 5, zero := some [.dat (.bool false), .dat (.bool false), .dat (.bool false), .dat (.bool false), .dat (.bool false)], tk := .struct [(0, 4), (1, 4), (2, 4), (3, 4), (4, 4)] } := by kernel_rfl
theorem ti88 : ti Try.prog 88 = some { size := 1, bytes := 8, zero := some [.raw (.map none)], tk := .map 55 3 } := by kernel_rfl
theorem ti89 : ti Try.prog 89 = some { size := 1, bytes := 8, zero := some [.raw (.map none)], tk := .map 3 3 } := by kernel_rfl
theorem ti99 : ti Try.prog 99 = some { size := 1, bytes := 8, zero := some [.dat .nilp], tk := .ptr 101 } := by kernel_rfl
theorem ti100 : ti Try.prog 100 = some { size := 2, bytes := 32, zero := some [.nils, .dat (.int .i64 0)], tk := .struct [(0, 62), (1, 3)] } := by kernel_rfl
theorem ti101 : ti Try.prog 101 = some { size := 2, bytes := 32, zero := some [.nils, .dat (.int .i64 0)], tk := .struct [(0, 62), (1, 3)] } := by kernel_rfl
theorem ti107 : ti Try.prog 107 = some { size := 2, bytes := 16, zero := some [.dat (.int .i64 0), .dat (.int .i64 0)], tk := .array 2 3 } := by kernel_rfl
theorem ti119 : ti Try.prog 119 = some { size := 1, bytes := 24, zero := some [.nils], tk := .slice 28 } := by kernel_rfl
theorem ti121 : ti Try.prog 121 = some { size := 1, bytes := 8, zero := some [.dat (.int .u64 0)], tk := .int .u64 } := by kernel_rfl
theorem ti128 : ti Try.prog 128 = some { size := 1, bytes := 24, zero := some [.nils], tk := .slice 62 } := by kernel_rfl
theorem ti131 : ti Try.prog 131 = some { size := 1, bytes := 24, zero := some [.nils], tk := .slice 155 } := by kernel_rfl
theorem ti134 : ti Try.prog 134 = some { size := 1, bytes := 24, zero := some [.nils], tk := .slice 156 } := by kernel_rfl
theorem ti140 : ti Try.prog 140 = some { size := 1, bytes := 8, zero := some [.dat .nilp], tk := .ptr 142 } := by kernel_rfl
theorem ti141 : ti Try.prog 141 = some { size := 3, bytes := 40, zero := some [.nils, .dat (.int .i64 0), .dat (.int .i64 0)], tk := .struct [(0, 62), (1, 3), (2, 42)] } := by kernel_rfl
theorem ti142 : ti Try.prog 142 = some { size := 3, bytes := 40, zero := some [.nils, .dat (.int .i64 0), .dat (.int .i64 0)], tk := .struct [(0, 62), (1, 3), (2, 42)] } := by kernel_rfl
theorem ti154 : ti Try.prog 154 = some { size := 3, bytes := 24, zero := some [.dat (.int .i64 0), .dat (.int .i64 0), .dat (.int .i64 0)], tk := .struct [(0, 3), (1, 3), (2, 3)] } := by kernel_rfl
theorem ti155 : ti Try.prog 155 = some { size := 3, bytes := 24, zero := some [.dat (.int .i64 0), .dat (.int .i64 0), .dat (.int .i64 0)], tk := .struct [(0, 3), (1, 3), (2, 3)] } := by kernel_rfl
theorem ti156 : ti Try.prog 156 = some { size := 3, bytes := 24, zero := some [.dat (.int .i64 0), .dat (.int .i64 0), .dat (.int .i64 0)], tk := .struct [(0, 3), (1, 3), (2, 3)] } := by kernel_rfl
theorem ti157 : ti Try.prog 157 = some { size := 1, bytes := 8, zero := some [.dat (.int .u64 0)], tk := .int .u64 } := by kernel_rfl
theorem ti163 : ti Try.prog 163 = some { size := 1, bytes := 4, zero := some [.dat (.int .u32 0)], tk := .int .u32 } := by kernel_rfl
theorem ti167 : ti Try.prog 167 = some { size := 4, bytes := 40, zero := some [.dat .nilp, .dat .nilp, .dat .nilp, .dat (.str ⟨#[]⟩)], tk := .struct [(0, 17), (1, 17), (2, 17), (3, 9)] } := by kernel_rfl
theorem ti168 : ti Try.prog 168 = some { size := 4, bytes := 40, zero := some [.dat .nilp, .dat .nilp, .dat .nilp, .dat (.str ⟨#[]⟩)], tk := .struct [(0, 17), (1, 17), (2, 17), (3, 9)] } := by kernel_rfl
theorem ti169 : ti Try.prog 169 = some { size := 0, bytes := 0, zero := some [], tk := .array 0 16 } := by kernel_rfl
theorem ti170 : ti Try.prog 170 = some { size := 0, bytes := 0, zero := some [], tk := .struct [(0, 169)] } := by kernel_rfl
theorem ti171 : ti Try.prog 171 = some { size := 0, bytes := 0, zero := some [], tk := .struct [(0, 169)] } := by kernel_rfl
theorem ti173 : ti Try.prog 173 = some { size := 1, bytes := 1, zero := some [.dat (.int .u8 0)], tk := .int .u8 } := by kernel_rfl
theorem ti174 : ti Try.prog 174 = some { size := 1, bytes := 1, zero := some [.dat (.int .u8 0)], tk := .int .u8 } := by kernel_rfl
theorem ti176 : ti Try.prog 176 = some { size := 1, bytes := 8, zero := some [.dat .nilp], tk := .ptr 5 } := by kernel_rfl
theorem ti177 : ti Try.prog 177 = some { size := 1, bytes := 4, zero := some [.dat (.int .i32 0)], tk := .int .i32 } := by kernel_rfl
theorem ti178 : ti Try.prog 178 = some { size := 1, bytes := 4, zero := some [.dat (.int .i32 0)], tk := .int .i32 } := by kernel_rfl
theorem ti179 : ti Try.prog 179 = some { size := 11, bytes := 48, zero := some [.dat (.int .u64 0), .dat (.int .u64 0), .dat (.int .u32 0), .dat (.int .u8 0), .dat (.int .u8 0), .dat (.int .u8 0), .dat (.int .u8 0), .raw .nilFunc, .dat .nilp, .dat (.int .i32 0), .dat (.int .i32 0)], tk := .struct [(0, 12), (1, 12), (2, 163), (3, 173), (4, 5), (5, 5), (6, 174), (7, 175), (8, 176), (9, 177), (10, 178)] } := by kernel_rfl
theorem ti180 : ti Try.prog 180 = some { size := 11, bytes := 48, zero := some [.dat (.int .u64 0), .dat (.int .u64 0), .dat (.int .u32 0), .dat (.int .u8 0), .dat (.int .u8 0), .dat (.int .u8 0), .dat (.int .u8 0), .raw .nilFunc, .dat .nilp, .dat (.int .i32 0), .dat (.int .i32 0)], tk := .struct [(0, 12), (1, 12), (2, 163), (3, 173), (4, 5), (5, 5), (6, 174), (7, 175), (8, 176), (9, 177), (10, 178)] } := by kernel_rfl
theorem ti181 : ti Try.prog 181 = some { size := 1, bytes := 8, zero := some [.dat .nilp], tk := .other } := by kernel_rfl
theorem tiA : type_of% (And.intro (And.intro (And.intro (And.intro (And.intro (And.intro (ti2) (ti3)) (And.intro (ti4) (ti5))) (And.intro (And.intro (ti6) (ti7)) (And.intro (ti8) (And.intro (ti9) (ti10))))) (And.intro (And.intro (And.intro (ti11) (ti12)) (And.intro (ti13) (And.intro (ti14) (ti15)))) (And.intro (And.intro (ti16) (ti17)) (And.intro (ti18) (And.intro (ti19) (ti20)))))) (And.intro (And.intro (And.intro (And.intro (ti21) (ti22)) (And.intro (ti23) (And.intro (ti24) (ti25)))) (And.intro (And.intro (ti26) (ti27)) (And.intro (ti28) (And.intro (ti29) (ti30))))) (And.intro (And.intro (And.intro (ti31) (ti32)) (And.intro (ti33) (And.intro (ti34) (ti35)))) (And.intro (And.intro (ti36) (ti37)) (And.intro (ti40) (And.intro (ti42) (ti48))))))) (And.intro (And.intro (And.intro (And.intro (And.intro (ti54) (ti55)) (And.intro (ti62) (ti74))) (And.intro (And.intro (ti75) (ti76)) (And.intro (ti77) (And.intro (ti88) (ti89))))) (And.intro (And.intro (And.intro (ti99) (ti100)) (And.intro (ti101) (And.intro (ti107) (ti119)))) (And.intro (And.intro (ti121) (ti128)) (And.intro (ti131) (And.intro (ti134) (ti140)))))) (And.intro (And.intro (And.intro (And.intro (ti141) (ti142)) (And.intro (ti154) (And.intro (ti155) (ti156)))) (And.intro (And.intro (ti157) (ti163)) (And.intro (ti167) (And.intro (ti168) (ti169))))) (And.intro (And.intro (And.intro (ti170) (ti171)) (And.intro (ti173) (And.intro (ti174) (ti176)))) (And.intro (And.intro (ti177) (ti178)) (And.intro (ti179) (And.intro (ti180) (ti181)))))))) := (And.intro (And.intro (And.intro (And.intro (And.intro (And.intro (ti2) (ti3)) (And.intro (ti4) (ti5))) (And.intro (And.intro (ti6) (ti7)) (And.intro (ti8) (And.intro (ti9) (ti10))))) (And.intro (And.intro (And.intro (ti11) (ti12)) (And.intro (ti13) (And.intro (ti14) (ti15)))) (And.intro (And.intro (ti16) (ti17)) (And.intro (ti18) (And.intro (ti19) (ti20)))))) (And.intro (And.intro (And.intro (And.intro (ti21) (ti22)) (And.intro (ti23) (And.intro (ti24) (ti25)))) (And.intro (And.intro (ti26) (ti27)) (And.intro (ti28) (And.intro (ti29) (ti30))))) (And.intro (And.intro (And.intro (ti31) (ti32)) (And.intro (ti33) (And.intro (ti34) (ti35)))) (And.intro (And.intro (ti36) (ti37)) (And.intro (ti40) (And.intro (ti42) (ti48))))))) (And.intro (And.intro (And.intro (And.intro (And.intro (ti54) (ti55)) (And.intro (ti62) (ti74))) (And.intro (And.intro (ti75) (ti76)) (And.intro (ti77) (And.intro (ti88) (ti89))))) (And.intro (And.intro (And.intro (ti99) (ti100)) (And.intro (ti101) (And.intro (ti107) (ti119)))) (And.intro (And.intro (ti121) (ti128)) (And.intro (ti131) (And.intro (ti134) (ti140)))))) (And.intro (And.intro (And.intro (And.intro (ti141) (ti142)) (And.intro (ti154) (And.intro (ti155) (ti156)))) (And.intro (And.intro (ti157) (ti163)) (And.intro (ti167) (And.intro (ti168) (ti169))))) (And.intro (And.intro (And.intro (ti170) (ti171)) (And.intro (ti173) (And.intro (ti174) (ti176)))) (And.intro (And.intro (ti177) (ti178)) (And.intro (ti179) (And.intro (ti180) (ti181))))))))
end Go.Proofs.Ytabjaaonfaejmaa

namespace Go.Proofs.Ytabjaaonfaejmaa
open Go.Av
theorem around_ok (G) (n m : Int) (hn : I64 n) (hm : 0 < m) (hmr : I64 m) : Gives Try.prog G 16 [iD n, iD m] [iD (aroundM n m)] := by
  have hr := aroundM_range (n := n) hm
  unfold aroundM at hr ⊢
  unfold I64 at hn hmr
  refine gives_intro [] [] [] Try.func16 rfl (by rfl) (by simp [Try.ntmps16]) fun F hP hG hN hR => ?_
  rw [Try.ntmps16] at hN
  have hA := And.intro hN (And.intro hP (And.intro hG (And.intro hR.1 (And.intro hR.2.1 hR.2.2.1))))
  have hE := @Try.results16
  refine WS [0, 1] [] ?_
  apply aw_seq
  refine WS [0, 1, 6] [] ?_
  refine WI (fun hb => ?_) (fun hb => ?_)
  · skip
    rw [if_pos hb] at hr ⊢
    have e1 : IntKind.i64.wrap (n + 1) = n + 1 := IntWalk.i64_in _ (by omega)
    have e2 : IntKind.i64.wrap (0 - (n + 1)) = -(n + 1) := by rw [IntWalk.i64_in _ (by omega)]; omega
    apply aw_reg [0, 1] []
    · simp (maxSteps := 2000000) (disch := omega) only [avR2, avA, datsOf, fillA, seval, ↓List.forall_mem_cons, Op.operands, hA, tiA, hE, e1, e2]
      exact SC
    apply q_seq
    refine WS [4] [] ?_
    apply aw_ret
    simp only [QRet, QRetM, QRetX, retsX_nil, retsX_cons, objsAre, resA, mapO_nil, mapO_cons, vD_dat, vD_nils, vD_rp, vD_osl, vD_ptr, vD_agg, vD_fn, vD_isl, vL_dat, vL_app, viewL, avA, datsOf, fillA, seval, ↓List.forall_mem_cons, Op.operands, hP, hG, tiA, hE]
    all_goals try (first | done | rfl | trivial)
  · skip
    rw [if_neg (by omega)] at hr ⊢
    apply aw_skip
    apply q_seq
    refine WS [4] [] ?_
    apply aw_ret
    simp only [QRet, QRetM, QRetX, retsX_nil, retsX_cons, objsAre, resA, mapO_nil, mapO_cons, vD_dat, vD_nils, vD_rp, vD_osl, vD_ptr, vD_agg, vD_fn, vD_isl, vL_dat, vL_app, viewL, avA, datsOf, fillA, seval, ↓List.forall_mem_cons, Op.operands, hP, hG, tiA, hE]
    all_goals try (first | done | rfl | trivial)
theorem within_ok (G) (n m : Int) : Gives Try.prog G 42 [iD n, iD m] [bD (withinM n m)] := by
  refine gives_intro [] [] [] Try.func42 rfl (by rfl) (by simp [Try.ntmps42]) fun F hP hG hN hR => ?_
  rw [Try.ntmps42] at hN
  have hA := And.intro hN (And.intro hP (And.intro hG (And.intro hR.1 (And.intro hR.2.1 hR.2.2.1))))
  have hE := @Try.results42
  refine WS [0, 1] [] ?_
  refine WS [4] [] ?_
  apply aw_ret
  simp only [QRet, QRetM, QRetX, retsX_nil, retsX_cons, objsAre, resA, mapO_nil, mapO_cons, vD_dat, vD_nils, vD_rp, vD_osl, vD_ptr, vD_agg, vD_fn, vD_isl, vL_dat, vL_app, viewL, avA, datsOf, fillA, seval, ↓List.forall_mem_cons, Op.operands, hP, hG, tiA, hE, withinM]
  all_goals try (first | done | rfl | trivial)
theorem possible_ok (G) (n : NameM) : Gives Try.prog G 41 [nameD n] [bD (possibleM n)] := by
  refine gives_intro [] [] [] Try.func41 rfl (by rfl) (by simp [Try.ntmps41]) fun F hP hG hN hR => ?_
  rw [Try.ntmps41] at hN
  have hA := And.intro hN (And.intro hP (And.intro hG (And.intro hR.1 (And.intro hR.2.1 hR.2.2.1))))
  have hE := @Try.results41
  refine WS [1] [1] ?_
  refine WS [2] [] ?_
  apply aw_ret
  simp only [QRet, QRetM, QRetX, retsX_nil, retsX_cons, objsAre, resA, mapO_nil, mapO_cons, vD_dat, vD_nils, vD_rp, vD_osl, vD_ptr, vD_agg, vD_fn, vD_isl, vL_dat, vL_app, viewL, avA, datsOf, fillA, seval, ↓List.forall_mem_cons, Op.operands, hP, hG, tiA, hE, possibleM]
  all_goals try (first | done | rfl | trivial)
theorem less_ok (G) (a b : NameM) : Gives Try.prog G 45 [nameD a, nameD b] [bD (lessM a b)] := by
  refine gives_intro [] [] [] Try.func45 rfl (by rfl) (by simp [Try.ntmps45]) fun F hP hG hN hR => ?_
  rw [Try.ntmps45] at hN
  have hA := And.intro hN (And.intro hP (And.intro hG (And.intro hR.1 (And.intro hR.2.1 hR.2.2.1))))
  have hE := @Try.results45
  refine WS [2, 3] [2, 3] ?_
  apply aw_seq
  refine WS [2, 3, 9] [2, 3] ?_
  refine WI (fun hb => ?_) (fun hb => ?_)
  · skip
    have hl : lessM a b = decide (a.By < b.By) := by unfold lessM; rw [if_pos hb]
    refine WS [4] [] ?_
    apply aw_ret
    apply q_ret_seq
    simp only [QRet, QRetM, QRetX, retsX_nil, retsX_cons, objsAre, resA, mapO_nil, mapO_cons, vD_dat, vD_nils, vD_rp, vD_osl, vD_ptr, vD_agg, vD_fn, vD_isl, vL_dat, vL_app, viewL, avA, datsOf, fillA, seval, ↓List.forall_mem_cons, Op.operands, hP, hG, tiA, hE, hl]
    all_goals try (first | done | rfl | trivial)
  · skip
    have hl : lessM a b = decide (a.Seq < b.Seq) := by unfold lessM; rw [if_neg (by omega)]
    apply aw_skip
    apply q_seq
    refine WS [4] [] ?_
    apply aw_ret
    simp only [QRet, QRetM, QRetX, retsX_nil, retsX_cons, objsAre, resA, mapO_nil, mapO_cons, vD_dat, vD_nils, vD_rp, vD_osl, vD_ptr, vD_agg, vD_fn, vD_isl, vL_dat, vL_app, viewL, avA, datsOf, fillA, seval, ↓List.forall_mem_cons, Op.operands, hP, hG, tiA, hE, hl]
    all_goals try (first | done | rfl | trivial)
theorem name_ok (G) (e : EventM) : Gives Try.prog G 20 [eventD e] [nameD (evName e)] := by
  refine gives_intro [] [] [] Try.func20 rfl (by rfl) (by simp [Try.ntmps20]) fun F hP hG hN hR => ?_
  rw [Try.ntmps20] at hN
  have hA := And.intro hN (And.intro hP (And.intro hG (And.intro hR.1 (And.intro hR.2.1 hR.2.2.1))))
  have hE := @Try.results20
  refine WS [1, 2] [1, 2] ?_
  refine WS [2] [2] ?_
  apply aw_ret
  simp only [QRet, QRetM, QRetX, retsX_nil, retsX_cons, objsAre, resA, mapO_nil, mapO_cons, vD_dat, vD_nils, vD_rp, vD_osl, vD_ptr, vD_agg, vD_fn, vD_isl, vL_dat, vL_app, viewL, avA, datsOf, fillA, seval, ↓List.forall_mem_cons, Op.operands, hP, hG, tiA, hE, evName]
  all_goals try (first | done | rfl | trivial)
end Go.Proofs.Ytabjaaonfaejmaa

namespace Go.Proofs.Ytabjaaonfaejmaa
open Go.Av
def kindM (c : Int) : Int := if (97 ≤ c ∧ c ≤ 122) ∨ (65 ≤ c ∧ c ≤ 90) then 0 else if 48 ≤ c ∧ c ≤ 57 then 1 else if c = 64 then 3 else 2
def classM (c : Int) : Int := if c = 32 then -1 else kindM c
theorem kindM_range (c : Int) : 0 ≤ kindM c ∧ kindM c ≤ 3 := by
  unfold kindM
  repeat' split
  all_goals omega
theorem classM_neg (c : Int) : classM c < 0 ↔ c = 32 := by
  have := kindM_range c
  unfold classM
  split <;> omega
theorem classM_kind {c : Int} (h : c ≠ 32) : classM c = kindM c := by unfold classM; rw [if_neg h]
theorem kind_class {c k : Int} (hk : k = 0 ∨ k = 1) (h : kindM c = k) : classM c = k := by
  rw [classM_kind, h]
  rintro rfl
  simp [kindM] at h
  omega
theorem class_kind {c k : Int} (hk : 0 ≤ k) (h : classM c = k) : kindM c = k := by
  rw [← h, classM_kind]
  rintro rfl
  simp [classM] at h
  omega
abbrev TokM := Int × Int × Int
abbrev tokD (t : TokM) : Dat := .agg [iD t.1, iD t.2.1, iD t.2.2]
abbrev toksD (l : List TokM) : Dat := .sl (l.map tokD)
def clsM (s : ByteArray) (i : Nat) : Int := classM (byteAt s i)
def contM (s : ByteArray) (i : Nat) : Prop := 0 < i ∧ 0 ≤ clsM s i ∧ clsM s i < 2 ∧ clsM s (i - 1) = clsM s i
instance (s : ByteArray) (i : Nat) : Decidable (contM s i) := by unfold contM; exact inferInstance
def setEnd (l : List TokM) (e : Int) : List TokM := l.set (l.length - 1) ((l.getD (l.length - 1) default).1, e, (l.getD (l.length - 1) default).2.2)
def toksM (s : ByteArray) : Nat → List TokM
  | 0 => []
  | i + 1 => if clsM s i < 0 then toksM s i else if contM s i then setEnd (toksM s i) (i + 1) else toksM s i ++ [((i : Int), (i : Int) + 1, clsM s i)]
theorem setEnd_len (l : List TokM) (e : Int) : (setEnd l e).length = l.length := by simp [setEnd]
theorem setEnd_app (l : List TokM) (a b k e : Int) : setEnd (l ++ [(a, b, k)]) e = l ++ [(a, e, k)] := by
  simp [setEnd, List.getD_eq_getElem?_getD]
theorem toks_len (s : ByteArray) : ∀ i, (toksM s i).length ≤ i
  | 0 => by simp [toksM]
  | i + 1 => by
    have := toks_len s i
    rw [toksM]
    split
    · omega
    · split
      · rw [setEnd_len]; omega
      · simp; omega
theorem toks_blank {s : ByteArray} {i : Nat} (h : byteAt s i = 32) : toksM s (i + 1) = toksM s i ∧ ¬ contM s (i + 1) := by
  have h1 : clsM s i < 0 := (classM_neg _).2 h
  refine ⟨by rw [toksM, if_pos h1], fun ⟨_, h2, _, h4⟩ => ?_⟩
  simp only [Nat.add_sub_cancel] at h4
  omega
theorem toks_run {s : ByteArray} {a : Nat} {k : Int} (hb : ¬ contM s a) (hk : clsM s a = k) (h0 : 0 ≤ k) : ∀ t, a < t → (∀ j, a < j → j < t → k < 2 ∧ clsM s j = k) → toksM s t = toksM s a ++ [((a : Int), (t : Int), k)]
  | 0, h, _ => by omega
  | t + 1, h, hj => by
    rcases Nat.lt_or_ge a t with h1 | h1
    · have ih := toks_run hb hk h0 t h1 fun j g1 g2 => hj j g1 (by omega)
      have ht := hj t h1 (by omega)
      have hp : clsM s (t - 1) = k := by
        rcases Nat.lt_or_ge a (t - 1) with g | g
        · exact (hj (t - 1) g (by omega)).2
        · rw [show t - 1 = a by omega]; exact hk
      rw [toksM, if_neg (by omega), if_pos ⟨by omega, by omega, by omega, by omega⟩, ih, setEnd_app]
      simp
    · obtain rfl : t = a := by omega
      rw [toksM, if_neg (by omega), if_neg hb, hk]
      simp
theorem toks_stop {s : ByteArray} {a t : Nat} {k : Int} (hk : clsM s a = k) (h0 : 0 ≤ k) (hat : a < t) (hj : ∀ j, a < j → j < t → k < 2 ∧ clsM s j = k) (hs : ¬ (k < 2 ∧ clsM s t = k)) : ¬ contM s t := fun ⟨_, h2, h3, h4⟩ => by
  have hp : clsM s (t - 1) = k := by
    rcases Nat.lt_or_ge a (t - 1) with g | g
    · exact (hj (t - 1) g (by omega)).2
    · rw [show t - 1 = a by omega]; exact hk
  exact hs ⟨by omega, by omega⟩
def goM (s : ByteArray) (k : Int) (t : Nat) : Prop := (k = 0 ∨ k = 1) ∧ t < s.size ∧ kindM (byteAt s t) = k
instance (s : ByteArray) (k : Int) (t : Nat) : Decidable (goM s k t) := by unfold goM; exact inferInstance
def runM (s : ByteArray) (k : Int) : Nat → Nat → Nat
  | 0, t => t
  | n + 1, t => if goM s k t then runM s k n (t + 1) else t
def endM (s : ByteArray) (i : Nat) : Nat := runM s (kindM (byteAt s i)) (s.size - (i + 1)) (i + 1)
theorem runM_go {s : ByteArray} {k : Int} {t : Nat} (h : goM s k t) : runM s k (s.size - t) t = runM s k (s.size - (t + 1)) (t + 1) := by
  have h2 := h.2.1
  obtain ⟨n, hn⟩ : ∃ n, s.size - t = n + 1 := ⟨s.size - t - 1, by omega⟩
  rw [hn, runM, if_pos h, show s.size - (t + 1) = n by omega]
theorem runM_stop {s : ByteArray} {k : Int} {t : Nat} (h : ¬ goM s k t) (n : Nat) : runM s k n t = t := by
  cases n with
  | zero => rfl
  | succ n => rw [runM, if_neg h]
theorem runM_spec (s : ByteArray) (k : Int) : ∀ n t, t + n = s.size → t ≤ runM s k n t ∧ runM s k n t ≤ s.size ∧ (∀ j, t ≤ j → j < runM s k n t → goM s k j) ∧ ¬ goM s k (runM s k n t)
  | 0, t, h => ⟨Nat.le_refl _, by simp [runM]; omega, fun j h1 h2 => by simp [runM] at h2; omega, fun h2 => by
      have := h2.2.1
      simp only [runM] at this
      omega⟩
  | n + 1, t, h => by
    rw [runM]
    split
    · rename_i hg
      obtain ⟨h1, h2, h3, h4⟩ := runM_spec s k n (t + 1) (by omega)
      refine ⟨by omega, h2, fun j g1 g2 => ?_, h4⟩
      rcases Nat.lt_or_ge t j with g | g
      · exact h3 j g g2
      · obtain rfl : t = j := by omega
        exact hg
    · rename_i hg
      exact ⟨Nat.le_refl _, by omega, fun j g1 g2 => by omega, hg⟩
theorem endM_spec {s : ByteArray} {i : Nat} (h : i < s.size) : i < endM s i ∧ endM s i ≤ s.size ∧ (∀ j, i < j → j < endM s i → goM s (kindM (byteAt s i)) j) ∧ ¬ goM s (kindM (byteAt s i)) (endM s i) := by
  obtain ⟨h1, h2, h3, h4⟩ := runM_spec s (kindM (byteAt s i)) (s.size - (i + 1)) (i + 1) (by omega)
  exact ⟨by unfold endM; omega, h2, fun j g1 g2 => h3 j g1 g2, h4⟩
theorem byteAt_out {s : ByteArray} {i : Nat} (h : s.size ≤ i) : byteAt s i = 0 := by
  have : s.data[i]? = none := Array.getElem?_eq_none (by simpa using h)
  simp [byteAt, this]
theorem clsM_out {s : ByteArray} {i : Nat} (h : s.size ≤ i) : clsM s i = 2 := by
  unfold clsM
  rw [byteAt_out h]
  rfl
theorem toks_end {s : ByteArray} {i : Nat} (h : i < s.size) (hb : ¬ contM s i) (hc : byteAt s i ≠ 32) : toksM s (endM s i) = toksM s i ++ [((i : Int), (endM s i : Int), kindM (byteAt s i))] ∧ ¬ contM s (endM s i) := by
  obtain ⟨h1, h2, h3, h4⟩ := endM_spec h
  have hk : clsM s i = kindM (byteAt s i) := classM_kind hc
  have h0 := kindM_range (byteAt s i)
  have hj : ∀ j, i < j → j < endM s i → kindM (byteAt s i) < 2 ∧ clsM s j = kindM (byteAt s i) := fun j g1 g2 => by
    obtain ⟨k1, k2, k3⟩ := h3 j g1 g2
    exact ⟨by omega, kind_class k1 k3⟩
  refine ⟨toks_run hb hk h0.1 _ h1 hj, toks_stop hk h0.1 h1 hj fun ⟨g1, g2⟩ => h4 ⟨by omega, ?_, class_kind h0.1 g2⟩⟩
  rcases Nat.lt_or_ge (endM s i) s.size with g | g
  · exact g
  · rw [clsM_out g] at g2
    omega
def badM (s : ByteArray) (i : Nat) : Bool := decide (byteAt s i < 32) || decide (126 < byteAt s i) || (byteAt s i == 32 && ((i : Int) == 0 || (i : Int) == (s.size : Int) - 1 || byteAt s (i - 1) == 32))
def tokValidM (s : ByteArray) : Int := if 4096 < s.size then 4 else if (∃ i, i < s.size ∧ badM s i = true) ∨ s.size = 0 then 2 else if 256 < (toksM s s.size).length then 4 else 0
end Go.Proofs.Ytabjaaonfaejmaa

namespace Go.Proofs.Ytabjaaonfaejmaa
open Go.Av
theorem kind_ok (G) (c : Int) : Gives Try.prog G 116 [u8D c] [iD (kindM c)] := by
  refine gives_intro [] [] [] Try.func116 rfl (by rfl) (by simp [Try.ntmps116]) fun F hP hG hN hR => ?_
  rw [Try.ntmps116] at hN
  have hA := And.intro hN (And.intro hP (And.intro hG (And.intro hR.1 (And.intro hR.2.1 hR.2.2.1))))
  have hE := @Try.results116
  refine WS [0] [] ?_
  apply aw_seq
  apply aw_block
  refine WS [0, 3] [] ?_
  refine WI (fun hb => ?_) (fun hb => ?_)
  · skip
    have hv : kindM c = 0 := by unfold kindM; rw [if_pos (by omega)]
    have hE := And.intro hE hv
    refine WS [2] [] ?_
    apply aw_ret
    apply q_ret_block
    apply q_ret_seq
    simp only [QRet, QRetM, QRetX, retsX_nil, retsX_cons, objsAre, resA, mapO_nil, mapO_cons, vD_dat, vD_nils, vD_rp, vD_osl, vD_ptr, vD_agg, vD_fn, vD_isl, vL_dat, vL_app, viewL, avA, datsOf, fillA, seval, ↓List.forall_mem_cons, Op.operands, hP, hG, tiA, hE]
    all_goals try (first | done | rfl | trivial)
  · skip
    refine WS [0, 18] [] ?_
    refine WI (fun hb => ?_) (fun hb => ?_)
    · skip
      have hv : kindM c = 1 := by unfold kindM; rw [if_neg (by omega), if_pos (by omega)]
      have hE := And.intro hE hv
      refine WS [2] [] ?_
      apply aw_ret
      apply q_ret_block
      apply q_ret_seq
      simp only [QRet, QRetM, QRetX, retsX_nil, retsX_cons, objsAre, resA, mapO_nil, mapO_cons, vD_dat, vD_nils, vD_rp, vD_osl, vD_ptr, vD_agg, vD_fn, vD_isl, vL_dat, vL_app, viewL, avA, datsOf, fillA, seval, ↓List.forall_mem_cons, Op.operands, hP, hG, tiA, hE]
      all_goals try (first | done | rfl | trivial)
    · skip
      refine WS [25] [] ?_
      refine WI (fun hb => ?_) (fun hb => ?_)
      · skip
        have hv : kindM c = 3 := by unfold kindM; rw [if_neg (by omega), if_neg (by omega), if_pos (by omega)]
        have hE := And.intro hE hv
        refine WS [2] [] ?_
        apply aw_ret
        apply q_ret_block
        apply q_ret_seq
        simp only [QRet, QRetM, QRetX, retsX_nil, retsX_cons, objsAre, resA, mapO_nil, mapO_cons, vD_dat, vD_nils, vD_rp, vD_osl, vD_ptr, vD_agg, vD_fn, vD_isl, vL_dat, vL_app, viewL, avA, datsOf, fillA, seval, ↓List.forall_mem_cons, Op.operands, hP, hG, tiA, hE]
        all_goals try (first | done | rfl | trivial)
      · skip
        have hv : kindM c = 2 := by unfold kindM; rw [if_neg (by omega), if_neg (by omega), if_neg (by omega)]
        have hE := And.intro hE hv
        apply aw_skip
        apply q_block
        apply q_seq
        refine WS [2] [] ?_
        apply aw_ret
        simp only [QRet, QRetM, QRetX, retsX_nil, retsX_cons, objsAre, resA, mapO_nil, mapO_cons, vD_dat, vD_nils, vD_rp, vD_osl, vD_ptr, vD_agg, vD_fn, vD_isl, vL_dat, vL_app, viewL, avA, datsOf, fillA, seval, ↓List.forall_mem_cons, Op.operands, hP, hG, tiA, hE]
        all_goals try (first | done | rfl | trivial)
theorem end_ok (G) (s : ByteArray) (i : Nat) (hi : i < s.size) (hs : s.size ≤ 281474976710656) : Gives Try.prog G 115 [iD i, .ref (sD s)] [iD (endM s i)] := by
  refine gives_intro [] [] [] Try.func115 rfl (by rfl) (by simp [Try.ntmps115]) fun F hP hG hN hR => ?_
  rw [Try.ntmps115] at hN
  have hA := And.intro hN (And.intro hP (And.intro hG (And.intro hR.1 (And.intro hR.2.1 hR.2.2.1))))
  have hE := @Try.results115
  refine WS [0, 1] [] ?_
  have hc := gvF hP hG (kind_ok G (byteAt s i))
  refine WSc [0, 1, 4] [] ?_
  refine WS [1, 4, 5] [] ?_
  apply aw_seq
  apply aw_block
  refine WL (ι := {t : Nat // i + 1 ≤ t ∧ t ≤ s.size ∧ runM s (kindM (byteAt s i)) (s.size - t) t = endM s i}) [1, 4] [] (fun ⟨t, ht⟩ => [(5, .dat (iD t))]) (fun ⟨t, ht⟩ => []) (fun ⟨t, ht⟩ => s.size - t) (⟨i + 1, Nat.le_refl _, by omega, rfl⟩) ?_
  rintro ⟨t, ht⟩
  dsimp only [List.cons_append, List.nil_append]
  obtain ⟨h1, h2, h3⟩ := id ht
  apply aw_seq
  apply aw_regs [1, 4, 5, 31] []
  · simp (maxSteps := 2000000) (disch := omega) only [avR2, avA, datsOf, fillA, seval, ↓List.forall_mem_cons, Op.operands, hA, tiA, hE]
    (repeat' refine And.intro ?_ ?_) <;> try exact SD
    refine CallGC.use rfl (fun hg => ⟨by first | trivial | (simp only [gdAll, AV.gd, avA, seval]; (repeat' apply And.intro) <;> first | trivial | rfl | exact hg) | simp_all [gdAll], gvF hP hG (kind_ok G (byteAt s t))⟩) ?_
    try simp (maxSteps := 2000000) (disch := omega) only [avR2, avA, datsOf, fillA, seval, ↓List.forall_mem_cons, Op.operands, hA, tiA, hE]
    exact SC
  refine WI (fun hb => ?_) (fun hb => ?_)
  · skip
    have hgo : goM s (kindM (byteAt s i)) t := ⟨by omega, by omega, by omega⟩
    apply aw_skip
    apply q_seq
    apply aw_block
    refine WQ [1, 4, 5] [] ?_
    apply q_block
    refine WN (⟨t + 1, by omega, by omega, (runM_go hgo).symm.trans ht.2.2⟩)
  · skip
    have hgo : ¬ goM s (kindM (byteAt s i)) t := fun ⟨g1, g2, g3⟩ => by omega
    have hv : endM s i = t := by rw [← h3, runM_stop hgo]
    have hE := And.intro hE hv
    apply aw_exit
    apply q_exit_seq
    apply q_exit_loop
    apply q_exit
    apply q_seq
    refine WS [3] [] ?_
    apply aw_ret
    simp only [QRet, QRetM, QRetX, retsX_nil, retsX_cons, objsAre, resA, mapO_nil, mapO_cons, vD_dat, vD_nils, vD_rp, vD_osl, vD_ptr, vD_agg, vD_fn, vD_isl, vL_dat, vL_app, viewL, avA, datsOf, fillA, seval, ↓List.forall_mem_cons, Op.operands, hP, hG, tiA, hE]
    all_goals try (first | done | rfl | trivial)
end Go.Proofs.Ytabjaaonfaejmaa

namespace Go.Proofs.Ytabjaaonfaejmaa
open Go.Av
theorem split_ok (G) (s : ByteArray) (hs : s.size ≤ 281474976710656 / 100) : Gives Try.prog G 102 [sD s] [toksD (toksM s s.size)] := by
  refine gives_intro [] [] [] Try.func102 rfl (by rfl) (by simp [Try.ntmps102]) fun F hP hG hN hR => ?_
  rw [Try.ntmps102] at hN
  have hA := And.intro hN (And.intro hP (And.intro hG (And.intro hR.1 (And.intro hR.2.1 hR.2.2.1))))
  have hE := @Try.results102
  refine WS [1] [1] ?_
  refine WS [1, 3] [1, 29, 30] ?_
  refine WS [1, 3, 4] [1, 29, 30] ?_
  apply aw_seq
  refine WS [1, 3, 4, 5] [1, 29, 30] ?_
  apply aw_block
  refine aw_new0 30 3 (by omega) ?_
  refine aw_nilE 3 30 3 rfl rfl ?_
  refine WL (ι := {i : Nat // i ≤ s.size ∧ ¬ contM s i}) [1, 4] [1, 29] (fun ⟨i, hic⟩ => [(3, .osl 30 3 0 (toksM s i).length), (5, .dat (iD i))]) (fun ⟨i, hic⟩ => [(30, ⟨3, ((toksM s i).map tokD).map .dat⟩)]) (fun ⟨i, hic⟩ => s.size - i) (⟨0, by omega, fun h => by have := h.1; omega⟩) ?_
  rintro ⟨i, hic⟩
  dsimp only [List.cons_append, List.nil_append]
  obtain ⟨hi, hnc⟩ := id hic
  have hl := toks_len s i
  apply aw_seq
  refine WS [1, 3, 4, 5, 11] [1, 29, 30] ?_
  refine WI (fun hb => ?_) (fun hb => ?_)
  · skip
    apply aw_skip
    apply q_seq
    apply aw_block
    apply aw_seq
    refine WS [1, 3, 4, 5, 15] [1, 29, 30] ?_
    refine WI (fun hb => ?_) (fun hb => ?_)
    · skip
      have hbl := toks_blank (s := s) (i := i) (by omega)
      have hE := And.intro hE hbl.1
      refine WS [1, 3, 4, 5] [1, 29, 30] ?_
      apply aw_exit
      apply q_exit_seq
      apply q_exit
      refine WN (⟨i + 1, by omega, hbl.2⟩)
    · skip
      have hen := toks_end (s := s) (i := i) (by omega) hnc (by omega)
      have hsp := endM_spec (s := s) (i := i) (by omega)
      have hsz : (toksM s (endM s i)).length = (toksM s i).length + 1 := by rw [hen.1]; simp
      have hE := And.intro hE (And.intro hen.1 hsz)
      apply aw_skip
      apply q_seq
      apply aw_regs [1, 3, 4, 5, 6] [1, 29, 30]
      · simp (maxSteps := 2000000) (disch := omega) only [avR2, avA, datsOf, fillA, seval, ↓List.forall_mem_cons, Op.operands, hA, tiA, hE]
        (repeat' refine And.intro ?_ ?_) <;> try exact SD
        refine CallC.use (gvF hP hG (end_ok G s i (by omega) (by omega))) (by simp only [callArgs, mapO_nil, mapO_cons, vD_dat, vD_nils, vD_rp, vD_osl, vD_ptr, vD_agg, vD_fn, vD_isl, vL_dat, vL_app, avA, datsOf, fillA, seval, ↓List.forall_mem_cons, Op.operands, hE] <;> rfl) ?_
        try simp (maxSteps := 2000000) (disch := omega) only [avR2, avA, datsOf, fillA, seval, ↓List.forall_mem_cons, Op.operands, hA, tiA, hE]
        exact SC
      have hc := gvF hP hG (kind_ok G (byteAt s i))
      refine WSc [1, 3, 4, 6] [1, 29, 30] ?_
      refine WQ [1, 3, 4, 5] [1, 29, 30] ?_
      apply q_block
      refine WN (⟨endM s i, hsp.2.1, hen.2⟩)
  · skip
    apply aw_exit
    apply q_exit_seq
    obtain rfl : i = s.size := by omega
    apply q_exit_loop
    apply q_exit
    apply q_seq
    refine WS [2] [29, 30] ?_
    apply aw_ret
    simp only [QRet, QRetM, QRetX, retsX_nil, retsX_cons, objsAre, resA, mapO_nil, mapO_cons, vD_dat, vD_nils, vD_rp, vD_osl, vD_ptr, vD_agg, vD_fn, vD_isl, vL_dat, vL_app, viewL, avA, datsOf, fillA, seval, ↓List.forall_mem_cons, Op.operands, hP, hG, tiA, hE]
    all_goals try (first | done | rfl | trivial)
end Go.Proofs.Ytabjaaonfaejmaa

namespace Go.Proofs
set_option maxHeartbeats 1000000 in
set_option maxRecDepth 100000 in
theorem Try.stringslite_IndexByte (s : ByteArray) (c : Int) (w : World) :
    Calls Try.prog 122 #[.string s, .int .u8 c] w fun e w' => e = .returned (.int .i64 (Lib.indexByte s.data.toList c.toNat.toUInt8)) ∧ w' = w := by
  go_enter Try.func122, Try.ntmps122
  go_wp2
  rw [run_callFunc_extern Try.func128 (by kernel_rfl) (by kernel_rfl) (by kernel_rfl) (e := Extern.BytealgIndexByte.indexByte) (by kernel_rfl), Lib.run_indexByteString]
  simp only [Result.andThen]
  rw [Oper.upon_value]
  go_wp2
  go_ret
  exact ⟨rfl, rfl⟩
set_option maxHeartbeats 2000000 in
set_option maxRecDepth 100000 in
theorem Try.stringslite_Index_one (s : ByteArray) (c : UInt8) (w : World) :
    Calls Try.prog 114 #[.string s, .string ⟨#[c]⟩] w fun e w' => e = .returned (.int .i64 (Lib.indexByte s.data.toList c)) ∧ w' = w := by
  go_enter Try.func114, Try.ntmps114
  go_wp2_with (go_at_call 122; refine (Try.stringslite_IndexByte _ _ _).mono ?_; rintro e w' ⟨rfl, rfl⟩)
  · have h : ([c] == s.toList) = true := by assumption
    go_ret
    refine ⟨?_, rfl⟩
    have e : s.data.toList = [c] := by rw [← Lib.toList_data]; exact (beq_iff_eq.1 h).symm
    rw [e]
    simp [Lib.indexByte]
  · go_ret
    exact ⟨rfl, rfl⟩
set_option maxHeartbeats 1000000 in
theorem Try.strings_Index_one (s : ByteArray) (c : UInt8) (w : World) :
    Calls Try.prog 100 #[.string s, .string ⟨#[c]⟩] w fun e w' => e = .returned (.int .i64 (Lib.indexByte s.data.toList c)) ∧ w' = w := by
  go_enter Try.func100, Try.ntmps100
  go_wp2_with (go_at_call 114; refine (Try.stringslite_Index_one _ _ _).mono ?_; rintro e w' ⟨rfl, rfl⟩)
  go_ret
  exact ⟨rfl, rfl⟩
set_option maxHeartbeats 1000000 in
theorem Try.strings_Contains_one (s : ByteArray) (c : UInt8) (w : World) :
    Calls Try.prog 79 #[.string s, .string ⟨#[c]⟩] w fun e w' => e = .returned (.bool (decide (0 ≤ Lib.indexByte s.data.toList c))) ∧ w' = w := by
  go_enter Try.func79, Try.ntmps79
  go_wp2_with (go_at_call 100; refine (Try.strings_Index_one _ _ _).mono ?_; rintro e w' ⟨rfl, rfl⟩)
  go_ret
  exact ⟨rfl, rfl⟩
end Go.Proofs

namespace Go.Proofs.Ytabjaaonfaejmaa
open Go.Av
theorem bad_ok (G) (s : ByteArray) (i : Nat) (hi : i < s.size) (hs : s.size ≤ 281474976710656) : Gives Try.prog G 101 [iD i, .ref (sD s)] [bD (badM s i)] := by
  have hi1 : ((i : Int) - 1).toNat = i - 1 := by omega
  skip
  refine gives_intro [] [] [] Try.func101 rfl (by rfl) (by simp [Try.ntmps101]) fun F hP hG hN hR => ?_
  rw [Try.ntmps101] at hN
  have hA := And.intro hN (And.intro hP (And.intro hG (And.intro hR.1 (And.intro hR.2.1 hR.2.2.1))))
  have hE := And.intro @Try.results101 (And.intro @hi1 (@badM.eq_1))
  refine WS [0, 1] [] ?_
  refine WS [3] [] ?_
  apply aw_ret
  simp only [QRet, QRetM, QRetX, retsX_nil, retsX_cons, objsAre, resA, mapO_nil, mapO_cons, vD_dat, vD_nils, vD_rp, vD_osl, vD_ptr, vD_agg, vD_fn, vD_isl, vL_dat, vL_app, viewL, avA, datsOf, fillA, seval, ↓List.forall_mem_cons, Op.operands, hP, hG, tiA, hE]
  all_goals try (first | done | rfl | trivial)
theorem tvalid_ok (G) (s : ByteArray) (hs : s.size ≤ 281474976710656) : Gives Try.prog G 80 [sD s] [iD (tokValidM s)] := by
  refine gives_intro [] [] [] Try.func80 rfl (by rfl) (by simp [Try.ntmps80]) fun F hP hG hN hR => ?_
  rw [Try.ntmps80] at hN
  have hA := And.intro hN (And.intro hP (And.intro hG (And.intro hR.1 (And.intro hR.2.1 hR.2.2.1))))
  have hE := @Try.results80
  refine WS [1] [1] ?_
  apply aw_seq
  refine WS [1, 7] [1] ?_
  refine WI (fun hb => ?_) (fun hb => ?_)
  · skip
    have hv : tokValidM s = 4 := by unfold tokValidM; rw [if_pos (by omega)]
    have hE := And.intro hE hv
    refine WS [2] [] ?_
    apply aw_ret
    apply q_ret_seq
    simp only [QRet, QRetM, QRetX, retsX_nil, retsX_cons, objsAre, resA, mapO_nil, mapO_cons, vD_dat, vD_nils, vD_rp, vD_osl, vD_ptr, vD_agg, vD_fn, vD_isl, vL_dat, vL_app, viewL, avA, datsOf, fillA, seval, ↓List.forall_mem_cons, Op.operands, hP, hG, tiA, hE]
    all_goals try (first | done | rfl | trivial)
  · skip
    have hn4 : ¬ 4096 < s.size := by omega
    apply aw_skip
    apply q_seq
    refine WS [1, 3] [1] ?_
    apply aw_seq
    refine WS [1, 3, 10, 11] [1] ?_
    apply aw_block
    refine WL (ι := {i : Nat // i ≤ s.size ∧ ∀ j, j < i → badM s j = false}) [1, 3, 10] [1] (fun ⟨i, hic⟩ => [(11, .dat (iD i))]) (fun ⟨i, hic⟩ => []) (fun ⟨i, hic⟩ => s.size - i) (⟨0, by omega, none0⟩) ?_
    rintro ⟨i, hic⟩
    dsimp only [List.cons_append, List.nil_append]
    obtain ⟨hi, hall⟩ := id hic
    refine WS [1, 3, 10, 11, 12] [1] ?_
    apply aw_seq
    refine WI (fun hb => ?_) (fun hb => ?_)
    · skip
      apply aw_skip
      apply q_seq
      apply aw_seq
      apply aw_block
      refine WS [1, 3, 4, 10, 11] [1] ?_
      apply aw_regs [1, 3, 10, 11, 16] [1]
      · simp (maxSteps := 2000000) (disch := omega) only [avR2, avA, datsOf, fillA, seval, ↓List.forall_mem_cons, Op.operands, hA, tiA, hE]
        (repeat' refine And.intro ?_ ?_) <;> try exact SD
        refine CallC.use (gvF hP hG (bad_ok G s i (by omega) (by omega))) (by simp only [callArgs, mapO_nil, mapO_cons, vD_dat, vD_nils, vD_rp, vD_osl, vD_ptr, vD_agg, vD_fn, vD_isl, vL_dat, vL_app, avA, datsOf, fillA, seval, ↓List.forall_mem_cons, Op.operands, hE] <;> rfl) ?_
        try simp (maxSteps := 2000000) (disch := omega) only [avR2, avA, datsOf, fillA, seval, ↓List.forall_mem_cons, Op.operands, hA, tiA, hE]
        exact SC
      refine WI (fun hb => ?_) (fun hb => ?_)
      · skip
        have hv : tokValidM s = 2 := by unfold tokValidM; rw [if_neg hn4, if_pos (.inl ⟨i, by omega, hb⟩)]
        have hE := And.intro hE hv
        refine WS [2] [] ?_
        apply aw_ret
        apply q_ret_block
        apply q_ret_seq
        apply q_ret_loop
        apply q_ret_block
        apply q_ret_seq
        simp only [QRet, QRetM, QRetX, retsX_nil, retsX_cons, objsAre, resA, mapO_nil, mapO_cons, vD_dat, vD_nils, vD_rp, vD_osl, vD_ptr, vD_agg, vD_fn, vD_isl, vL_dat, vL_app, viewL, avA, datsOf, fillA, seval, ↓List.forall_mem_cons, Op.operands, hP, hG, tiA, hE]
        all_goals try (first | done | rfl | trivial)
      · skip
        apply aw_skip
        apply q_block
        apply q_seq
        refine WQ [1, 3, 10, 11] [1] ?_
        refine WN (⟨i + 1, by omega, allstep hic.2 hb⟩)
    · skip
      apply aw_exit
      apply q_exit_seq
      obtain rfl : i = s.size := by omega
      have hno : ¬ ∃ i, i < s.size ∧ badM s i = true := fun ⟨j, h1, h2⟩ => by rw [hall j h1] at h2; cases h2
      apply q_exit_loop
      apply q_exit
      apply q_seq
      apply aw_seq
      apply aw_block
      refine WS [1, 18] [1] ?_
      refine WI (fun hb => ?_) (fun hb => ?_)
      · skip
        have hz : s = ⟨#[]⟩ := str_inj hb
        have hv : tokValidM s = 2 := by unfold tokValidM; rw [if_neg hn4, if_pos (.inr (by rw [hz]; rfl))]
        have hE := And.intro hE hv
        refine WS [2] [] ?_
        apply aw_ret
        apply q_ret_block
        apply q_ret_seq
        simp only [QRet, QRetM, QRetX, retsX_nil, retsX_cons, objsAre, resA, mapO_nil, mapO_cons, vD_dat, vD_nils, vD_rp, vD_osl, vD_ptr, vD_agg, vD_fn, vD_isl, vL_dat, vL_app, viewL, avA, datsOf, fillA, seval, ↓List.forall_mem_cons, Op.operands, hP, hG, tiA, hE]
        all_goals try (first | done | rfl | trivial)
      · skip
        have hz : s.size ≠ 0 := fun h => hb (by have : s = ⟨#[]⟩ := by { cases s with | mk d => simp only [ByteArray.size] at h; simp only [Array.size_eq_zero_iff] at h; rw [h] }; rw [this])
        have hc := gvF hP hG (split_ok G s (by omega))
        refine WSc [21] [] ?_
        refine WI (fun hb => ?_) (fun hb => ?_)
        · skip
          have hv : tokValidM s = 4 := by unfold tokValidM; rw [if_neg hn4, if_neg (by rintro (h | h); exact hno h; exact hz h), if_pos (by omega)]
          have hE := And.intro hE hv
          refine WS [2] [] ?_
          apply aw_ret
          apply q_ret_block
          apply q_ret_seq
          simp only [QRet, QRetM, QRetX, retsX_nil, retsX_cons, objsAre, resA, mapO_nil, mapO_cons, vD_dat, vD_nils, vD_rp, vD_osl, vD_ptr, vD_agg, vD_fn, vD_isl, vL_dat, vL_app, viewL, avA, datsOf, fillA, seval, ↓List.forall_mem_cons, Op.operands, hP, hG, tiA, hE]
          all_goals try (first | done | rfl | trivial)
        · skip
          have hv : tokValidM s = 0 := by unfold tokValidM; rw [if_neg hn4, if_neg (by rintro (h | h); exact hno h; exact hz h), if_neg (by omega)]
          have hE := And.intro hE hv
          apply aw_skip
          apply q_block
          apply q_seq
          refine WS [2] [] ?_
          apply aw_ret
          simp only [QRet, QRetM, QRetX, retsX_nil, retsX_cons, objsAre, resA, mapO_nil, mapO_cons, vD_dat, vD_nils, vD_rp, vD_osl, vD_ptr, vD_agg, vD_fn, vD_isl, vL_dat, vL_app, viewL, avA, datsOf, fillA, seval, ↓List.forall_mem_cons, Op.operands, hP, hG, tiA, hE]
          all_goals try (first | done | rfl | trivial)
end Go.Proofs.Ytabjaaonfaejmaa

namespace Go.Proofs.Ytabjaaonfaejmaa
open Go.Av
def hasAt (s : ByteArray) : Bool := decide (0 ≤ Lib.indexByte s.data.toList 64)
def okWordM (s : ByteArray) : Bool := decide ((s.size : Int) ≤ 24) && !hasAt s && tokValidM s == 0
theorem contains_ok (G) (s : ByteArray) : Gives Try.prog G 79 [sD s, sD ⟨#[64]⟩] [bD (hasAt s)] := by
  refine ⟨⟨_, _, Try.func79, rfl, rfl⟩, fun w S vals _ _ hr => ?_⟩
  simp only [RepV, RepX] at hr
  obtain ⟨v1, vs1, h1, rfl, v2, vs2, rfl, rfl, rfl⟩ := hr
  obtain rfl : vals = #[.string s, .string ⟨#[64]⟩] := by cases vals; simpa using h1
  refine (Try.strings_Contains_one s 64 w).mono ?_
  rintro e w' ⟨rfl, rfl⟩
  exact ⟨_, rfl, Ext.refl _ _, by simp only [RetRep, RepX]; rfl⟩
theorem word_ok' (G) (s : ByteArray) (hs : s.size ≤ 281474976710656) : Gives Try.prog G 46 [sD s] [bD (okWordM s)] := by
  refine gives_intro [] [] [] Try.func46 rfl (by rfl) (by simp [Try.ntmps46]) fun F hP hG hN hR => ?_
  rw [Try.ntmps46] at hN
  have hA := And.intro hN (And.intro hP (And.intro hG (And.intro hR.1 (And.intro hR.2.1 hR.2.2.1))))
  have hE := @Try.results46
  refine WS [0] [] ?_
  apply aw_regs [2] []
  · simp (maxSteps := 2000000) (disch := omega) only [avR2, avA, datsOf, fillA, seval, ↓List.forall_mem_cons, Op.operands, hA, tiA, hE]
    (repeat' refine And.intro ?_ ?_) <;> try exact SD
    refine CallGC.use rfl (fun hg => ⟨by first | trivial | (simp only [gdAll, AV.gd, avA, seval]; (repeat' apply And.intro) <;> first | trivial | rfl | exact hg) | simp_all [gdAll], gvF hP hG (contains_ok G s)⟩) ?_
    try simp (maxSteps := 2000000) (disch := omega) only [avR2, avA, datsOf, fillA, seval, ↓List.forall_mem_cons, Op.operands, hA, tiA, hE]
    (repeat' refine And.intro ?_ ?_) <;> try exact SD
    refine CallGC.use rfl (fun hg => ⟨by first | trivial | (simp only [gdAll, AV.gd, avA, seval]; (repeat' apply And.intro) <;> first | trivial | rfl | exact hg) | simp_all [gdAll], gvF hP hG (tvalid_ok G s hs)⟩) ?_
    try simp (maxSteps := 2000000) (disch := omega) only [avR2, avA, datsOf, fillA, seval, ↓List.forall_mem_cons, Op.operands, hA, tiA, hE]
    exact SC
  apply aw_ret
  simp only [QRet, QRetM, QRetX, retsX_nil, retsX_cons, objsAre, resA, mapO_nil, mapO_cons, vD_dat, vD_nils, vD_rp, vD_osl, vD_ptr, vD_agg, vD_fn, vD_isl, vL_dat, vL_app, viewL, avA, datsOf, fillA, seval, ↓List.forall_mem_cons, Op.operands, hP, hG, tiA, hE, okWordM]
  all_goals try (first | done | rfl | trivial)
theorem notword_ok (G) (s : ByteArray) (hs : s.size ≤ 281474976710656) : Gives Try.prog G 82 [sD s] [bD (!okWordM s)] := by
  refine gives_intro [] [] [] Try.func82 rfl (by rfl) (by simp [Try.ntmps82]) fun F hP hG hN hR => ?_
  rw [Try.ntmps82] at hN
  have hA := And.intro hN (And.intro hP (And.intro hG (And.intro hR.1 (And.intro hR.2.1 hR.2.2.1))))
  have hE := @Try.results82
  refine WS [0] [] ?_
  have hc := gvF hP hG (word_ok' G s hs)
  refine WSc [2] [] ?_
  apply aw_ret
  simp only [QRet, QRetM, QRetX, retsX_nil, retsX_cons, objsAre, resA, mapO_nil, mapO_cons, vD_dat, vD_nils, vD_rp, vD_osl, vD_ptr, vD_agg, vD_fn, vD_isl, vL_dat, vL_app, viewL, avA, datsOf, fillA, seval, ↓List.forall_mem_cons, Op.operands, hP, hG, tiA, hE]
  all_goals try (first | done | rfl | trivial)
theorem index_ok (G) (l : List ByteArray) (g : FuncId) (p : ByteArray → Bool) (hl : l.length ≤ 281474976710656) (hg : ∀ o ∈ l, Gives Try.prog G g [sD o] [bD (p o)]) : Gives Try.prog G 103 [ssD l, .fn g []] [iD (idxM p l)] := by
  refine gives_introF [] [] [] Try.func103 rfl (by rfl) (by simp [Try.ntmps103]) fun F hP hG hN hR => ?_
  rw [Try.ntmps103] at hN
  have hA := And.intro hN (And.intro hP (And.intro hG (And.intro hR.1 (And.intro hR.2.1 hR.2.2.1))))
  have hE := @Try.results103
  refine WS [0, 1] [] ?_
  apply aw_seq
  refine WS [0, 1, 7, 8] [] ?_
  apply aw_block
  refine WL (ι := {i : Nat // i ≤ l.length ∧ ∀ j, j < i → p (l.getD j default) = false}) [0, 1, 7] [] (fun ⟨i, hif⟩ => [(8, .dat (iD i))]) (fun ⟨i, hif⟩ => []) (fun ⟨i, hif⟩ => l.length - i) (⟨0, by omega, none0⟩) ?_
  rintro ⟨i, hif⟩
  dsimp only [List.cons_append, List.nil_append]
  obtain ⟨hi, hf⟩ := id hif
  refine WS [0, 1, 7, 8, 9] [] ?_
  apply aw_seq
  refine WI (fun hb => ?_) (fun hb => ?_)
  · skip
    apply aw_skip
    apply q_seq
    apply aw_seq
    apply aw_block
    refine WS [0, 1, 5, 7, 8] [] ?_
    have hc := gvF hP hG (hg (l.getD i default) (getD_all (p := fun o => o ∈ l) (fun o h => h) (by omega)))
    refine WSc [0, 1, 5, 7, 8, 16] [] ?_
    refine WI (fun hb => ?_) (fun hb => ?_)
    · skip
      have hv := idxM_some (show i < l.length by omega) hb hf
      have hE := And.intro hE hv
      refine WS [4] [] ?_
      apply aw_ret
      apply q_ret_block
      apply q_ret_seq
      apply q_ret_loop
      apply q_ret_block
      apply q_ret_seq
      simp only [QRet, QRetM, QRetX, retsX_nil, retsX_cons, objsAre, resA, mapO_nil, mapO_cons, vD_dat, vD_nils, vD_rp, vD_osl, vD_ptr, vD_agg, vD_fn, vD_isl, vL_dat, vL_app, viewL, avA, datsOf, fillA, seval, ↓List.forall_mem_cons, Op.operands, hP, hG, tiA, hE]
      all_goals try (first | done | rfl | trivial)
    · skip
      apply aw_skip
      apply q_block
      apply q_seq
      refine WQ [0, 1, 7, 8] [] ?_
      refine WN (⟨i + 1, by omega, allstep hif.2 hb⟩)
  · skip
    apply aw_exit
    apply q_exit_seq
    obtain rfl : i = l.length := by omega
    have hv := idxM_none hf
    have hE := And.intro hE hv
    apply q_exit_loop
    apply q_exit
    apply q_seq
    refine WS [4] [] ?_
    apply aw_ret
    simp only [QRet, QRetM, QRetX, retsX_nil, retsX_cons, objsAre, resA, mapO_nil, mapO_cons, vD_dat, vD_nils, vD_rp, vD_osl, vD_ptr, vD_agg, vD_fn, vD_isl, vL_dat, vL_app, viewL, avA, datsOf, fillA, seval, ↓List.forall_mem_cons, Op.operands, hP, hG, tiA, hE]
    all_goals try (first | done | rfl | trivial)
theorem containsF_ok (G) (l : List ByteArray) (g : FuncId) (p : ByteArray → Bool) (hl : l.length ≤ 281474976710656) (hg : ∀ o ∈ l, Gives Try.prog G g [sD o] [bD (p o)]) : Gives Try.prog G 81 [ssD l, .fn g []] [bD (decide (0 ≤ idxM p l))] := by
  refine gives_introF [] [] [] Try.func81 rfl (by rfl) (by simp [Try.ntmps81]) fun F hP hG hN hR => ?_
  rw [Try.ntmps81] at hN
  have hA := And.intro hN (And.intro hP (And.intro hG (And.intro hR.1 (And.intro hR.2.1 hR.2.2.1))))
  have hE := @Try.results81
  refine WS [0, 1] [] ?_
  have hc := gvF hP hG (index_ok G l g p hl hg)
  refine WSc [4] [] ?_
  apply aw_ret
  simp only [QRet, QRetM, QRetX, retsX_nil, retsX_cons, objsAre, resA, mapO_nil, mapO_cons, vD_dat, vD_nils, vD_rp, vD_osl, vD_ptr, vD_agg, vD_fn, vD_isl, vL_dat, vL_app, viewL, avA, datsOf, fillA, seval, ↓List.forall_mem_cons, Op.operands, hP, hG, tiA, hE]
  all_goals try (first | done | rfl | trivial)
def okWordsM (l : List ByteArray) : Bool := l.all okWordM
theorem okWords_idx (l : List ByteArray) : (!decide (0 ≤ idxM (fun s => !okWordM s) l)) = okWordsM l := by
  have h := idxM_nonneg (p := fun s => !okWordM s) (l := l)
  unfold okWordsM
  rw [Bool.eq_iff_iff]
  simp only [Bool.not_eq_true', decide_eq_false_iff_not, h, List.any_eq_true, List.all_eq_true]
  constructor
  · intro h x hx
    rcases hw : okWordM x with _ | _
    · exact absurd ⟨x, hx, by simp [hw]⟩ h
    · rfl
  · rintro h ⟨x, hx, hw⟩
    simp [h x hx] at hw
theorem words_ok (G) (l : List ByteArray) (hl : l.length ≤ 281474976710656) (hs : ∀ s ∈ l, s.size ≤ 281474976710656) : Gives Try.prog G 47 [ssD l] [bD (okWordsM l)] := by
  skip
  refine gives_intro [] [] [] Try.func47 rfl (by rfl) (by simp [Try.ntmps47]) fun F hP hG hN hR => ?_
  rw [Try.ntmps47] at hN
  have hA := And.intro hN (And.intro hP (And.intro hG (And.intro hR.1 (And.intro hR.2.1 hR.2.2.1))))
  have hE := And.intro @Try.results47 (@okWords_idx)
  refine WS [0] [] ?_
  have hc := gvF hP hG (containsF_ok G l 82 (fun s => !okWordM s) hl (fun o ho => notword_ok G o (hs o ho)))
  refine WSc [2] [] ?_
  apply aw_ret
  simp only [QRet, QRetM, QRetX, retsX_nil, retsX_cons, objsAre, resA, mapO_nil, mapO_cons, vD_dat, vD_nils, vD_rp, vD_osl, vD_ptr, vD_agg, vD_fn, vD_isl, vL_dat, vL_app, viewL, avA, datsOf, fillA, seval, ↓List.forall_mem_cons, Op.operands, hP, hG, tiA, hE]
  all_goals try (first | done | rfl | trivial)
end Go.Proofs.Ytabjaaonfaejmaa

namespace Go.Proofs.Ytabjaaonfaejmaa
open Go.Av
def catN {α : Type} (ls : List (List α)) (i : Nat) : List α := (preM ls i).flatten
theorem catN_zero {α : Type} (ls : List (List α)) : catN ls 0 = [] := rfl
theorem catN_succ {α : Type} (ls : List (List α)) (i : Nat) (h : i < ls.length) : catN ls (i + 1) = catN ls i ++ ls.getD i default := by
  simp [catN, preM_succ ls i h]
theorem catN_lsucc {α : Type} (ls : List (List α)) (i : Nat) (h : i < ls.length) : (catN ls (i + 1)).length = (catN ls i).length + (ls.getD i default).length := by
  rw [catN_succ ls i h, List.length_append]
theorem catN_all {α : Type} (ls : List (List α)) : catN ls ls.length = ls.flatten := by simp [catN, preM_all]
theorem catN_le {α : Type} {ls : List (List α)} (hs : ∀ l ∈ ls, l.length ≤ 1000000) {i : Nat} (h : i ≤ ls.length) : (catN ls i).length ≤ 1000000 * i := by
  have : ∀ k : List (List α), (∀ l ∈ k, l.length ≤ 1000000) → k.flatten.length ≤ 1000000 * k.length := fun k hk => by
    induction k with
    | nil => simp
    | cons x k ih =>
      have h1 := hk x (by simp)
      have h2 := ih fun l hl => hk l (by simp [hl])
      rw [List.flatten_cons, List.length_append, List.length_cons]
      omega
  have h2 := this (preM ls i) fun l hl => hs l (List.mem_of_mem_take hl)
  rw [preM_len ls i h] at h2
  exact h2
theorem growB_okX (G) (n : Int) (h0 : 0 ≤ n) (hn : n ≤ 1000000000000) : GivesX Try.prog G 99 [.nils, .dat (iD n)] [] [.osl 22 1 0 0] [(22, ⟨1, []⟩)] := by
  skip
  refine gives_introX' [] [] [] Try.func99 rfl (by rfl) (by simp [Try.ntmps99]) (by kernel_rfl) (by simp [onlyL_nil, onlyL_cons, AV.only, inIds]) (by simp only [onlyOs, onlyL_nil, onlyL_cons, onlyL_append, onlyL_dats, onlyL_row, AV.only, Bool.and_true] <;> simp [inIds]) fun F hP hG hN hR => ?_
  rw [Try.ntmps99] at hN
  have hA := And.intro hN (And.intro hP (And.intro hG (And.intro hR.1 (And.intro hR.2.1 hR.2.2.1))))
  have hE := And.intro @Try.results99 (@IntWalk.i64_in)
  refine WS [0, 1] [22] ?_
  apply aw_seq
  refine WS [0, 1, 6] [22] ?_
  refine WI (fun hb => ?_) (fun hb => ?_)
  · skip
    exfalso
    omega --STOP
  · skip
    apply aw_skip
    apply q_seq
    apply aw_seq
    refine aw_lists ?_
    apply al_seg
    · (iterate 2 apply Seg.cons); exact Seg.nil _
    · simp (maxSteps := 2000000) (disch := omega) only [avR2, avA, datsOf, fillA, seval, ↓List.forall_mem_cons, Op.operands, hA, tiA, hE, KeptS]
      exact SC
    refine al_step rfl (capN_ok rfl rfl (by rw [hN]; omega) (by rw [hP]; exact ti62) rfl rfl) ?_
    rw [of_put]
    apply al_last [0, 1] [22]
    · simp (maxSteps := 2000000) (disch := omega) only [avR2, avA, datsOf, fillA, seval, ↓List.forall_mem_cons, Op.operands, hA, tiA, hE]
      exact SC
    refine WS [0, 1, 16] [22] ?_
    refine WI (fun hb => ?_) (fun hb => ?_)
    · skip
      refine aw_list ?_
      apply al_seg
      · (iterate 2 apply Seg.cons); exact Seg.nil _
      · simp (maxSteps := 2000000) (disch := omega) only [avR2, avA, datsOf, fillA, seval, ↓List.forall_mem_cons, Op.operands, hA, tiA, hE, KeptS]
        exact SC
      refine al_step rfl (capN_ok rfl rfl (by rw [hN]; omega) (by rw [hP]; exact ti62) rfl rfl) ?_
      rw [of_put]
      apply al_seg
      · (iterate 2 apply Seg.cons); exact Seg.nil _
      · simp (maxSteps := 2000000) (disch := omega) only [avR2, avA, datsOf, fillA, seval, ↓List.forall_mem_cons, Op.operands, hA, tiA, hE, KeptS]
        exact SC
      refine al_step rfl (appendZ_ok rfl rfl (by rw [hN]; omega) (by rw [hP]; exact ti62) rfl (by rw [hP]; exact ti3) rfl (by rw [hP]; exact ti5) rfl rfl rfl rfl rfl (by omega) (by omega) (by dsimp only; omega)) ?_
      simp only [avA, seval]
      apply al_last [0] [22]
      · simp (maxSteps := 2000000) (disch := omega) only [avR2, avA, datsOf, fillA, seval, ↓List.forall_mem_cons, Op.operands, hA, tiA, hE]
        exact SC
      apply q_seq
      refine WS [4] [22] ?_
      apply aw_ret
      simp only [QRet, QRetM, QRetX, retsX_nil, retsX_cons, objsAre, resA, mapO_nil, mapO_cons, vD_dat, vD_nils, vD_rp, vD_osl, vD_ptr, vD_agg, vD_fn, vD_isl, vL_dat, vL_app, viewL, avA, datsOf, fillA, seval, ↓List.forall_mem_cons, Op.operands, hP, hG, tiA, hE]
      all_goals try (first | done | rfl | trivial)
    · skip
      refine aw_new0 22 1 (by omega) ?_
      refine aw_nilE 0 22 1 rfl rfl ?_
      
      apply aw_skip
      apply q_seq
      refine WS [4] [22] ?_
      apply aw_ret
      simp only [QRet, QRetM, QRetX, retsX_nil, retsX_cons, objsAre, resA, mapO_nil, mapO_cons, vD_dat, vD_nils, vD_rp, vD_osl, vD_ptr, vD_agg, vD_fn, vD_isl, vL_dat, vL_app, viewL, avA, datsOf, fillA, seval, ↓List.forall_mem_cons, Op.operands, hP, hG, tiA, hE]
      all_goals try (first | done | rfl | trivial)
theorem growS_okX (G) (n : Int) (h0 : 0 ≤ n) (hn : n ≤ 1000000000000) : GivesX Try.prog G 90 [.nils, .dat (iD n)] [] [.osl 22 1 0 0] [(22, ⟨1, []⟩)] := by
  skip
  refine gives_introX' [] [] [] Try.func90 rfl (by rfl) (by simp [Try.ntmps90]) (by kernel_rfl) (by simp [onlyL_nil, onlyL_cons, AV.only, inIds]) (by simp only [onlyOs, onlyL_nil, onlyL_cons, onlyL_append, onlyL_dats, onlyL_row, AV.only, Bool.and_true] <;> simp [inIds]) fun F hP hG hN hR => ?_
  rw [Try.ntmps90] at hN
  have hA := And.intro hN (And.intro hP (And.intro hG (And.intro hR.1 (And.intro hR.2.1 hR.2.2.1))))
  have hE := And.intro @Try.results90 (@IntWalk.i64_in)
  refine WS [0, 1] [22] ?_
  apply aw_seq
  refine WS [0, 1, 6] [22] ?_
  refine WI (fun hb => ?_) (fun hb => ?_)
  · skip
    exfalso
    omega --STOP
  · skip
    apply aw_skip
    apply q_seq
    apply aw_seq
    refine aw_lists ?_
    apply al_seg
    · (iterate 2 apply Seg.cons); exact Seg.nil _
    · simp (maxSteps := 2000000) (disch := omega) only [avR2, avA, datsOf, fillA, seval, ↓List.forall_mem_cons, Op.operands, hA, tiA, hE, KeptS]
      exact SC
    refine al_step rfl (capN_ok rfl rfl (by rw [hN]; omega) (by rw [hP]; exact ti28) rfl rfl) ?_
    rw [of_put]
    apply al_last [0, 1] [22]
    · simp (maxSteps := 2000000) (disch := omega) only [avR2, avA, datsOf, fillA, seval, ↓List.forall_mem_cons, Op.operands, hA, tiA, hE]
      exact SC
    refine WS [0, 1, 16] [22] ?_
    refine WI (fun hb => ?_) (fun hb => ?_)
    · skip
      refine aw_list ?_
      apply al_seg
      · (iterate 2 apply Seg.cons); exact Seg.nil _
      · simp (maxSteps := 2000000) (disch := omega) only [avR2, avA, datsOf, fillA, seval, ↓List.forall_mem_cons, Op.operands, hA, tiA, hE, KeptS]
        exact SC
      refine al_step rfl (capN_ok rfl rfl (by rw [hN]; omega) (by rw [hP]; exact ti28) rfl rfl) ?_
      rw [of_put]
      apply al_seg
      · (iterate 2 apply Seg.cons); exact Seg.nil _
      · simp (maxSteps := 2000000) (disch := omega) only [avR2, avA, datsOf, fillA, seval, ↓List.forall_mem_cons, Op.operands, hA, tiA, hE, KeptS]
        exact SC
      refine al_step rfl (appendZ_ok rfl rfl (by rw [hN]; omega) (by rw [hP]; exact ti28) rfl (by rw [hP]; exact ti3) rfl (by rw [hP]; exact ti9) rfl rfl rfl rfl rfl (by omega) (by omega) (by dsimp only; omega)) ?_
      simp only [avA, seval]
      apply al_last [0] [22]
      · simp (maxSteps := 2000000) (disch := omega) only [avR2, avA, datsOf, fillA, seval, ↓List.forall_mem_cons, Op.operands, hA, tiA, hE]
        exact SC
      apply q_seq
      refine WS [4] [22] ?_
      apply aw_ret
      simp only [QRet, QRetM, QRetX, retsX_nil, retsX_cons, objsAre, resA, mapO_nil, mapO_cons, vD_dat, vD_nils, vD_rp, vD_osl, vD_ptr, vD_agg, vD_fn, vD_isl, vL_dat, vL_app, viewL, avA, datsOf, fillA, seval, ↓List.forall_mem_cons, Op.operands, hP, hG, tiA, hE]
      all_goals try (first | done | rfl | trivial)
    · skip
      refine aw_new0 22 1 (by omega) ?_
      refine aw_nilE 0 22 1 rfl rfl ?_
      
      apply aw_skip
      apply q_seq
      refine WS [4] [22] ?_
      apply aw_ret
      simp only [QRet, QRetM, QRetX, retsX_nil, retsX_cons, objsAre, resA, mapO_nil, mapO_cons, vD_dat, vD_nils, vD_rp, vD_osl, vD_ptr, vD_agg, vD_fn, vD_isl, vL_dat, vL_app, viewL, avA, datsOf, fillA, seval, ↓List.forall_mem_cons, Op.operands, hP, hG, tiA, hE]
      all_goals try (first | done | rfl | trivial)
theorem concatB_ok (G) (ls : List (List Int)) (hl : ls.length ≤ 1000000) (hs : ∀ l ∈ ls, l.length ≤ 1000000) (hq : ls.flatten.length ≤ 1000000) : Gives Try.prog G 74 [.sl (ls.map fun l => u8sD l)] [u8sD ls.flatten] := by
  skip
  skip
  refine gives_intro [] [24] [] Try.func74 rfl (by rfl) (by simp [Try.ntmps74]) fun F hP hG hN hR => ?_
  rw [Try.ntmps74] at hN
  have hA := And.intro hN (And.intro hP (And.intro hG (And.intro hR.1 (And.intro hR.2.1 hR.2.2.1))))
  have hE := And.intro @Try.results74 (And.intro @catN_zero (@IntWalk.i64_in))
  refine WS [0] [33] ?_
  refine WS [0, 3] [33] ?_
  apply aw_seq
  refine WS [0, 3, 9, 10, 11] [33] ?_
  apply aw_block
  refine WL (ι := {i : Nat // i ≤ ls.length}) [0, 9, 10] [33] (fun ⟨i, hi⟩ => [(3, .dat (iD (catN ls i).length)), (11, .dat (iD i))]) (fun ⟨i, hi⟩ => []) (fun ⟨i, hi⟩ => ls.length - i) (⟨0, by omega⟩) ?_
  rintro ⟨i, hi⟩
  dsimp only [List.cons_append, List.nil_append]
  refine WS [0, 3, 9, 10, 11, 12] [33] ?_
  apply aw_seq
  refine WI (fun hb => ?_) (fun hb => ?_)
  · skip
    have hx := getD_all hs (i := i) (by omega)
    have hle := catN_le hs hi
    have hsc := catN_lsucc ls i (by omega)
    have hE := And.intro hE hsc
    apply aw_skip
    apply q_seq
    apply aw_seq
    apply aw_block
    refine WS [0, 3, 5, 9, 10, 11] [33] ?_
    refine WS [0, 3, 9, 10, 11] [33] ?_
    refine WS [0, 3, 9, 10, 11, 20] [33] ?_
    refine WI (fun hb => ?_) (fun hb => ?_)
    · skip
      exfalso
      omega --STOP
    · skip
      apply aw_skip
      apply q_block
      apply q_seq
      refine WQ [0, 3, 9, 10, 11] [33] ?_
      refine WN (⟨i + 1, by omega⟩)
  · skip
    apply aw_exit
    apply q_exit_seq
    have hend : i = ls.length := by omega
    subst hend
    have hf := catN_all ls
    have hE := And.intro hE hf
    apply q_exit_loop
    apply q_exit
    apply q_seq
    apply aw_regs [0, 6] [33]
    · simp (maxSteps := 2000000) (disch := omega) only [avR2, avA, datsOf, fillA, seval, ↓List.forall_mem_cons, Op.operands, hA, tiA, hE]
      (repeat' refine And.intro ?_ ?_) <;> try exact SD
      refine CallC.useX (fun _ => 33) [22] (by simp [LitD, hR.2.1]) (gvFX hP hG (growB_okX G ls.flatten.length (by omega) (by omega))) rfl (lentX_of hN (by first | trivial | ((try simp only [haveL, AObj.ren, AV.ren, renL, ren_row, List.map_cons, List.map_nil, objL_cons, objL_nil]) <;> ((repeat' apply And.intro) <;> first | trivial | rfl))) (by rfl)) ?_
      try simp (maxSteps := 2000000) (disch := omega) only [avR2, avA, datsOf, fillA, seval, ↓List.forall_mem_cons, Op.operands, hA, tiA, hE, avX]
      exact SC
    apply aw_seq
    refine WS [6, 25, 26, 27] [33] ?_
    apply aw_block
    refine WL (ι := {i : Nat // i ≤ ls.length}) [25, 26] [] (fun ⟨i, hi⟩ => [(6, .osl 33 1 0 (catN ls i).length), (27, .dat (iD i))]) (fun ⟨i, hi⟩ => [(33, ⟨1, ((catN ls i).map u8D).map .dat⟩)]) (fun ⟨i, hi⟩ => ls.length - i) (⟨0, by omega⟩) ?_
    rintro ⟨i, hi⟩
    dsimp only [List.cons_append, List.nil_append]
    refine WS [6, 25, 26, 27, 28] [33] ?_
    apply aw_seq
    refine WI (fun hb => ?_) (fun hb => ?_)
    · skip
      have hx := getD_all hs (i := i) (by omega)
      have hle := catN_le hs hi
      have hsc := catN_succ ls i (by omega)
      have hE := And.intro hE hsc
      
      apply aw_skip
      apply q_seq
      apply aw_seq
      apply aw_block
      refine WS [6, 8, 25, 26, 27] [33] ?_
      refine WQ [6, 25, 26, 27] [33] ?_
      apply q_block
      apply q_seq
      refine WQ [6, 25, 26, 27] [33] ?_
      refine WN (⟨i + 1, by omega⟩)
    · skip
      apply aw_exit
      apply q_exit_seq
      have hend : i = ls.length := by omega
      subst hend
      apply q_exit_loop
      apply q_exit
      apply q_seq
      refine WS [2] [33] ?_
      apply aw_ret
      simp only [QRet, QRetM, QRetX, retsX_nil, retsX_cons, objsAre, resA, mapO_nil, mapO_cons, vD_dat, vD_nils, vD_rp, vD_osl, vD_ptr, vD_agg, vD_fn, vD_isl, vL_dat, vL_app, viewL, avA, datsOf, fillA, seval, ↓List.forall_mem_cons, Op.operands, hP, hG, tiA, hE]
      all_goals try (first | done | rfl | trivial)
theorem concatS_ok (G) (ls : List (List ByteArray)) (hl : ls.length ≤ 1000000) (hs : ∀ l ∈ ls, l.length ≤ 1000000) (hq : ls.flatten.length ≤ 1000000) : Gives Try.prog G 62 [.sl (ls.map fun l => ssD l)] [ssD ls.flatten] := by
  skip
  skip
  refine gives_intro [] [24] [] Try.func62 rfl (by rfl) (by simp [Try.ntmps62]) fun F hP hG hN hR => ?_
  rw [Try.ntmps62] at hN
  have hA := And.intro hN (And.intro hP (And.intro hG (And.intro hR.1 (And.intro hR.2.1 hR.2.2.1))))
  have hE := And.intro @Try.results62 (And.intro @catN_zero (@IntWalk.i64_in))
  refine WS [0] [33] ?_
  refine WS [0, 3] [33] ?_
  apply aw_seq
  refine WS [0, 3, 9, 10, 11] [33] ?_
  apply aw_block
  refine WL (ι := {i : Nat // i ≤ ls.length}) [0, 9, 10] [33] (fun ⟨i, hi⟩ => [(3, .dat (iD (catN ls i).length)), (11, .dat (iD i))]) (fun ⟨i, hi⟩ => []) (fun ⟨i, hi⟩ => ls.length - i) (⟨0, by omega⟩) ?_
  rintro ⟨i, hi⟩
  dsimp only [List.cons_append, List.nil_append]
  refine WS [0, 3, 9, 10, 11, 12] [33] ?_
  apply aw_seq
  refine WI (fun hb => ?_) (fun hb => ?_)
  · skip
    have hx := getD_all hs (i := i) (by omega)
    have hle := catN_le hs hi
    have hsc := catN_lsucc ls i (by omega)
    have hE := And.intro hE hsc
    apply aw_skip
    apply q_seq
    apply aw_seq
    apply aw_block
    refine WS [0, 3, 5, 9, 10, 11] [33] ?_
    refine WS [0, 3, 9, 10, 11] [33] ?_
    refine WS [0, 3, 9, 10, 11, 20] [33] ?_
    refine WI (fun hb => ?_) (fun hb => ?_)
    · skip
      exfalso
      omega --STOP
    · skip
      apply aw_skip
      apply q_block
      apply q_seq
      refine WQ [0, 3, 9, 10, 11] [33] ?_
      refine WN (⟨i + 1, by omega⟩)
  · skip
    apply aw_exit
    apply q_exit_seq
    have hend : i = ls.length := by omega
    subst hend
    have hf := catN_all ls
    have hE := And.intro hE hf
    apply q_exit_loop
    apply q_exit
    apply q_seq
    apply aw_regs [0, 6] [33]
    · simp (maxSteps := 2000000) (disch := omega) only [avR2, avA, datsOf, fillA, seval, ↓List.forall_mem_cons, Op.operands, hA, tiA, hE]
      (repeat' refine And.intro ?_ ?_) <;> try exact SD
      refine CallC.useX (fun _ => 33) [22] (by simp [LitD, hR.2.1]) (gvFX hP hG (growS_okX G ls.flatten.length (by omega) (by omega))) rfl (lentX_of hN (by first | trivial | ((try simp only [haveL, AObj.ren, AV.ren, renL, ren_row, List.map_cons, List.map_nil, objL_cons, objL_nil]) <;> ((repeat' apply And.intro) <;> first | trivial | rfl))) (by rfl)) ?_
      try simp (maxSteps := 2000000) (disch := omega) only [avR2, avA, datsOf, fillA, seval, ↓List.forall_mem_cons, Op.operands, hA, tiA, hE, avX]
      exact SC
    apply aw_seq
    refine WS [6, 25, 26, 27] [33] ?_
    apply aw_block
    refine WL (ι := {i : Nat // i ≤ ls.length}) [25, 26] [] (fun ⟨i, hi⟩ => [(6, .osl 33 1 0 (catN ls i).length), (27, .dat (iD i))]) (fun ⟨i, hi⟩ => [(33, ⟨1, ((catN ls i).map Dat.str).map .dat⟩)]) (fun ⟨i, hi⟩ => ls.length - i) (⟨0, by omega⟩) ?_
    rintro ⟨i, hi⟩
    dsimp only [List.cons_append, List.nil_append]
    refine WS [6, 25, 26, 27, 28] [33] ?_
    apply aw_seq
    refine WI (fun hb => ?_) (fun hb => ?_)
    · skip
      have hx := getD_all hs (i := i) (by omega)
      have hle := catN_le hs hi
      have hsc := catN_succ ls i (by omega)
      have hE := And.intro hE hsc
      
      apply aw_skip
      apply q_seq
      apply aw_seq
      apply aw_block
      refine WS [6, 8, 25, 26, 27] [33] ?_
      refine WQ [6, 25, 26, 27] [33] ?_
      apply q_block
      apply q_seq
      refine WQ [6, 25, 26, 27] [33] ?_
      refine WN (⟨i + 1, by omega⟩)
    · skip
      apply aw_exit
      apply q_exit_seq
      have hend : i = ls.length := by omega
      subst hend
      apply q_exit_loop
      apply q_exit
      apply q_seq
      refine WS [2] [33] ?_
      apply aw_ret
      simp only [QRet, QRetM, QRetX, retsX_nil, retsX_cons, objsAre, resA, mapO_nil, mapO_cons, vD_dat, vD_nils, vD_rp, vD_osl, vD_ptr, vD_agg, vD_fn, vD_isl, vL_dat, vL_app, viewL, avA, datsOf, fillA, seval, ↓List.forall_mem_cons, Op.operands, hP, hG, tiA, hE]
      all_goals try (first | done | rfl | trivial)
end Go.Proofs.Ytabjaaonfaejmaa

namespace Go.Proofs.Ytabjaaonfaejmaa
open Go.Av
def digs (m : Nat) : Nat := if m = 0 then 0 else digs (m / 256) + 1
termination_by m
decreasing_by omega
theorem digs_zero : digs 0 = 0 := by rw [digs]; rfl
theorem digs_pos {m : Nat} (h : 0 < m) : digs m = digs (m / 256) + 1 := by rw [digs]; rw [if_neg (by omega)]
theorem digs_div (m : Nat) : ∀ j, digs (m / 256 ^ j) = digs m - j
  | 0 => by simp
  | j + 1 => by
    rw [Nat.pow_succ, ← Nat.div_div_eq_div_mul]
    have ih := digs_div m j
    by_cases h : m / 256 ^ j = 0
    · rw [h] at ih ⊢
      simp only [Nat.zero_div, digs_zero] at ih ⊢
      omega
    · rw [digs_pos (Nat.pos_of_ne_zero h)] at ih
      omega
theorem digs_iff (m j : Nat) : 0 < m / 256 ^ j ↔ j < digs m := by
  have h := digs_div m j
  constructor
  · intro h1
    rw [digs_pos h1] at h
    omega
  · intro h1
    rcases Nat.eq_zero_or_pos (m / 256 ^ j) with h2 | h2
    · rw [h2, digs_zero] at h; omega
    · exact h2
theorem digs_le {m k : Nat} (h : m < 256 ^ k) : digs m ≤ k := by
  rcases Nat.lt_or_ge k (digs m) with h1 | h1
  · have := (digs_iff m k).2 h1
    rw [Nat.div_eq_of_lt h] at this
    omega
  · exact h1
theorem digs_8 {m : Nat} (h : m < 18446744073709551616) : digs m ≤ 8 := digs_le (by simpa using h)
def negM (n : Int) : Int := if n < 0 then -1 - n else n
theorem negM_range {n : Int} (h : I64 n) : 0 ≤ negM n ∧ negM n < 9223372036854775808 := by
  unfold negM
  unfold I64 at h
  split <;> omega
def flipM (n b : Int) : Int := if n < 0 then 255 - b else b
def kM (n : Int) : Nat := digs (negM n).toNat
theorem kM_le {n : Int} (h : I64 n) : kM n ≤ 8 := digs_8 (by have := negM_range h; omega)
def digM (n : Int) (i : Nat) : Int := flipM n (((negM n).toNat / 256 ^ i % 256 : Nat) : Int)
def intN (n : Int) (j : Nat) : List Int := flipM n (128 + kM n) :: (List.range j).map fun i => digM n (kM n - 1 - i)
def intM (n : Int) : List Int := intN n (kM n)
theorem intM_eq (n : Int) : intM n = intN n (kM n) := rfl
theorem intN_zero (n : Int) : intN n 0 = [flipM n (128 + kM n)] := rfl
theorem intN_succ (n : Int) (j : Nat) : intN n (j + 1) = intN n j ++ [digM n (kM n - 1 - j)] := by simp [intN, List.range_succ]
theorem intN_len (n : Int) (j : Nat) : (intN n j).length = j + 1 := by simp [intN]
theorem intM_len (n : Int) : (intM n).length = kM n + 1 := intN_len _ _
theorem xor_flip (n b : Int) (h : 0 ≤ b ∧ b ≤ 255) : IntKind.u8.wrap ((BitVec.ofInt IntKind.u8.bits b ^^^ BitVec.ofInt IntKind.u8.bits (flipM n 0)).toNat : Int) = flipM n b := by
  have h0 : ∀ b : Fin 256, IntKind.u8.wrap ((BitVec.ofInt IntKind.u8.bits (b.val : Int) ^^^ BitVec.ofInt IntKind.u8.bits 0).toNat : Int) = b.val := by decide +kernel
  have h1 : ∀ b : Fin 256, IntKind.u8.wrap ((BitVec.ofInt IntKind.u8.bits (b.val : Int) ^^^ BitVec.ofInt IntKind.u8.bits 255).toNat : Int) = 255 - b.val := by decide +kernel
  have hb : b = ((⟨b.toNat, by omega⟩ : Fin 256).val : Int) := by simp; omega
  unfold flipM
  rw [hb]
  split
  · exact h1 _
  · exact h0 _
theorem not_u64 {n : Int} (h : I64 n) (hn : n < 0) : IntKind.u64.wrap ((BitVec.ofInt IntKind.u64.bits IntKind.u64.max ^^^ BitVec.ofInt IntKind.u64.bits (IntKind.u64.wrap n)).toNat : Int) = negM n := by
  unfold I64 at h
  have e1 : IntKind.u64.wrap n = 18446744073709551616 + n := by unfold IntKind.wrap; simp [IntKind.bits, IntKind.signed]; omega
  have e2 : BitVec.ofInt 64 18446744073709551615 = BitVec.allOnes 64 := by decide
  rw [e1]
  show IntKind.u64.wrap ((BitVec.ofInt 64 18446744073709551615 ^^^ BitVec.ofInt 64 (18446744073709551616 + n)).toNat : Int) = negM n
  rw [e2, BitVec.allOnes_xor, BitVec.toNat_not, BitVec.toNat_ofInt]
  unfold negM
  rw [if_pos hn, IntWalk.u64_in _ (by omega)]
  omega
theorem not_u64i {n : Int} (h : I64 n) (hn : n < 0) : IntKind.u64.wrap ((BitVec.ofInt IntKind.u64.bits (if IntKind.u64.signed = true then -1 else IntKind.u64.max) ^^^ BitVec.ofInt IntKind.u64.bits (IntKind.u64.wrap n)).toNat : Int) = negM n := not_u64 h hn
theorem wrap8_nat (x : Nat) : IntKind.u8.wrap (x : Int) = ((x % 256 : Nat) : Int) := by
  rw [IntKind.wrap_u8]
  omega
theorem shr_digit {m : Int} {j : Nat} (h0 : 0 ≤ m) (hj : j < 8) : Int.fdiv m (2 ^ (min (8 * (j : Int)).toNat IntKind.u64.bits)) = ((m.toNat / 256 ^ j : Nat) : Int) := by
  obtain ⟨k, rfl⟩ := Int.eq_ofNat_of_zero_le h0
  rw [show min (8 * (j : Int)).toNat IntKind.u64.bits = 8 * j by simp only [IntKind.bits]; omega, Int.toNat_natCast, Int.fdiv_eq_ediv_of_nonneg _ (Int.pow_nonneg (by omega)), show (2 : Int) ^ (8 * j) = ((256 ^ j : Nat) : Int) by rw [Int.pow_mul]; simp]
  exact (Int.natCast_ediv k (256 ^ j)).symm
def intsN (l : List Int) (i : Nat) : List Int := intM l.length ++ (preM l i).flatMap intM
def intsM (l : List Int) : List Int := intsN l l.length
def bytesM (s : ByteArray) : List Int := intM s.size ++ strB s
def strsN (l : List ByteArray) (i : Nat) : List Int := intM l.length ++ (preM l i).flatMap bytesM
def strsM (l : List ByteArray) : List Int := strsN l l.length
def headL (o : OpM) : List Int := [o.Kind, o.At.By, o.At.Seq, o.At.K, o.To.By, o.To.Seq, o.To.K, o.Spot.Volume, o.Spot.Article, o.Spot.Index, o.N, o.Form, o.Lang]
def pairI (p : Int × Int) : List Int := [p.1, p.2]
def idI (r : IdM) : List Int := [r.By, r.Seq, r.K]
def nameI (r : NameM) : List Int := [r.By, r.Seq]
def flatN {α : Type} (f : α → List Int) (l : List α) (i : Nat) : List Int := (preM l i).flatMap f
theorem flatN_zero {α : Type} (f : α → List Int) (l : List α) : flatN f l 0 = [] := rfl
theorem flatN_all {α : Type} (f : α → List Int) (l : List α) : flatN f l l.length = l.flatMap f := by simp [flatN, preM_all]
theorem flatN_succ {α : Type} [Inhabited α] (f : α → List Int) (l : List α) (i : Nat) (h : i < l.length) : flatN f l (i + 1) = flatN f l i ++ f (l.getD i default) := by simp [flatN, preM_succ l i h]
theorem flatN_len {α : Type} {f : α → List Int} {k : Nat} (hf : ∀ x, (f x).length = k) (l : List α) (i : Nat) (h : i ≤ l.length) : (flatN f l i).length = k * i := by
  have : ∀ q : List α, (q.flatMap f).length = k * q.length := fun q => by
    induction q with
    | nil => simp
    | cons x q ih => rw [List.flatMap_cons, List.length_append, ih, hf, List.length_cons, Nat.mul_succ]; omega
  rw [flatN, this, preM_len l i h]
def opB (o : OpM) : List Int := intsM (headL o) ++ bytesM o.Text ++ strsM o.Texts ++ intsM (o.Pairs.flatMap pairI) ++ intsM (o.Refs.flatMap idI)
def idOK (i : IdM) : Prop := I64 i.By ∧ I64 i.Seq ∧ I64 i.K
structure OkOp (o : OpM) : Prop where
  head : ∀ x ∈ headL o, I64 x
  pairs : ∀ p ∈ o.Pairs, I64 p.1 ∧ I64 p.2
  refs : ∀ r ∈ o.Refs, idOK r
  text : o.Text.size ≤ 900000
  texts : ∀ s ∈ o.Texts, s.size ≤ 900000
  ntexts : o.Texts.length ≤ 100000
  npairs : o.Pairs.length ≤ 100000
  nrefs : o.Refs.length ≤ 100000
  all : (opB o).length ≤ 1000000
end Go.Proofs.Ytabjaaonfaejmaa

namespace Go.Proofs.Ytabjaaonfaejmaa
open Go.Av
theorem wint_okX (G) (n : Int) (hn : I64 n) : GivesX Try.prog G 63 [.dat (iD n)] [] [.osl 45 1 0 (kM n + 1)] [(45, ⟨1, ((intM n).map u8D).map .dat⟩)] := by
  have hr := negM_range hn
  have hk := kM_le hn
  skip
  refine gives_introX' [29] [] [] Try.func63 rfl (by rfl) (by simp [Try.ntmps63]) (by kernel_rfl) (by simp [onlyL_nil, onlyL_cons, AV.only, inIds]) (by simp only [onlyOs, onlyL_nil, onlyL_cons, onlyL_append, onlyL_dats, onlyL_row, AV.only, Bool.and_true] <;> simp [inIds]) fun F hP hG hN hR => ?_
  rw [Try.ntmps63] at hN
  have hA := And.intro hN (And.intro hP (And.intro hG (And.intro hR.1 (And.intro hR.2.1 hR.2.2.1))))
  have hE := And.intro @Try.results63 (And.intro @IntWalk.u64_in (And.intro @intN_zero (And.intro @intN_succ (And.intro @intN_len (And.intro @xor_flip (And.intro @IntWalk.u8_in (And.intro @digM.eq_1 (@intM_eq))))))))
  refine WS [0] [] ?_
  apply aw_scope
  refine WS [0, 3, 4] [] ?_
  refine aw_meet (.of [(3, .dat (.int .u64 (negM n))), (4, .dat (u8D (flipM n 0)))] []) ?_ ?_
  · skip
    refine WS [3, 4, 11] [] ?_
    refine WI (fun hb => ?_) (fun hb => ?_)
    · skip
      have h1 := not_u64i hn hb
      have h2 : flipM n 0 = 255 := by unfold flipM; rw [if_pos hb]; rfl
      have hE := And.intro hE (And.intro h1 h2)
      refine WQ [3, 4] [] ?_
      refine Le.of ?_ ?_
      · try simp (disch := omega) only [LeE, LeO, avA, datsOf, fillA, seval, ↓List.forall_mem_cons, Op.operands, hE]
        all_goals first | done | (repeat' apply And.intro) <;> first | rfl | omega | assumption | (simp only [AV.dat.injEq, Dat.int.injEq, true_and]; omega) | (congr <;> omega)
      · try simp (disch := omega) only [LeE, LeO, avA, datsOf, fillA, seval, ↓List.forall_mem_cons, Op.operands, hE]
        all_goals first | done | (repeat' apply And.intro) <;> first | rfl | omega | assumption | (simp only [AV.dat.injEq, Dat.int.injEq, true_and]; omega) | (congr <;> omega)
    · skip
      have h1 : negM n = n := by unfold negM; rw [if_neg (by omega)]
      have h2 : flipM n 0 = 0 := by unfold flipM; rw [if_neg (by omega)]
      have hE := And.intro hE (And.intro h1 h2)
      apply aw_skip
      refine Le.of ?_ ?_
      · try simp (disch := omega) only [LeE, LeO, avA, datsOf, fillA, seval, ↓List.forall_mem_cons, Op.operands, hE]
        all_goals first | done | (repeat' apply And.intro) <;> first | rfl | omega | assumption | (simp only [AV.dat.injEq, Dat.int.injEq, true_and]; omega) | (congr <;> omega)
      · try simp (disch := omega) only [LeE, LeO, avA, datsOf, fillA, seval, ↓List.forall_mem_cons, Op.operands, hE]
        all_goals first | done | (repeat' apply And.intro) <;> first | rfl | omega | assumption | (simp only [AV.dat.injEq, Dat.int.injEq, true_and]; omega) | (congr <;> omega)
  refine WS [3, 4, 5] [] ?_
  apply aw_seq
  apply aw_label
  apply q_seq
  apply aw_seq
  apply aw_block
  refine WL (ι := {k : Nat // kM n ≤ k ∧ k ≤ 8}) [3, 4] [] (fun ⟨k, hkk⟩ => [(5, .dat (iD k))]) (fun ⟨k, hkk⟩ => []) (fun ⟨k, hkk⟩ => k) (⟨8, by omega⟩) ?_
  rintro ⟨k, hkk⟩
  dsimp only [List.cons_append, List.nil_append]
  obtain ⟨hk1, hk8⟩ := hkk
  apply aw_seq
  refine WS [3, 4, 5, 15] [] ?_
  refine WI (fun hb => ?_) (fun hb => ?_)
  · skip
    have hs := shr_digit (m := negM n) (j := k - 1) hr.1 (by omega)
    rw [show ((k - 1 : Nat) : Int) = (k : Int) - 1 by omega] at hs
    have hd := digs_iff (negM n).toNat (k - 1)
    apply aw_skip
    apply q_seq
    apply aw_block
    apply aw_seq
    refine WS [3, 4, 5, 21] [] ?_
    refine WI (fun hb => ?_) (fun hb => ?_)
    · skip
      have hkk : k = kM n := by
        rw [hs] at hb
        have := hd.1 (by omega)
        unfold kM at *
        omega
      subst hkk
      apply aw_exit
      apply q_exit_seq
      apply q_exit_other (by decide)
      apply q_exit_loop
      apply q_exit
      apply q_seq
      refine WS [3, 4, 5, 6] [29, 44, 45] ?_
      apply aw_seq
      refine WS [3, 4, 6, 7] [29, 44, 45] ?_
      apply aw_block
      refine aw_swap 29 45 (by omega) (by omega) ?_
      refine WL (ι := {j : Nat // j ≤ kM n}) [3, 4] [29, 44] (fun ⟨j, hj⟩ => [(6, .osl 45 1 0 (j + 1)), (7, .dat (iD (kM n - 1 - j)))]) (fun ⟨j, hj⟩ => [(45, ⟨1, ((intN n j).map u8D).map .dat⟩)]) (fun ⟨j, hj⟩ => kM n - j) (⟨0, by omega⟩) ?_
      rintro ⟨j, hj⟩
      dsimp only [List.cons_append, List.nil_append]
      have hl := intN_len n j
      apply aw_seq
      refine WS [3, 4, 6, 7, 33] [29, 44, 45] ?_
      refine WI (fun hb => ?_) (fun hb => ?_)
      · skip
        have hs2 := shr_digit (m := negM n) (j := kM n - 1 - j) hr.1 (by omega)
        rw [show ((kM n - 1 - j : Nat) : Int) = (kM n : Int) - 1 - j by omega] at hs2
        have h8 := wrap8_nat ((negM n).toNat / 256 ^ (kM n - 1 - j))
        have hE := And.intro hE (And.intro hs2 h8)
        apply aw_skip
        apply q_seq
        apply aw_seq
        apply aw_block
        refine WQ [3, 4, 6, 7] [29, 44, 45] ?_
        apply q_block
        apply q_seq
        refine WQ [3, 4, 6, 7] [29, 44, 45] ?_
        refine WN (⟨j + 1, by omega⟩)
      · skip
        apply aw_exit
        apply q_exit_seq
        have hend : j = kM n := by omega
        subst hend
        apply q_exit_loop
        apply q_exit
        apply q_seq
        refine WS [2] [29, 44, 45] ?_
        apply aw_ret
        apply q_ret_scope
        simp only [QRet, QRetM, QRetX, retsX_nil, retsX_cons, objsAre, resA, mapO_nil, mapO_cons, vD_dat, vD_nils, vD_rp, vD_osl, vD_ptr, vD_agg, vD_fn, vD_isl, vL_dat, vL_app, viewL, avA, datsOf, fillA, seval, ↓List.forall_mem_cons, Op.operands, hP, hG, tiA, hE]
        all_goals try (first | done | rfl | trivial)
    · skip
      have hkk : kM n ≤ k - 1 := by
        rw [hs] at hb
        have := mt hd.2 (by omega)
        unfold kM at *
        omega
      apply aw_skip
      apply q_seq
      refine WQ [3, 4, 5] [] ?_
      apply q_block
      refine WN (⟨k - 1, by omega⟩)
  · skip
    apply aw_exit
    apply q_exit_seq
    apply q_exit_loop
    apply q_exit
    apply q_seq
    refine WS [3, 4, 5, 6] [29, 44, 45] ?_
    apply aw_seq
    refine WS [3, 4, 6, 7] [29, 44, 45] ?_
    apply aw_block
    refine aw_swap 29 45 (by omega) (by omega) ?_
    refine WL (ι := {j : Nat // j ≤ kM n}) [3, 4] [29, 44] (fun ⟨j, hj⟩ => [(6, .osl 45 1 0 (j + 1)), (7, .dat (iD (kM n - 1 - j)))]) (fun ⟨j, hj⟩ => [(45, ⟨1, ((intN n j).map u8D).map .dat⟩)]) (fun ⟨j, hj⟩ => kM n - j) (⟨0, by omega⟩) ?_
    rintro ⟨j, hj⟩
    dsimp only [List.cons_append, List.nil_append]
    have hl := intN_len n j
    apply aw_seq
    refine WS [3, 4, 6, 7, 33] [29, 44, 45] ?_
    refine WI (fun hb => ?_) (fun hb => ?_)
    · skip
      have hs2 := shr_digit (m := negM n) (j := kM n - 1 - j) hr.1 (by omega)
      rw [show ((kM n - 1 - j : Nat) : Int) = (kM n : Int) - 1 - j by omega] at hs2
      have h8 := wrap8_nat ((negM n).toNat / 256 ^ (kM n - 1 - j))
      have hE := And.intro hE (And.intro hs2 h8)
      apply aw_skip
      apply q_seq
      apply aw_seq
      apply aw_block
      refine WQ [3, 4, 6, 7] [29, 44, 45] ?_
      apply q_block
      apply q_seq
      refine WQ [3, 4, 6, 7] [29, 44, 45] ?_
      refine WN (⟨j + 1, by omega⟩)
    · skip
      apply aw_exit
      apply q_exit_seq
      have hend : j = kM n := by omega
      subst hend
      apply q_exit_loop
      apply q_exit
      apply q_seq
      refine WS [2] [29, 44, 45] ?_
      apply aw_ret
      apply q_ret_scope
      simp only [QRet, QRetM, QRetX, retsX_nil, retsX_cons, objsAre, resA, mapO_nil, mapO_cons, vD_dat, vD_nils, vD_rp, vD_osl, vD_ptr, vD_agg, vD_fn, vD_isl, vL_dat, vL_app, viewL, avA, datsOf, fillA, seval, ↓List.forall_mem_cons, Op.operands, hP, hG, tiA, hE]
      all_goals try (first | done | rfl | trivial)
end Go.Proofs.Ytabjaaonfaejmaa

namespace Go.Proofs.Ytabjaaonfaejmaa
open Go.Av
theorem bytesM_len (s : ByteArray) : (bytesM s).length = kM s.size + 1 + s.size := by simp [bytesM, intM_len, strB_len]
theorem intsN_zero (l : List Int) : intsN l 0 = intM l.length := by simp [intsN, preM_zero]
theorem intsN_succ (l : List Int) (i : Nat) (h : i < l.length) : intsN l (i + 1) = intsN l i ++ intM (l.getD i default) := by
  simp [intsN, preM_succ l i h, List.flatMap_append, List.append_assoc]
theorem flat_le {α : Type} (f : α → List Int) (c : Nat) : ∀ l : List α, (∀ x ∈ l, (f x).length ≤ c) → (l.flatMap f).length ≤ c * l.length
  | [], _ => by simp
  | x :: l, h => by
    have h1 := h x (by simp)
    have h2 := flat_le f c l fun y hy => h y (by simp [hy])
    rw [List.flatMap_cons, List.length_append, List.length_cons, Nat.mul_succ]
    omega
theorem mem_preM {α : Type} {l : List α} {i : Nat} {x : α} (h : x ∈ preM l i) : x ∈ l := List.mem_of_mem_take h
theorem intM_le {n : Int} (h : I64 n) : (intM n).length ≤ 9 := by
  rw [intM_len]
  have := kM_le h
  omega
theorem intsN_le {l : List Int} (h : ∀ x ∈ l, I64 x) {i : Nat} (hi : i ≤ l.length) (hl : l.length ≤ 1000000) : (intsN l i).length ≤ 9 + 9 * i := by
  have h1 := flat_le intM 9 (preM l i) fun x hx => intM_le (h x (mem_preM hx))
  have h2 : (intM (l.length : Int)).length ≤ 9 := intM_le (by unfold I64; omega)
  rw [preM_len l i hi] at h1
  simp only [intsN, List.length_append]
  omega
theorem strsN_zero (l : List ByteArray) : strsN l 0 = intM l.length := by simp [strsN, preM_zero]
theorem strsN_succ (l : List ByteArray) (i : Nat) (h : i < l.length) : strsN l (i + 1) = strsN l i ++ bytesM (l.getD i default) := by
  simp [strsN, preM_succ l i h, List.flatMap_append, List.append_assoc]
theorem bytesM_le {s : ByteArray} (h : s.size ≤ 1000000) : (bytesM s).length ≤ 1000009 := by
  rw [bytesM_len]
  have := kM_le (n := s.size) (by unfold I64; omega)
  omega
theorem strsN_le {l : List ByteArray} (h : ∀ s ∈ l, s.size ≤ 1000000) {i : Nat} (hi : i ≤ l.length) (hl : l.length ≤ 1000000) : (strsN l i).length ≤ 9 + 1000009 * i := by
  have h1 := flat_le bytesM 1000009 (preM l i) fun x hx => bytesM_le (h x (mem_preM hx))
  have h2 : (intM (l.length : Int)).length ≤ 9 := intM_le (by unfold I64; omega)
  rw [preM_len l i hi] at h1
  simp only [strsN, List.length_append]
  omega
theorem wint_ok (G) (n : Int) (hn : I64 n) : Gives Try.prog G 63 [iD n] [u8sD (intM n)] := (wint_okX G n hn).row (intM_len n).symm
theorem wbytes_okX (G) (s : ByteArray) (hs : s.size ≤ 1000000) : GivesX Try.prog G 75 [.dat (sD s)] [] [.osl 7 1 0 (bytesM s).length] [(7, ⟨1, ((bytesM s).map u8D).map .dat⟩)] := by
  have hk := kM_le (n := s.size) (by unfold I64; omega)
  have hil := intM_len s.size
  skip
  skip
  refine gives_introX' [] [5] [] Try.func75 rfl (by rfl) (by simp [Try.ntmps75]) (by kernel_rfl) (by simp [onlyL_nil, onlyL_cons, AV.only, inIds]) (by simp only [onlyOs, onlyL_nil, onlyL_cons, onlyL_append, onlyL_dats, onlyL_row, AV.only, Bool.and_true] <;> simp [inIds]) fun F hP hG hN hR => ?_
  rw [Try.ntmps75] at hN
  have hA := And.intro hN (And.intro hP (And.intro hG (And.intro hR.1 (And.intro hR.2.1 hR.2.2.1))))
  have hE := And.intro @Try.results75 (And.intro @IntWalk.i64_in (And.intro @strB_len (@intM_len)))
  refine WS [0] [5] ?_
  apply aw_regs [2] [7, 5]
  · simp (maxSteps := 2000000) (disch := omega) only [avR2, avA, datsOf, fillA, seval, ↓List.forall_mem_cons, Op.operands, hA, tiA, hE]
    (repeat' refine And.intro ?_ ?_) <;> try exact SD
    refine CallC.useX (fun _ => 5) [45] (by simp [LitD, hR.2.1]) (gvFX hP hG (wint_okX G s.size (by unfold I64; omega))) rfl (lentX_of hN (by first | trivial | ((try simp only [haveL, AObj.ren, AV.ren, renL, ren_row, List.map_cons, List.map_nil, objL_cons, objL_nil]) <;> ((repeat' apply And.intro) <;> first | trivial | rfl))) (by rfl)) ?_
    try simp (maxSteps := 2000000) (disch := omega) only [avR2, avA, datsOf, fillA, seval, ↓List.forall_mem_cons, Op.operands, hA, tiA, hE, avX]
    exact SC
  apply aw_ret
  simp only [QRet, QRetM, QRetX, retsX_nil, retsX_cons, objsAre, resA, mapO_nil, mapO_cons, vD_dat, vD_nils, vD_rp, vD_osl, vD_ptr, vD_agg, vD_fn, vD_isl, vL_dat, vL_app, viewL, avA, datsOf, fillA, seval, ↓List.forall_mem_cons, Op.operands, hP, hG, tiA, hE, bytesM, List.length_append, List.map_append]
  all_goals try (first | done | rfl | trivial)
theorem wbytes_ok (G) (s : ByteArray) (hs : s.size ≤ 1000000) : Gives Try.prog G 75 [sD s] [u8sD (bytesM s)] := (wbytes_okX G s hs).row rfl
theorem wints_okX (G) (l : List Int) (hl : ∀ x ∈ l, I64 x) (hn : l.length ≤ 1000000) : GivesX Try.prog G 54 [.dat (isD l)] [] [.osl 18 1 0 (intsM l).length] [(18, ⟨1, ((intsM l).map u8D).map .dat⟩)] := by
  have hk := kM_le (n := l.length) (by unfold I64; omega)
  have hil := intM_len l.length
  skip
  skip
  refine gives_introX' [] [8, 17] [] Try.func54 rfl (by rfl) (by simp [Try.ntmps54]) (by kernel_rfl) (by simp [onlyL_nil, onlyL_cons, AV.only, inIds]) (by simp only [onlyOs, onlyL_nil, onlyL_cons, onlyL_append, onlyL_dats, onlyL_row, AV.only, Bool.and_true] <;> simp [inIds]) fun F hP hG hN hR => ?_
  rw [Try.ntmps54] at hN
  have hA := And.intro hN (And.intro hP (And.intro hG (And.intro hR.1 (And.intro hR.2.1 hR.2.2.1))))
  have hE := And.intro @Try.results54 (And.intro @intsN_zero (And.intro @intM_len (@intsM.eq_1)))
  refine WS [0] [18] ?_
  apply aw_regs [0, 3] [18]
  · simp (maxSteps := 2000000) (disch := omega) only [avR2, avA, datsOf, fillA, seval, ↓List.forall_mem_cons, Op.operands, hA, tiA, hE]
    (repeat' refine And.intro ?_ ?_) <;> try exact SD
    refine CallC.useX (fun _ => 18) [45] (by simp [LitD, hR.2.1]) (gvFX hP hG (wint_okX G l.length (by unfold I64; omega))) rfl (lentX_of hN (by first | trivial | ((try simp only [haveL, AObj.ren, AV.ren, renL, ren_row, List.map_cons, List.map_nil, objL_cons, objL_nil]) <;> ((repeat' apply And.intro) <;> first | trivial | rfl))) (by rfl)) ?_
    try simp (maxSteps := 2000000) (disch := omega) only [avR2, avA, datsOf, fillA, seval, ↓List.forall_mem_cons, Op.operands, hA, tiA, hE, avX]
    exact SC
  apply aw_seq
  refine WS [3, 9, 10, 11] [18] ?_
  apply aw_block
  refine WL (ι := {i : Nat // i ≤ l.length}) [9, 10] [] (fun ⟨i, hi⟩ => [(3, .osl 18 1 0 (intsN l i).length), (11, .dat (iD i))]) (fun ⟨i, hi⟩ => [(18, ⟨1, ((intsN l i).map u8D).map .dat⟩)]) (fun ⟨i, hi⟩ => l.length - i) (⟨0, by omega⟩) ?_
  rintro ⟨i, hi⟩
  dsimp only [List.cons_append, List.nil_append]
  refine WS [3, 9, 10, 11, 12] [18] ?_
  apply aw_seq
  refine WI (fun hb => ?_) (fun hb => ?_)
  · skip
    have hx := getD_all hl (i := i) (by omega)
    have hle := intsN_le hl hi hn
    have hkx := kM_le hx
    have hixl := intM_len (l.getD i default)
    have hsc := intsN_succ l i (by omega)
    have hE := And.intro hE hsc
    apply aw_skip
    apply q_seq
    apply aw_seq
    apply aw_block
    refine WS [3, 5, 9, 10, 11] [18] ?_
    apply aw_reg [3, 9, 10, 11] [18]
    · simp (maxSteps := 2000000) (disch := omega) only [avR2, avA, datsOf, fillA, seval, ↓List.forall_mem_cons, Op.operands, hA, tiA, hE]
      (repeat' refine And.intro ?_ ?_) <;> try exact SD
      refine CallC.useX (fun _ => 17) [45] (by simp [LitD, hR.2.1]) (gvFX hP hG (wint_okX G (l.getD i default) hx)) rfl (lentX_of hN (by first | trivial | ((try simp only [haveL, AObj.ren, AV.ren, renL, ren_row, List.map_cons, List.map_nil, objL_cons, objL_nil]) <;> ((repeat' apply And.intro) <;> first | trivial | rfl))) (by rfl)) ?_
      try simp (maxSteps := 2000000) (disch := omega) only [avR2, avA, datsOf, fillA, seval, ↓List.forall_mem_cons, Op.operands, hA, tiA, hE, avX]
      exact SC
    apply q_block
    apply q_seq
    refine WQ [3, 9, 10, 11] [18] ?_
    refine WN (⟨i + 1, by omega⟩)
  · skip
    apply aw_exit
    apply q_exit_seq
    have hend : i = l.length := by omega
    subst hend
    apply q_exit_loop
    apply q_exit
    apply q_seq
    refine WS [2] [18] ?_
    apply aw_ret
    simp only [QRet, QRetM, QRetX, retsX_nil, retsX_cons, objsAre, resA, mapO_nil, mapO_cons, vD_dat, vD_nils, vD_rp, vD_osl, vD_ptr, vD_agg, vD_fn, vD_isl, vL_dat, vL_app, viewL, avA, datsOf, fillA, seval, ↓List.forall_mem_cons, Op.operands, hP, hG, tiA, hE]
    all_goals try (first | done | rfl | trivial)
end Go.Proofs.Ytabjaaonfaejmaa

namespace Go.Proofs.Ytabjaaonfaejmaa
open Go.Av
end Go.Proofs.Ytabjaaonfaejmaa

namespace Go.Proofs.Ytabjaaonfaejmaa
open Go.Av
theorem eqPair : eqA2 Try.prog 107 := .inl (by unfold eqAr; kernel_rfl)
theorem eqName : eqA2 Try.prog 55 := .inr (by unfold eqS2; kernel_rfl)
theorem eqId : eqS3 Try.prog 25 := by unfold eqS3; kernel_rfl
theorem eqSpot : eqS3 Try.prog 27 := by unfold eqS3; kernel_rfl
theorem rsame_ok (G) (a b : List Int) (ha : a.length ≤ 281474976710656) : Gives Try.prog G 33 [.sl (a.map u8D), .sl (b.map u8D)] [bD (sameL (fun x y : Int => x == y) a b)] := by
  refine gives_intro [] [] [] Try.func33 rfl (by rfl) (by simp [Try.ntmps33]) fun F hP hG hN hR => ?_
  rw [Try.ntmps33] at hN
  have hA := And.intro hN (And.intro hP (And.intro hG (And.intro hR.1 (And.intro hR.2.1 hR.2.2.1))))
  have hE := @Try.results33
  refine WS [0, 1] [] ?_
  apply aw_seq
  refine WS [0, 1, 10] [] ?_
  refine WI (fun hb => ?_) (fun hb => ?_)
  · skip
    have hv : sameL (fun x y : Int => x == y) a b = false := sameL_len (by omega)
    have hE := And.intro hE hv
    refine WS [4] [] ?_
    apply aw_ret
    apply q_ret_seq
    simp only [QRet, QRetM, QRetX, retsX_nil, retsX_cons, objsAre, resA, mapO_nil, mapO_cons, vD_dat, vD_nils, vD_rp, vD_osl, vD_ptr, vD_agg, vD_fn, vD_isl, vL_dat, vL_app, viewL, avA, datsOf, fillA, seval, ↓List.forall_mem_cons, Op.operands, hP, hG, tiA, hE]
    all_goals try (first | done | rfl | trivial)
  · skip
    have hlen : a.length = b.length := by omega
    apply aw_skip
    apply q_seq
    apply aw_seq
    refine WS [0, 1, 5] [] ?_
    apply aw_block
    refine WL (ι := {i : Nat // i ≤ a.length ∧ ∀ j, j < i → (fun x y : Int => x == y) (a.getD j default) (b.getD j default) = true}) [0, 1] [] (fun ⟨i, hih⟩ => [(5, .dat (iD i))]) (fun ⟨i, hih⟩ => []) (fun ⟨i, hih⟩ => a.length - i) (⟨0, by omega, fun j h => absurd h (Nat.not_lt_zero j)⟩) ?_
    rintro ⟨i, hih⟩
    dsimp only [List.cons_append, List.nil_append]
    obtain ⟨hi, hall⟩ := id hih
    apply aw_seq
    refine WS [0, 1, 5, 14] [] ?_
    refine WI (fun hb => ?_) (fun hb => ?_)
    · skip
      skip
      apply aw_skip
      apply q_seq
      apply aw_seq
      apply aw_block
      refine WD [0, 1, 5, 25] [] [0, 1, 2, 3, 4, 5, 6, 7, 8] [] ?_
      refine WI (fun hb => ?_) (fun hb => ?_)
      · skip
        have hv : sameL (fun x y : Int => x == y) a b = false := sameL_bad i (by omega) hlen (by simp only [beq_eq_false_iff_ne]; exact hb)
        have hE := And.intro hE hv
        refine WS [4] [] ?_
        apply aw_ret
        apply q_ret_block
        apply q_ret_seq
        apply q_ret_loop
        apply q_ret_block
        apply q_ret_seq
        simp only [QRet, QRetM, QRetX, retsX_nil, retsX_cons, objsAre, resA, mapO_nil, mapO_cons, vD_dat, vD_nils, vD_rp, vD_osl, vD_ptr, vD_agg, vD_fn, vD_isl, vL_dat, vL_app, viewL, avA, datsOf, fillA, seval, ↓List.forall_mem_cons, Op.operands, hP, hG, tiA, hE]
        all_goals try (first | done | rfl | trivial)
      · skip
        have hok : (fun x y : Int => x == y) (a.getD i default) (b.getD i default) = true := (by simp only [beq_iff_eq]; exact hb)
        apply aw_skip
        apply q_block
        apply q_seq
        refine WQ [0, 1, 5] [] ?_
        refine WN (⟨i + 1, by omega, allstep hih.2 hok⟩)
    · skip
      apply aw_exit
      apply q_exit_seq
      obtain rfl : i = a.length := by omega
      have hv : sameL (fun x y : Int => x == y) a b = true := sameL_all hlen hall
      have hE := And.intro hE hv
      apply q_exit_loop
      apply q_exit
      apply q_seq
      refine WS [4] [] ?_
      apply aw_ret
      simp only [QRet, QRetM, QRetX, retsX_nil, retsX_cons, objsAre, resA, mapO_nil, mapO_cons, vD_dat, vD_nils, vD_rp, vD_osl, vD_ptr, vD_agg, vD_fn, vD_isl, vL_dat, vL_app, viewL, avA, datsOf, fillA, seval, ↓List.forall_mem_cons, Op.operands, hP, hG, tiA, hE]
      all_goals try (first | done | rfl | trivial)
theorem rtexts_ok (G) (a b : List ByteArray) (ha : a.length ≤ 281474976710656) : Gives Try.prog G 95 [.sl (a.map sD), .sl (b.map sD)] [bD (sameL sameStr a b)] := by
  refine gives_intro [] [] [] Try.func95 rfl (by rfl) (by simp [Try.ntmps95]) fun F hP hG hN hR => ?_
  rw [Try.ntmps95] at hN
  have hA := And.intro hN (And.intro hP (And.intro hG (And.intro hR.1 (And.intro hR.2.1 hR.2.2.1))))
  have hE := @Try.results95
  refine WS [0, 1] [] ?_
  apply aw_seq
  refine WS [0, 1, 10] [] ?_
  refine WI (fun hb => ?_) (fun hb => ?_)
  · skip
    have hv : sameL sameStr a b = false := sameL_len (by omega)
    have hE := And.intro hE hv
    refine WS [4] [] ?_
    apply aw_ret
    apply q_ret_seq
    simp only [QRet, QRetM, QRetX, retsX_nil, retsX_cons, objsAre, resA, mapO_nil, mapO_cons, vD_dat, vD_nils, vD_rp, vD_osl, vD_ptr, vD_agg, vD_fn, vD_isl, vL_dat, vL_app, viewL, avA, datsOf, fillA, seval, ↓List.forall_mem_cons, Op.operands, hP, hG, tiA, hE]
    all_goals try (first | done | rfl | trivial)
  · skip
    have hlen : a.length = b.length := by omega
    apply aw_skip
    apply q_seq
    apply aw_seq
    refine WS [0, 1, 5] [] ?_
    apply aw_block
    refine WL (ι := {i : Nat // i ≤ a.length ∧ ∀ j, j < i → sameStr (a.getD j default) (b.getD j default) = true}) [0, 1] [] (fun ⟨i, hih⟩ => [(5, .dat (iD i))]) (fun ⟨i, hih⟩ => []) (fun ⟨i, hih⟩ => a.length - i) (⟨0, by omega, fun j h => absurd h (Nat.not_lt_zero j)⟩) ?_
    rintro ⟨i, hih⟩
    dsimp only [List.cons_append, List.nil_append]
    obtain ⟨hi, hall⟩ := id hih
    apply aw_seq
    refine WS [0, 1, 5, 14] [] ?_
    refine WI (fun hb => ?_) (fun hb => ?_)
    · skip
      skip
      apply aw_skip
      apply q_seq
      apply aw_seq
      apply aw_block
      refine WD [0, 1, 5, 25] [] [0, 1, 2, 3, 4, 5, 6, 7, 8] [] ?_
      refine WI (fun hb => ?_) (fun hb => ?_)
      · skip
        have hv : sameL sameStr a b = false := sameL_bad i (by omega) hlen (by simp only [sameStr, decide_eq_false_iff_not]; exact fun h => hb (congrArg ByteArray.toList h))
        have hE := And.intro hE hv
        refine WS [4] [] ?_
        apply aw_ret
        apply q_ret_block
        apply q_ret_seq
        apply q_ret_loop
        apply q_ret_block
        apply q_ret_seq
        simp only [QRet, QRetM, QRetX, retsX_nil, retsX_cons, objsAre, resA, mapO_nil, mapO_cons, vD_dat, vD_nils, vD_rp, vD_osl, vD_ptr, vD_agg, vD_fn, vD_isl, vL_dat, vL_app, viewL, avA, datsOf, fillA, seval, ↓List.forall_mem_cons, Op.operands, hP, hG, tiA, hE]
        all_goals try (first | done | rfl | trivial)
      · skip
        have hok : sameStr (a.getD i default) (b.getD i default) = true := (by simp only [sameStr, decide_eq_true_eq]; exact str_inj hb)
        apply aw_skip
        apply q_block
        apply q_seq
        refine WQ [0, 1, 5] [] ?_
        refine WN (⟨i + 1, by omega, allstep hih.2 hok⟩)
    · skip
      apply aw_exit
      apply q_exit_seq
      obtain rfl : i = a.length := by omega
      have hv : sameL sameStr a b = true := sameL_all hlen hall
      have hE := And.intro hE hv
      apply q_exit_loop
      apply q_exit
      apply q_seq
      refine WS [4] [] ?_
      apply aw_ret
      simp only [QRet, QRetM, QRetX, retsX_nil, retsX_cons, objsAre, resA, mapO_nil, mapO_cons, vD_dat, vD_nils, vD_rp, vD_osl, vD_ptr, vD_agg, vD_fn, vD_isl, vL_dat, vL_app, viewL, avA, datsOf, fillA, seval, ↓List.forall_mem_cons, Op.operands, hP, hG, tiA, hE]
      all_goals try (first | done | rfl | trivial)
theorem rpairs_ok (G) (a b : List (Int × Int)) (ha : a.length ≤ 281474976710656) : Gives Try.prog G 97 [.sl (a.map pairD), .sl (b.map pairD)] [bD (sameL samePair a b)] := by
  skip
  refine gives_intro [] [] [] Try.func97 rfl (by rfl) (by simp [Try.ntmps97]) fun F hP hG hN hR => ?_
  rw [Try.ntmps97] at hN
  have hA := And.intro hN (And.intro hP (And.intro hG (And.intro hR.1 (And.intro hR.2.1 hR.2.2.1))))
  have hE := And.intro @Try.results97 (@eqPair)
  refine WS [0, 1] [] ?_
  apply aw_seq
  refine WS [0, 1, 10] [] ?_
  refine WI (fun hb => ?_) (fun hb => ?_)
  · skip
    have hv : sameL samePair a b = false := sameL_len (by omega)
    have hE := And.intro hE hv
    refine WS [4] [] ?_
    apply aw_ret
    apply q_ret_seq
    simp only [QRet, QRetM, QRetX, retsX_nil, retsX_cons, objsAre, resA, mapO_nil, mapO_cons, vD_dat, vD_nils, vD_rp, vD_osl, vD_ptr, vD_agg, vD_fn, vD_isl, vL_dat, vL_app, viewL, avA, datsOf, fillA, seval, ↓List.forall_mem_cons, Op.operands, hP, hG, tiA, hE]
    all_goals try (first | done | rfl | trivial)
  · skip
    have hlen : a.length = b.length := by omega
    apply aw_skip
    apply q_seq
    apply aw_seq
    refine WS [0, 1, 5] [] ?_
    apply aw_block
    refine WL (ι := {i : Nat // i ≤ a.length ∧ ∀ j, j < i → samePair (a.getD j default) (b.getD j default) = true}) [0, 1] [] (fun ⟨i, hih⟩ => [(5, .dat (iD i))]) (fun ⟨i, hih⟩ => []) (fun ⟨i, hih⟩ => a.length - i) (⟨0, by omega, fun j h => absurd h (Nat.not_lt_zero j)⟩) ?_
    rintro ⟨i, hih⟩
    dsimp only [List.cons_append, List.nil_append]
    obtain ⟨hi, hall⟩ := id hih
    apply aw_seq
    refine WS [0, 1, 5, 14] [] ?_
    refine WI (fun hb => ?_) (fun hb => ?_)
    · skip
      skip
      apply aw_skip
      apply q_seq
      apply aw_seq
      apply aw_block
      refine WD [0, 1, 5, 25] [] [0, 1, 2, 3, 4, 5, 6, 7, 8] [] ?_
      refine WI (fun hb => ?_) (fun hb => ?_)
      · skip
        have hv : sameL samePair a b = false := sameL_bad i (by omega) hlen (by simpa [samePair] using hb)
        have hE := And.intro hE hv
        refine WS [4] [] ?_
        apply aw_ret
        apply q_ret_block
        apply q_ret_seq
        apply q_ret_loop
        apply q_ret_block
        apply q_ret_seq
        simp only [QRet, QRetM, QRetX, retsX_nil, retsX_cons, objsAre, resA, mapO_nil, mapO_cons, vD_dat, vD_nils, vD_rp, vD_osl, vD_ptr, vD_agg, vD_fn, vD_isl, vL_dat, vL_app, viewL, avA, datsOf, fillA, seval, ↓List.forall_mem_cons, Op.operands, hP, hG, tiA, hE]
        all_goals try (first | done | rfl | trivial)
      · skip
        have hok : samePair (a.getD i default) (b.getD i default) = true := (by simpa [samePair] using hb)
        apply aw_skip
        apply q_block
        apply q_seq
        refine WQ [0, 1, 5] [] ?_
        refine WN (⟨i + 1, by omega, allstep hih.2 hok⟩)
    · skip
      apply aw_exit
      apply q_exit_seq
      obtain rfl : i = a.length := by omega
      have hv : sameL samePair a b = true := sameL_all hlen hall
      have hE := And.intro hE hv
      apply q_exit_loop
      apply q_exit
      apply q_seq
      refine WS [4] [] ?_
      apply aw_ret
      simp only [QRet, QRetM, QRetX, retsX_nil, retsX_cons, objsAre, resA, mapO_nil, mapO_cons, vD_dat, vD_nils, vD_rp, vD_osl, vD_ptr, vD_agg, vD_fn, vD_isl, vL_dat, vL_app, viewL, avA, datsOf, fillA, seval, ↓List.forall_mem_cons, Op.operands, hP, hG, tiA, hE]
      all_goals try (first | done | rfl | trivial)
theorem rnames_ok (G) (a b : List NameM) (ha : a.length ≤ 281474976710656) : Gives Try.prog G 71 [.sl (a.map nameD), .sl (b.map nameD)] [bD (sameL sameName a b)] := by
  skip
  refine gives_intro [] [] [] Try.func71 rfl (by rfl) (by simp [Try.ntmps71]) fun F hP hG hN hR => ?_
  rw [Try.ntmps71] at hN
  have hA := And.intro hN (And.intro hP (And.intro hG (And.intro hR.1 (And.intro hR.2.1 hR.2.2.1))))
  have hE := And.intro @Try.results71 (@eqName)
  refine WS [0, 1] [] ?_
  apply aw_seq
  refine WS [0, 1, 10] [] ?_
  refine WI (fun hb => ?_) (fun hb => ?_)
  · skip
    have hv : sameL sameName a b = false := sameL_len (by omega)
    have hE := And.intro hE hv
    refine WS [4] [] ?_
    apply aw_ret
    apply q_ret_seq
    simp only [QRet, QRetM, QRetX, retsX_nil, retsX_cons, objsAre, resA, mapO_nil, mapO_cons, vD_dat, vD_nils, vD_rp, vD_osl, vD_ptr, vD_agg, vD_fn, vD_isl, vL_dat, vL_app, viewL, avA, datsOf, fillA, seval, ↓List.forall_mem_cons, Op.operands, hP, hG, tiA, hE]
    all_goals try (first | done | rfl | trivial)
  · skip
    have hlen : a.length = b.length := by omega
    apply aw_skip
    apply q_seq
    apply aw_seq
    refine WS [0, 1, 5] [] ?_
    apply aw_block
    refine WL (ι := {i : Nat // i ≤ a.length ∧ ∀ j, j < i → sameName (a.getD j default) (b.getD j default) = true}) [0, 1] [] (fun ⟨i, hih⟩ => [(5, .dat (iD i))]) (fun ⟨i, hih⟩ => []) (fun ⟨i, hih⟩ => a.length - i) (⟨0, by omega, fun j h => absurd h (Nat.not_lt_zero j)⟩) ?_
    rintro ⟨i, hih⟩
    dsimp only [List.cons_append, List.nil_append]
    obtain ⟨hi, hall⟩ := id hih
    apply aw_seq
    refine WS [0, 1, 5, 14] [] ?_
    refine WI (fun hb => ?_) (fun hb => ?_)
    · skip
      skip
      apply aw_skip
      apply q_seq
      apply aw_seq
      apply aw_block
      refine WD [0, 1, 5, 25] [] [0, 1, 2, 3, 4, 5, 6, 7, 8] [] ?_
      refine WI (fun hb => ?_) (fun hb => ?_)
      · skip
        have hv : sameL sameName a b = false := sameL_bad i (by omega) hlen (by simpa [sameName] using hb)
        have hE := And.intro hE hv
        refine WS [4] [] ?_
        apply aw_ret
        apply q_ret_block
        apply q_ret_seq
        apply q_ret_loop
        apply q_ret_block
        apply q_ret_seq
        simp only [QRet, QRetM, QRetX, retsX_nil, retsX_cons, objsAre, resA, mapO_nil, mapO_cons, vD_dat, vD_nils, vD_rp, vD_osl, vD_ptr, vD_agg, vD_fn, vD_isl, vL_dat, vL_app, viewL, avA, datsOf, fillA, seval, ↓List.forall_mem_cons, Op.operands, hP, hG, tiA, hE]
        all_goals try (first | done | rfl | trivial)
      · skip
        have hok : sameName (a.getD i default) (b.getD i default) = true := (by simpa [sameName] using hb)
        apply aw_skip
        apply q_block
        apply q_seq
        refine WQ [0, 1, 5] [] ?_
        refine WN (⟨i + 1, by omega, allstep hih.2 hok⟩)
    · skip
      apply aw_exit
      apply q_exit_seq
      obtain rfl : i = a.length := by omega
      have hv : sameL sameName a b = true := sameL_all hlen hall
      have hE := And.intro hE hv
      apply q_exit_loop
      apply q_exit
      apply q_seq
      refine WS [4] [] ?_
      apply aw_ret
      simp only [QRet, QRetM, QRetX, retsX_nil, retsX_cons, objsAre, resA, mapO_nil, mapO_cons, vD_dat, vD_nils, vD_rp, vD_osl, vD_ptr, vD_agg, vD_fn, vD_isl, vL_dat, vL_app, viewL, avA, datsOf, fillA, seval, ↓List.forall_mem_cons, Op.operands, hP, hG, tiA, hE]
      all_goals try (first | done | rfl | trivial)
theorem snames_ok (G) (a b : List NameM) (ha : a.length ≤ 281474976710656) : Gives Try.prog G 67 [.sl (a.map nameD), .sl (b.map nameD)] [bD (sameL sameName a b)] := by
  skip
  refine gives_intro [] [] [] Try.func67 rfl (by rfl) (by simp [Try.ntmps67]) fun F hP hG hN hR => ?_
  rw [Try.ntmps67] at hN
  have hA := And.intro hN (And.intro hP (And.intro hG (And.intro hR.1 (And.intro hR.2.1 hR.2.2.1))))
  have hE := And.intro @Try.results67 (@eqName)
  refine WS [0, 1] [] ?_
  apply aw_seq
  refine WS [0, 1, 10] [] ?_
  refine WI (fun hb => ?_) (fun hb => ?_)
  · skip
    have hv : sameL sameName a b = false := sameL_len (by omega)
    have hE := And.intro hE hv
    refine WS [4] [] ?_
    apply aw_ret
    apply q_ret_seq
    simp only [QRet, QRetM, QRetX, retsX_nil, retsX_cons, objsAre, resA, mapO_nil, mapO_cons, vD_dat, vD_nils, vD_rp, vD_osl, vD_ptr, vD_agg, vD_fn, vD_isl, vL_dat, vL_app, viewL, avA, datsOf, fillA, seval, ↓List.forall_mem_cons, Op.operands, hP, hG, tiA, hE]
    all_goals try (first | done | rfl | trivial)
  · skip
    have hlen : a.length = b.length := by omega
    apply aw_skip
    apply q_seq
    apply aw_seq
    refine WS [0, 1, 12, 13] [] ?_
    apply aw_block
    refine WL (ι := {i : Nat // i ≤ a.length ∧ ∀ j, j < i → sameName (a.getD j default) (b.getD j default) = true}) [0, 1, 12] [] (fun ⟨i, hih⟩ => [(13, .dat (iD i))]) (fun ⟨i, hih⟩ => []) (fun ⟨i, hih⟩ => a.length - i) (⟨0, by omega, fun j h => absurd h (Nat.not_lt_zero j)⟩) ?_
    rintro ⟨i, hih⟩
    dsimp only [List.cons_append, List.nil_append]
    obtain ⟨hi, hall⟩ := id hih
    refine WS [0, 1, 12, 13, 14] [] ?_
    apply aw_seq
    refine WI (fun hb => ?_) (fun hb => ?_)
    · skip
      skip
      apply aw_skip
      apply q_seq
      apply aw_seq
      apply aw_block
      refine WS [0, 1, 5, 12, 13] [] ?_
      refine WD [0, 1, 12, 13, 24] [] [0, 1, 2, 3, 4, 5, 6, 7, 8] [] ?_
      refine WI (fun hb => ?_) (fun hb => ?_)
      · skip
        have hv : sameL sameName a b = false := sameL_bad i (by omega) hlen (by simpa [sameName] using hb)
        have hE := And.intro hE hv
        refine WS [4] [] ?_
        apply aw_ret
        apply q_ret_block
        apply q_ret_seq
        apply q_ret_loop
        apply q_ret_block
        apply q_ret_seq
        simp only [QRet, QRetM, QRetX, retsX_nil, retsX_cons, objsAre, resA, mapO_nil, mapO_cons, vD_dat, vD_nils, vD_rp, vD_osl, vD_ptr, vD_agg, vD_fn, vD_isl, vL_dat, vL_app, viewL, avA, datsOf, fillA, seval, ↓List.forall_mem_cons, Op.operands, hP, hG, tiA, hE]
        all_goals try (first | done | rfl | trivial)
      · skip
        have hok : sameName (a.getD i default) (b.getD i default) = true := (by simpa [sameName] using hb)
        apply aw_skip
        apply q_block
        apply q_seq
        refine WQ [0, 1, 12, 13] [] ?_
        refine WN (⟨i + 1, by omega, allstep hih.2 hok⟩)
    · skip
      apply aw_exit
      apply q_exit_seq
      obtain rfl : i = a.length := by omega
      have hv : sameL sameName a b = true := sameL_all hlen hall
      have hE := And.intro hE hv
      apply q_exit_loop
      apply q_exit
      apply q_seq
      refine WS [4] [] ?_
      apply aw_ret
      simp only [QRet, QRetM, QRetX, retsX_nil, retsX_cons, objsAre, resA, mapO_nil, mapO_cons, vD_dat, vD_nils, vD_rp, vD_osl, vD_ptr, vD_agg, vD_fn, vD_isl, vL_dat, vL_app, viewL, avA, datsOf, fillA, seval, ↓List.forall_mem_cons, Op.operands, hP, hG, tiA, hE]
      all_goals try (first | done | rfl | trivial)
theorem stexts_ok (G) (a b : List ByteArray) (ha : a.length ≤ 281474976710656) : Gives Try.prog G 76 [.sl (a.map sD), .sl (b.map sD)] [bD (sameL sameStr a b)] := by
  refine gives_intro [] [] [] Try.func76 rfl (by rfl) (by simp [Try.ntmps76]) fun F hP hG hN hR => ?_
  rw [Try.ntmps76] at hN
  have hA := And.intro hN (And.intro hP (And.intro hG (And.intro hR.1 (And.intro hR.2.1 hR.2.2.1))))
  have hE := @Try.results76
  refine WS [0, 1] [] ?_
  apply aw_seq
  refine WS [0, 1, 10] [] ?_
  refine WI (fun hb => ?_) (fun hb => ?_)
  · skip
    have hv : sameL sameStr a b = false := sameL_len (by omega)
    have hE := And.intro hE hv
    refine WS [4] [] ?_
    apply aw_ret
    apply q_ret_seq
    simp only [QRet, QRetM, QRetX, retsX_nil, retsX_cons, objsAre, resA, mapO_nil, mapO_cons, vD_dat, vD_nils, vD_rp, vD_osl, vD_ptr, vD_agg, vD_fn, vD_isl, vL_dat, vL_app, viewL, avA, datsOf, fillA, seval, ↓List.forall_mem_cons, Op.operands, hP, hG, tiA, hE]
    all_goals try (first | done | rfl | trivial)
  · skip
    have hlen : a.length = b.length := by omega
    apply aw_skip
    apply q_seq
    apply aw_seq
    refine WS [0, 1, 12, 13] [] ?_
    apply aw_block
    refine WL (ι := {i : Nat // i ≤ a.length ∧ ∀ j, j < i → sameStr (a.getD j default) (b.getD j default) = true}) [0, 1, 12] [] (fun ⟨i, hih⟩ => [(13, .dat (iD i))]) (fun ⟨i, hih⟩ => []) (fun ⟨i, hih⟩ => a.length - i) (⟨0, by omega, fun j h => absurd h (Nat.not_lt_zero j)⟩) ?_
    rintro ⟨i, hih⟩
    dsimp only [List.cons_append, List.nil_append]
    obtain ⟨hi, hall⟩ := id hih
    refine WS [0, 1, 12, 13, 14] [] ?_
    apply aw_seq
    refine WI (fun hb => ?_) (fun hb => ?_)
    · skip
      skip
      apply aw_skip
      apply q_seq
      apply aw_seq
      apply aw_block
      refine WS [0, 1, 5, 12, 13] [] ?_
      refine WD [0, 1, 12, 13, 24] [] [0, 1, 2, 3, 4, 5, 6, 7, 8] [] ?_
      refine WI (fun hb => ?_) (fun hb => ?_)
      · skip
        have hv : sameL sameStr a b = false := sameL_bad i (by omega) hlen (by simp only [sameStr, decide_eq_false_iff_not]; exact fun h => hb (congrArg ByteArray.toList h))
        have hE := And.intro hE hv
        refine WS [4] [] ?_
        apply aw_ret
        apply q_ret_block
        apply q_ret_seq
        apply q_ret_loop
        apply q_ret_block
        apply q_ret_seq
        simp only [QRet, QRetM, QRetX, retsX_nil, retsX_cons, objsAre, resA, mapO_nil, mapO_cons, vD_dat, vD_nils, vD_rp, vD_osl, vD_ptr, vD_agg, vD_fn, vD_isl, vL_dat, vL_app, viewL, avA, datsOf, fillA, seval, ↓List.forall_mem_cons, Op.operands, hP, hG, tiA, hE]
        all_goals try (first | done | rfl | trivial)
      · skip
        have hok : sameStr (a.getD i default) (b.getD i default) = true := (by simp only [sameStr, decide_eq_true_eq]; exact str_inj hb)
        apply aw_skip
        apply q_block
        apply q_seq
        refine WQ [0, 1, 12, 13] [] ?_
        refine WN (⟨i + 1, by omega, allstep hih.2 hok⟩)
    · skip
      apply aw_exit
      apply q_exit_seq
      obtain rfl : i = a.length := by omega
      have hv : sameL sameStr a b = true := sameL_all hlen hall
      have hE := And.intro hE hv
      apply q_exit_loop
      apply q_exit
      apply q_seq
      refine WS [4] [] ?_
      apply aw_ret
      simp only [QRet, QRetM, QRetX, retsX_nil, retsX_cons, objsAre, resA, mapO_nil, mapO_cons, vD_dat, vD_nils, vD_rp, vD_osl, vD_ptr, vD_agg, vD_fn, vD_isl, vL_dat, vL_app, viewL, avA, datsOf, fillA, seval, ↓List.forall_mem_cons, Op.operands, hP, hG, tiA, hE]
      all_goals try (first | done | rfl | trivial)
theorem spairs_ok (G) (a b : List (Int × Int)) (ha : a.length ≤ 281474976710656) : Gives Try.prog G 77 [.sl (a.map pairD), .sl (b.map pairD)] [bD (sameL samePair a b)] := by
  skip
  refine gives_intro [] [] [] Try.func77 rfl (by rfl) (by simp [Try.ntmps77]) fun F hP hG hN hR => ?_
  rw [Try.ntmps77] at hN
  have hA := And.intro hN (And.intro hP (And.intro hG (And.intro hR.1 (And.intro hR.2.1 hR.2.2.1))))
  have hE := And.intro @Try.results77 (@eqPair)
  refine WS [0, 1] [] ?_
  apply aw_seq
  refine WS [0, 1, 10] [] ?_
  refine WI (fun hb => ?_) (fun hb => ?_)
  · skip
    have hv : sameL samePair a b = false := sameL_len (by omega)
    have hE := And.intro hE hv
    refine WS [4] [] ?_
    apply aw_ret
    apply q_ret_seq
    simp only [QRet, QRetM, QRetX, retsX_nil, retsX_cons, objsAre, resA, mapO_nil, mapO_cons, vD_dat, vD_nils, vD_rp, vD_osl, vD_ptr, vD_agg, vD_fn, vD_isl, vL_dat, vL_app, viewL, avA, datsOf, fillA, seval, ↓List.forall_mem_cons, Op.operands, hP, hG, tiA, hE]
    all_goals try (first | done | rfl | trivial)
  · skip
    have hlen : a.length = b.length := by omega
    apply aw_skip
    apply q_seq
    apply aw_seq
    refine WS [0, 1, 12, 13] [] ?_
    apply aw_block
    refine WL (ι := {i : Nat // i ≤ a.length ∧ ∀ j, j < i → samePair (a.getD j default) (b.getD j default) = true}) [0, 1, 12] [] (fun ⟨i, hih⟩ => [(13, .dat (iD i))]) (fun ⟨i, hih⟩ => []) (fun ⟨i, hih⟩ => a.length - i) (⟨0, by omega, fun j h => absurd h (Nat.not_lt_zero j)⟩) ?_
    rintro ⟨i, hih⟩
    dsimp only [List.cons_append, List.nil_append]
    obtain ⟨hi, hall⟩ := id hih
    refine WS [0, 1, 12, 13, 14] [] ?_
    apply aw_seq
    refine WI (fun hb => ?_) (fun hb => ?_)
    · skip
      skip
      apply aw_skip
      apply q_seq
      apply aw_seq
      apply aw_block
      refine WS [0, 1, 5, 12, 13] [] ?_
      refine WD [0, 1, 12, 13, 24] [] [0, 1, 2, 3, 4, 5, 6, 7, 8] [] ?_
      refine WI (fun hb => ?_) (fun hb => ?_)
      · skip
        have hv : sameL samePair a b = false := sameL_bad i (by omega) hlen (by simpa [samePair] using hb)
        have hE := And.intro hE hv
        refine WS [4] [] ?_
        apply aw_ret
        apply q_ret_block
        apply q_ret_seq
        apply q_ret_loop
        apply q_ret_block
        apply q_ret_seq
        simp only [QRet, QRetM, QRetX, retsX_nil, retsX_cons, objsAre, resA, mapO_nil, mapO_cons, vD_dat, vD_nils, vD_rp, vD_osl, vD_ptr, vD_agg, vD_fn, vD_isl, vL_dat, vL_app, viewL, avA, datsOf, fillA, seval, ↓List.forall_mem_cons, Op.operands, hP, hG, tiA, hE]
        all_goals try (first | done | rfl | trivial)
      · skip
        have hok : samePair (a.getD i default) (b.getD i default) = true := (by simpa [samePair] using hb)
        apply aw_skip
        apply q_block
        apply q_seq
        refine WQ [0, 1, 12, 13] [] ?_
        refine WN (⟨i + 1, by omega, allstep hih.2 hok⟩)
    · skip
      apply aw_exit
      apply q_exit_seq
      obtain rfl : i = a.length := by omega
      have hv : sameL samePair a b = true := sameL_all hlen hall
      have hE := And.intro hE hv
      apply q_exit_loop
      apply q_exit
      apply q_seq
      refine WS [4] [] ?_
      apply aw_ret
      simp only [QRet, QRetM, QRetX, retsX_nil, retsX_cons, objsAre, resA, mapO_nil, mapO_cons, vD_dat, vD_nils, vD_rp, vD_osl, vD_ptr, vD_agg, vD_fn, vD_isl, vL_dat, vL_app, viewL, avA, datsOf, fillA, seval, ↓List.forall_mem_cons, Op.operands, hP, hG, tiA, hE]
      all_goals try (first | done | rfl | trivial)
theorem sids_ok (G) (a b : List IdM) (ha : a.length ≤ 281474976710656) : Gives Try.prog G 78 [.sl (a.map idD), .sl (b.map idD)] [bD (sameL sameID a b)] := by
  skip
  refine gives_intro [] [] [] Try.func78 rfl (by rfl) (by simp [Try.ntmps78]) fun F hP hG hN hR => ?_
  rw [Try.ntmps78] at hN
  have hA := And.intro hN (And.intro hP (And.intro hG (And.intro hR.1 (And.intro hR.2.1 hR.2.2.1))))
  have hE := And.intro @Try.results78 (@eqId)
  refine WS [0, 1] [] ?_
  apply aw_seq
  refine WS [0, 1, 10] [] ?_
  refine WI (fun hb => ?_) (fun hb => ?_)
  · skip
    have hv : sameL sameID a b = false := sameL_len (by omega)
    have hE := And.intro hE hv
    refine WS [4] [] ?_
    apply aw_ret
    apply q_ret_seq
    simp only [QRet, QRetM, QRetX, retsX_nil, retsX_cons, objsAre, resA, mapO_nil, mapO_cons, vD_dat, vD_nils, vD_rp, vD_osl, vD_ptr, vD_agg, vD_fn, vD_isl, vL_dat, vL_app, viewL, avA, datsOf, fillA, seval, ↓List.forall_mem_cons, Op.operands, hP, hG, tiA, hE]
    all_goals try (first | done | rfl | trivial)
  · skip
    have hlen : a.length = b.length := by omega
    apply aw_skip
    apply q_seq
    apply aw_seq
    refine WS [0, 1, 12, 13] [] ?_
    apply aw_block
    refine WL (ι := {i : Nat // i ≤ a.length ∧ ∀ j, j < i → sameID (a.getD j default) (b.getD j default) = true}) [0, 1, 12] [] (fun ⟨i, hih⟩ => [(13, .dat (iD i))]) (fun ⟨i, hih⟩ => []) (fun ⟨i, hih⟩ => a.length - i) (⟨0, by omega, fun j h => absurd h (Nat.not_lt_zero j)⟩) ?_
    rintro ⟨i, hih⟩
    dsimp only [List.cons_append, List.nil_append]
    obtain ⟨hi, hall⟩ := id hih
    refine WS [0, 1, 12, 13, 14] [] ?_
    apply aw_seq
    refine WI (fun hb => ?_) (fun hb => ?_)
    · skip
      skip
      apply aw_skip
      apply q_seq
      apply aw_seq
      apply aw_block
      refine WS [0, 1, 5, 12, 13] [] ?_
      refine WD [0, 1, 12, 13, 24] [] [0, 1, 2, 3, 4, 5, 6, 7, 8] [] ?_
      refine WI (fun hb => ?_) (fun hb => ?_)
      · skip
        have hv : sameL sameID a b = false := sameL_bad i (by omega) hlen (by simpa [sameID] using hb)
        have hE := And.intro hE hv
        refine WS [4] [] ?_
        apply aw_ret
        apply q_ret_block
        apply q_ret_seq
        apply q_ret_loop
        apply q_ret_block
        apply q_ret_seq
        simp only [QRet, QRetM, QRetX, retsX_nil, retsX_cons, objsAre, resA, mapO_nil, mapO_cons, vD_dat, vD_nils, vD_rp, vD_osl, vD_ptr, vD_agg, vD_fn, vD_isl, vL_dat, vL_app, viewL, avA, datsOf, fillA, seval, ↓List.forall_mem_cons, Op.operands, hP, hG, tiA, hE]
        all_goals try (first | done | rfl | trivial)
      · skip
        have hok : sameID (a.getD i default) (b.getD i default) = true := (by simpa [sameID] using hb)
        apply aw_skip
        apply q_block
        apply q_seq
        refine WQ [0, 1, 12, 13] [] ?_
        refine WN (⟨i + 1, by omega, allstep hih.2 hok⟩)
    · skip
      apply aw_exit
      apply q_exit_seq
      obtain rfl : i = a.length := by omega
      have hv : sameL sameID a b = true := sameL_all hlen hall
      have hE := And.intro hE hv
      
      apply q_exit_loop
      apply q_exit
      apply q_seq
      refine WS [4] [] ?_
      apply aw_ret
      simp only [QRet, QRetM, QRetX, retsX_nil, retsX_cons, objsAre, resA, mapO_nil, mapO_cons, vD_dat, vD_nils, vD_rp, vD_osl, vD_ptr, vD_agg, vD_fn, vD_isl, vL_dat, vL_app, viewL, avA, datsOf, fillA, seval, ↓List.forall_mem_cons, Op.operands, hP, hG, tiA, hE]
      all_goals try (first | done | rfl | trivial)
end Go.Proofs.Ytabjaaonfaejmaa

namespace Go.Proofs.Ytabjaaonfaejmaa
open Go.Av
theorem wstrs_okX (G) (l : List ByteArray) (hl : ∀ s ∈ l, s.size ≤ 1000000) (hn : l.length ≤ 1000000) : GivesX Try.prog G 61 [.dat (ssD l)] [] [.osl 18 1 0 (strsM l).length] [(18, ⟨1, ((strsM l).map u8D).map .dat⟩)] := by
  have hk := kM_le (n := l.length) (by unfold I64; omega)
  have hil := intM_len l.length
  skip
  skip
  refine gives_introX' [] [8, 17] [] Try.func61 rfl (by rfl) (by simp [Try.ntmps61]) (by kernel_rfl) (by simp [onlyL_nil, onlyL_cons, AV.only, inIds]) (by simp only [onlyOs, onlyL_nil, onlyL_cons, onlyL_append, onlyL_dats, onlyL_row, AV.only, Bool.and_true] <;> simp [inIds]) fun F hP hG hN hR => ?_
  rw [Try.ntmps61] at hN
  have hA := And.intro hN (And.intro hP (And.intro hG (And.intro hR.1 (And.intro hR.2.1 hR.2.2.1))))
  have hE := And.intro @Try.results61 (And.intro @strsN_zero (And.intro @intM_len (@strsM.eq_1)))
  refine WS [0] [18] ?_
  apply aw_regs [0, 3] [18]
  · simp (maxSteps := 2000000) (disch := omega) only [avR2, avA, datsOf, fillA, seval, ↓List.forall_mem_cons, Op.operands, hA, tiA, hE]
    (repeat' refine And.intro ?_ ?_) <;> try exact SD
    refine CallC.useX (fun _ => 18) [45] (by simp [LitD, hR.2.1]) (gvFX hP hG (wint_okX G l.length (by unfold I64; omega))) rfl (lentX_of hN (by first | trivial | ((try simp only [haveL, AObj.ren, AV.ren, renL, ren_row, List.map_cons, List.map_nil, objL_cons, objL_nil]) <;> ((repeat' apply And.intro) <;> first | trivial | rfl))) (by rfl)) ?_
    try simp (maxSteps := 2000000) (disch := omega) only [avR2, avA, datsOf, fillA, seval, ↓List.forall_mem_cons, Op.operands, hA, tiA, hE, avX]
    exact SC
  apply aw_seq
  refine WS [3, 9, 10, 11] [18] ?_
  apply aw_block
  refine WL (ι := {i : Nat // i ≤ l.length}) [9, 10] [] (fun ⟨i, hi⟩ => [(3, .osl 18 1 0 (strsN l i).length), (11, .dat (iD i))]) (fun ⟨i, hi⟩ => [(18, ⟨1, ((strsN l i).map u8D).map .dat⟩)]) (fun ⟨i, hi⟩ => l.length - i) (⟨0, by omega⟩) ?_
  rintro ⟨i, hi⟩
  dsimp only [List.cons_append, List.nil_append]
  refine WS [3, 9, 10, 11, 12] [18] ?_
  apply aw_seq
  refine WI (fun hb => ?_) (fun hb => ?_)
  · skip
    have hx := getD_all hl (i := i) (by omega)
    have hle := strsN_le hl hi hn
    have hixl := bytesM_le hx
    have hsc := strsN_succ l i (by omega)
    have hE := And.intro hE hsc
    apply aw_skip
    apply q_seq
    apply aw_seq
    apply aw_block
    refine WS [3, 5, 9, 10, 11] [18] ?_
    apply aw_reg [3, 9, 10, 11] [18]
    · simp (maxSteps := 2000000) (disch := omega) only [avR2, avA, datsOf, fillA, seval, ↓List.forall_mem_cons, Op.operands, hA, tiA, hE]
      (repeat' refine And.intro ?_ ?_) <;> try exact SD
      refine CallC.useX (fun _ => 17) [7] (by simp [LitD, hR.2.1]) (gvFX hP hG (wbytes_okX G (l.getD i default) hx)) rfl (lentX_of hN (by first | trivial | ((try simp only [haveL, AObj.ren, AV.ren, renL, ren_row, List.map_cons, List.map_nil, objL_cons, objL_nil]) <;> ((repeat' apply And.intro) <;> first | trivial | rfl))) (by rfl)) ?_
      try simp (maxSteps := 2000000) (disch := omega) only [avR2, avA, datsOf, fillA, seval, ↓List.forall_mem_cons, Op.operands, hA, tiA, hE, avX]
      exact SC
    apply q_block
    apply q_seq
    refine WQ [3, 9, 10, 11] [18] ?_
    refine WN (⟨i + 1, by omega⟩)
  · skip
    apply aw_exit
    apply q_exit_seq
    have hend : i = l.length := by omega
    subst hend
    apply q_exit_loop
    apply q_exit
    apply q_seq
    refine WS [2] [18] ?_
    apply aw_ret
    simp only [QRet, QRetM, QRetX, retsX_nil, retsX_cons, objsAre, resA, mapO_nil, mapO_cons, vD_dat, vD_nils, vD_rp, vD_osl, vD_ptr, vD_agg, vD_fn, vD_isl, vL_dat, vL_app, viewL, avA, datsOf, fillA, seval, ↓List.forall_mem_cons, Op.operands, hP, hG, tiA, hE]
    all_goals try (first | done | rfl | trivial)
theorem wstrs_ok (G) (l : List ByteArray) (hl : ∀ s ∈ l, s.size ≤ 1000000) (hn : l.length ≤ 1000000) : Gives Try.prog G 61 [ssD l] [u8sD (strsM l)] := (wstrs_okX G l hl hn).row rfl
theorem wints_ok (G) (l : List Int) (hl : ∀ x ∈ l, I64 x) (hn : l.length ≤ 1000000) : Gives Try.prog G 54 [isD l] [u8sD (intsM l)] := (wints_okX G l hl hn).row rfl
theorem at_ok (G) (l : List Int) (i m : Int) (hl : ∀ x ∈ l, I64 x) (hm : 0 < m) (hmr : I64 m) : Gives Try.prog G 34 [isD l, iD i, iD m] [iD (atM l i m)] := by
  unfold atM
  refine gives_intro [] [] [] Try.func34 rfl (by rfl) (by simp [Try.ntmps34]) fun F hP hG hN hR => ?_
  rw [Try.ntmps34] at hN
  have hA := And.intro hN (And.intro hP (And.intro hG (And.intro hR.1 (And.intro hR.2.1 hR.2.2.1))))
  have hE := @Try.results34
  refine WS [0, 1, 2] [] ?_
  apply aw_seq
  refine WS [0, 1, 2, 14] [] ?_
  refine WI (fun hb => ?_) (fun hb => ?_)
  · skip
    rw [if_pos (by omega)]
    refine WS [6] [] ?_
    apply aw_ret
    apply q_ret_seq
    simp only [QRet, QRetM, QRetX, retsX_nil, retsX_cons, objsAre, resA, mapO_nil, mapO_cons, vD_dat, vD_nils, vD_rp, vD_osl, vD_ptr, vD_agg, vD_fn, vD_isl, vL_dat, vL_app, viewL, avA, datsOf, fillA, seval, ↓List.forall_mem_cons, Op.operands, hP, hG, tiA, hE]
    all_goals try (first | done | rfl | trivial)
  · skip
    rw [if_neg (by omega)]
    apply aw_skip
    apply q_seq
    have hc := gvF hP hG (around_ok _ (l.getD i.toNat default) m (getD_all hl (by omega)) hm hmr)
    refine WSc [6] [] ?_
    apply aw_ret
    simp only [QRet, QRetM, QRetX, retsX_nil, retsX_cons, objsAre, resA, mapO_nil, mapO_cons, vD_dat, vD_nils, vD_rp, vD_osl, vD_ptr, vD_agg, vD_fn, vD_isl, vL_dat, vL_app, viewL, avA, datsOf, fillA, seval, ↓List.forall_mem_cons, Op.operands, hP, hG, tiA, hE]
    all_goals try (first | done | rfl | trivial)
end Go.Proofs.Ytabjaaonfaejmaa

namespace Go.Proofs.Ytabjaaonfaejmaa
open Go.Av
theorem pairI_ok {o : OpM} (h : OkOp o) : ∀ x ∈ o.Pairs.flatMap pairI, I64 x := fun x hx => by
  obtain ⟨p, hp, hx⟩ := List.mem_flatMap.1 hx
  have := h.pairs p hp
  simp only [pairI, List.mem_cons, List.not_mem_nil, or_false] at hx
  rcases hx with rfl | rfl
  · exact this.1
  · exact this.2
theorem idI_ok {o : OpM} (h : OkOp o) : ∀ x ∈ o.Refs.flatMap idI, I64 x := fun x hx => by
  obtain ⟨p, hp, hx⟩ := List.mem_flatMap.1 hx
  have := h.refs p hp
  simp only [idI, List.mem_cons, List.not_mem_nil, or_false] at hx
  rcases hx with rfl | rfl | rfl
  · exact this.1
  · exact this.2.1
  · exact this.2.2
theorem opB_parts {o : OpM} (h : OkOp o) : ∀ l ∈ [intsM (headL o), bytesM o.Text, strsM o.Texts, intsM (o.Pairs.flatMap pairI), intsM (o.Refs.flatMap idI)], l.length ≤ 1000000 := by
  have := h.all
  simp only [opB, List.length_append] at this
  simp only [List.forall_mem_cons]
  exact ⟨by omega, by omega, by omega, by omega, by omega, by simp⟩
theorem opB_flat (o : OpM) : [intsM (headL o), bytesM o.Text, strsM o.Texts, intsM (o.Pairs.flatMap pairI), intsM (o.Refs.flatMap idI)].flatten = opB o := by
  simp [opB, List.append_assoc]
theorem wop_ok (G) (o : OpM) (h : OkOp o) : Gives Try.prog G 40 [opD o] [u8sD (opB o)] := by
  have hpl := flatN_len (f := pairI) (k := 2) (fun _ => rfl) o.Pairs
  have hrl := flatN_len (f := idI) (k := 3) (fun _ => rfl) o.Refs
  have hnp := h.npairs
  have hnr := h.nrefs
  have hob := opB_flat o
  skip
  refine gives_intro [] [] [] Try.func40 rfl (by rfl) (by simp [Try.ntmps40]) fun F hP hG hN hR => ?_
  rw [Try.ntmps40] at hN
  have hA := And.intro hN (And.intro hP (And.intro hG (And.intro hR.1 (And.intro hR.2.1 hR.2.2.1))))
  have hE := And.intro @Try.results40 (And.intro @flatN_zero (@hob))
  refine WS [1] [1] ?_
  refine WS [1, 3, 4] [1, 22, 23, 39, 40] ?_
  apply aw_seq
  refine WS [1, 3, 4, 11, 12, 13] [1, 22, 23, 39, 40] ?_
  apply aw_block
  refine aw_new0 23 1 (by omega) ?_
  refine aw_nilE 3 23 1 rfl rfl ?_
  refine WL (ι := {i : Nat // i ≤ o.Pairs.length}) [1, 4, 11, 12] [1, 22, 39, 40] (fun ⟨i, hi⟩ => [(3, .osl 23 1 0 (flatN pairI o.Pairs i).length), (13, .dat (iD i))]) (fun ⟨i, hi⟩ => [(23, ⟨1, ((flatN pairI o.Pairs i).map iD).map .dat⟩)]) (fun ⟨i, hi⟩ => o.Pairs.length - i) (⟨0, by omega⟩) ?_
  rintro ⟨i, hi⟩
  dsimp only [List.cons_append, List.nil_append]
  have hl := hpl i hi
  refine WS [1, 3, 4, 11, 12, 13, 14] [1, 22, 23, 39, 40] ?_
  apply aw_seq
  refine WI (fun hb => ?_) (fun hb => ?_)
  · skip
    have hl2 := hpl (i + 1) (by omega)
    have hsc := flatN_succ pairI o.Pairs i (by omega)
    have hE := And.intro hE (And.intro hsc (pairI.eq_1 (o.Pairs.getD i default)))
    apply aw_skip
    apply q_seq
    apply aw_seq
    apply aw_block
    refine WS [1, 3, 4, 6, 11, 12, 13] [1, 6, 22, 23, 39, 40] ?_
    refine WQ [1, 3, 4, 11, 12, 13] [1, 22, 23, 39, 40] ?_
    apply q_block
    apply q_seq
    refine WQ [1, 3, 4, 11, 12, 13] [1, 22, 23, 39, 40] ?_
    refine WN (⟨i + 1, by omega⟩)
  · skip
    apply aw_exit
    apply q_exit_seq
    have hend : i = o.Pairs.length := by omega
    subst hend
    have hf := flatN_all pairI o.Pairs
    have hE := And.intro hE hf
    apply q_exit_loop
    apply q_exit
    apply q_seq
    apply aw_seq
    refine WS [1, 3, 4, 26, 27, 28] [1, 22, 23, 39, 40] ?_
    apply aw_block
    refine aw_new0 40 1 (by omega) ?_
    refine aw_nilE 4 40 1 rfl rfl ?_
    refine WL (ι := {i : Nat // i ≤ o.Refs.length}) [1, 3, 26, 27] [1, 22, 23, 39] (fun ⟨i, hi⟩ => [(4, .osl 40 1 0 (flatN idI o.Refs i).length), (28, .dat (iD i))]) (fun ⟨i, hi⟩ => [(40, ⟨1, ((flatN idI o.Refs i).map iD).map .dat⟩)]) (fun ⟨i, hi⟩ => o.Refs.length - i) (⟨0, by omega⟩) ?_
    rintro ⟨i, hi⟩
    dsimp only [List.cons_append, List.nil_append]
    have hl := hrl i hi
    refine WS [1, 3, 4, 26, 27, 28, 29] [1, 22, 23, 39, 40] ?_
    apply aw_seq
    refine WI (fun hb => ?_) (fun hb => ?_)
    · skip
      have hl2 := hrl (i + 1) (by omega)
      have hsc := flatN_succ idI o.Refs i (by omega)
      have hE := And.intro hE (And.intro hsc (idI.eq_1 (o.Refs.getD i default)))
      apply aw_skip
      apply q_seq
      apply aw_seq
      apply aw_block
      refine WS [1, 3, 4, 8, 26, 27, 28] [1, 8, 22, 23, 39, 40] ?_
      refine WQ [1, 3, 4, 26, 27, 28] [1, 22, 23, 39, 40] ?_
      apply q_block
      apply q_seq
      refine WQ [1, 3, 4, 26, 27, 28] [1, 22, 23, 39, 40] ?_
      refine WN (⟨i + 1, by omega⟩)
    · skip
      apply aw_exit
      apply q_exit_seq
      have hend : i = o.Refs.length := by omega
      subst hend
      have hf2 := flatN_all idI o.Refs
      have hE := And.intro hE hf2
      apply q_exit_loop
      apply q_exit
      apply q_seq
      refine aw_frz 23 hR.2.2.2 rfl (datE_map _) ?_
      refine aw_frz 40 hR.2.2.2 rfl (by simp only [frz_dats]; exact datE_map _) ?_
      have hc := gvF hP hG (wints_ok G (headL o) h.head (by simp [headL]))
      refine WSc [1, 3, 4, 9] [1, 22, 23, 39, 40] ?_
      apply aw_rgds [2] [] [0, 1, 2, 3, 4, 5, 6, 7, 8, 9, 10, 11, 12, 13] []
      · rw [hP]; kernel_rfl
      · exact hR
      · kernel_rfl
      · (repeat (apply PickL.cons; exact rfl)); exact PickL.nil _
      · simp (maxSteps := 2000000) (disch := omega) only [avR2, avA, datsOf, fillA, seval, ↓List.forall_mem_cons, Op.operands, hA, tiA, hE]
        (repeat' refine And.intro ?_ ?_) <;> try exact SD
        refine CallC.use (gvF hP hG (wbytes_ok G o.Text (by have := h.text; omega))) rfl ?_
        try simp (maxSteps := 2000000) (disch := omega) only [avR2, avA, datsOf, fillA, seval, ↓List.forall_mem_cons, Op.operands, hA, tiA, hE]
        (repeat' refine And.intro ?_ ?_) <;> try exact SD
        refine CallC.use (gvF hP hG (wstrs_ok G o.Texts (fun s hs => by have := h.texts s hs; omega) (by have := h.ntexts; omega))) rfl ?_
        try simp (maxSteps := 2000000) (disch := omega) only [avR2, avA, datsOf, fillA, seval, ↓List.forall_mem_cons, Op.operands, hA, tiA, hE]
        (repeat' refine And.intro ?_ ?_) <;> try exact SD
        refine CallC.use (gvF hP hG (wints_ok G (o.Pairs.flatMap pairI) (pairI_ok h) (by rw [← flatN_all pairI, hpl _ (Nat.le_refl _)]; omega))) rfl ?_
        try simp (maxSteps := 2000000) (disch := omega) only [avR2, avA, datsOf, fillA, seval, ↓List.forall_mem_cons, Op.operands, hA, tiA, hE]
        (repeat' refine And.intro ?_ ?_) <;> try exact SD
        refine CallC.use (gvF hP hG (wints_ok G (o.Refs.flatMap idI) (idI_ok h) (by rw [← flatN_all idI, hrl _ (Nat.le_refl _)]; omega))) rfl ?_
        try simp (maxSteps := 2000000) (disch := omega) only [avR2, avA, datsOf, fillA, seval, ↓List.forall_mem_cons, Op.operands, hA, tiA, hE]
        (repeat' refine And.intro ?_ ?_) <;> try exact SD
        refine CallC.use (gvF hP hG (concatB_ok G [intsM (headL o), bytesM o.Text, strsM o.Texts, intsM (o.Pairs.flatMap pairI), intsM (o.Refs.flatMap idI)] (by simp) (opB_parts h) (by rw [hob]; exact h.all))) rfl ?_
        try simp (maxSteps := 2000000) (disch := omega) only [avR2, avA, datsOf, fillA, seval, ↓List.forall_mem_cons, Op.operands, hA, tiA, hE]
        exact SC
      apply aw_ret
      simp only [QRet, QRetM, QRetX, retsX_nil, retsX_cons, objsAre, resA, mapO_nil, mapO_cons, vD_dat, vD_nils, vD_rp, vD_osl, vD_ptr, vD_agg, vD_fn, vD_isl, vL_dat, vL_app, viewL, avA, datsOf, fillA, seval, ↓List.forall_mem_cons, Op.operands, hP, hG, tiA, hE]
      all_goals try (first | done | rfl | trivial)
end Go.Proofs.Ytabjaaonfaejmaa

namespace Go.Proofs.Ytabjaaonfaejmaa
open Go.Av
structure SzTerm (t : TermM) : Prop where
  broader : t.Broader.length ≤ 281474976710656
structure SzOp (o : OpM) : Prop where
  texts : o.Texts.length ≤ 281474976710656
  pairs : o.Pairs.length ≤ 281474976710656
  refs : o.Refs.length ≤ 281474976710656
theorem rsid_ok (G) (a b : IdM) : Gives Try.prog G 96 [idD a, idD b] [bD (sameID a b)] := by
  refine gives_intro [] [] [] Try.func96 rfl (by rfl) (by simp [Try.ntmps96]) fun F hP hG hN hR => ?_
  rw [Try.ntmps96] at hN
  have hA := And.intro hN (And.intro hP (And.intro hG (And.intro hR.1 (And.intro hR.2.1 hR.2.2.1))))
  have hE := @Try.results96
  refine WS [2, 3] [2, 3] ?_
  refine WS [4] [] ?_
  apply aw_ret
  simp only [QRet, QRetM, QRetX, retsX_nil, retsX_cons, objsAre, resA, mapO_nil, mapO_cons, vD_dat, vD_nils, vD_rp, vD_osl, vD_ptr, vD_agg, vD_fn, vD_isl, vL_dat, vL_app, viewL, avA, datsOf, fillA, seval, ↓List.forall_mem_cons, Op.operands, hP, hG, tiA, hE, sameID]
  all_goals try (first | done | rfl | trivial)
theorem rids_ok (G) (a b : List IdM) (ha : a.length ≤ 281474976710656) : Gives Try.prog G 98 [idsD a, idsD b] [bD (sameL sameID a b)] := by
  refine gives_intro [] [] [] Try.func98 rfl (by rfl) (by simp [Try.ntmps98]) fun F hP hG hN hR => ?_
  rw [Try.ntmps98] at hN
  have hA := And.intro hN (And.intro hP (And.intro hG (And.intro hR.1 (And.intro hR.2.1 hR.2.2.1))))
  have hE := @Try.results98
  refine WS [0, 1] [] ?_
  apply aw_seq
  refine WS [0, 1, 10] [] ?_
  refine WI (fun hb => ?_) (fun hb => ?_)
  · skip
    have hv : sameL sameID a b = false := sameL_len (by omega)
    have hE := And.intro hE hv
    refine WS [4] [] ?_
    apply aw_ret
    apply q_ret_seq
    simp only [QRet, QRetM, QRetX, retsX_nil, retsX_cons, objsAre, resA, mapO_nil, mapO_cons, vD_dat, vD_nils, vD_rp, vD_osl, vD_ptr, vD_agg, vD_fn, vD_isl, vL_dat, vL_app, viewL, avA, datsOf, fillA, seval, ↓List.forall_mem_cons, Op.operands, hP, hG, tiA, hE]
    all_goals try (first | done | rfl | trivial)
  · skip
    have hlen : a.length = b.length := by omega
    apply aw_skip
    apply q_seq
    apply aw_seq
    refine WS [0, 1, 5] [] ?_
    apply aw_block
    refine WL (ι := {i : Nat // i ≤ a.length ∧ ∀ j, j < i → sameID (a.getD j default) (b.getD j default) = true}) [0, 1] [] (fun ⟨i, hih⟩ => [(5, .dat (iD i))]) (fun ⟨i, hih⟩ => []) (fun ⟨i, hih⟩ => a.length - i) (⟨0, by omega, fun j h => absurd h (Nat.not_lt_zero j)⟩) ?_
    rintro ⟨i, hih⟩
    dsimp only [List.cons_append, List.nil_append]
    obtain ⟨hi, hall⟩ := id hih
    apply aw_seq
    refine WS [0, 1, 5, 14] [] ?_
    refine WI (fun hb => ?_) (fun hb => ?_)
    · skip
      apply aw_skip
      apply q_seq
      apply aw_seq
      apply aw_block
      apply aw_rgds [0, 1, 5, 26] [] [0, 1, 2, 3, 4, 5, 6, 7, 8, 9] []
      · rw [hP]; kernel_rfl
      · exact hR
      · kernel_rfl
      · (repeat (apply PickL.cons; exact rfl)); exact PickL.nil _
      · simp (maxSteps := 2000000) (disch := omega) only [avR2, avA, datsOf, fillA, seval, ↓List.forall_mem_cons, Op.operands, hA, tiA, hE]
        (repeat' refine And.intro ?_ ?_) <;> try exact SD
        refine CallC.use (gvF hP hG (rsid_ok G (a.getD i default) (b.getD i default))) rfl ?_
        try simp (maxSteps := 2000000) (disch := omega) only [avR2, avA, datsOf, fillA, seval, ↓List.forall_mem_cons, Op.operands, hA, tiA, hE]
        exact SC
      refine WI (fun hb => ?_) (fun hb => ?_)
      · skip
        have hv : sameL sameID a b = false := sameL_bad i (by omega) hlen hb
        have hE := And.intro hE hv
        refine WS [4] [] ?_
        apply aw_ret
        apply q_ret_block
        apply q_ret_seq
        apply q_ret_loop
        apply q_ret_block
        apply q_ret_seq
        simp only [QRet, QRetM, QRetX, retsX_nil, retsX_cons, objsAre, resA, mapO_nil, mapO_cons, vD_dat, vD_nils, vD_rp, vD_osl, vD_ptr, vD_agg, vD_fn, vD_isl, vL_dat, vL_app, viewL, avA, datsOf, fillA, seval, ↓List.forall_mem_cons, Op.operands, hP, hG, tiA, hE]
        all_goals try (first | done | rfl | trivial)
      · skip
        have hok : sameID (a.getD i default) (b.getD i default) = true := hb
        apply aw_skip
        apply q_block
        apply q_seq
        refine WQ [0, 1, 5] [] ?_
        refine WN (⟨i + 1, by omega, allstep hih.2 hok⟩)
    · skip
      apply aw_exit
      apply q_exit_seq
      obtain rfl : i = a.length := by omega
      have hv : sameL sameID a b = true := sameL_all hlen hall
      have hE := And.intro hE hv
      apply q_exit_loop
      apply q_exit
      apply q_seq
      refine WS [4] [] ?_
      apply aw_ret
      simp only [QRet, QRetM, QRetX, retsX_nil, retsX_cons, objsAre, resA, mapO_nil, mapO_cons, vD_dat, vD_nils, vD_rp, vD_osl, vD_ptr, vD_agg, vD_fn, vD_isl, vL_dat, vL_app, viewL, avA, datsOf, fillA, seval, ↓List.forall_mem_cons, Op.operands, hP, hG, tiA, hE]
      all_goals try (first | done | rfl | trivial)
theorem sterm_ok (G) (t u : TermM) (ht : t.Broader.length ≤ 281474976710656) : Gives Try.prog G 44 [termD t, termD u] [bD (sameTermM t u)] := by
  skip
  refine gives_intro [] [] [] Try.func44 rfl (by rfl) (by simp [Try.ntmps44]) fun F hP hG hN hR => ?_
  rw [Try.ntmps44] at hN
  have hA := And.intro hN (And.intro hP (And.intro hG (And.intro hR.1 (And.intro hR.2.1 hR.2.2.1))))
  have hE := And.intro @Try.results44 (@str_beq)
  refine WS [2, 3] [2, 3] ?_
  apply aw_regs [4] []
  · simp (maxSteps := 2000000) (disch := omega) only [avR2, avA, datsOf, fillA, seval, ↓List.forall_mem_cons, Op.operands, hA, tiA, hE]
    (repeat' refine And.intro ?_ ?_) <;> try exact SD
    refine CallGC.use rfl (fun hg => ⟨by first | trivial | (simp only [gdAll, AV.gd, avA, seval]; (repeat' apply And.intro) <;> first | trivial | rfl | exact hg) | simp_all [gdAll], gvF hP hG (stexts_ok G t.Broader u.Broader ht)⟩) ?_
    try simp (maxSteps := 2000000) (disch := omega) only [avR2, avA, datsOf, fillA, seval, ↓List.forall_mem_cons, Op.operands, hA, tiA, hE]
    exact SC
  apply aw_ret
  simp only [QRet, QRetM, QRetX, retsX_nil, retsX_cons, objsAre, resA, mapO_nil, mapO_cons, vD_dat, vD_nils, vD_rp, vD_osl, vD_ptr, vD_agg, vD_fn, vD_isl, vL_dat, vL_app, viewL, avA, datsOf, fillA, seval, ↓List.forall_mem_cons, Op.operands, hP, hG, tiA, hE, sameTermM]
  all_goals try (first | done | rfl | trivial)
theorem rterm_ok (G) (t u : TermM) (ht : t.Broader.length ≤ 281474976710656) : Gives Try.prog G 72 [termD t, termD u] [bD (sameTermM t u)] := by
  skip
  refine gives_intro [] [] [] Try.func72 rfl (by rfl) (by simp [Try.ntmps72]) fun F hP hG hN hR => ?_
  rw [Try.ntmps72] at hN
  have hA := And.intro hN (And.intro hP (And.intro hG (And.intro hR.1 (And.intro hR.2.1 hR.2.2.1))))
  have hE := And.intro @Try.results72 (@str_beq)
  refine WS [2, 3] [2, 3] ?_
  apply aw_regs [4] []
  · simp (maxSteps := 2000000) (disch := omega) only [avR2, avA, datsOf, fillA, seval, ↓List.forall_mem_cons, Op.operands, hA, tiA, hE]
    (repeat' refine And.intro ?_ ?_) <;> try exact SD
    refine CallGC.use rfl (fun hg => ⟨by first | trivial | (simp only [gdAll, AV.gd, avA, seval]; (repeat' apply And.intro) <;> first | trivial | rfl | exact hg) | simp_all [gdAll], gvF hP hG (rtexts_ok G t.Broader u.Broader ht)⟩) ?_
    try simp (maxSteps := 2000000) (disch := omega) only [avR2, avA, datsOf, fillA, seval, ↓List.forall_mem_cons, Op.operands, hA, tiA, hE]
    exact SC
  apply aw_ret
  simp only [QRet, QRetM, QRetX, retsX_nil, retsX_cons, objsAre, resA, mapO_nil, mapO_cons, vD_dat, vD_nils, vD_rp, vD_osl, vD_ptr, vD_agg, vD_fn, vD_isl, vL_dat, vL_app, viewL, avA, datsOf, fillA, seval, ↓List.forall_mem_cons, Op.operands, hP, hG, tiA, hE, sameTermM]
  all_goals try (first | done | rfl | trivial)
theorem spost_ok (G) (p q : PostM) (ht : p.Path.length ≤ 281474976710656) : Gives Try.prog G 69 [postD p, postD q] [bD (samePostM p q)] := by
  skip
  refine gives_intro [] [] [] Try.func69 rfl (by rfl) (by simp [Try.ntmps69]) fun F hP hG hN hR => ?_
  rw [Try.ntmps69] at hN
  have hA := And.intro hN (And.intro hP (And.intro hG (And.intro hR.1 (And.intro hR.2.1 hR.2.2.1))))
  have hE := And.intro @Try.results69 (@eqId)
  refine WS [2, 3] [2, 3] ?_
  apply aw_regs [4] []
  · simp (maxSteps := 2000000) (disch := omega) only [avR2, avA, datsOf, fillA, seval, ↓List.forall_mem_cons, Op.operands, hA, tiA, hE]
    (repeat' refine And.intro ?_ ?_) <;> try exact SD
    refine CallGC.use rfl (fun hg => ⟨by first | trivial | (simp only [gdAll, AV.gd, avA, seval]; (repeat' apply And.intro) <;> first | trivial | rfl | exact hg) | simp_all [gdAll], gvF hP hG (stexts_ok G p.Path q.Path ht)⟩) ?_
    try simp (maxSteps := 2000000) (disch := omega) only [avR2, avA, datsOf, fillA, seval, ↓List.forall_mem_cons, Op.operands, hA, tiA, hE]
    exact SC
  apply aw_ret
  simp only [QRet, QRetM, QRetX, retsX_nil, retsX_cons, objsAre, resA, mapO_nil, mapO_cons, vD_dat, vD_nils, vD_rp, vD_osl, vD_ptr, vD_agg, vD_fn, vD_isl, vL_dat, vL_app, viewL, avA, datsOf, fillA, seval, ↓List.forall_mem_cons, Op.operands, hP, hG, tiA, hE, samePostM, sameID]
  all_goals try (first | done | rfl | trivial)
theorem rpost_ok (G) (p q : PostM) (ht : p.Path.length ≤ 281474976710656) : Gives Try.prog G 70 [postD p, postD q] [bD (samePostM p q)] := by
  skip
  refine gives_intro [] [] [] Try.func70 rfl (by rfl) (by simp [Try.ntmps70]) fun F hP hG hN hR => ?_
  rw [Try.ntmps70] at hN
  have hA := And.intro hN (And.intro hP (And.intro hG (And.intro hR.1 (And.intro hR.2.1 hR.2.2.1))))
  have hE := And.intro @Try.results70 (@eqId)
  refine WS [2, 3] [2, 3] ?_
  apply aw_regs [4] []
  · simp (maxSteps := 2000000) (disch := omega) only [avR2, avA, datsOf, fillA, seval, ↓List.forall_mem_cons, Op.operands, hA, tiA, hE]
    (repeat' refine And.intro ?_ ?_) <;> try exact SD
    refine CallGC.use rfl (fun hg => ⟨by first | trivial | (simp only [gdAll, AV.gd, avA, seval]; (repeat' apply And.intro) <;> first | trivial | rfl | exact hg) | simp_all [gdAll], gvF hP hG (rtexts_ok G p.Path q.Path ht)⟩) ?_
    try simp (maxSteps := 2000000) (disch := omega) only [avR2, avA, datsOf, fillA, seval, ↓List.forall_mem_cons, Op.operands, hA, tiA, hE]
    exact SC
  apply aw_ret
  simp only [QRet, QRetM, QRetX, retsX_nil, retsX_cons, objsAre, resA, mapO_nil, mapO_cons, vD_dat, vD_nils, vD_rp, vD_osl, vD_ptr, vD_agg, vD_fn, vD_isl, vL_dat, vL_app, viewL, avA, datsOf, fillA, seval, ↓List.forall_mem_cons, Op.operands, hP, hG, tiA, hE, samePostM, sameID]
  all_goals try (first | done | rfl | trivial)
set_option maxRecDepth 100000 in
theorem sop_ok (G) (o p : OpM) (h : SzOp o) : Gives Try.prog G 43 [opD o, opD p] [bD (sameOpM o p)] := by
  skip
  refine gives_intro [] [] [] Try.func43 rfl (by rfl) (by simp [Try.ntmps43]) fun F hP hG hN hR => ?_
  rw [Try.ntmps43] at hN
  have hA := And.intro hN (And.intro hP (And.intro hG (And.intro hR.1 (And.intro hR.2.1 hR.2.2.1))))
  have hE := And.intro @Try.results43 (And.intro @eqId (And.intro @eqSpot (@str_beq)))
  refine WS [2, 3] [2, 3] ?_
  refine aw_lit (by simp only [List.append_eq, List.cons_append, List.nil_append]; exact rfl) ?_
  apply aw_regs [4] []
  · simp (maxSteps := 2000000) (disch := omega) only [avR2, avA, datsOf, fillA, seval, ↓List.forall_mem_cons, Op.operands, hA, tiA, hE]
    (repeat' refine And.intro ?_ ?_) <;> try exact SD
    refine CallGC.use rfl (fun hg => ⟨by first | trivial | (simp only [gdAll, AV.gd, avA, seval]; (repeat' apply And.intro) <;> first | trivial | rfl | exact hg) | simp_all [gdAll], gvF hP hG (stexts_ok G o.Texts p.Texts h.texts)⟩) ?_
    try simp (maxSteps := 2000000) (disch := omega) only [avR2, avA, datsOf, fillA, seval, ↓List.forall_mem_cons, Op.operands, hA, tiA, hE]
    (repeat' refine And.intro ?_ ?_) <;> try exact SD
    refine CallGC.use rfl (fun hg => ⟨by first | trivial | (simp only [gdAll, AV.gd, avA, seval]; (repeat' apply And.intro) <;> first | trivial | rfl | exact hg) | simp_all [gdAll], gvF hP hG (spairs_ok G o.Pairs p.Pairs h.pairs)⟩) ?_
    try simp (maxSteps := 2000000) (disch := omega) only [avR2, avA, datsOf, fillA, seval, ↓List.forall_mem_cons, Op.operands, hA, tiA, hE]
    (repeat' refine And.intro ?_ ?_) <;> try exact SD
    refine CallGC.use rfl (fun hg => ⟨by first | trivial | (simp only [gdAll, AV.gd, avA, seval]; (repeat' apply And.intro) <;> first | trivial | rfl | exact hg) | simp_all [gdAll], gvF hP hG (sids_ok G o.Refs p.Refs h.refs)⟩) ?_
    try simp (maxSteps := 2000000) (disch := omega) only [avR2, avA, datsOf, fillA, seval, ↓List.forall_mem_cons, Op.operands, hA, tiA, hE]
    exact SC
  apply aw_ret
  simp only [QRet, QRetM, QRetX, retsX_nil, retsX_cons, objsAre, resA, mapO_nil, mapO_cons, vD_dat, vD_nils, vD_rp, vD_osl, vD_ptr, vD_agg, vD_fn, vD_isl, vL_dat, vL_app, viewL, avA, datsOf, fillA, seval, ↓List.forall_mem_cons, Op.operands, hP, hG, tiA, hE, sameOpM, sameID, sameSpot]
  all_goals try (first | done | rfl | trivial)
set_option maxRecDepth 100000 in
theorem rop_ok (G) (o p : OpM) (h : SzOp o) : Gives Try.prog G 73 [opD o, opD p] [bD (sameOpM o p)] := by
  skip
  refine gives_intro [] [] [] Try.func73 rfl (by rfl) (by simp [Try.ntmps73]) fun F hP hG hN hR => ?_
  rw [Try.ntmps73] at hN
  have hA := And.intro hN (And.intro hP (And.intro hG (And.intro hR.1 (And.intro hR.2.1 hR.2.2.1))))
  have hE := And.intro @Try.results73 (And.intro @eqSpot (@str_beq))
  refine WS [2, 3] [2, 3] ?_
  apply aw_seq
  apply aw_regs [2, 3, 53] [2, 3]
  · simp (maxSteps := 2000000) (disch := omega) only [avR2, avA, datsOf, fillA, seval, ↓List.forall_mem_cons, Op.operands, hA, tiA, hE]
    (repeat' refine And.intro ?_ ?_) <;> try exact SD
    refine CallGC.use rfl (fun hg => ⟨by first | trivial | (simp only [gdAll, AV.gd, avA, seval]; (repeat' apply And.intro) <;> first | trivial | rfl | exact hg) | simp_all [gdAll], gvF hP hG (rsid_ok G o.At p.At)⟩) ?_
    try simp (maxSteps := 2000000) (disch := omega) only [avR2, avA, datsOf, fillA, seval, ↓List.forall_mem_cons, Op.operands, hA, tiA, hE]
    (repeat' refine And.intro ?_ ?_) <;> try exact SD
    refine CallGC.use rfl (fun hg => ⟨by first | trivial | (simp only [gdAll, AV.gd, avA, seval]; (repeat' apply And.intro) <;> first | trivial | rfl | exact hg) | simp_all [gdAll], gvF hP hG (rsid_ok G o.To p.To)⟩) ?_
    try simp (maxSteps := 2000000) (disch := omega) only [avR2, avA, datsOf, fillA, seval, ↓List.forall_mem_cons, Op.operands, hA, tiA, hE]
    exact SC
  refine WI (fun hb => ?_) (fun hb => ?_)
  · skip
    have hv : sameOpM o p = false := by
      unfold sameOpM sameSpot
      grind
    have hE := And.intro hE hv
    refine WS [4] [] ?_
    apply aw_ret
    apply q_ret_seq
    simp only [QRet, QRetM, QRetX, retsX_nil, retsX_cons, objsAre, resA, mapO_nil, mapO_cons, vD_dat, vD_nils, vD_rp, vD_osl, vD_ptr, vD_agg, vD_fn, vD_isl, vL_dat, vL_app, viewL, avA, datsOf, fillA, seval, ↓List.forall_mem_cons, Op.operands, hP, hG, tiA, hE]
    all_goals try (first | done | rfl | trivial)
  · skip
    have hv : sameOpM o p = (sameStr o.Text p.Text && sameL sameStr o.Texts p.Texts && sameL samePair o.Pairs p.Pairs && sameL sameID o.Refs p.Refs) := by
      unfold sameOpM sameSpot
      grind
    have hE := And.intro hE hv
    apply aw_skip
    apply q_seq
    apply aw_regs [4] []
    · simp (maxSteps := 2000000) (disch := omega) only [avR2, avA, datsOf, fillA, seval, ↓List.forall_mem_cons, Op.operands, hA, tiA, hE]
      (repeat' refine And.intro ?_ ?_) <;> try exact SD
      refine CallGC.use rfl (fun hg => ⟨by first | trivial | (simp only [gdAll, AV.gd, avA, seval]; (repeat' apply And.intro) <;> first | trivial | rfl | exact hg) | simp_all [gdAll], gvF hP hG (rtexts_ok G o.Texts p.Texts h.texts)⟩) ?_
      try simp (maxSteps := 2000000) (disch := omega) only [avR2, avA, datsOf, fillA, seval, ↓List.forall_mem_cons, Op.operands, hA, tiA, hE]
      (repeat' refine And.intro ?_ ?_) <;> try exact SD
      refine CallGC.use rfl (fun hg => ⟨by first | trivial | (simp only [gdAll, AV.gd, avA, seval]; (repeat' apply And.intro) <;> first | trivial | rfl | exact hg) | simp_all [gdAll], gvF hP hG (rpairs_ok G o.Pairs p.Pairs h.pairs)⟩) ?_
      try simp (maxSteps := 2000000) (disch := omega) only [avR2, avA, datsOf, fillA, seval, ↓List.forall_mem_cons, Op.operands, hA, tiA, hE]
      (repeat' refine And.intro ?_ ?_) <;> try exact SD
      refine CallGC.use rfl (fun hg => ⟨by first | trivial | (simp only [gdAll, AV.gd, avA, seval]; (repeat' apply And.intro) <;> first | trivial | rfl | exact hg) | simp_all [gdAll], gvF hP hG (rids_ok G o.Refs p.Refs h.refs)⟩) ?_
      try simp (maxSteps := 2000000) (disch := omega) only [avR2, avA, datsOf, fillA, seval, ↓List.forall_mem_cons, Op.operands, hA, tiA, hE]
      exact SC
    apply aw_ret
    simp only [QRet, QRetM, QRetX, retsX_nil, retsX_cons, objsAre, resA, mapO_nil, mapO_cons, vD_dat, vD_nils, vD_rp, vD_osl, vD_ptr, vD_agg, vD_fn, vD_isl, vL_dat, vL_app, viewL, avA, datsOf, fillA, seval, ↓List.forall_mem_cons, Op.operands, hP, hG, tiA, hE]
    all_goals try (first | done | rfl | trivial)
end Go.Proofs.Ytabjaaonfaejmaa

namespace Go.Proofs.Ytabjaaonfaejmaa
open Go.Av
theorem of_ok (G) (k : Int) : Gives Try.prog G 39 [iD k] [usesD (ofM k)] := by
  refine gives_intro [] [] [] Try.func39 rfl (by rfl) (by simp [Try.ntmps39]) fun F hP hG hN hR => ?_
  rw [Try.ntmps39] at hN
  have hA := And.intro hN (And.intro hP (And.intro hG (And.intro hR.1 (And.intro hR.2.1 hR.2.2.1))))
  have hE := @Try.results39
  refine WS [0, 2] [2] ?_
  apply aw_seq
  refine WS [2, 3] [2] ?_
  apply aw_block
  refine WS [2, 3, 4] [2] ?_
  refine WI (fun hb => ?_) (fun hb => ?_)
  · skip
    refine WS [2] [2] ?_
    apply aw_ret
    apply q_ret_block
    apply q_ret_seq
    simp only [QRet, QRetM, QRetX, retsX_nil, retsX_cons, objsAre, resA, mapO_nil, mapO_cons, vD_dat, vD_nils, vD_rp, vD_osl, vD_ptr, vD_agg, vD_fn, vD_isl, vL_dat, vL_app, viewL, avA, datsOf, fillA, seval, ↓List.forall_mem_cons, Op.operands, hP, hG, tiA, hE]
    all_goals try (first | done | rfl | trivial)
    all_goals (simp [ofM, *])
  · skip
    refine WS [2, 3, 7] [2] ?_
    refine WI (fun hb => ?_) (fun hb => ?_)
    · skip
      refine WS [2] [2] ?_
      apply aw_ret
      apply q_ret_block
      apply q_ret_seq
      simp only [QRet, QRetM, QRetX, retsX_nil, retsX_cons, objsAre, resA, mapO_nil, mapO_cons, vD_dat, vD_nils, vD_rp, vD_osl, vD_ptr, vD_agg, vD_fn, vD_isl, vL_dat, vL_app, viewL, avA, datsOf, fillA, seval, ↓List.forall_mem_cons, Op.operands, hP, hG, tiA, hE]
      all_goals try (first | done | rfl | trivial)
      all_goals (simp [ofM, *])
    · skip
      apply aw_seq
      refine WS [2, 3, 10] [2] ?_
      refine WI (fun hb => ?_) (fun hb => ?_)
      · skip
        apply aw_skip
        apply q_seq
        refine aw_ift (by first | exact rfl | (simp only [evA_tmp, of_env, envL_cons, envL_nil]; simp [*])) ?_
        refine WS [2] [2] ?_
        apply aw_ret
        apply q_ret_block
        apply q_ret_seq
        simp only [QRet, QRetM, QRetX, retsX_nil, retsX_cons, objsAre, resA, mapO_nil, mapO_cons, vD_dat, vD_nils, vD_rp, vD_osl, vD_ptr, vD_agg, vD_fn, vD_isl, vL_dat, vL_app, viewL, avA, datsOf, fillA, seval, ↓List.forall_mem_cons, Op.operands, hP, hG, tiA, hE]
        all_goals try (first | done | rfl | trivial)
        all_goals (simp [ofM, *])
      · skip
        refine WQ [2, 3, 10] [2] ?_
        apply q_seq
        refine WI (fun hb => ?_) (fun hb => ?_)
        · skip
          refine WS [2] [2] ?_
          apply aw_ret
          apply q_ret_block
          apply q_ret_seq
          simp only [QRet, QRetM, QRetX, retsX_nil, retsX_cons, objsAre, resA, mapO_nil, mapO_cons, vD_dat, vD_nils, vD_rp, vD_osl, vD_ptr, vD_agg, vD_fn, vD_isl, vL_dat, vL_app, viewL, avA, datsOf, fillA, seval, ↓List.forall_mem_cons, Op.operands, hP, hG, tiA, hE]
          all_goals try (first | done | rfl | trivial)
          all_goals (simp [ofM, *])
        · skip
          apply aw_seq
          refine WS [2, 3, 14] [2] ?_
          refine WI (fun hb => ?_) (fun hb => ?_)
          · skip
            apply aw_skip
            apply q_seq
            refine aw_ift (by first | exact rfl | (simp only [evA_tmp, of_env, envL_cons, envL_nil]; simp [*])) ?_
            refine WS [2] [2] ?_
            apply aw_ret
            apply q_ret_block
            apply q_ret_seq
            simp only [QRet, QRetM, QRetX, retsX_nil, retsX_cons, objsAre, resA, mapO_nil, mapO_cons, vD_dat, vD_nils, vD_rp, vD_osl, vD_ptr, vD_agg, vD_fn, vD_isl, vL_dat, vL_app, viewL, avA, datsOf, fillA, seval, ↓List.forall_mem_cons, Op.operands, hP, hG, tiA, hE]
            all_goals try (first | done | rfl | trivial)
            all_goals (simp [ofM, *])
          · skip
            refine WQ [2, 14] [2] ?_
            apply q_seq
            refine WI (fun hb => ?_) (fun hb => ?_)
            · skip
              refine WS [2] [2] ?_
              apply aw_ret
              apply q_ret_block
              apply q_ret_seq
              simp only [QRet, QRetM, QRetX, retsX_nil, retsX_cons, objsAre, resA, mapO_nil, mapO_cons, vD_dat, vD_nils, vD_rp, vD_osl, vD_ptr, vD_agg, vD_fn, vD_isl, vL_dat, vL_app, viewL, avA, datsOf, fillA, seval, ↓List.forall_mem_cons, Op.operands, hP, hG, tiA, hE]
              all_goals try (first | done | rfl | trivial)
              all_goals (simp [ofM, *])
            · skip
              apply aw_skip
              apply q_block
              apply q_seq
              refine WS [2] [2] ?_
              apply aw_ret
              simp only [QRet, QRetM, QRetX, retsX_nil, retsX_cons, objsAre, resA, mapO_nil, mapO_cons, vD_dat, vD_nils, vD_rp, vD_osl, vD_ptr, vD_agg, vD_fn, vD_isl, vL_dat, vL_app, viewL, avA, datsOf, fillA, seval, ↓List.forall_mem_cons, Op.operands, hP, hG, tiA, hE]
              all_goals try (first | done | rfl | trivial)
              all_goals (simp [ofM, *])
theorem rname_ok (G) (e : EventM) : Gives Try.prog G 23 [eventD e] [nameD (evName e)] := by
  refine gives_intro [] [] [] Try.func23 rfl (by rfl) (by simp [Try.ntmps23]) fun F hP hG hN hR => ?_
  rw [Try.ntmps23] at hN
  have hA := And.intro hN (And.intro hP (And.intro hG (And.intro hR.1 (And.intro hR.2.1 hR.2.2.1))))
  have hE := @Try.results23
  refine WS [1, 2] [1, 2] ?_
  refine WS [2] [2] ?_
  apply aw_ret
  simp only [QRet, QRetM, QRetX, retsX_nil, retsX_cons, objsAre, resA, mapO_nil, mapO_cons, vD_dat, vD_nils, vD_rp, vD_osl, vD_ptr, vD_agg, vD_fn, vD_isl, vL_dat, vL_app, viewL, avA, datsOf, fillA, seval, ↓List.forall_mem_cons, Op.operands, hP, hG, tiA, hE, evName]
  all_goals try (first | done | rfl | trivial)
theorem before_ok (G) (a b : EventM) : Gives Try.prog G 26 [eventD a, eventD b] [bD (beforeM a b)] := by
  refine gives_intro [] [] [] Try.func26 rfl (by rfl) (by simp [Try.ntmps26]) fun F hP hG hN hR => ?_
  rw [Try.ntmps26] at hN
  have hA := And.intro hN (And.intro hP (And.intro hG (And.intro hR.1 (And.intro hR.2.1 hR.2.2.1))))
  have hE := @Try.results26
  refine WS [2, 3] [2, 3] ?_
  apply aw_seq
  refine WS [2, 3, 9] [2, 3] ?_
  refine WI (fun hb => ?_) (fun hb => ?_)
  · skip
    have hl : beforeM a b = decide (a.Tick < b.Tick) := by unfold beforeM; rw [if_pos hb]
    have hE := And.intro hE hl
    refine WS [4] [] ?_
    apply aw_ret
    apply q_ret_seq
    simp only [QRet, QRetM, QRetX, retsX_nil, retsX_cons, objsAre, resA, mapO_nil, mapO_cons, vD_dat, vD_nils, vD_rp, vD_osl, vD_ptr, vD_agg, vD_fn, vD_isl, vL_dat, vL_app, viewL, avA, datsOf, fillA, seval, ↓List.forall_mem_cons, Op.operands, hP, hG, tiA, hE]
    all_goals try (first | done | rfl | trivial)
  · skip
    have hl : beforeM a b = lessM (evName a) (evName b) := by unfold beforeM; rw [if_neg (by omega)]
    have hE := And.intro hE hl
    apply aw_skip
    apply q_seq
    apply aw_rgds [4] [] [0, 1, 2, 3, 4, 5] []
    · rw [hP]; kernel_rfl
    · exact hR
    · kernel_rfl
    · (repeat (apply PickL.cons; exact rfl)); exact PickL.nil _
    · simp (maxSteps := 2000000) (disch := omega) only [avR2, avA, datsOf, fillA, seval, ↓List.forall_mem_cons, Op.operands, hA, tiA, hE]
      (repeat' refine And.intro ?_ ?_) <;> try exact SD
      refine CallC.use (gvF hP hG (name_ok G a)) rfl ?_
      try simp (maxSteps := 2000000) (disch := omega) only [avR2, avA, datsOf, fillA, seval, ↓List.forall_mem_cons, Op.operands, hA, tiA, hE]
      (repeat' refine And.intro ?_ ?_) <;> try exact SD
      refine CallC.use (gvF hP hG (name_ok G b)) rfl ?_
      try simp (maxSteps := 2000000) (disch := omega) only [avR2, avA, datsOf, fillA, seval, ↓List.forall_mem_cons, Op.operands, hA, tiA, hE]
      (repeat' refine And.intro ?_ ?_) <;> try exact SD
      refine CallC.use (gvF hP hG (less_ok G (evName a) (evName b))) rfl ?_
      try simp (maxSteps := 2000000) (disch := omega) only [avR2, avA, datsOf, fillA, seval, ↓List.forall_mem_cons, Op.operands, hA, tiA, hE]
      exact SC
    apply aw_ret
    simp only [QRet, QRetM, QRetX, retsX_nil, retsX_cons, objsAre, resA, mapO_nil, mapO_cons, vD_dat, vD_nils, vD_rp, vD_osl, vD_ptr, vD_agg, vD_fn, vD_isl, vL_dat, vL_app, viewL, avA, datsOf, fillA, seval, ↓List.forall_mem_cons, Op.operands, hP, hG, tiA, hE]
    all_goals try (first | done | rfl | trivial)
theorem word_ok (G) (n : Int) (hn : I64 n) : Gives Try.prog G 36 [iD n] [sD (wordM n)] := by
  have hr := aroundM_range (n := n) (m := 8) (by omega)
  have hw : ([.str ⟨#[97, 110, 110, 97]⟩, .str ⟨#[114, 111, 109, 101]⟩, .str ⟨#[107, 105, 110, 103]⟩, .str ⟨#[107, 105, 110, 103, 32, 97, 110, 110, 97]⟩, .str ⟨#[111, 100, 101]⟩, .str ⟨#[108, 121, 114, 101, 32, 111, 102, 32, 114, 111, 109, 101]⟩, .str ⟨#[120, 32, 49, 50]⟩, .str ⟨#[116, 104, 101, 32, 101, 110, 100, 46]⟩] : List Dat) = wordsL.map Dat.str := rfl
  have hwl : wordsL.length = 8 := rfl
  skip
  refine gives_intro [] [] [] Try.func36 rfl (by rfl) (by simp [Try.ntmps36]) fun F hP hG hN hR => ?_
  rw [Try.ntmps36] at hN
  have hA := And.intro hN (And.intro hP (And.intro hG (And.intro hR.1 (And.intro hR.2.1 hR.2.2.1))))
  have hE := And.intro @Try.results36 (And.intro (And.intro hw hwl) (@wordM.eq_1))
  refine WS [0] [] ?_
  refine WS [0, 3] [4] ?_
  have hc := gvF hP hG (around_ok G n 8 hn (by omega) (by unfold I64; omega))
  refine WSc [2] [] ?_
  apply aw_ret
  simp only [QRet, QRetM, QRetX, retsX_nil, retsX_cons, objsAre, resA, mapO_nil, mapO_cons, vD_dat, vD_nils, vD_rp, vD_osl, vD_ptr, vD_agg, vD_fn, vD_isl, vL_dat, vL_app, viewL, avA, datsOf, fillA, seval, ↓List.forall_mem_cons, Op.operands, hP, hG, tiA, hE]
  all_goals try (first | done | rfl | trivial)
end Go.Proofs.Ytabjaaonfaejmaa

namespace Go.Proofs.Ytabjaaonfaejmaa
open Go.Av
abbrev zOp : OpM := ⟨0, ⟨0, 0, 0⟩, ⟨0, 0, 0⟩, ⟨0, 0, 0⟩, 0, 0, 0, ⟨#[]⟩, [], [], []⟩
abbrev zTerm : TermM := ⟨⟨#[]⟩, 0, 0, ⟨#[]⟩, []⟩
abbrev zID : IdM := ⟨0, 0, 0⟩
def limM (e : EventM) : Bool := decide (16 < e.Refs.length) || decide (16 < e.Posts.length) || decide (8 < e.Term.Broader.length) || ((ofM e.Kind).op && decide (65536 < (opB e.Op).length))
def bad1 (e : EventM) : Bool := !possibleM (evName e) || !withinM e.Tick 1048576 || !withinM e.Kind 6
def bad2 (e : EventM) : Bool := (!(ofM e.Kind).op && !sameOpM e.Op zOp) || (!(ofM e.Kind).term && !sameTermM e.Term zTerm)
def bad3 (e : EventM) : Bool := (!(ofM e.Kind).id && !sameID e.ID zID) || (!(ofM e.Kind).posts && decide (0 < e.Posts.length)) || (!(ofM e.Kind).n && decide (e.N ≠ 0))
def badRef (e : EventM) (i : Nat) : Bool := !possibleM (e.Refs.getD i default) || sameName (e.Refs.getD i default) (evName e) || (decide (0 < i) && !lessM (e.Refs.getD (i - 1) default) (e.Refs.getD i default))
def bad5 (e : EventM) : Bool := (ofM e.Kind).term && (!okWordM e.Term.Name || (!sameStr e.Term.See ⟨#[]⟩ && !okWordM e.Term.See) || !withinM e.Term.Kind 2 || !withinM e.Term.Lang 3 || !okWordsM e.Term.Broader)
def badPost (e : EventM) (i : Nat) : Bool := !sameID (e.Posts.getD i default).ID e.ID || decide ((e.Posts.getD i default).Path.length = 0) || decide (4 < (e.Posts.getD i default).Path.length) || !okWordsM (e.Posts.getD i default).Path
def validM (e : EventM) : Int :=
  if limM e = true then 4
  else if bad1 e = true ∨ bad2 e = true ∨ bad3 e = true ∨ withinM e.N 1048576 = false then 1
  else if ∃ i, i < e.Refs.length ∧ badRef e i = true then 1
  else if bad5 e = true then 1
  else if ∃ i, i < e.Posts.length ∧ badPost e i = true then 1
  else 0
structure OkEv (e : EventM) : Prop where
  by_ : I64 e.By
  seq : I64 e.Seq
  tick : I64 e.Tick
  kind : I64 e.Kind
  n : I64 e.N
  id : idOK e.ID
  tk : I64 e.Term.Kind
  tl : I64 e.Term.Lang
  refs : ∀ r ∈ e.Refs, I64 r.By ∧ I64 r.Seq
  nrefs : e.Refs.length ≤ 100000
  op : OkOp e.Op
  name : e.Term.Name.size ≤ 900000
  see : e.Term.See.size ≤ 900000
  broader : ∀ s ∈ e.Term.Broader, s.size ≤ 900000
  nbroader : e.Term.Broader.length ≤ 100000
  posts : ∀ p ∈ e.Posts, idOK p.ID ∧ p.Path.length ≤ 3000 ∧ ∀ s ∈ p.Path, s.size ≤ 900000
  nposts : e.Posts.length ≤ 1000
theorem of_op (k : Int) : (ofM k).op = decide (k = 0) := by unfold ofM; grind
theorem of_term (k : Int) : (ofM k).term = decide (k = 2) := by unfold ofM; grind
theorem of_id (k : Int) : (ofM k).id = (decide (k = 3) || decide (k = 4) || decide (k = 5) || decide (k = 6)) := by unfold ofM; grind
theorem of_posts (k : Int) : (ofM k).posts = (decide (k = 3) || decide (k = 4)) := by unfold ofM; grind
theorem of_n (k : Int) : (ofM k).n = (decide (k = 5) || decide (k = 6)) := by unfold ofM; grind
theorem valid_lim {e : EventM} (h : limM e = true) : validM e = 4 := by unfold validM; rw [if_pos h]
theorem valid_123 {e : EventM} (h0 : limM e = false) (h : bad1 e = true ∨ bad2 e = true ∨ bad3 e = true ∨ withinM e.N 1048576 = false) : validM e = 1 := by
  unfold validM; rw [if_neg (by simp [h0]), if_pos h]
theorem valid_ref {e : EventM} (h0 : limM e = false) (h : bad1 e = false ∧ bad2 e = false ∧ bad3 e = false ∧ withinM e.N 1048576 = true) {i : Nat} (hi : i < e.Refs.length) (hb : badRef e i = true) : validM e = 1 := by
  unfold validM; rw [if_neg (by simp [h0]), if_neg (by simp [h]), if_pos ⟨i, hi, hb⟩]
theorem valid_5 {e : EventM} (h0 : limM e = false) (h : bad1 e = false ∧ bad2 e = false ∧ bad3 e = false ∧ withinM e.N 1048576 = true) (hr : ∀ i, i < e.Refs.length → badRef e i = false) (h5 : bad5 e = true) : validM e = 1 := by
  unfold validM; rw [if_neg (by simp [h0]), if_neg (by simp [h]), if_neg (by rintro ⟨i, h1, h2⟩; rw [hr i h1] at h2; cases h2), if_pos h5]
theorem valid_post {e : EventM} (h0 : limM e = false) (h : bad1 e = false ∧ bad2 e = false ∧ bad3 e = false ∧ withinM e.N 1048576 = true) (hr : ∀ i, i < e.Refs.length → badRef e i = false) (h5 : bad5 e = false) {i : Nat} (hi : i < e.Posts.length) (hb : badPost e i = true) : validM e = 1 := by
  unfold validM; rw [if_neg (by simp [h0]), if_neg (by simp [h]), if_neg (by rintro ⟨i, h1, h2⟩; rw [hr i h1] at h2; cases h2), if_neg (by simp [h5]), if_pos ⟨i, hi, hb⟩]
theorem valid_all {e : EventM} (h0 : limM e = false) (h : bad1 e = false ∧ bad2 e = false ∧ bad3 e = false ∧ withinM e.N 1048576 = true) (hr : ∀ i, i < e.Refs.length → badRef e i = false) (h5 : bad5 e = false) (hp : ∀ i, i < e.Posts.length → badPost e i = false) : validM e = 0 := by
  unfold validM; rw [if_neg (by simp [h0]), if_neg (by simp [h]), if_neg (by rintro ⟨i, h1, h2⟩; rw [hr i h1] at h2; cases h2), if_neg (by simp [h5]), if_neg (by rintro ⟨i, h1, h2⟩; rw [hp i h1] at h2; cases h2)]
theorem szOp_of {o : OpM} (h : OkOp o) : SzOp o := ⟨by have := h.ntexts; omega, by have := h.npairs; omega, by have := h.nrefs; omega⟩
def postB (p : PostM) : List Int := intM (if p.Main = true then 1 else 0) ++ strsM p.Path
def tailB (e : EventM) : List Int :=
  if e.Kind = 0 then opB e.Op
  else if e.Kind = 2 then intsM [e.Term.Kind, e.Term.Lang] ++ strsM (e.Term.Name :: e.Term.See :: e.Term.Broader)
  else if e.Kind = 3 ∨ e.Kind = 4 then intsM (idI e.ID) ++ intM e.Posts.length ++ e.Posts.flatMap postB
  else if e.Kind = 5 ∨ e.Kind = 6 then intsM (idI e.ID ++ [e.N])
  else []
def headB (e : EventM) : List Int := intsM [e.By, e.Seq, e.Tick, e.Kind] ++ intsM (e.Refs.flatMap nameI)
def evB (e : EventM) : List Int := headB e ++ tailB e
theorem intsM_le {l : List Int} (h : ∀ x ∈ l, I64 x) (hl : l.length ≤ 1000000) : (intsM l).length ≤ 9 + 9 * l.length := intsN_le h (Nat.le_refl _) hl
theorem strsM_le {l : List ByteArray} (h : ∀ s ∈ l, s.size ≤ 1000000) (hl : l.length ≤ 1000000) : (strsM l).length ≤ 9 + 1000009 * l.length := strsN_le h (Nat.le_refl _) hl
theorem postB_le {p : PostM} (h : p.Path.length ≤ 3000 ∧ ∀ s ∈ p.Path, s.size ≤ 900000) : (postB p).length ≤ 3000030000 := by
  have h1 := strsM_le (l := p.Path) (fun s hs => by have := h.2 s hs; omega) (by omega)
  have h2 : (intM (if p.Main = true then 1 else 0)).length ≤ 9 := intM_le (by split <;> (unfold I64; omega))
  have h3 : 1000009 * p.Path.length ≤ 1000009 * 3000 := Nat.mul_le_mul_left _ h.1
  simp only [postB, List.length_append]
  omega
theorem postsB_le {e : EventM} (h : OkEv e) (i : Nat) (hi : i ≤ e.Posts.length) : (flatN postB e.Posts i).length ≤ 3000030000 * i := by
  have h1 := flat_le postB 3000030000 (preM e.Posts i) fun p hp => postB_le (h.posts p (mem_preM hp)).2
  rw [preM_len _ _ hi] at h1
  exact h1
theorem nameI_ok {e : EventM} (h : OkEv e) : ∀ x ∈ e.Refs.flatMap nameI, I64 x := fun x hx => by
  obtain ⟨p, hp, hx⟩ := List.mem_flatMap.1 hx
  have := h.refs p hp
  simp only [nameI, List.mem_cons, List.not_mem_nil, or_false] at hx
  rcases hx with rfl | rfl
  · exact this.1
  · exact this.2
end Go.Proofs.Ytabjaaonfaejmaa

namespace Go.Proofs.Ytabjaaonfaejmaa
open Go.Av
set_option maxRecDepth 100000 in
set_option maxHeartbeats 2000000 in
theorem valid_ok (G) (e : EventM) (h : OkEv e) : Gives Try.prog G 11 [eventD e] [iD (validM e)] := by
  have hnr := h.nrefs
  have hnp := h.nposts
  have hnb := h.nbroader
  have hoz := szOp_of h.op
  have hol := h.op.all
  skip
  refine gives_intro [] [] [] Try.func11 rfl (by rfl) (by simp [Try.ntmps11]) fun F hP hG hN hR => ?_
  rw [Try.ntmps11] at hN
  have hA := And.intro hN (And.intro hP (And.intro hG (And.intro hR.1 (And.intro hR.2.1 hR.2.2.1))))
  have hE := And.intro @Try.results11 (And.intro @eqName (And.intro @eqId (@str_beq)))
  refine WS [1] [1] ?_
  have hc := gvF hP hG (of_ok G e.Kind)
  refine WSc [1, 3] [1, 3] ?_
  apply aw_seq
  apply aw_regs [1, 3, 39] [1, 3]
  · simp (maxSteps := 2000000) (disch := omega) only [avR2, avA, datsOf, fillA, seval, ↓List.forall_mem_cons, Op.operands, hA, tiA, hE]
    (repeat' refine And.intro ?_ ?_) <;> try exact SD
    refine CallGC.use rfl (fun hg => ⟨by first | trivial | (simp only [gdAll, AV.gd, avA, seval]; (repeat' apply And.intro) <;> first | trivial | rfl | exact hg) | simp_all [gdAll], gvF hP hG (wop_ok G e.Op h.op)⟩) ?_
    try simp (maxSteps := 2000000) (disch := omega) only [avR2, avA, datsOf, fillA, seval, ↓List.forall_mem_cons, Op.operands, hA, tiA, hE]
    exact SC
  refine WI (fun hb => ?_) (fun hb => ?_)
  · skip
    have hv := valid_lim (e := e) (by unfold limM; grind)
    have hE := And.intro hE hv
    refine WS [2] [] ?_
    apply aw_ret
    apply q_ret_seq
    simp only [QRet, QRetM, QRetX, retsX_nil, retsX_cons, objsAre, resA, mapO_nil, mapO_cons, vD_dat, vD_nils, vD_rp, vD_osl, vD_ptr, vD_agg, vD_fn, vD_isl, vL_dat, vL_app, viewL, avA, datsOf, fillA, seval, ↓List.forall_mem_cons, Op.operands, hP, hG, tiA, hE]
    all_goals try (first | done | rfl | trivial)
  · skip
    have h0 : limM e = false := by unfold limM; grind
    apply aw_skip
    apply q_seq
    apply aw_seq
    apply aw_block
    apply aw_regs [1, 3, 40] [1, 3]
    · simp (maxSteps := 2000000) (disch := omega) only [avR2, avA, datsOf, fillA, seval, ↓List.forall_mem_cons, Op.operands, hA, tiA, hE]
      (repeat' refine And.intro ?_ ?_) <;> try exact SD
      refine CallC.use (gvF hP hG (name_ok G e)) rfl ?_
      try simp (maxSteps := 2000000) (disch := omega) only [avR2, avA, datsOf, fillA, seval, ↓List.forall_mem_cons, Op.operands, hA, tiA, hE]
      (repeat' refine And.intro ?_ ?_) <;> try exact SD
      refine CallC.use (gvF hP hG (possible_ok G (evName e))) rfl ?_
      try simp (maxSteps := 2000000) (disch := omega) only [avR2, avA, datsOf, fillA, seval, ↓List.forall_mem_cons, Op.operands, hA, tiA, hE]
      (repeat' refine And.intro ?_ ?_) <;> try exact SD
      refine CallGC.use rfl (fun hg => ⟨by first | trivial | (simp only [gdAll, AV.gd, avA, seval]; (repeat' apply And.intro) <;> first | trivial | rfl | exact hg) | simp_all [gdAll], gvF hP hG (within_ok G e.Tick 1048576)⟩) ?_
      try simp (maxSteps := 2000000) (disch := omega) only [avR2, avA, datsOf, fillA, seval, ↓List.forall_mem_cons, Op.operands, hA, tiA, hE]
      (repeat' refine And.intro ?_ ?_) <;> try exact SD
      refine CallGC.use rfl (fun hg => ⟨by first | trivial | (simp only [gdAll, AV.gd, avA, seval]; (repeat' apply And.intro) <;> first | trivial | rfl | exact hg) | simp_all [gdAll], gvF hP hG (within_ok G e.Kind 6)⟩) ?_
      try simp (maxSteps := 2000000) (disch := omega) only [avR2, avA, datsOf, fillA, seval, ↓List.forall_mem_cons, Op.operands, hA, tiA, hE]
      exact SC
    refine WI (fun hb => ?_) (fun hb => ?_)
    · skip
      have hv := valid_123 h0 (.inl (by unfold bad1; grind))
      have hE := And.intro hE hv
      refine WS [2] [] ?_
      apply aw_ret
      apply q_ret_block
      apply q_ret_seq
      simp only [QRet, QRetM, QRetX, retsX_nil, retsX_cons, objsAre, resA, mapO_nil, mapO_cons, vD_dat, vD_nils, vD_rp, vD_osl, vD_ptr, vD_agg, vD_fn, vD_isl, vL_dat, vL_app, viewL, avA, datsOf, fillA, seval, ↓List.forall_mem_cons, Op.operands, hP, hG, tiA, hE]
      all_goals try (first | done | rfl | trivial)
    · skip
      have h1 : bad1 e = false := by unfold bad1; grind
      apply aw_regs [1, 3, 57] [1, 3]
      · simp (maxSteps := 2000000) (disch := omega) only [avR2, avA, datsOf, fillA, seval, ↓List.forall_mem_cons, Op.operands, hA, tiA, hE]
        (repeat' refine And.intro ?_ ?_) <;> try exact SD
        refine CallGC.use rfl (fun hg => ⟨by first | trivial | (simp only [gdAll, AV.gd, avA, seval]; (repeat' apply And.intro) <;> first | trivial | rfl | exact hg) | simp_all [gdAll], gvF hP hG (sop_ok G e.Op zOp hoz)⟩) ?_
        try simp (maxSteps := 2000000) (disch := omega) only [avR2, avA, datsOf, fillA, seval, ↓List.forall_mem_cons, Op.operands, hA, tiA, hE]
        (repeat' refine And.intro ?_ ?_) <;> try exact SD
        refine CallGC.use rfl (fun hg => ⟨by first | trivial | (simp only [gdAll, AV.gd, avA, seval]; (repeat' apply And.intro) <;> first | trivial | rfl | exact hg) | simp_all [gdAll], gvF hP hG (sterm_ok G e.Term zTerm (by omega))⟩) ?_
        try simp (maxSteps := 2000000) (disch := omega) only [avR2, avA, datsOf, fillA, seval, ↓List.forall_mem_cons, Op.operands, hA, tiA, hE]
        exact SC
      refine WI (fun hb => ?_) (fun hb => ?_)
      · skip
        have hv := valid_123 h0 (.inr (.inl (by unfold bad2; grind)))
        have hE := And.intro hE hv
        refine WS [2] [] ?_
        apply aw_ret
        apply q_ret_block
        apply q_ret_seq
        simp only [QRet, QRetM, QRetX, retsX_nil, retsX_cons, objsAre, resA, mapO_nil, mapO_cons, vD_dat, vD_nils, vD_rp, vD_osl, vD_ptr, vD_agg, vD_fn, vD_isl, vL_dat, vL_app, viewL, avA, datsOf, fillA, seval, ↓List.forall_mem_cons, Op.operands, hP, hG, tiA, hE]
        all_goals try (first | done | rfl | trivial)
      · skip
        have h2 : bad2 e = false := by unfold bad2; grind
        apply aw_regs [1, 3, 80] [1, 3]
        · simp (maxSteps := 2000000) (disch := omega) only [avR2, avA, datsOf, fillA, seval, ↓List.forall_mem_cons, Op.operands, hA, tiA, hE]
          (repeat' refine And.intro ?_ ?_) <;> try exact SD
          refine CallGC.use rfl (fun hg => ⟨by first | trivial | (simp only [gdAll, AV.gd, avA, seval]; (repeat' apply And.intro) <;> first | trivial | rfl | exact hg) | simp_all [gdAll], gvF hP hG (within_ok G e.N 1048576)⟩) ?_
          try simp (maxSteps := 2000000) (disch := omega) only [avR2, avA, datsOf, fillA, seval, ↓List.forall_mem_cons, Op.operands, hA, tiA, hE]
          exact SC
        refine WI (fun hb => ?_) (fun hb => ?_)
        · skip
          have hv := valid_123 h0 (.inr (.inr (by unfold bad3 sameID; grind)))
          have hE := And.intro hE hv
          refine WS [2] [] ?_
          apply aw_ret
          apply q_ret_block
          apply q_ret_seq
          simp only [QRet, QRetM, QRetX, retsX_nil, retsX_cons, objsAre, resA, mapO_nil, mapO_cons, vD_dat, vD_nils, vD_rp, vD_osl, vD_ptr, vD_agg, vD_fn, vD_isl, vL_dat, vL_app, viewL, avA, datsOf, fillA, seval, ↓List.forall_mem_cons, Op.operands, hP, hG, tiA, hE]
          all_goals try (first | done | rfl | trivial)
        · skip
          have h3 : bad3 e = false ∧ withinM e.N 1048576 = true := by unfold bad3 sameID; grind
          have h123 := And.intro h1 (And.intro h2 h3)
          apply aw_skip
          apply q_block
          apply q_seq
          apply aw_seq
          refine WS [1, 3, 118, 119, 120] [1, 3] ?_
          apply aw_block
          refine WL (ι := {i : Nat // i ≤ e.Refs.length ∧ ∀ j, j < i → badRef e j = false}) [1, 3, 118, 119] [1, 3] (fun ⟨i, hic⟩ => [(120, .dat (iD i))]) (fun ⟨i, hic⟩ => []) (fun ⟨i, hic⟩ => e.Refs.length - i) (⟨0, by omega, none0⟩) ?_
          rintro ⟨i, hic⟩
          dsimp only [List.cons_append, List.nil_append]
          obtain ⟨hi, hall⟩ := id hic
          have hi1 : ((i : Int) - 1).toNat = i - 1 := by omega
          have hE := And.intro hE hi1
          refine WS [1, 3, 118, 119, 120, 121] [1, 3] ?_
          apply aw_seq
          refine WI (fun hb => ?_) (fun hb => ?_)
          · skip
            apply aw_skip
            apply q_seq
            apply aw_seq
            apply aw_block
            refine WS [1, 3, 4, 5, 118, 119, 120] [1, 3, 5] ?_
            apply aw_rgds [1, 3, 118, 119, 120, 148] [1, 3] [0, 1, 2, 3, 4, 5, 6, 7, 8, 9, 10, 11, 12, 13, 14, 15, 16, 17, 18, 19, 20, 21, 22, 23] []
            · rw [hP]; kernel_rfl
            · exact hR
            · kernel_rfl
            · (repeat (apply PickL.cons; exact rfl)); exact PickL.nil _
            · simp (maxSteps := 2000000) (disch := omega) only [avR2, avA, datsOf, fillA, seval, ↓List.forall_mem_cons, Op.operands, hA, tiA, hE]
              (repeat' refine And.intro ?_ ?_) <;> try exact SD
              refine CallC.use (gvF hP hG (possible_ok G (e.Refs.getD i default))) rfl ?_
              try simp (maxSteps := 2000000) (disch := omega) only [avR2, avA, datsOf, fillA, seval, ↓List.forall_mem_cons, Op.operands, hA, tiA, hE]
              (repeat' refine And.intro ?_ ?_) <;> try exact SD
              refine CallGC.use rfl (fun hg => ⟨by first | trivial | (simp only [gdAll, AV.gd, avA, seval]; (repeat' apply And.intro) <;> first | trivial | rfl | exact hg) | simp_all [gdAll], gvF hP hG (name_ok G e)⟩) ?_
              try simp (maxSteps := 2000000) (disch := omega) only [avR2, avA, datsOf, fillA, seval, ↓List.forall_mem_cons, Op.operands, hA, tiA, hE]
              (repeat' refine And.intro ?_ ?_) <;> try exact SD
              refine CallGC.use rfl (fun hg => ⟨by first | trivial | (simp only [gdAll, AV.gd, avA, seval]; (repeat' apply And.intro) <;> first | trivial | rfl | exact hg) | simp_all [gdAll], gvF hP hG (less_ok G (e.Refs.getD (i - 1) default) (e.Refs.getD i default))⟩) ?_
              try simp (maxSteps := 2000000) (disch := omega) only [avR2, avA, datsOf, fillA, seval, ↓List.forall_mem_cons, Op.operands, hA, tiA, hE]
              exact SC
            refine WI (fun hb => ?_) (fun hb => ?_)
            · skip
              have hv := valid_ref h0 h123 (i := i) (by omega) (by unfold badRef sameName; grind)
              have hE := And.intro hE hv
              refine WS [2] [] ?_
              apply aw_ret
              apply q_ret_block
              apply q_ret_seq
              apply q_ret_loop
              apply q_ret_block
              apply q_ret_seq
              simp only [QRet, QRetM, QRetX, retsX_nil, retsX_cons, objsAre, resA, mapO_nil, mapO_cons, vD_dat, vD_nils, vD_rp, vD_osl, vD_ptr, vD_agg, vD_fn, vD_isl, vL_dat, vL_app, viewL, avA, datsOf, fillA, seval, ↓List.forall_mem_cons, Op.operands, hP, hG, tiA, hE]
              all_goals try (first | done | rfl | trivial)
            · skip
              have hnb1 : badRef e i = false := by unfold badRef sameName; grind
              apply aw_skip
              apply q_block
              apply q_seq
              refine WQ [1, 3, 118, 119, 120] [1, 3] ?_
              refine WN (⟨i + 1, by omega, allstep hic.2 hnb1⟩)
          · skip
            apply aw_exit
            apply q_exit_seq
            obtain rfl : i = e.Refs.length := by omega
            apply q_exit_loop
            apply q_exit
            apply q_seq
            apply aw_seq
            refine WS [1, 3, 6] [1, 3, 6] ?_
            apply aw_regs [1, 188] [1]
            · simp (maxSteps := 2000000) (disch := omega) only [avR2, avA, datsOf, fillA, seval, ↓List.forall_mem_cons, Op.operands, hA, tiA, hE]
              (repeat' refine And.intro ?_ ?_) <;> try exact SD
              refine CallGC.use rfl (fun hg => ⟨by first | trivial | (simp only [gdAll, AV.gd, avA, seval]; (repeat' apply And.intro) <;> first | trivial | rfl | exact hg) | simp_all [gdAll], gvF hP hG (word_ok' G e.Term.Name (by have := h.name; omega))⟩) ?_
              try simp (maxSteps := 2000000) (disch := omega) only [avR2, avA, datsOf, fillA, seval, ↓List.forall_mem_cons, Op.operands, hA, tiA, hE]
              (repeat' refine And.intro ?_ ?_) <;> try exact SD
              refine CallGC.use rfl (fun hg => ⟨by first | trivial | (simp only [gdAll, AV.gd, avA, seval]; (repeat' apply And.intro) <;> first | trivial | rfl | exact hg) | simp_all [gdAll], gvF hP hG (word_ok' G e.Term.See (by have := h.see; omega))⟩) ?_
              try simp (maxSteps := 2000000) (disch := omega) only [avR2, avA, datsOf, fillA, seval, ↓List.forall_mem_cons, Op.operands, hA, tiA, hE]
              (repeat' refine And.intro ?_ ?_) <;> try exact SD
              refine CallGC.use rfl (fun hg => ⟨by first | trivial | (simp only [gdAll, AV.gd, avA, seval]; (repeat' apply And.intro) <;> first | trivial | rfl | exact hg) | simp_all [gdAll], gvF hP hG (within_ok G e.Term.Kind 2)⟩) ?_
              try simp (maxSteps := 2000000) (disch := omega) only [avR2, avA, datsOf, fillA, seval, ↓List.forall_mem_cons, Op.operands, hA, tiA, hE]
              (repeat' refine And.intro ?_ ?_) <;> try exact SD
              refine CallGC.use rfl (fun hg => ⟨by first | trivial | (simp only [gdAll, AV.gd, avA, seval]; (repeat' apply And.intro) <;> first | trivial | rfl | exact hg) | simp_all [gdAll], gvF hP hG (within_ok G e.Term.Lang 3)⟩) ?_
              try simp (maxSteps := 2000000) (disch := omega) only [avR2, avA, datsOf, fillA, seval, ↓List.forall_mem_cons, Op.operands, hA, tiA, hE]
              (repeat' refine And.intro ?_ ?_) <;> try exact SD
              refine CallGC.use rfl (fun hg => ⟨by first | trivial | (simp only [gdAll, AV.gd, avA, seval]; (repeat' apply And.intro) <;> first | trivial | rfl | exact hg) | simp_all [gdAll], gvF hP hG (words_ok G e.Term.Broader (by omega) (fun s hs => by have := h.broader s hs; omega))⟩) ?_
              try simp (maxSteps := 2000000) (disch := omega) only [avR2, avA, datsOf, fillA, seval, ↓List.forall_mem_cons, Op.operands, hA, tiA, hE]
              exact SC
            refine WI (fun hb => ?_) (fun hb => ?_)
            · skip
              have hv := valid_5 h0 h123 hall (by unfold bad5; grind)
              have hE := And.intro hE hv
              refine WS [2] [] ?_
              apply aw_ret
              apply q_ret_seq
              simp only [QRet, QRetM, QRetX, retsX_nil, retsX_cons, objsAre, resA, mapO_nil, mapO_cons, vD_dat, vD_nils, vD_rp, vD_osl, vD_ptr, vD_agg, vD_fn, vD_isl, vL_dat, vL_app, viewL, avA, datsOf, fillA, seval, ↓List.forall_mem_cons, Op.operands, hP, hG, tiA, hE]
              all_goals try (first | done | rfl | trivial)
            · skip
              have h5 : bad5 e = false := by unfold bad5; grind
              apply aw_skip
              apply q_seq
              apply aw_seq
              refine WS [1, 190, 191, 192] [1] ?_
              apply aw_block
              refine WL (ι := {i : Nat // i ≤ e.Posts.length ∧ ∀ j, j < i → badPost e j = false}) [1, 190, 191] [1] (fun ⟨i, hic⟩ => [(192, .dat (iD i))]) (fun ⟨i, hic⟩ => []) (fun ⟨i, hic⟩ => e.Posts.length - i) (⟨0, by omega, none0⟩) ?_
              rintro ⟨i, hic⟩
              dsimp only [List.cons_append, List.nil_append]
              obtain ⟨hi, hallp⟩ := id hic
              refine WS [1, 190, 191, 192, 193] [1] ?_
              apply aw_seq
              refine WI (fun hb => ?_) (fun hb => ?_)
              · skip
                have hp := getD_all h.posts (i := i) (by omega)
                apply aw_skip
                apply q_seq
                apply aw_seq
                apply aw_block
                refine WS [1, 8, 190, 191, 192] [1, 8] ?_
                apply aw_regs [1, 190, 191, 192, 218] [1]
                · simp (maxSteps := 2000000) (disch := omega) only [avR2, avA, datsOf, fillA, seval, ↓List.forall_mem_cons, Op.operands, hA, tiA, hE]
                  (repeat' refine And.intro ?_ ?_) <;> try exact SD
                  refine CallGC.use rfl (fun hg => ⟨by first | trivial | (simp only [gdAll, AV.gd, avA, seval]; (repeat' apply And.intro) <;> first | trivial | rfl | exact hg) | simp_all [gdAll], gvF hP hG (words_ok G (e.Posts.getD i default).Path (by omega) (fun s hs => by have := hp.2.2 s hs; omega))⟩) ?_
                  try simp (maxSteps := 2000000) (disch := omega) only [avR2, avA, datsOf, fillA, seval, ↓List.forall_mem_cons, Op.operands, hA, tiA, hE]
                  exact SC
                refine WI (fun hb => ?_) (fun hb => ?_)
                · skip
                  have hv := valid_post h0 h123 hall h5 (i := i) (by omega) (by unfold badPost sameID; grind)
                  have hE := And.intro hE hv
                  refine WS [2] [] ?_
                  apply aw_ret
                  apply q_ret_block
                  apply q_ret_seq
                  apply q_ret_loop
                  apply q_ret_block
                  apply q_ret_seq
                  simp only [QRet, QRetM, QRetX, retsX_nil, retsX_cons, objsAre, resA, mapO_nil, mapO_cons, vD_dat, vD_nils, vD_rp, vD_osl, vD_ptr, vD_agg, vD_fn, vD_isl, vL_dat, vL_app, viewL, avA, datsOf, fillA, seval, ↓List.forall_mem_cons, Op.operands, hP, hG, tiA, hE]
                  all_goals try (first | done | rfl | trivial)
                · skip
                  have hnb1 : badPost e i = false := by unfold badPost sameID; grind
                  apply aw_skip
                  apply q_block
                  apply q_seq
                  refine WQ [1, 190, 191, 192] [1] ?_
                  refine WN (⟨i + 1, by omega, allstep hic.2 hnb1⟩)
              · skip
                apply aw_exit
                apply q_exit_seq
                obtain rfl : i = e.Posts.length := by omega
                have hv := valid_all h0 h123 hall h5 hallp
                have hE := And.intro hE hv
                apply q_exit_loop
                apply q_exit
                apply q_seq
                refine WS [2] [] ?_
                apply aw_ret
                simp only [QRet, QRetM, QRetX, retsX_nil, retsX_cons, objsAre, resA, mapO_nil, mapO_cons, vD_dat, vD_nils, vD_rp, vD_osl, vD_ptr, vD_agg, vD_fn, vD_isl, vL_dat, vL_app, viewL, avA, datsOf, fillA, seval, ↓List.forall_mem_cons, Op.operands, hP, hG, tiA, hE]
                all_goals try (first | done | rfl | trivial)
end Go.Proofs.Ytabjaaonfaejmaa

namespace Go.Proofs.Ytabjaaonfaejmaa
open Go.Av
def cmpM (a b : EventM) : Int := if beforeM a b = true then -1 else if beforeM b a = true then 1 else 0
theorem cmpM_neg (a b : EventM) : cmpM a b < 0 ↔ beforeM a b = true := by
  unfold cmpM
  split
  · simp [*]
  · split <;> simp [*]
def swapM (l : List EventM) (j : Nat) : List EventM := (l.set j (l.getD (j - 1) default)).set (j - 1) (l.getD j default)
theorem swapM_len (l : List EventM) (j : Nat) : (swapM l j).length = l.length := by simp [swapM]
def downM (l : List EventM) : Nat → List EventM
  | 0 => l
  | j + 1 => if beforeM (l.getD (j + 1) default) (l.getD j default) = true then downM (swapM l (j + 1)) j else l
theorem downM_len (l : List EventM) : ∀ j (l : List EventM), (downM l j).length = l.length
  | 0, _ => rfl
  | j + 1, l => by
    rw [downM]
    split
    · rw [downM_len l j, swapM_len]
    · rfl
def insM (l : List EventM) : Nat → List EventM
  | 0 => l
  | i + 1 => downM (insM l i) i
theorem insM_len (l : List EventM) : ∀ i, (insM l i).length = l.length
  | 0 => rfl
  | i + 1 => by rw [insM, downM_len (insM l i) i, insM_len l i]
def sortM (l : List EventM) : List EventM := insM l l.length
end Go.Proofs.Ytabjaaonfaejmaa

namespace Go.Proofs.Ytabjaaonfaejmaa
open Go.Av
theorem down_go {cur : List EventM} {j : Nat} (hj : 0 < j) (h : beforeM (cur.getD j default) (cur.getD (j - 1) default) = true) : downM cur j = downM (swapM cur j) (j - 1) := by
  obtain ⟨k, rfl⟩ : ∃ k, j = k + 1 := ⟨j - 1, by omega⟩
  rw [downM, if_pos (by simpa using h)]
  rfl
theorem down_stop {cur : List EventM} {j : Nat} (h : 0 < j → ¬ beforeM (cur.getD j default) (cur.getD (j - 1) default) = true) : downM cur j = cur := by
  cases j with
  | zero => rfl
  | succ k => rw [downM, if_neg (by simpa using h (by omega))]
theorem cmp_ok (G) (a b : EventM) : Gives Try.prog G 58 [eventD a, eventD b] [iD (cmpM a b)] := by
  refine gives_intro [] [] [] Try.func58 rfl (by rfl) (by simp [Try.ntmps58]) fun F hP hG hN hR => ?_
  rw [Try.ntmps58] at hN
  have hA := And.intro hN (And.intro hP (And.intro hG (And.intro hR.1 (And.intro hR.2.1 hR.2.2.1))))
  have hE := @Try.results58
  refine WS [2, 3] [2, 3] ?_
  apply aw_seq
  apply aw_block
  have hc := gvF hP hG (before_ok G a b)
  refine WSc [2, 3, 5] [2, 3] ?_
  refine WI (fun hb => ?_) (fun hb => ?_)
  · skip
    have hv : cmpM a b = -1 := by unfold cmpM; rw [if_pos hb]
    have hE := And.intro hE hv
    refine WS [4] [] ?_
    apply aw_ret
    apply q_ret_block
    apply q_ret_seq
    simp only [QRet, QRetM, QRetX, retsX_nil, retsX_cons, objsAre, resA, mapO_nil, mapO_cons, vD_dat, vD_nils, vD_rp, vD_osl, vD_ptr, vD_agg, vD_fn, vD_isl, vL_dat, vL_app, viewL, avA, datsOf, fillA, seval, ↓List.forall_mem_cons, Op.operands, hP, hG, tiA, hE]
    all_goals try (first | done | rfl | trivial)
  · skip
    have h0 : ¬ beforeM a b = true := by rw [hb]; exact Bool.false_ne_true
    have hc := gvF hP hG (before_ok G b a)
    refine WSc [9] [] ?_
    refine WI (fun hb => ?_) (fun hb => ?_)
    · skip
      have hv : cmpM a b = 1 := by unfold cmpM; rw [if_neg h0, if_pos hb]
      have hE := And.intro hE hv
      refine WS [4] [] ?_
      apply aw_ret
      apply q_ret_block
      apply q_ret_seq
      simp only [QRet, QRetM, QRetX, retsX_nil, retsX_cons, objsAre, resA, mapO_nil, mapO_cons, vD_dat, vD_nils, vD_rp, vD_osl, vD_ptr, vD_agg, vD_fn, vD_isl, vL_dat, vL_app, viewL, avA, datsOf, fillA, seval, ↓List.forall_mem_cons, Op.operands, hP, hG, tiA, hE]
      all_goals try (first | done | rfl | trivial)
    · skip
      have hv : cmpM a b = 0 := by unfold cmpM; rw [if_neg h0, if_neg (by rw [hb]; exact Bool.false_ne_true)]
      have hE := And.intro hE hv
      apply aw_skip
      apply q_block
      apply q_seq
      refine WS [4] [] ?_
      apply aw_ret
      simp only [QRet, QRetM, QRetX, retsX_nil, retsX_cons, objsAre, resA, mapO_nil, mapO_cons, vD_dat, vD_nils, vD_rp, vD_osl, vD_ptr, vD_agg, vD_fn, vD_isl, vL_dat, vL_app, viewL, avA, datsOf, fillA, seval, ↓List.forall_mem_cons, Op.operands, hP, hG, tiA, hE]
      all_goals try (first | done | rfl | trivial)
theorem isort_ok (G) (l : List EventM) (hn : l.length ≤ 1000) : GivesX Try.prog G 106 [.osl 1000 32 0 l.length, .dat (iD 0), .dat (iD l.length), .fn 58 []] [(1000, ⟨32, (l.map eventD).map .dat⟩)] [] [(1000, ⟨32, ((sortM l).map eventD).map .dat⟩)] := by
  skip
  skip
  refine gives_introX' [] [] [] Try.func106 rfl (by rfl) (by simp [Try.ntmps106]) (by kernel_rfl) (by simp [onlyL_nil, onlyL_cons, AV.only, inIds]) (by simp only [onlyOs, onlyL_nil, onlyL_cons, onlyL_append, onlyL_dats, onlyL_row, AV.only, Bool.and_true] <;> simp [inIds]) fun F hP hG hN hR => ?_
  rw [Try.ntmps106] at hN
  have hA := And.intro hN (And.intro hP (And.intro hG (And.intro hR.1 (And.intro hR.2.1 hR.2.2.1))))
  have hE := And.intro @Try.results106 (And.intro @set_row (And.intro @List.length_set.{0} (@swapM.eq_1)))
  refine WS [0, 1, 2, 3, 8] [1000] ?_
  apply aw_block
  have h1 : insM l 1 = l := rfl
  have hE := And.intro hE h1
  refine WL (ι := {i : Nat // 1 ≤ i ∧ (i ≤ l.length ∨ i = 1)}) [0, 1, 2, 3] [] (fun ⟨i, hi⟩ => [(8, .dat (iD i))]) (fun ⟨i, hi⟩ => [(1000, ⟨32, ((insM l i).map eventD).map .dat⟩)]) (fun ⟨i, hi⟩ => l.length - i) (⟨1, by omega⟩) ?_
  rintro ⟨i, hi⟩
  dsimp only [List.cons_append, List.nil_append]
  obtain ⟨hi1, hi2⟩ := hi
  have hil := insM_len l i
  apply aw_seq
  refine WS [0, 1, 2, 3, 8, 14] [1000] ?_
  refine WI (fun hb => ?_) (fun hb => ?_)
  · skip
    apply aw_skip
    apply q_seq
    apply aw_seq
    apply aw_block
    refine WS [0, 1, 2, 3, 8, 9] [1000] ?_
    apply aw_block
    refine WL (ι := {p : Nat × List EventM // p.1 ≤ i ∧ p.2.length = l.length ∧ downM p.2 p.1 = downM (insM l i) i}) [0, 1, 2, 3, 8] [] (fun ⟨⟨j, cur⟩, hp⟩ => [(9, .dat (iD j))]) (fun ⟨⟨j, cur⟩, hp⟩ => [(1000, ⟨32, (cur.map eventD).map .dat⟩)]) (fun ⟨⟨j, cur⟩, hp⟩ => j) (⟨(i, insM l i), by simp [hil]⟩) ?_
    rintro ⟨⟨j, cur⟩, hp⟩
    dsimp only [List.cons_append, List.nil_append]
    obtain ⟨hp1, hp2, hp3⟩ := hp
    dsimp only at hp1 hp2 hp3
    have hj1 : ((j : Int) - 1).toNat = j - 1 := by omega
    have hE := And.intro hE hj1
    have hcn := cmpM_neg (cur.getD j default) (cur.getD (j - 1) default)
    apply aw_seq
    apply aw_rgds [0, 1, 2, 3, 8, 9, 34] [1000] [0, 1, 2, 3, 4, 5, 6, 7, 8, 9, 10, 11, 12, 13, 14, 15, 16] []
    · rw [hP]; kernel_rfl
    · exact hR
    · kernel_rfl
    · (repeat (apply PickL.cons; exact rfl)); exact PickL.nil _
    · simp (maxSteps := 2000000) (disch := omega) only [avR2, avA, datsOf, fillA, seval, ↓List.forall_mem_cons, Op.operands, hA, tiA, hE]
      (repeat' refine And.intro ?_ ?_) <;> try exact SD
      refine CallGC.use rfl (fun hg => ⟨by first | trivial | (simp only [gdAll, AV.gd, avA, seval]; (repeat' apply And.intro) <;> first | trivial | rfl | exact hg) | simp_all [gdAll], gvF hP hG (cmp_ok G (cur.getD j default) (cur.getD (j - 1) default))⟩) ?_
      try simp (maxSteps := 2000000) (disch := omega) only [avR2, avA, datsOf, fillA, seval, ↓List.forall_mem_cons, Op.operands, hA, tiA, hE]
      exact SC
    refine WI (fun hb => ?_) (fun hb => ?_)
    · skip
      have hbf := hcn.1 hb.2
      have hdn := down_go (cur := cur) (j := j) (by omega) hbf
      have hls : (cur.set j (cur.getD (j - 1) default)).length = cur.length := by simp
      apply aw_skip
      apply q_seq
      apply aw_seq
      apply aw_block
      refine WDQ [0, 1, 2, 3, 8, 9] [1000] [0, 1, 5, 6, 7, 8, 9, 10, 11, 12, 13, 14, 15, 2, 3, 4, 16, 17] [] ?_
      apply q_block
      apply q_seq
      refine WQ [0, 1, 2, 3, 8, 9] [1000] ?_
      refine WN (⟨(j - 1, swapM cur j), by dsimp only; exact ⟨by omega, by rw [swapM_len]; exact hp2, by rw [← hdn]; exact hp3⟩⟩)
    · skip
      have hdn : downM cur j = cur := down_stop fun h => mt hcn.2 (by grind)
      apply aw_exit
      apply q_exit_seq
      have hcur : cur = insM l (i + 1) := by rw [insM, ← hp3, hdn]
      subst hcur
      apply q_exit_loop
      apply q_exit
      apply q_block
      apply q_seq
      refine WQ [0, 1, 2, 3, 8] [1000] ?_
      refine WN (⟨i + 1, by omega⟩)
  · skip
    apply aw_exit
    apply q_exit_seq
    have hlast : insM l i = sortM l := by
      unfold sortM
      rcases hi2 with h | h
      · rw [show i = l.length by omega]
      · subst h
        rcases Nat.eq_zero_or_pos l.length with h0 | h0
        · rw [h0]; rfl
        · rw [show l.length = 1 by omega]
    have hE := And.intro hE hlast
    apply q_exit_loop
    apply q_exit
    simp only [QRet, QRetM, QRetX, retsX_nil, retsX_cons, objsAre, resA, mapO_nil, mapO_cons, vD_dat, vD_nils, vD_rp, vD_osl, vD_ptr, vD_agg, vD_fn, vD_isl, vL_dat, vL_app, viewL, avA, datsOf, fillA, seval, ↓List.forall_mem_cons, Op.operands, hP, hG, tiA, hE]
    all_goals try (first | done | rfl | trivial)
theorem stable_ok (G) (l : List EventM) (hn : l.length < 20) : GivesX Try.prog G 89 [.osl 1000 32 0 l.length, .dat (iD l.length), .fn 58 []] [(1000, ⟨32, (l.map eventD).map .dat⟩)] [] [(1000, ⟨32, ((sortM l).map eventD).map .dat⟩)] := by
  skip
  refine gives_introX' [] [27] [] Try.func89 rfl (by rfl) (by simp [Try.ntmps89]) (by kernel_rfl) (by simp [onlyL_nil, onlyL_cons, AV.only, inIds]) (by simp only [onlyOs, onlyL_nil, onlyL_cons, onlyL_append, onlyL_dats, onlyL_row, AV.only, Bool.and_true] <;> simp [inIds]) fun F hP hG hN hR => ?_
  rw [Try.ntmps89] at hN
  have hA := And.intro hN (And.intro hP (And.intro hG (And.intro hR.1 (And.intro hR.2.1 hR.2.2.1))))
  have hE := @Try.results89
  refine WS [0, 1, 2, 6] [1000] ?_
  refine WS [0, 1, 2, 6, 7, 8] [1000] ?_
  apply aw_seq
  apply aw_block
  refine WL (ι := Unit) [0, 1, 2, 6] [1000] (fun _u => [(7, .dat (iD 0)), (8, .dat (iD 20))]) (fun _u => []) (fun _u => 0) (()) ?_
  rintro _u
  dsimp only [List.cons_append, List.nil_append]
  apply aw_seq
  refine WS [0, 1, 2, 6, 7, 8, 13] [1000] ?_
  refine WI (fun hb => ?_) (fun hb => ?_)
  · skip
    exfalso
    omega --STOP
  · skip
    apply aw_exit
    apply q_exit_seq
    apply q_exit_loop
    apply q_exit
    apply q_seq
    apply aw_regs [0, 1, 2, 6] [1000]
    · simp (maxSteps := 2000000) (disch := omega) only [avR2, avA, datsOf, fillA, seval, ↓List.forall_mem_cons, Op.operands, hA, tiA, hE]
      (repeat' refine And.intro ?_ ?_) <;> try exact SD
      refine CallC.useX (fun _ => 1000) [] (by simp [LitD, hR.2.1]) (gvFX hP hG (isort_ok G l (by omega))) rfl (lentX_of hN (by first | trivial | ((try simp only [haveL, AObj.ren, AV.ren, renL, ren_row, List.map_cons, List.map_nil, objL_cons, objL_nil]) <;> ((repeat' apply And.intro) <;> first | trivial | rfl))) (by rfl)) ?_
      try simp (maxSteps := 2000000) (disch := omega) only [avR2, avA, datsOf, fillA, seval, ↓List.forall_mem_cons, Op.operands, hA, tiA, hE, avX]
      exact SC
    apply aw_block
    refine WL (ι := Unit) [0, 1, 2] [1000] (fun _u => [(6, .dat (iD 20))]) (fun _u => []) (fun _u => 0) (()) ?_
    rintro _u
    dsimp only [List.cons_append, List.nil_append]
    apply aw_seq
    refine WS [0, 1, 2, 6, 30] [1000] ?_
    refine WI (fun hb => ?_) (fun hb => ?_)
    · skip
      exfalso
      omega --STOP
    · skip
      apply aw_exit
      apply q_exit_seq
      apply q_exit_loop
      apply q_exit
      simp only [QRet, QRetM, QRetX, retsX_nil, retsX_cons, objsAre, resA, mapO_nil, mapO_cons, vD_dat, vD_nils, vD_rp, vD_osl, vD_ptr, vD_agg, vD_fn, vD_isl, vL_dat, vL_app, viewL, avA, datsOf, fillA, seval, ↓List.forall_mem_cons, Op.operands, hP, hG, tiA, hE]
      all_goals try (first | done | rfl | trivial)
theorem sortStable_ok (G) (l : List EventM) (hn : l.length < 20) : GivesX Try.prog G 57 [.osl 1000 32 0 l.length, .fn 58 []] [(1000, ⟨32, (l.map eventD).map .dat⟩)] [] [(1000, ⟨32, ((sortM l).map eventD).map .dat⟩)] := by
  skip
  refine gives_introX' [] [8] [] Try.func57 rfl (by rfl) (by simp [Try.ntmps57]) (by kernel_rfl) (by simp [onlyL_nil, onlyL_cons, AV.only, inIds]) (by simp only [onlyOs, onlyL_nil, onlyL_cons, onlyL_append, onlyL_dats, onlyL_row, AV.only, Bool.and_true] <;> simp [inIds]) fun F hP hG hN hR => ?_
  rw [Try.ntmps57] at hN
  have hA := And.intro hN (And.intro hP (And.intro hG (And.intro hR.1 (And.intro hR.2.1 hR.2.2.1))))
  have hE := @Try.results57
  apply aw_reg [] [1000]
  · simp (maxSteps := 2000000) (disch := omega) only [avR2, avA, datsOf, fillA, seval, ↓List.forall_mem_cons, Op.operands, hA, tiA, hE]
    (repeat' refine And.intro ?_ ?_) <;> try exact SD
    refine CallC.useX (fun _ => 1000) [] (by simp [LitD, hR.2.1]) (gvFX hP hG (stable_ok G l hn)) rfl (lentX_of hN (by first | trivial | ((try simp only [haveL, AObj.ren, AV.ren, renL, ren_row, List.map_cons, List.map_nil, objL_cons, objL_nil]) <;> ((repeat' apply And.intro) <;> first | trivial | rfl))) (by rfl)) ?_
    try simp (maxSteps := 2000000) (disch := omega) only [avR2, avA, datsOf, fillA, seval, ↓List.forall_mem_cons, Op.operands, hA, tiA, hE, avX]
    exact SC
  simp only [QRet, QRetM, QRetX, retsX_nil, retsX_cons, objsAre, resA, mapO_nil, mapO_cons, vD_dat, vD_nils, vD_rp, vD_osl, vD_ptr, vD_agg, vD_fn, vD_isl, vL_dat, vL_app, viewL, avA, datsOf, fillA, seval, ↓List.forall_mem_cons, Op.operands, hP, hG, tiA, hE]
  all_goals try (first | done | rfl | trivial)
theorem clone_okX (G) (l : List EventM) (hn : l.length ≤ 1000) : GivesX Try.prog G 56 [.dat (eventsD l)] [] [.osl 7 32 0 l.length] [(7, ⟨32, (l.map eventD).map .dat⟩)] := by
  refine gives_introX' [] [] [] Try.func56 rfl (by rfl) (by simp [Try.ntmps56]) (by kernel_rfl) (by simp [onlyL_nil, onlyL_cons, AV.only, inIds]) (by simp only [onlyOs, onlyL_nil, onlyL_cons, onlyL_append, onlyL_dats, onlyL_row, AV.only, Bool.and_true] <;> simp [inIds]) fun F hP hG hN hR => ?_
  rw [Try.ntmps56] at hN
  have hA := And.intro hN (And.intro hP (And.intro hG (And.intro hR.1 (And.intro hR.2.1 hR.2.2.1))))
  have hE := @Try.results56
  refine WS [0] [] ?_
  apply aw_seq
  refine aw_lists ?_
  apply al_seg
  · (iterate 1 apply Seg.cons); exact Seg.nil _
  · simp (maxSteps := 2000000) (disch := omega) only [avR2, avA, datsOf, fillA, seval, ↓List.forall_mem_cons, Op.operands, hA, tiA, hE, KeptS]
    exact SC
  refine al_eqnil rfl rfl rfl (by rw [hN]; omega) (by rw [hP]; exact ti40) rfl rfl fun b hb0 => ?_
  rw [of_put]
  apply al_last [0, 4] []
  · simp (maxSteps := 2000000) (disch := omega) only [avR2, avA, datsOf, fillA, seval, ↓List.forall_mem_cons, Op.operands, hA, tiA, hE]
    exact SC
  refine WI (fun hb => ?_) (fun hb => ?_)
  · skip
    have hl0 : l = [] := by
      cases l with
      | nil => rfl
      | cons x l =>
        rw [hb0 (by simp)] at hb
        cases hb
    subst hl0
    refine WS [2] [5, 7] ?_
    refine aw_new0 7 32 (by omega) ?_
    refine aw_nilE 2 7 32 rfl rfl ?_
    apply aw_ret
    apply q_ret_seq
    simp only [QRet, QRetM, QRetX, retsX_nil, retsX_cons, objsAre, resA, mapO_nil, mapO_cons, vD_dat, vD_nils, vD_rp, vD_osl, vD_ptr, vD_agg, vD_fn, vD_isl, vL_dat, vL_app, viewL, avA, datsOf, fillA, seval, ↓List.forall_mem_cons, Op.operands, hP, hG, tiA, hE]
    all_goals try (first | done | rfl | trivial)
  · skip
    apply aw_skip
    apply q_seq
    refine WS [2] [5, 7] ?_
    apply aw_ret
    simp only [QRet, QRetM, QRetX, retsX_nil, retsX_cons, objsAre, resA, mapO_nil, mapO_cons, vD_dat, vD_nils, vD_rp, vD_osl, vD_ptr, vD_agg, vD_fn, vD_isl, vL_dat, vL_app, viewL, avA, datsOf, fillA, seval, ↓List.forall_mem_cons, Op.operands, hP, hG, tiA, hE]
    all_goals try (first | done | rfl | trivial)
theorem sort_ok (G) (l : List EventM) (hn : l.length < 20) : Gives Try.prog G 19 [eventsD l] [eventsD (sortM l)] := by
  have hsl : (sortM l).length = l.length := insM_len l _
  skip
  skip
  refine gives_intro [] [5, 7] [] Try.func19 rfl (by rfl) (by simp [Try.ntmps19]) fun F hP hG hN hR => ?_
  rw [Try.ntmps19] at hN
  have hA := And.intro hN (And.intro hP (And.intro hG (And.intro hR.1 (And.intro hR.2.1 hR.2.2.1))))
  have hE := And.intro @Try.results19 (@hsl)
  refine WS [0] [5] ?_
  apply aw_regs [3] [5]
  · simp (maxSteps := 2000000) (disch := omega) only [avR2, avA, datsOf, fillA, seval, ↓List.forall_mem_cons, Op.operands, hA, tiA, hE]
    (repeat' refine And.intro ?_ ?_) <;> try exact SD
    refine CallC.useX (fun _ => 5) [7] (by simp [LitD, hR.2.1]) (gvFX hP hG (clone_okX G l (by omega))) rfl (lentX_of hN (by first | trivial | ((try simp only [haveL, AObj.ren, AV.ren, renL, ren_row, List.map_cons, List.map_nil, objL_cons, objL_nil]) <;> ((repeat' apply And.intro) <;> first | trivial | rfl))) (by rfl)) ?_
    try simp (maxSteps := 2000000) (disch := omega) only [avR2, avA, datsOf, fillA, seval, ↓List.forall_mem_cons, Op.operands, hA, tiA, hE, avX]
    exact SC
  apply aw_regs [3] [5]
  · simp (maxSteps := 2000000) (disch := omega) only [avR2, avA, datsOf, fillA, seval, ↓List.forall_mem_cons, Op.operands, hA, tiA, hE]
    (repeat' refine And.intro ?_ ?_) <;> try exact SD
    refine CallC.useX (fun _ => 5) [] (by simp [LitD, hR.2.1]) (gvFX hP hG (sortStable_ok G l hn)) rfl (lentX_of hN (by first | trivial | ((try simp only [haveL, AObj.ren, AV.ren, renL, ren_row, List.map_cons, List.map_nil, objL_cons, objL_nil]) <;> ((repeat' apply And.intro) <;> first | trivial | rfl))) (by rfl)) ?_
    try simp (maxSteps := 2000000) (disch := omega) only [avR2, avA, datsOf, fillA, seval, ↓List.forall_mem_cons, Op.operands, hA, tiA, hE, avX]
    exact SC
  refine WS [2] [5] ?_
  apply aw_ret
  simp only [QRet, QRetM, QRetX, retsX_nil, retsX_cons, objsAre, resA, mapO_nil, mapO_cons, vD_dat, vD_nils, vD_rp, vD_osl, vD_ptr, vD_agg, vD_fn, vD_isl, vL_dat, vL_app, viewL, avA, datsOf, fillA, seval, ↓List.forall_mem_cons, Op.operands, hP, hG, tiA, hE]
  all_goals try (first | done | rfl | trivial)
end Go.Proofs.Ytabjaaonfaejmaa

namespace Go.Proofs.Ytabjaaonfaejmaa
open Go.Av
def posM (x : EventM) (out : List EventM) : Nat → Nat
  | 0 => 0
  | k + 1 => if beforeM x (out.getD k default) = true then posM x out k else k + 1
theorem posM_le (x : EventM) (out : List EventM) : ∀ k, posM x out k ≤ k
  | 0 => Nat.le_refl _
  | k + 1 => by
    rw [posM]
    split
    · exact Nat.le_succ_of_le (posM_le x out k)
    · exact Nat.le_refl _
def insR (x : EventM) (out : List EventM) (p : Nat) : List EventM := out.take p ++ [x] ++ out.drop p
theorem insR_len (x : EventM) (out : List EventM) (p : Nat) (h : p ≤ out.length) : (insR x out p).length = out.length + 1 := by
  simp [insR]; omega
def rsN (l : List EventM) : Nat → List EventM
  | 0 => []
  | i + 1 => insR (l.getD i default) (rsN l i) (posM (l.getD i default) (rsN l i) (rsN l i).length)
theorem rsN_len (l : List EventM) : ∀ i, (rsN l i).length = i
  | 0 => rfl
  | i + 1 => by rw [rsN, insR_len _ _ _ (posM_le _ _ _), rsN_len l i]
theorem swapM_at (P : List EventM) (a x : EventM) (Q : List EventM) : swapM (P ++ a :: x :: Q) (P.length + 1) = P ++ x :: a :: Q := by
  simp [swapM, List.getD_eq_getElem?_getD]
theorem downM_pos (x : EventM) (A R : List EventM) : ∀ k, k ≤ A.length → downM (A.take k ++ x :: (A.drop k ++ R)) k = A.take (posM x A k) ++ x :: (A.drop (posM x A k) ++ R)
  | 0, _ => rfl
  | k + 1, h => by
    have ht : A.take (k + 1) = A.take k ++ [A.getD k default] := by
      rw [List.getD_eq_getElem?_getD, List.getElem?_eq_getElem h, Option.getD_some, List.take_append_getElem]
    have hd : A.drop k = A.getD k default :: A.drop (k + 1) := by
      rw [List.getD_eq_getElem?_getD, List.getElem?_eq_getElem h, Option.getD_some, List.drop_eq_getElem_cons h]
    have hl : (A.take k).length = k := by simp; omega
    have e : A.take (k + 1) ++ x :: (A.drop (k + 1) ++ R) = A.take k ++ A.getD k default :: x :: (A.drop (k + 1) ++ R) := by rw [ht]; simp
    rw [e, downM, posM]
    have g1 : (A.take k ++ A.getD k default :: x :: (A.drop (k + 1) ++ R)).getD (k + 1) default = x := by
      rw [List.getD_eq_getElem?_getD, List.getElem?_append_right (by omega), hl]
      simp
    have g0 : (A.take k ++ A.getD k default :: x :: (A.drop (k + 1) ++ R)).getD k default = A.getD k default := by
      rw [List.getD_eq_getElem?_getD, List.getElem?_append_right (by omega), hl]
      simp
    rw [g1, g0]
    split
    · have hs := swapM_at (A.take k) (A.getD k default) x (A.drop (k + 1) ++ R)
      rw [hl] at hs
      rw [hs]
      have := downM_pos x A R k (by omega)
      rw [hd] at this
      simpa using this
    · rw [e]
theorem insM_rs (l : List EventM) : ∀ i, i ≤ l.length → insM l i = rsN l i ++ l.drop i
  | 0, _ => rfl
  | i + 1, h => by
    have hd : l.drop i = l.getD i default :: l.drop (i + 1) := by
      rw [List.getD_eq_getElem?_getD, List.getElem?_eq_getElem h, Option.getD_some, List.drop_eq_getElem_cons h]
    rw [insM, insM_rs l i (by omega), rsN]
    have := downM_pos (l.getD i default) (rsN l i) (l.drop (i + 1)) i (by rw [rsN_len]; exact Nat.le_refl _)
    have hl := rsN_len l i
    rw [List.take_of_length_le (by omega), List.drop_of_length_le (by omega), List.nil_append, ← hd] at this
    rw [this, insR, rsN_len]
    simp
theorem rs_sort (l : List EventM) : rsN l l.length = sortM l := by
  have := insM_rs l l.length (Nat.le_refl _)
  rw [List.drop_of_length_le (Nat.le_refl _), List.append_nil] at this
  exact this.symm
end Go.Proofs.Ytabjaaonfaejmaa

namespace Go.Proofs.Ytabjaaonfaejmaa
open Go.Av
def isName (n : NameM) (e : EventM) : Bool := sameName (evName e) n
def findM (l : List EventM) (n : NameM) : Int := idxM (isName n) l
def anyN {α : Type} (p : α → Bool) (l : List α) (i : Nat) : Bool := (l.take i).any p
theorem take_step {α : Type} [Inhabited α] (l : List α) {i : Nat} (h : i < l.length) : l.take (i + 1) = l.take i ++ [l.getD i default] := by
  rw [List.getD_eq_getElem?_getD, List.getElem?_eq_getElem h, Option.getD_some, List.take_append_getElem]
theorem anyN_zero {α : Type} (p : α → Bool) (l : List α) : anyN p l 0 = false := rfl
theorem anyN_succ {α : Type} [Inhabited α] (p : α → Bool) (l : List α) {i : Nat} (h : i < l.length) : anyN p l (i + 1) = (anyN p l i || p (l.getD i default)) := by
  rw [anyN, take_step l h, List.any_append, ← anyN]
  simp
def isBy (e x : EventM) : Bool := x.By == e.By
def isLate (e x : EventM) : Bool := x.By == e.By && decide (e.Tick ≤ x.Tick)
def refLate (l : List EventM) (e : EventM) (n : NameM) : Bool := decide (e.Tick ≤ (l.getD (findM l n).toNat default).Tick)
def faultM (l : List EventM) (e : EventM) : Int :=
  if validM e ≠ 0 then validM e else if 0 ≤ findM l (evName e) then 7 else if (l.countP (isBy e) : Int) ≠ e.Seq then 10
  else if e.Refs.any (fun n => decide (findM l n < 0)) = true then 10 else if (l.any (isLate e) || e.Refs.any (refLate l e)) = true then 5 else 0
theorem faultM_ref {l : List EventM} {e : EventM} (h1 : validM e = 0) (h2 : ¬ 0 ≤ findM l (evName e)) (h3 : (l.countP (isBy e) : Int) = e.Seq) {i : Nat} (hi : i < e.Refs.length) (h : findM l (e.Refs.getD i default) < 0) : faultM l e = 10 := by
  unfold faultM
  have : e.Refs.any (fun n => decide (findM l n < 0)) = true := by
    rw [List.any_eq_true]
    refine ⟨e.Refs[i], List.getElem_mem hi, ?_⟩
    rw [List.getD_eq_getElem?_getD, List.getElem?_eq_getElem hi] at h
    simpa using h
  rw [if_neg (by omega), if_neg h2, if_neg (by omega), if_pos this]
theorem faultM_end {l : List EventM} {e : EventM} (h1 : validM e = 0) (h2 : ¬ 0 ≤ findM l (evName e)) (h3 : (l.countP (isBy e) : Int) = e.Seq) (h : ∀ i, i < e.Refs.length → 0 ≤ findM l (e.Refs.getD i default)) : faultM l e = if (l.any (isLate e) || e.Refs.any (refLate l e)) = true then 5 else 0 := by
  unfold faultM
  have : ¬ e.Refs.any (fun n => decide (findM l n < 0)) = true := by
    rw [List.any_eq_true]
    rintro ⟨x, hx, hf⟩
    obtain ⟨j, hj, rfl⟩ := List.getElem_of_mem hx
    have := h j hj
    rw [List.getD_eq_getElem?_getD, List.getElem?_eq_getElem hj] at this
    simp at hf this
    omega
  rw [if_neg (by omega), if_neg h2, if_neg (by omega), if_neg this]
theorem findM_range (l : List EventM) (n : NameM) : findM l n = -1 ∨ (0 ≤ findM l n ∧ (findM l n).toNat < l.length ∧ findM l n < l.length) := by
  unfold findM idxM
  split
  · right; omega
  · left; rfl
theorem any_full {α : Type} (p : α → Bool) (l : List α) : anyN p l l.length = l.any p := by rw [anyN, List.take_length]
def closedG (n : Nat) (s : List EventM) : Nat → Int × Int
  | 0 => (n, 0)
  | k + 1 => let i := s.length - (k + 1); if faultM (s.take i) (s.getD i default) ≠ 0 then (i, faultM (s.take i) (s.getD i default)) else closedG n s k
def closedM (l : List EventM) : Int × Int := if 384 < l.length then (0, 4) else closedG l.length (sortM l) (sortM l).length
theorem closedG_go {n : Nat} {s : List EventM} {i : Nat} (hi : i < s.length) (h : faultM (s.take i) (s.getD i default) = 0) : closedG n s (s.length - i) = closedG n s (s.length - (i + 1)) := by
  rw [show s.length - i = s.length - (i + 1) + 1 by omega, closedG]
  have : s.length - (s.length - (i + 1) + 1) = i := by omega
  simp only [this]
  rw [if_neg (by omega)]
theorem closedG_at {n : Nat} {s : List EventM} {i : Nat} (hi : i < s.length) (h : faultM (s.take i) (s.getD i default) ≠ 0) : closedG n s (s.length - i) = ((i : Int), faultM (s.take i) (s.getD i default)) := by
  rw [show s.length - i = s.length - (i + 1) + 1 by omega, closedG]
  have : s.length - (s.length - (i + 1) + 1) = i := by omega
  simp only [this]
  rw [if_pos h]
end Go.Proofs.Ytabjaaonfaejmaa

namespace Go.Proofs.Ytabjaaonfaejmaa
open Go.Av
abbrev isKI : Dat → Prop := fun d => ∃ n, d = .int .i64 n
abbrev isKN : Dat → Prop := fun d => ∃ a b, d = .agg [.int .i64 a, .int .i64 b]
theorem keyB_int (a b : Int) : keyB (iD a) (iD b) = (a == b) := rfl
theorem keyB_name (m n : NameM) : keyB (nameD m) (nameD n) = sameName m n := rfl
theorem sameName_eq {m n : NameM} (h : sameName m n = true) : m = n := by
  cases m; cases n
  simp only [sameName, Bool.and_eq_true, beq_iff_eq] at h
  rw [h.1, h.2]
theorem sameName_refl (m : NameM) : sameName m m = true := by simp [sameName]
theorem findM_app (l : List EventM) (e : EventM) (n : NameM) : findM (l ++ [e]) n = if 0 ≤ findM l n then findM l n else if isName n e = true then (l.length : Int) else -1 := by
  unfold findM idxM
  rw [List.findIdx_append]
  have hle : l.findIdx (isName n) ≤ l.length := List.findIdx_le_length
  by_cases h : l.findIdx (isName n) < l.length
  · simp [h]
    omega
  · simp only [h, if_false]
    by_cases he : isName n e = true
    · simp [List.findIdx_cons, he]
    · simp [List.findIdx_cons, he]
      omega
structure ClInv (l : List EventM) (k1 v1 k2 v2 k3 v3 : List Dat) : Prop where
  l1 : k1.length = v1.length
  l2 : k2.length = v2.length
  l3 : k3.length = v3.length
  q1 : ∀ k ∈ k1, isKN k
  q2 : ∀ k ∈ k2, isKI k
  q3 : ∀ k ∈ k3, isKI k
  tick : ∀ n, (findM l n = -1 ∧ lkp k1 v1 (nameD n) = none) ∨ (0 ≤ findM l n ∧ lkp k1 v1 (nameD n) = some (iD (l.getD (findM l n).toNat default).Tick))
  count : ∀ b, (lkp k2 v2 (iD b)).getD (iD 0) = iD (l.countP (fun x => x.By == b))
  last : ∀ b, ((l.countP (fun x => x.By == b)) = 0 ∧ lkp k3 v3 (iD b) = none) ∨ (0 < l.countP (fun x => x.By == b) ∧ ∃ t, lkp k3 v3 (iD b) = some (iD t) ∧ (∃ x ∈ l, x.By = b ∧ x.Tick = t) ∧ ∀ x ∈ l, x.By = b → x.Tick ≤ t)
theorem clInv_nil : ClInv [] [] [] [] [] [] [] where
  l1 := rfl
  l2 := rfl
  l3 := rfl
  q1 := by simp
  q2 := by simp
  q3 := by simp
  tick n := .inl ⟨rfl, rfl⟩
  count b := rfl
  last b := .inl ⟨rfl, rfl⟩
theorem intSymm {d k : Dat} (hd : isKI d) (hk : isKI k) (h : keyB d k = true) : d = k := by
  obtain ⟨a, rfl⟩ := hd
  obtain ⟨b, rfl⟩ := hk
  simp [keyB] at h
  rw [h]
theorem nameSymm {d k : Dat} (hd : isKN d) (hk : isKN k) (h : keyB d k = true) : d = k := by
  obtain ⟨a, b, rfl⟩ := hd
  obtain ⟨c, d, rfl⟩ := hk
  simp [keyB] at h
  rw [h.1, h.2]
theorem clInv_add {l : List EventM} {k1 v1 k2 v2 k3 v3 : List Dat} (h : ClInv l k1 v1 k2 v2 k3 v3) (e : EventM) (hn : findM l (evName e) = -1) (ht : ∀ x ∈ l, x.By = e.By → x.Tick < e.Tick) :
    ClInv (l ++ [e]) (putK k1 (nameD (evName e))) (putV k1 v1 (nameD (evName e)) (iD e.Tick)) (putK k2 (iD e.By)) (putV k2 v2 (iD e.By) (iD ((l.countP (fun x => x.By == e.By) : Int) + 1))) (putK k3 (iD e.By)) (putV k3 v3 (iD e.By) (iD e.Tick)) where
  l1 := put_len h.l1
  l2 := put_len h.l2
  l3 := put_len h.l3
  q1 := put_keys ⟨_, _, rfl⟩ h.q1
  q2 := put_keys ⟨_, rfl⟩ h.q2
  q3 := put_keys ⟨_, rfl⟩ h.q3
  tick n := by
    rw [lkp_put h.l1 (fun k hk => nameSymm ⟨_, _, rfl⟩ (h.q1 k hk)) (nameSymm ⟨_, _, rfl⟩ ⟨_, _, rfl⟩), findM_app, keyB_name]
    by_cases hne : sameName n (evName e) = true
    · have := sameName_eq hne
      subst this
      have hi : isName (evName e) e = true := sameName_refl _
      right
      rw [hn, if_neg (by omega), if_pos hi, if_pos hne]
      refine ⟨by omega, ?_⟩
      simp [List.getD_eq_getElem?_getD]
    · have hi : ¬ isName n e = true := fun h => hne (by have := sameName_eq h; rw [this]; exact sameName_refl _)
      rw [if_neg hne, if_neg hi]
      rcases h.tick n with ⟨h1, h2⟩ | ⟨h1, h2⟩
      · left
        rw [if_neg (by omega)]
        exact ⟨rfl, h2⟩
      · right
        rw [if_pos h1]
        refine ⟨h1, ?_⟩
        have hr := findM_range l n
        rw [h2, List.getD_eq_getElem?_getD, List.getD_eq_getElem?_getD, List.getElem?_append_left (by omega)]
  count b := by
    rw [lkp_put h.l2 (fun k hk => intSymm ⟨_, rfl⟩ (h.q2 k hk)) (intSymm ⟨_, rfl⟩ ⟨_, rfl⟩), keyB_int, List.countP_append]
    by_cases hb : b = e.By
    · subst hb
      simp [List.countP_cons]
    · have hb' : ¬ (e.By == b) = true := by simpa using Ne.symm hb
      have hb2 : ¬ (b == e.By) = true := by simpa using hb
      rw [if_neg hb2, h.count b]
      simp [List.countP_cons, hb']
  last b := by
    rw [lkp_put h.l3 (fun k hk => intSymm ⟨_, rfl⟩ (h.q3 k hk)) (intSymm ⟨_, rfl⟩ ⟨_, rfl⟩), keyB_int, List.countP_append]
    by_cases hb : b = e.By
    · subst hb
      right
      refine ⟨by simp [List.countP_cons], e.Tick, by simp, ⟨e, by simp, rfl, rfl⟩, fun x hx hby => ?_⟩
      rcases List.mem_append.1 hx with hx | hx
      · exact Int.le_of_lt (ht x hx hby)
      · simp at hx; rw [hx]; exact Int.le_refl _
    · have hb' : ¬ (e.By == b) = true := by simpa using Ne.symm hb
      have hb2 : ¬ (b == e.By) = true := by simpa using hb
      have hc : ([e].countP fun x => x.By == b) = 0 := by simp [List.countP_cons, hb']
      rw [if_neg hb2, hc, Nat.add_zero]
      rcases h.last b with h1 | ⟨h1, t, h2, ⟨x, hx, hxb, hxt⟩, h3⟩
      · exact .inl h1
      · refine .inr ⟨h1, t, h2, ⟨x, List.mem_append_left _ hx, hxb, hxt⟩, fun y hy hyb => ?_⟩
        rcases List.mem_append.1 hy with hy | hy
        · exact h3 y hy hyb
        · simp at hy
          subst hy
          exact absurd hyb.symm hb
theorem clInv_late {l : List EventM} {k1 v1 k2 v2 k3 v3 : List Dat} (h : ClInv l k1 v1 k2 v2 k3 v3) (e : EventM) :
    (l.countP (fun x => x.By == e.By) = 0 ∧ l.any (isLate e) = false ∧ lkp k3 v3 (iD e.By) = none) ∨ (0 < l.countP (fun x => x.By == e.By) ∧ ∃ t, lkp k3 v3 (iD e.By) = some (iD t) ∧ l.any (isLate e) = decide (e.Tick ≤ t)) := by
  rcases h.last e.By with ⟨h1, h2⟩ | ⟨h1, t, h2, ⟨x, hx, hxb, hxt⟩, h3⟩
  · refine .inl ⟨h1, ?_, h2⟩
    rw [List.any_eq_false]
    intro x hx hl
    simp only [isLate, Bool.and_eq_true] at hl
    have := List.countP_eq_zero.1 h1 x hx
    exact this hl.1
  · refine .inr ⟨h1, t, h2, ?_⟩
    by_cases ht : e.Tick ≤ t
    · rw [decide_eq_true ht, List.any_eq_true]
      exact ⟨x, hx, by simp [isLate, hxb, hxt, ht]⟩
    · rw [decide_eq_false ht, List.any_eq_false]
      intro y hy hl
      simp only [isLate, Bool.and_eq_true, beq_iff_eq, decide_eq_true_eq] at hl
      have := h3 y hy hl.1
      omega
end Go.Proofs.Ytabjaaonfaejmaa

