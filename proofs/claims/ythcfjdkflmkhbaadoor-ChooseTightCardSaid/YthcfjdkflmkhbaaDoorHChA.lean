/- What the functions compute, in plain Lean. -/
import Derived.Test.YthcfjdkflmkhbaaDoorHAv40
import Derived.Test.YthcfjdkflmkhbaaDoorRows
import Derived.KernelRfl
import Derived.Test.YthcfjdkflmkhbaaDoorHAvA
set_option linter.all false
namespace Go.Proofs.YthcfjdkflmkhbaaDoor
open Go.Av

/-- A number made one from 0 up to most. -/
def aroundM (n m : Int) : Int := (if n < 0 then -(n + 1) else n).tmod m
theorem aroundM_range {n m : Int} (hm : 0 < m) : 0 ≤ aroundM n m ∧ aroundM n m < m := by
  unfold aroundM
  have h : 0 ≤ (if n < 0 then -(n + 1) else n) := by split <;> omega
  exact ⟨Int.tmod_nonneg _ h, Int.tmod_lt_of_pos _ hm⟩

def atM (l : List Int) (i m : Int) : Int := if i < 0 ∨ (l.length : Int) ≤ i then 0 else aroundM (l.getD i.toNat default) m
theorem atM_range {l : List Int} {i m : Int} (hm : 0 < m) : 0 ≤ atM l i m ∧ atM l i m < m := by
  unfold atM
  split
  · omega
  · exact aroundM_range hm
theorem getD_all {α : Type} [Inhabited α] {p : α → Prop} {l : List α} (h : ∀ x ∈ l, p x) {i : Nat} (hi : i < l.length) : p (l.getD i default) := by
  rw [List.getD_eq_getElem?_getD, List.getElem?_eq_getElem hi]
  exact h _ (List.getElem_mem hi)

def takeM (l : List Int) (n : Int) : List Int := l.take (if n < (l.length : Int) then n else (l.length : Int)).toNat

/-- A case: for each item its options (lines, turns), the weights, the room. -/
structure CaseM where
  items : List (List (Int × Int))
  weights : List Int
  room : Int
abbrev oD (o : Int × Int) : Dat := .agg [.int .i64 o.1, .int .i64 o.2]
abbrev osD (l : List (Int × Int)) : Dat := .sl (l.map oD)
abbrev caseL (c : CaseM) : List Dat := [.sl (c.items.map osD), .sl (c.weights.map (Dat.int .i64)), .int .i64 c.room]
abbrev caseD (c : CaseM) : Dat := .agg (caseL c)

abbrev itemM (c : CaseM) (i : Nat) : List (Int × Int) := c.items.getD i default
abbrev weightM (c : CaseM) (i : Nat) : Int := c.weights.getD i default
abbrev pickM (pick : List Int) (i : Nat) : Int := pick.getD i default
/-- The option that a choice has for an item. -/
abbrev optM (c : CaseM) (pick : List Int) (i : Nat) : Int × Int := (itemM c i).getD (pickM pick i).toNat default

def okO (o : Int × Int) : Prop := 0 ≤ o.1 ∧ o.1 ≤ 64 ∧ 0 ≤ o.2 ∧ o.2 ≤ 64
/-- A valid case. -/
structure OkC (c : CaseM) : Prop where
  n64 : c.items.length ≤ 64
  n8 : ∀ i < c.items.length, (itemM c i).length ≤ 8
  n1 : ∀ i < c.items.length, 0 < (itemM c i).length
  wl : c.weights.length = c.items.length
  room : 0 ≤ c.room ∧ c.room ≤ 4096
  w : ∀ i < c.items.length, 0 ≤ weightM c i ∧ weightM c i ≤ 1024
  o : ∀ i < c.items.length, ∀ o ∈ itemM c i, okO o
/-- A choice of a case. -/
structure OkP (c : CaseM) (pick : List Int) : Prop where
  len : pick.length ≤ c.items.length
  at_ : ∀ i < pick.length, 0 ≤ pickM pick i ∧ pickM pick i < ((itemM c i).length : Int)

theorem OkP.opt {c : CaseM} {pick : List Int} (hc : OkC c) (hp : OkP c pick) {i : Nat} (hi : i < pick.length) : okO (optM c pick i) := by
  have h1 := hp.at_ i hi
  have h2 := hp.len
  exact getD_all (hc.o i (by omega)) (by omega)

/-- The lines and the turns of the first items of a choice. -/
def linesM (c : CaseM) (pick : List Int) : Nat → Int
  | 0 => 0
  | i + 1 => linesM c pick i + (optM c pick i).1
def turnsM (c : CaseM) (pick : List Int) : Nat → Int
  | 0 => 0
  | i + 1 => turnsM c pick i + (optM c pick i).2 * weightM c i

theorem sums_range {c : CaseM} {pick : List Int} (hc : OkC c) (hp : OkP c pick) : ∀ i ≤ pick.length, (0 ≤ linesM c pick i ∧ linesM c pick i ≤ 64 * i) ∧ 0 ≤ turnsM c pick i ∧ turnsM c pick i ≤ 65536 * i
  | 0, _ => by simp [linesM, turnsM]
  | i + 1, h => by
    obtain ⟨⟨h1, h2⟩, h3, h4⟩ := sums_range hc hp i (by omega)
    obtain ⟨o1, o2, o3, o4⟩ := hp.opt hc (show i < pick.length by omega)
    obtain ⟨w1, w2⟩ := hc.w i (by have := hp.len; omega)
    have m1 : 0 ≤ (optM c pick i).2 * weightM c i := Int.mul_nonneg o3 w1
    have m2 : (optM c pick i).2 * weightM c i ≤ 64 * 1024 := Int.mul_le_mul o4 w2 w1 (by omega)
    simp only [linesM, turnsM]
    omega

end Go.Proofs.YthcfjdkflmkhbaaDoor

namespace Go.Proofs.YthcfjdkflmkhbaaDoor
open Go.Av
theorem ti1 : ti Tryd.prog 1 = some { size := 1, bytes := 8, zero := some [.raw .nilFunc], tk := .other } := by kernel_rfl
theorem ti2 : ti Tryd.prog 2 = some { size := 1, bytes := 8, zero := some [.dat (.int .i64 0)], tk := .int .i64 } := by kernel_rfl
theorem ti3 : ti Tryd.prog 3 = some { size := 1, bytes := 8, zero := some [.dat (.int .i64 0)], tk := .int .i64 } := by kernel_rfl
theorem ti4 : ti Tryd.prog 4 = some { size := 1, bytes := 1, zero := some [.dat (.bool false)], tk := .bool } := by kernel_rfl
theorem ti5 : ti Tryd.prog 5 = some { size := 1, bytes := 1, zero := some [.dat (.int .u8 0)], tk := .int .u8 } := by kernel_rfl
theorem ti6 : ti Tryd.prog 6 = some { size := 1, bytes := 1, zero := some [.dat (.int .u8 0)], tk := .int .u8 } := by kernel_rfl
theorem ti7 : ti Tryd.prog 7 = some { size := 4, bytes := 24, zero := some [.dat (.int .i64 0), .dat (.int .i64 0), .dat (.bool false), .dat (.int .u8 0)], tk := .struct [(0, 2), (1, 3), (2, 4), (3, 6)] } := by kernel_rfl
theorem ti8 : ti Tryd.prog 8 = some { size := 4, bytes := 24, zero := some [.dat (.int .i64 0), .dat (.int .i64 0), .dat (.bool false), .dat (.int .u8 0)], tk := .struct [(0, 2), (1, 3), (2, 4), (3, 6)] } := by kernel_rfl
theorem ti9 : ti Tryd.prog 9 = some { size := 1, bytes := 16, zero := some [.dat (.str ⟨#[]⟩)], tk := .str } := by kernel_rfl
theorem ti10 : ti Tryd.prog 10 = some { size := 1, bytes := 16, zero := some [.dat (.str ⟨#[]⟩)], tk := .str } := by kernel_rfl
theorem ti11 : ti Tryd.prog 11 = some { size := 1, bytes := 16, zero := some [.dat (.str ⟨#[]⟩)], tk := .str } := by kernel_rfl
theorem ti12 : ti Tryd.prog 12 = some { size := 1, bytes := 8, zero := some [.dat (.int .u64 0)], tk := .int .u64 } := by kernel_rfl
theorem ti13 : ti Tryd.prog 13 = some { size := 2, bytes := 24, zero := some [.dat (.str ⟨#[]⟩), .dat (.int .u64 0)], tk := .struct [(0, 9), (1, 12)] } := by kernel_rfl
theorem ti14 : ti Tryd.prog 14 = some { size := 2, bytes := 24, zero := some [.dat (.str ⟨#[]⟩), .dat (.int .u64 0)], tk := .struct [(0, 9), (1, 12)] } := by kernel_rfl
theorem ti15 : ti Tryd.prog 15 = some { size := 1, bytes := 8, zero := some [.dat .nilp], tk := .ptr 105 } := by kernel_rfl
theorem ti16 : ti Tryd.prog 16 = some { size := 1, bytes := 8, zero := some [.dat .nilp], tk := .ptr 108 } := by kernel_rfl
theorem ti17 : ti Tryd.prog 17 = some { size := 1, bytes := 8, zero := some [.dat .nilp], tk := .ptr 118 } := by kernel_rfl
theorem ti18 : ti Tryd.prog 18 = some { size := 1, bytes := 8, zero := some [.dat .nilp], tk := .struct [(0, 17)] } := by kernel_rfl
theorem ti19 : ti Tryd.prog 19 = some { size := 1, bytes := 8, zero := some [.dat .nilp], tk := .struct [(0, 17)] } := by kernel_rfl
theorem ti20 : ti Tryd.prog 20 = some { size := 1, bytes := 16, zero := some [.dat .nilI], tk := .iface } := by kernel_rfl
theorem ti21 : ti Tryd.prog 21 = some { size := 1, bytes := 4, zero := some [.dat (.int .i32 0)], tk := .int .i32 } := by kernel_rfl
theorem ti22 : ti Tryd.prog 22 = some { size := 1, bytes := 24, zero := some [.nils], tk := .slice 3 } := by kernel_rfl
theorem ti23 : ti Tryd.prog 23 = some { size := 1, bytes := 24, zero := some [.nils], tk := .slice 84 } := by kernel_rfl
theorem ti24 : ti Tryd.prog 24 = some { size := 1, bytes := 24, zero := some [.nils], tk := .slice 71 } := by kernel_rfl
theorem ti25 : ti Tryd.prog 25 = some { size := 3, bytes := 56, zero := some [.nils, .nils, .dat (.int .i64 0)], tk := .struct [(0, 24), (1, 22), (2, 3)] } := by kernel_rfl
theorem ti26 : ti Tryd.prog 26 = some { size := 3, bytes := 56, zero := some [.nils, .nils, .dat (.int .i64 0)], tk := .struct [(0, 24), (1, 22), (2, 3)] } := by kernel_rfl
theorem ti27 : ti Tryd.prog 27 = some { size := 1, bytes := 8, zero := some [.raw .nilFunc], tk := .other } := by kernel_rfl
theorem ti28 : ti Tryd.prog 28 = some { size := 1, bytes := 8, zero := some [.raw .nilFunc], tk := .other } := by kernel_rfl
theorem ti29 : ti Tryd.prog 29 = some { size := 1, bytes := 8, zero := some [.raw .nilFunc], tk := .other } := by kernel_rfl
theorem ti30 : ti Tryd.prog 30 = some { size := 1, bytes := 24, zero := some [.nils], tk := .slice 26 } := by kernel_rfl
theorem ti31 : ti Tryd.prog 31 = some { size := 1, bytes := 8, zero := some [.dat (.int .i64 0)], tk := .int .i64 } := by kernel_rfl
theorem ti32 : ti Tryd.prog 32 = some { size := 1, bytes := 8, zero := some [.raw .nilFunc], tk := .other } := by kernel_rfl
theorem ti33 : ti Tryd.prog 33 = some { size := 1, bytes := 24, zero := some [.nils], tk := .slice 68 } := by kernel_rfl
theorem ti34 : ti Tryd.prog 34 = some { size := 3, bytes := 56, zero := some [.nils, .nils, .dat (.int .i64 0)], tk := .struct [(0, 33), (1, 22), (2, 3)] } := by kernel_rfl
theorem ti35 : ti Tryd.prog 35 = some { size := 3, bytes := 56, zero := some [.nils, .nils, .dat (.int .i64 0)], tk := .struct [(0, 33), (1, 22), (2, 3)] } := by kernel_rfl
theorem ti36 : ti Tryd.prog 36 = some { size := 1, bytes := 8, zero := some [.raw .nilFunc], tk := .other } := by kernel_rfl
theorem ti37 : ti Tryd.prog 37 = some { size := 1, bytes := 8, zero := some [.raw .nilFunc], tk := .other } := by kernel_rfl
theorem ti38 : ti Tryd.prog 38 = some { size := 1, bytes := 8, zero := some [.raw .nilFunc], tk := .other } := by kernel_rfl
theorem ti39 : ti Tryd.prog 39 = some { size := 1, bytes := 8, zero := some [.raw .nilFunc], tk := .other } := by kernel_rfl
theorem ti40 : ti Tryd.prog 40 = some { size := 1, bytes := 24, zero := some [.nils], tk := .slice 22 } := by kernel_rfl
theorem ti42 : ti Tryd.prog 42 = some { size := 1, bytes := 8, zero := some [.raw .nilFunc], tk := .other } := by kernel_rfl
theorem ti43 : ti Tryd.prog 43 = some { size := 1, bytes := 8, zero := some [.raw .nilFunc], tk := .other } := by kernel_rfl
theorem ti44 : ti Tryd.prog 44 = some { size := 1, bytes := 8, zero := some [.raw .nilFunc], tk := .other } := by kernel_rfl
theorem ti45 : ti Tryd.prog 45 = some { size := 1, bytes := 8, zero := some [.raw .nilFunc], tk := .other } := by kernel_rfl
theorem ti46 : ti Tryd.prog 46 = some { size := 2, bytes := 16, zero := some [.dat (.int .i64 0), .dat (.int .i64 0)], tk := .array 2 3 } := by kernel_rfl
theorem ti47 : ti Tryd.prog 47 = some { size := 1, bytes := 8, zero := some [.raw .nilFunc], tk := .other } := by kernel_rfl
theorem ti48 : ti Tryd.prog 48 = some { size := 1, bytes := 24, zero := some [.nils], tk := .slice 46 } := by kernel_rfl
theorem ti49 : ti Tryd.prog 49 = some { size := 3, bytes := 24, zero := some [.dat (.int .i64 0), .dat (.int .i64 0), .dat (.int .i64 0)], tk := .struct [(0, 3), (1, 3), (2, 3)] } := by kernel_rfl
theorem ti50 : ti Tryd.prog 50 = some { size := 3, bytes := 24, zero := some [.dat (.int .i64 0), .dat (.int .i64 0), .dat (.int .i64 0)], tk := .struct [(0, 3), (1, 3), (2, 3)] } := by kernel_rfl
theorem ti52 : ti Tryd.prog 52 = some { size := 1, bytes := 8, zero := some [.raw .nilFunc], tk := .other } := by kernel_rfl
theorem ti53 : ti Tryd.prog 53 = some { size := 3, bytes := 24, zero := some [.dat (.int .i64 0), .dat (.int .i64 0), .dat (.int .i64 0)], tk := .struct [(0, 3), (1, 3), (2, 3)] } := by kernel_rfl
theorem ti55 : ti Tryd.prog 55 = some { size := 1, bytes := 8, zero := some [.raw .nilFunc], tk := .other } := by kernel_rfl
theorem ti56 : ti Tryd.prog 56 = some { size := 1, bytes := 8, zero := some [.raw .nilFunc], tk := .other } := by kernel_rfl
theorem ti57 : ti Tryd.prog 57 = some { size := 1, bytes := 24, zero := some [.nils], tk := .slice 53 } := by kernel_rfl
theorem ti58 : ti Tryd.prog 58 = some { size := 1, bytes := 8, zero := some [.raw .nilFunc], tk := .other } := by kernel_rfl
theorem ti59 : ti Tryd.prog 59 = some { size := 1, bytes := 8, zero := some [.raw .nilFunc], tk := .other } := by kernel_rfl
theorem ti60 : ti Tryd.prog 60 = some { size := 1, bytes := 8, zero := some [.raw .nilFunc], tk := .other } := by kernel_rfl
theorem ti61 : ti Tryd.prog 61 = some { size := 1, bytes := 8, zero := some [.raw .nilFunc], tk := .other } := by kernel_rfl
theorem ti62 : ti Tryd.prog 62 = some { size := 1, bytes := 8, zero := some [.raw .nilFunc], tk := .other } := by kernel_rfl
theorem ti63 : ti Tryd.prog 63 = some { size := 1, bytes := 8, zero := some [.raw .nilFunc], tk := .other } := by kernel_rfl
theorem ti65 : ti Tryd.prog 65 = some { size := 1, bytes := 8, zero := some [.raw .nilFunc], tk := .other } := by kernel_rfl
theorem ti66 : ti Tryd.prog 66 = some { size := 2, bytes := 16, zero := some [.dat (.int .i64 0), .dat (.int .i64 0)], tk := .struct [(0, 3), (1, 3)] } := by kernel_rfl
theorem ti67 : ti Tryd.prog 67 = some { size := 2, bytes := 16, zero := some [.dat (.int .i64 0), .dat (.int .i64 0)], tk := .struct [(0, 3), (1, 3)] } := by kernel_rfl
theorem ti68 : ti Tryd.prog 68 = some { size := 1, bytes := 24, zero := some [.nils], tk := .slice 67 } := by kernel_rfl
theorem ti69 : ti Tryd.prog 69 = some { size := 1, bytes := 8, zero := some [.raw .nilFunc], tk := .other } := by kernel_rfl
theorem ti70 : ti Tryd.prog 70 = some { size := 1, bytes := 8, zero := some [.raw .nilFunc], tk := .other } := by kernel_rfl
theorem ti71 : ti Tryd.prog 71 = some { size := 1, bytes := 24, zero := some [.nils], tk := .slice 72 } := by kernel_rfl
theorem ti72 : ti Tryd.prog 72 = some { size := 2, bytes := 16, zero := some [.dat (.int .i64 0), .dat (.int .i64 0)], tk := .struct [(0, 3), (1, 3)] } := by kernel_rfl
theorem ti73 : ti Tryd.prog 73 = some { size := 1, bytes := 8, zero := some [.raw .nilFunc], tk := .other } := by kernel_rfl
theorem ti75 : ti Tryd.prog 75 = some { size := 1, bytes := 8, zero := some [.raw .nilFunc], tk := .other } := by kernel_rfl
theorem ti76 : ti Tryd.prog 76 = some { size := 1, bytes := 8, zero := some [.raw .nilFunc], tk := .other } := by kernel_rfl
theorem ti77 : ti Tryd.prog 77 = some { size := 1, bytes := 8, zero := some [.raw .nilFunc], tk := .other } := by kernel_rfl
theorem ti78 : ti Tryd.prog 78 = some { size := 1, bytes := 8, zero := some [.raw .nilFunc], tk := .other } := by kernel_rfl
theorem ti79 : ti Tryd.prog 79 = some { size := 1, bytes := 8, zero := some [.raw .nilFunc], tk := .other } := by kernel_rfl
theorem ti80 : ti Tryd.prog 80 = some { size := 1, bytes := 8, zero := some [.raw .nilFunc], tk := .other } := by kernel_rfl
theorem ti81 : ti Tryd.prog 81 = some { size := 1, bytes := 8, zero := some [.raw .nilFunc], tk := .other } := by kernel_rfl
theorem ti82 : ti Tryd.prog 82 = some { size := 1, bytes := 24, zero := some [.nils], tk := .slice 50 } := by kernel_rfl
theorem ti83 : ti Tryd.prog 83 = some { size := 1, bytes := 8, zero := some [.raw .nilFunc], tk := .other } := by kernel_rfl
theorem ti84 : ti Tryd.prog 84 = some { size := 4, bytes := 32, zero := some [.dat (.int .i64 0), .dat (.int .i64 0), .dat (.int .i64 0), .dat (.int .i64 0)], tk := .array 4 3 } := by kernel_rfl
theorem ti85 : ti Tryd.prog 85 = some { size := 1, bytes := 8, zero := some [.raw .nilFunc], tk := .other } := by kernel_rfl
theorem ti86 : ti Tryd.prog 86 = some { size := 1, bytes := 8, zero := some [.raw .nilFunc], tk := .other } := by kernel_rfl
theorem ti87 : ti Tryd.prog 87 = some { size := 1, bytes := 8, zero := some [.raw .nilFunc], tk := .other } := by kernel_rfl
theorem ti88 : ti Tryd.prog 88 = some { size := 1, bytes := 8, zero := some [.raw .nilFunc], tk := .other } := by kernel_rfl
theorem ti89 : ti Tryd.prog 89 = some { size := 1, bytes := 8, zero := some [.raw .nilFunc], tk := .other } := by kernel_rfl
theorem ti90 : ti Tryd.prog 90 = some { size := 1, bytes := 8, zero := some [.raw .nilFunc], tk := .other } := by kernel_rfl
theorem ti91 : ti Tryd.prog 91 = some { size := 1, bytes := 8, zero := some [.raw .nilFunc], tk := .other } := by kernel_rfl
theorem ti92 : ti Tryd.prog 92 = some { size := 1, bytes := 8, zero := some [.raw .nilFunc], tk := .other } := by kernel_rfl
theorem ti93 : ti Tryd.prog 93 = some { size := 1, bytes := 8, zero := some [.raw .nilFunc], tk := .other } := by kernel_rfl
theorem ti94 : ti Tryd.prog 94 = some { size := 1, bytes := 8, zero := some [.raw .nilFunc], tk := .other } := by kernel_rfl
theorem ti95 : ti Tryd.prog 95 = some { size := 1, bytes := 8, zero := some [.raw .nilFunc], tk := .other } := by kernel_rfl
theorem ti96 : ti Tryd.prog 96 = some { size := 1, bytes := 24, zero := some [.nils], tk := .slice 97 } := by kernel_rfl
theorem ti97 : ti Tryd.prog 97 = some { size := 2, bytes := 16, zero := some [.dat (.int .i64 0), .dat (.int .i64 0)], tk := .array 2 3 } := by kernel_rfl
theorem ti98 : ti Tryd.prog 98 = some { size := 1, bytes := 8, zero := some [.raw .nilFunc], tk := .other } := by kernel_rfl
theorem ti99 : ti Tryd.prog 99 = some { size := 1, bytes := 8, zero := some [.raw .nilFunc], tk := .other } := by kernel_rfl
theorem ti100 : ti Tryd.prog 100 = some { size := 1, bytes := 8, zero := some [.raw .nilFunc], tk := .other } := by kernel_rfl
theorem ti101 : ti Tryd.prog 101 = some { size := 1, bytes := 8, zero := some [.raw .nilFunc], tk := .other } := by kernel_rfl
theorem ti102 : ti Tryd.prog 102 = some { size := 1, bytes := 8, zero := some [.raw .nilFunc], tk := .other } := by kernel_rfl
theorem ti103 : ti Tryd.prog 103 = some { size := 1, bytes := 8, zero := some [.raw .nilFunc], tk := .other } := by kernel_rfl
theorem ti104 : ti Tryd.prog 104 = some { size := 4, bytes := 40, zero := some [.dat .nilp, .dat .nilp, .dat .nilp, .dat (.str ⟨#[]⟩)], tk := .struct [(0, 17), (1, 17), (2, 17), (3, 9)] } := by kernel_rfl
theorem ti105 : ti Tryd.prog 105 = some { size := 4, bytes := 40, zero := some [.dat .nilp, .dat .nilp, .dat .nilp, .dat (.str ⟨#[]⟩)], tk := .struct [(0, 17), (1, 17), (2, 17), (3, 9)] } := by kernel_rfl
theorem ti106 : ti Tryd.prog 106 = some { size := 0, bytes := 0, zero := some [], tk := .array 0 16 } := by kernel_rfl
theorem ti107 : ti Tryd.prog 107 = some { size := 0, bytes := 0, zero := some [], tk := .struct [(0, 106)] } := by kernel_rfl
theorem ti108 : ti Tryd.prog 108 = some { size := 0, bytes := 0, zero := some [], tk := .struct [(0, 106)] } := by kernel_rfl
theorem ti109 : ti Tryd.prog 109 = some { size := 1, bytes := 8, zero := some [.raw .nilFunc], tk := .other } := by kernel_rfl
theorem ti110 : ti Tryd.prog 110 = some { size := 1, bytes := 4, zero := some [.dat (.int .u32 0)], tk := .int .u32 } := by kernel_rfl
theorem ti111 : ti Tryd.prog 111 = some { size := 1, bytes := 1, zero := some [.dat (.int .u8 0)], tk := .int .u8 } := by kernel_rfl
theorem ti112 : ti Tryd.prog 112 = some { size := 1, bytes := 1, zero := some [.dat (.int .u8 0)], tk := .int .u8 } := by kernel_rfl
theorem ti113 : ti Tryd.prog 113 = some { size := 1, bytes := 8, zero := some [.raw .nilFunc], tk := .other } := by kernel_rfl
theorem ti114 : ti Tryd.prog 114 = some { size := 1, bytes := 8, zero := some [.dat .nilp], tk := .ptr 5 } := by kernel_rfl
theorem ti115 : ti Tryd.prog 115 = some { size := 1, bytes := 4, zero := some [.dat (.int .i32 0)], tk := .int .i32 } := by kernel_rfl
theorem ti116 : ti Tryd.prog 116 = some { size := 1, bytes := 4, zero := some [.dat (.int .i32 0)], tk := .int .i32 } := by kernel_rfl
theorem ti117 : ti Tryd.prog 117 = some { size := 11, bytes := 48, zero := some [.dat (.int .u64 0), .dat (.int .u64 0), .dat (.int .u32 0), .dat (.int .u8 0), .dat (.int .u8 0), .dat (.int .u8 0), .dat (.int .u8 0), .raw .nilFunc, .dat .nilp, .dat (.int .i32 0), .dat (.int .i32 0)], tk := .struct [(0, 12), (1, 12), (2, 110), (3, 111), (4, 5), (5, 5), (6, 112), (7, 113), (8, 114), (9, 115), (10, 116)] } := by kernel_rfl
theorem ti118 : ti Tryd.prog 118 = some { size := 11, bytes := 48, zero := some [.dat (.int .u64 0), .dat (.int .u64 0), .dat (.int .u32 0), .dat (.int .u8 0), .dat (.int .u8 0), .dat (.int .u8 0), .dat (.int .u8 0), .raw .nilFunc, .dat .nilp, .dat (.int .i32 0), .dat (.int .i32 0)], tk := .struct [(0, 12), (1, 12), (2, 110), (3, 111), (4, 5), (5, 5), (6, 112), (7, 113), (8, 114), (9, 115), (10, 116)] } := by kernel_rfl
theorem ti119 : ti Tryd.prog 119 = some { size := 1, bytes := 8, zero := some [.dat .nilp], tk := .other } := by kernel_rfl
theorem tiA : type_of% (And.intro (And.intro (And.intro (And.intro (And.intro (And.intro (ti1) (And.intro (ti2) (ti3))) (And.intro (And.intro (ti4) (ti5)) (And.intro (ti6) (ti7)))) (And.intro (And.intro (ti8) (And.intro (ti9) (ti10))) (And.intro (And.intro (ti11) (ti12)) (And.intro (ti13) (ti14))))) (And.intro (And.intro (And.intro (ti15) (And.intro (ti16) (ti17))) (And.intro (And.intro (ti18) (ti19)) (And.intro (ti20) (ti21)))) (And.intro (And.intro (ti22) (And.intro (ti23) (ti24))) (And.intro (And.intro (ti25) (ti26)) (And.intro (ti27) (ti28)))))) (And.intro (And.intro (And.intro (And.intro (ti29) (And.intro (ti30) (ti31))) (And.intro (And.intro (ti32) (ti33)) (And.intro (ti34) (ti35)))) (And.intro (And.intro (ti36) (And.intro (ti37) (ti38))) (And.intro (And.intro (ti39) (ti40)) (And.intro (ti42) (ti43))))) (And.intro (And.intro (And.intro (ti44) (And.intro (ti45) (ti46))) (And.intro (And.intro (ti47) (ti48)) (And.intro (ti49) (ti50)))) (And.intro (And.intro (And.intro (ti52) (ti53)) (And.intro (ti55) (ti56))) (And.intro (And.intro (ti57) (ti58)) (And.intro (ti59) (ti60))))))) (And.intro (And.intro (And.intro (And.intro (And.intro (ti61) (And.intro (ti62) (ti63))) (And.intro (And.intro (ti65) (ti66)) (And.intro (ti67) (ti68)))) (And.intro (And.intro (ti69) (And.intro (ti70) (ti71))) (And.intro (And.intro (ti72) (ti73)) (And.intro (ti75) (ti76))))) (And.intro (And.intro (And.intro (ti77) (And.intro (ti78) (ti79))) (And.intro (And.intro (ti80) (ti81)) (And.intro (ti82) (ti83)))) (And.intro (And.intro (ti84) (And.intro (ti85) (ti86))) (And.intro (And.intro (ti87) (ti88)) (And.intro (ti89) (ti90)))))) (And.intro (And.intro (And.intro (And.intro (ti91) (And.intro (ti92) (ti93))) (And.intro (And.intro (ti94) (ti95)) (And.intro (ti96) (ti97)))) (And.intro (And.intro (ti98) (And.intro (ti99) (ti100))) (And.intro (And.intro (ti101) (ti102)) (And.intro (ti103) (ti104))))) (And.intro (And.intro (And.intro (ti105) (And.intro (ti106) (ti107))) (And.intro (And.intro (ti108) (ti109)) (And.intro (ti110) (ti111)))) (And.intro (And.intro (And.intro (ti112) (ti113)) (And.intro (ti114) (ti115))) (And.intro (And.intro (ti116) (ti117)) (And.intro (ti118) (ti119)))))))) := And.intro (And.intro (And.intro (And.intro (And.intro (And.intro (ti1) (And.intro (ti2) (ti3))) (And.intro (And.intro (ti4) (ti5)) (And.intro (ti6) (ti7)))) (And.intro (And.intro (ti8) (And.intro (ti9) (ti10))) (And.intro (And.intro (ti11) (ti12)) (And.intro (ti13) (ti14))))) (And.intro (And.intro (And.intro (ti15) (And.intro (ti16) (ti17))) (And.intro (And.intro (ti18) (ti19)) (And.intro (ti20) (ti21)))) (And.intro (And.intro (ti22) (And.intro (ti23) (ti24))) (And.intro (And.intro (ti25) (ti26)) (And.intro (ti27) (ti28)))))) (And.intro (And.intro (And.intro (And.intro (ti29) (And.intro (ti30) (ti31))) (And.intro (And.intro (ti32) (ti33)) (And.intro (ti34) (ti35)))) (And.intro (And.intro (ti36) (And.intro (ti37) (ti38))) (And.intro (And.intro (ti39) (ti40)) (And.intro (ti42) (ti43))))) (And.intro (And.intro (And.intro (ti44) (And.intro (ti45) (ti46))) (And.intro (And.intro (ti47) (ti48)) (And.intro (ti49) (ti50)))) (And.intro (And.intro (And.intro (ti52) (ti53)) (And.intro (ti55) (ti56))) (And.intro (And.intro (ti57) (ti58)) (And.intro (ti59) (ti60))))))) (And.intro (And.intro (And.intro (And.intro (And.intro (ti61) (And.intro (ti62) (ti63))) (And.intro (And.intro (ti65) (ti66)) (And.intro (ti67) (ti68)))) (And.intro (And.intro (ti69) (And.intro (ti70) (ti71))) (And.intro (And.intro (ti72) (ti73)) (And.intro (ti75) (ti76))))) (And.intro (And.intro (And.intro (ti77) (And.intro (ti78) (ti79))) (And.intro (And.intro (ti80) (ti81)) (And.intro (ti82) (ti83)))) (And.intro (And.intro (ti84) (And.intro (ti85) (ti86))) (And.intro (And.intro (ti87) (ti88)) (And.intro (ti89) (ti90)))))) (And.intro (And.intro (And.intro (And.intro (ti91) (And.intro (ti92) (ti93))) (And.intro (And.intro (ti94) (ti95)) (And.intro (ti96) (ti97)))) (And.intro (And.intro (ti98) (And.intro (ti99) (ti100))) (And.intro (And.intro (ti101) (ti102)) (And.intro (ti103) (ti104))))) (And.intro (And.intro (And.intro (ti105) (And.intro (ti106) (ti107))) (And.intro (And.intro (ti108) (ti109)) (And.intro (ti110) (ti111)))) (And.intro (And.intro (And.intro (ti112) (ti113)) (And.intro (ti114) (ti115))) (And.intro (And.intro (ti116) (ti117)) (And.intro (ti118) (ti119)))))))
end Go.Proofs.YthcfjdkflmkhbaaDoor

namespace Go.Proofs.YthcfjdkflmkhbaaDoor
open Go.Av

/-- The least number below n that has p, or -1. -/
def firstI (p : Nat → Bool) : Nat → Int
  | 0 => -1
  | n + 1 => if 0 ≤ firstI p n then firstI p n else if p n then (n : Int) else -1
theorem firstI_range (p : Nat → Bool) : ∀ n, -1 ≤ firstI p n ∧ firstI p n < n
  | 0 => by simp [firstI]
  | n + 1 => by
    have h := firstI_range p n
    simp only [firstI]
    split
    · omega
    · split <;> omega
theorem firstI_stay (p : Nat → Bool) {i : Nat} (h : 0 ≤ firstI p i) : ∀ m, i ≤ m → firstI p m = firstI p i
  | 0, hm => by
    have : i = 0 := by omega
    rw [this]
  | m + 1, hm => by
    by_cases hi : i = m + 1
    · rw [hi]
    · have ih := firstI_stay p h m (by omega)
      simp only [firstI]
      rw [ih, if_pos h]
theorem firstI_iff (p : Nat → Bool) : ∀ n, 0 ≤ firstI p n ↔ ∃ i, i < n ∧ p i = true
  | 0 => by simp [firstI]
  | n + 1 => by
    have ih := firstI_iff p n
    simp only [firstI]
    constructor
    · intro h
      split at h
      · rename_i h0
        obtain ⟨i, h1, h2⟩ := ih.1 h0
        exact ⟨i, by omega, h2⟩
      · split at h
        · rename_i hp
          exact ⟨n, by omega, hp⟩
        · omega
    · rintro ⟨i, h1, h2⟩
      split
      · assumption
      · rename_i h0
        by_cases hi : i = n
        · subst hi; rw [if_pos h2]; omega
        · exact absurd (ih.2 ⟨i, by omega, h2⟩) h0
theorem firstI_hit (p : Nat → Bool) {i n : Nat} (h : firstI p i < 0) (hp : p i = true) (hi : i < n) : firstI p n = i := by
  have h1 : firstI p (i + 1) = i := by simp only [firstI]; rw [if_neg (by omega), if_pos hp]
  rw [firstI_stay p (i := i + 1) (by omega) n (by omega), h1]
theorem firstI_miss (p : Nat → Bool) {i : Nat} (h : firstI p i < 0) (hp : p i = false) : firstI p (i + 1) < 0 := by
  simp only [firstI]; rw [if_neg (by omega), if_neg (by simp [hp])]; omega

/-- Sizes that no count runs out of. -/
structure SzC (c : CaseM) : Prop where
  ni : c.items.length ≤ 100
  nl : ∀ i < c.items.length, (itemM c i).length ≤ 100
  nw : c.weights.length ≤ 100
  iw : ∀ i < c.weights.length, I64 (weightM c i)
  ir : I64 c.room
  io : ∀ i < c.items.length, ∀ k < (itemM c i).length, I64 ((itemM c i).getD k default).1 ∧ I64 ((itemM c i).getD k default).2

instance (o : Int × Int) : Decidable (okO o) := by unfold okO; exact inferInstance
def BadI (c : CaseM) (i : Nat) : Prop := (itemM c i).length = 0 ∨ weightM c i < 0 ∨ 1024 < weightM c i ∨ ∃ k, k < (itemM c i).length ∧ ¬ okO ((itemM c i).getD k default)
instance (c : CaseM) (i : Nat) : Decidable (BadI c i) := by unfold BadI; exact inferInstance

/-- The error of a case. -/
def validM (c : CaseM) : Int :=
  if 64 < c.items.length ∨ ∃ i, i < c.items.length ∧ 8 < (itemM c i).length then 4
  else if c.weights.length ≠ c.items.length ∨ c.room < 0 ∨ 4096 < c.room then 1
  else if ∃ i, i < c.items.length ∧ BadI c i then 1 else 0

theorem validM_cases (c : CaseM) : validM c = 0 ∨ validM c = 1 ∨ validM c = 4 := by
  unfold validM
  split
  · simp
  · split
    · simp
    · split <;> simp

theorem validM_ok {c : CaseM} : validM c = 0 ↔ OkC c := by
  unfold validM
  constructor
  · intro h
    split at h
    · omega
    · rename_i h1
      split at h
      · omega
      · rename_i h2
        split at h
        · omega
        · rename_i h3
          simp only [not_or, not_exists, not_and] at h1 h2 h3
          have hb : ∀ i < c.items.length, ¬ BadI c i := fun i hi hb => h3 i hi hb
          refine ⟨by omega, fun i hi => by have := h1.2 i hi; omega, fun i hi => ?_, by omega, by omega, fun i hi => ?_, fun i hi o ho => ?_⟩
          · have := hb i hi
            unfold BadI at this
            omega
          · have := hb i hi
            unfold BadI at this
            omega
          · have := hb i hi
            unfold BadI at this
            simp only [not_or, not_exists, not_and, Classical.not_not] at this
            obtain ⟨k, hk, rfl⟩ := List.mem_iff_getElem.1 ho
            have h4 := this.2.2.2 k hk
            rwa [List.getD_eq_getElem?_getD, List.getElem?_eq_getElem hk] at h4
  · intro h
    rw [if_neg, if_neg, if_neg]
    · rintro ⟨i, hi, hb⟩
      unfold BadI at hb
      have h1 := h.n1 i hi
      have h2 := h.w i hi
      rcases hb with hb | hb | hb | ⟨k, hk, hb⟩
      · omega
      · omega
      · omega
      · exact hb (getD_all (h.o i hi) hk)
    · have h1 := h.wl
      have h2 := h.room
      omega
    · rintro (h1 | ⟨i, hi, h1⟩)
      · have := h.n64; omega
      · have := h.n8 i hi; omega

theorem OkC.sz {c : CaseM} (h : OkC c) : SzC c := by
  refine ⟨by have := h.n64; omega, fun i hi => by have := h.n8 i hi; omega, by have := h.n64; have := h.wl; omega, fun i hi => ?_, ?_, fun i hi k hk => ?_⟩
  · have := h.w i (by have := h.wl; omega)
    unfold I64; omega
  · have := h.room
    unfold I64; omega
  · have := getD_all (h.o i hi) hk
    unfold okO at this
    unfold I64; omega

/-- That a choice has an option that is not there. -/
def BadP (c : CaseM) (pick : List Int) : Prop := ∃ i, i < pick.length ∧ (pickM pick i < 0 ∨ ((itemM c i).length : Int) ≤ pickM pick i)
instance (c : CaseM) (pick : List Int) : Decidable (BadP c pick) := by unfold BadP; exact inferInstance

/-- Lines, turns and the error of a choice. -/
def costM (c : CaseM) (pick : List Int) : Int × Int × Int :=
  if validM c ≠ 0 then (0, 0, validM c)
  else if pick.length ≠ c.items.length then (0, 0, 1)
  else if BadP c pick then (0, 0, 1)
  else if c.room < linesM c pick pick.length then (0, 0, 21)
  else (linesM c pick pick.length, turnsM c pick pick.length, 0)

theorem okP_of {c : CaseM} {pick : List Int} (hl : pick.length ≤ c.items.length) (hb : ¬ BadP c pick) : OkP c pick := by
  refine ⟨hl, fun i hi => ?_⟩
  unfold BadP at hb
  simp only [not_exists, not_and] at hb
  have := hb i hi
  omega

/-- What Pick chooses: the digits of a number. -/
def digitM (n : Int) (k : Nat) : Int := n.tmod (max k 1 : Nat)

end Go.Proofs.YthcfjdkflmkhbaaDoor

namespace Go.Proofs.YthcfjdkflmkhbaaDoor
open Go.Av

/-- How many options an item has, one at least. -/
def manyM (c : CaseM) (i : Nat) : Int := if ((c.items.getD i default).length : Int) < 1 then 1 else ((c.items.getD i default).length : Int)
/-- What is left of the number behind j items, from the last one on. -/
def quoM (c : CaseM) (n : Int) : Nat → Int
  | 0 => n
  | j + 1 => (quoM c n j).tdiv (manyM c (c.items.length - 1 - j))
def rowM (c : CaseM) (n : Int) : Nat → List Int
  | 0 => List.replicate c.items.length 0
  | j + 1 => (rowM c n j).set (c.items.length - 1 - j) ((quoM c n j).tmod (manyM c (c.items.length - 1 - j)))
theorem rowM_length (c : CaseM) (n : Int) : ∀ j, (rowM c n j).length = c.items.length
  | 0 => by simp [rowM]
  | j + 1 => by simp [rowM, rowM_length c n j]
/-- The choice with a number. -/
def pickNM (c : CaseM) (n : Int) : List Int := rowM c n c.items.length
theorem pickNM_length (c : CaseM) (n : Int) : (pickNM c n).length = c.items.length := rowM_length _ _ _
theorem many_pos (c : CaseM) (i : Nat) : 1 ≤ manyM c i := by unfold manyM; split <;> omega
theorem tdiv_range {a b : Int} (h : I64 a) (hb : 1 ≤ b) : I64 (a.tdiv b) := by
  unfold I64 at *
  have h1 : (a.tdiv b).natAbs ≤ a.natAbs := by rw [Int.natAbs_tdiv]; exact Nat.div_le_self _ _
  by_cases ha : 0 ≤ a
  · have := Int.tdiv_nonneg ha (show 0 ≤ b by omega); omega
  · obtain ⟨m, rfl⟩ : ∃ m, a = -m := ⟨-a, by omega⟩
    rw [Int.neg_tdiv] at *
    have := Int.tdiv_nonneg (show 0 ≤ m by omega) (show 0 ≤ b by omega)
    omega
theorem tmod_range {a b : Int} (h : I64 a) : I64 (a.tmod b) := by
  unfold I64 at *
  have h1 : (a.tmod b).natAbs ≤ a.natAbs := by rw [Int.natAbs_tmod]; exact Nat.mod_le _ _
  by_cases ha : 0 ≤ a
  · have := Int.tmod_nonneg b ha; omega
  · obtain ⟨m, rfl⟩ : ∃ m, a = -m := ⟨-a, by omega⟩
    rw [Int.neg_tmod] at *
    have := Int.tmod_nonneg b (show 0 ≤ m by omega)
    omega
theorem quoM_range {c : CaseM} {n : Int} (h : I64 n) : ∀ j, I64 (quoM c n j)
  | 0 => h
  | j + 1 => tdiv_range (quoM_range h j) (many_pos _ _)

end Go.Proofs.YthcfjdkflmkhbaaDoor

namespace Go.Proofs.YthcfjdkflmkhbaaDoor
open Go.Av

section
variable (l : List Int)
def mN (i k : Nat) : Int := atM l (3 + 5 * (i : Int) + (k : Int)) 4096
def mO (i k : Nat) : Int × Int := ((mN l i k).tmod 5, ((mN l i k).tdiv 5).tmod 9)
def mK (i : Nat) : Int := 1 + atM l (2 + 5 * (i : Int)) 4
def mL (i : Nat) : Nat → Int
  | 0 => 64
  | k + 1 => if (mN l i k).tmod 5 < mL i k then (mN l i k).tmod 5 else mL i k
def mRow (i k : Nat) : List (Int × Int) := (List.range k).map (mO l i)
def mItem (i : Nat) : List (Int × Int) := mRow l i (mK l i).toNat
def mF : Nat → Int
  | 0 => 0
  | i + 1 => mF i + mL l i (mK l i).toNat
def mW (i : Nat) : Int := [1, 2, 3, 0, 10, 1].getD (atM l (7 + 5 * (i : Int)) 6).toNat default
def mItems (i : Nat) : List (List (Int × Int)) := (List.range i).map (mItem l)
def mWs (i : Nat) : List Int := (List.range i).map (mW l)
def mCnt : Int := atM l 0 7
def mRoom : Int := if mF l (mCnt l).toNat + atM l 1 16 - 2 < 0 then 0 else mF l (mCnt l).toNat + atM l 1 16 - 2
def madeM : CaseM := ⟨mItems l (mCnt l).toNat, mWs l (mCnt l).toNat, mRoom l⟩

theorem mN_range (i k : Nat) : 0 ≤ mN l i k ∧ mN l i k < 4096 := atM_range (by omega)
theorem mK_range (i : Nat) : 1 ≤ mK l i ∧ mK l i ≤ 4 := by
  have := atM_range (l := l) (i := 2 + 5 * (i : Int)) (m := 4) (by omega)
  unfold mK; omega
theorem mCnt_range : 0 ≤ mCnt l ∧ mCnt l ≤ 6 := by
  have := atM_range (l := l) (i := 0) (m := 7) (by omega)
  unfold mCnt; omega
theorem mO_range (i k : Nat) : (0 ≤ (mN l i k).tmod 5 ∧ (mN l i k).tmod 5 < 5) ∧ (0 ≤ (mN l i k).tdiv 5 ∧ (mN l i k).tdiv 5 < 820) ∧ 0 ≤ ((mN l i k).tdiv 5).tmod 9 ∧ ((mN l i k).tdiv 5).tmod 9 < 9 := by
  have h := mN_range l i k
  rw [Int.tmod_eq_emod_of_nonneg h.1, Int.tdiv_eq_ediv_of_nonneg h.1, Int.tmod_eq_emod_of_nonneg (by omega)]
  omega
theorem mL_range (i : Nat) : ∀ k, 0 ≤ mL l i k ∧ mL l i k ≤ 64
  | 0 => by simp [mL]
  | k + 1 => by
    have h := mL_range i k
    have ho := mO_range l i k
    simp only [mL]
    split <;> omega
theorem mF_range : ∀ i, 0 ≤ mF l i ∧ mF l i ≤ 64 * (i : Int)
  | 0 => by simp [mF]
  | i + 1 => by
    have h := mF_range i
    have ho := mL_range l i (mK l i).toNat
    simp only [mF]
    omega
theorem mRow_len (i k : Nat) : (mRow l i k).length = k := by simp [mRow]
theorem mItems_len (i : Nat) : (mItems l i).length = i := by simp [mItems]
theorem mWs_len (i : Nat) : (mWs l i).length = i := by simp [mWs]
theorem mRow_zero (i : Nat) : mRow l i 0 = [] := rfl
theorem mItems_zero : mItems l 0 = [] := rfl
theorem mWs_zero : mWs l 0 = [] := rfl
theorem mRow_succ (i k : Nat) : mRow l i (k + 1) = mRow l i k ++ [mO l i k] := by simp [mRow, List.range_succ]
theorem mItems_succ (i : Nat) : mItems l (i + 1) = mItems l i ++ [mItem l i] := by simp [mItems, List.range_succ]
theorem mWs_succ (i : Nat) : mWs l (i + 1) = mWs l i ++ [mW l i] := by simp [mWs, List.range_succ]
theorem at6 (i : Nat) : 0 ≤ atM l (7 + 5 * (i : Int)) 6 ∧ atM l (7 + 5 * (i : Int)) 6 < 6 := atM_range (by omega)
theorem mW_range (i : Nat) : 0 ≤ mW l i ∧ mW l i ≤ 10 := by
  have h := at6 l i
  have h2 : (atM l (7 + 5 * (i : Int)) 6).toNat < 6 := by omega
  unfold mW
  generalize (atM l (7 + 5 * (i : Int)) 6).toNat = n at h2
  match n, h2 with
  | 0, _ | 1, _ | 2, _ | 3, _ | 4, _ | 5, _ => decide
theorem getD_map_range {α : Type} [Inhabited α] (f : Nat → α) (n i : Nat) (h : i < n) : ((List.range n).map f).getD i default = f i := by
  simp [List.getD_eq_getElem?_getD, h]

theorem madeM_ok : OkC (madeM l) := by
  have hc := mCnt_range l
  have hlen : (madeM l).items.length = (mCnt l).toNat := mItems_len l _
  have hit : ∀ i < (mCnt l).toNat, itemM (madeM l) i = mItem l i := fun i hi => getD_map_range _ _ _ hi
  have hwt : ∀ i < (mCnt l).toNat, weightM (madeM l) i = mW l i := fun i hi => getD_map_range _ _ _ hi
  refine ⟨by omega, fun i hi => ?_, fun i hi => ?_, by rw [hlen]; exact mWs_len l _, ?_, fun i hi => ?_, fun i hi o ho => ?_⟩
  · rw [hit i (by omega), mItem, mRow_len]
    have := mK_range l i; omega
  · rw [hit i (by omega), mItem, mRow_len]
    have := mK_range l i; omega
  · have h1 := mF_range l (mCnt l).toNat
    have h2 := atM_range (l := l) (i := 1) (m := 16) (by omega)
    show 0 ≤ mRoom l ∧ mRoom l ≤ 4096
    unfold mRoom
    split <;> omega
  · rw [hwt i (by omega)]
    have := mW_range l i; omega
  · rw [hit i (by omega), mItem, mRow, List.mem_map] at ho
    obtain ⟨k, _, rfl⟩ := ho
    have := mO_range l i k
    unfold okO mO
    simp only
    omega
theorem madeM_len : (madeM l).items.length ≤ 6 := by
  have hc := mCnt_range l
  have hlen : (madeM l).items.length = (mCnt l).toNat := mItems_len l _
  omega
end

end Go.Proofs.YthcfjdkflmkhbaaDoor

namespace Go.Proofs.YthcfjdkflmkhbaaDoor
open Go.Av

def I2 (o : Int × Int) : Prop := I64 o.1 ∧ I64 o.2
/-- Sizes that no count runs out of, by members. -/
structure SzL (c : CaseM) : Prop where
  ni : c.items.length ≤ 100
  nw : c.weights.length ≤ 100
  nl : ∀ l ∈ c.items, l.length ≤ 100
  iw : ∀ w ∈ c.weights, I64 w
  ir : I64 c.room
  io : ∀ l ∈ c.items, ∀ o ∈ l, I2 o
theorem SzL.sz {c : CaseM} (h : SzL c) : SzC c :=
  ⟨h.ni, fun i hi => getD_all h.nl hi, h.nw, fun i hi => getD_all h.iw hi, h.ir, fun i hi k hk => getD_all (getD_all (p := fun l => ∀ o ∈ l, I2 o) h.io hi) hk⟩
theorem mem_getD {α : Type} [Inhabited α] {l : List α} {x : α} (h : x ∈ l) : ∃ i, i < l.length ∧ x = l.getD i default := by
  obtain ⟨k, hk, rfl⟩ := List.mem_iff_getElem.1 h
  exact ⟨k, hk, by rw [List.getD_eq_getElem?_getD, List.getElem?_eq_getElem hk]; rfl⟩
theorem SzC.szl {c : CaseM} (h : SzC c) : SzL c := by
  refine ⟨h.ni, h.nw, fun l hl => ?_, fun w hw => ?_, h.ir, fun l hl o ho => ?_⟩
  · obtain ⟨i, hi, rfl⟩ := mem_getD hl; exact h.nl i hi
  · obtain ⟨i, hi, rfl⟩ := mem_getD hw; exact h.iw i hi
  · obtain ⟨i, hi, rfl⟩ := mem_getD hl
    obtain ⟨k, hk, rfl⟩ := mem_getD ho
    exact h.io i hi k hk

def spN (y : Int) : Int := [-1, 0, 1, 64, 65, 1024, 1025, 4096, 4097].getD (aroundM y 9).toNat default
def spMax (c : CaseM) : Int := if (c.items.length : Int) < 1 then 1 else (c.items.length : Int)
def spK (c : CaseM) (y : Int) : Int := aroundM (y.tdiv 9) (spMax c)
def spJ (c : CaseM) (y : Int) : Nat := (63 + aroundM y 3 - c.items.length).toNat
def spoiltM (c : CaseM) (how y : Int) : CaseM :=
  if aroundM how 8 = 0 then ⟨c.items, c.weights, spN y⟩
  else if aroundM how 8 = 1 then (if spK c y < c.weights.length then ⟨c.items, c.weights.set (spK c y).toNat (spN y), c.room⟩ else c)
  else if aroundM how 8 = 2 then ⟨c.items, c.weights ++ [1], c.room⟩
  else if aroundM how 8 = 3 then ⟨c.items ++ [[]], c.weights ++ [1], c.room⟩
  else if aroundM how 8 = 4 then (if spK c y < c.items.length then ⟨c.items.set (spK c y).toNat ((spN y, 1) :: itemM c (spK c y).toNat), c.weights, c.room⟩ else c)
  else if aroundM how 8 = 5 then (if spK c y < c.items.length then ⟨c.items.set (spK c y).toNat ((1, spN y) :: itemM c (spK c y).toNat), c.weights, c.room⟩ else c)
  else if aroundM how 8 = 6 then ⟨c.items ++ [List.replicate (7 + aroundM y 3).toNat (0, 0)], c.weights ++ [1], c.room⟩
  else ⟨c.items ++ List.replicate (spJ c y) [(1, 0)], c.weights ++ List.replicate (spJ c y) 1, c.room⟩

theorem spN_range (y : Int) : -1 ≤ spN y ∧ spN y ≤ 4097 := by
  have h := aroundM_range (n := y) (m := 9) (by omega)
  have h2 : (aroundM y 9).toNat < 9 := by omega
  unfold spN
  generalize (aroundM y 9).toNat = n at h2
  match n, h2 with
  | 0, _ | 1, _ | 2, _ | 3, _ | 4, _ | 5, _ | 6, _ | 7, _ | 8, _ => decide

theorem spoiltM_sz {c : CaseM} (h : SzC c) (how y : Int) (hl : ∀ l ∈ c.items, l.length ≤ 8) (hi : c.items.length ≤ 6) (hw : c.weights.length ≤ 6) : SzC (spoiltM c how y) := by
  apply SzL.sz
  have h := h.szl
  have hn := spN_range y
  have hn64 : I64 (spN y) := by unfold I64; omega
  have h0 : I64 0 := by unfold I64; omega
  have h1 : I64 1 := by unfold I64; omega
  have ha := aroundM_range (n := y) (m := 3) (by omega)
  have hj : spJ c y ≤ 65 := by unfold spJ; omega
  have hk : spK c y < c.items.length → 0 ≤ spK c y := fun _ => by
    have hm : 0 < spMax c := by unfold spMax; split <;> omega
    exact (aroundM_range (n := y.tdiv 9) (m := spMax c) hm).1
  have hit : spK c y < c.items.length → itemM c (spK c y).toNat ∈ c.items := fun hlt => getD_all (p := fun x => x ∈ c.items) (fun x h => h) (by have := hk hlt; omega)
  have set_items : ∀ o : Int × Int, I2 o → spK c y < c.items.length → SzL ⟨c.items.set (spK c y).toNat (o :: itemM c (spK c y).toNat), c.weights, c.room⟩ := fun o ho hlt => by
    have hm := hit hlt
    refine ⟨by simp; omega, h.nw, fun l hl' => ?_, h.iw, h.ir, fun l hl' p hp => ?_⟩
    · rcases List.mem_or_eq_of_mem_set hl' with h2 | rfl
      · exact h.nl l h2
      · have := hl _ hm; simp only [List.length_cons]; omega
    · rcases List.mem_or_eq_of_mem_set hl' with h2 | rfl
      · exact h.io l h2 p hp
      · rcases List.mem_cons.1 hp with rfl | hp
        · exact ho
        · exact h.io _ hm p hp
  have add : ∀ (ls : List (List (Int × Int))) (ws : List Int), ls.length ≤ 65 → ws.length ≤ 65 → (∀ l ∈ ls, l.length ≤ 100) → (∀ w ∈ ws, I64 w) → (∀ l ∈ ls, ∀ o ∈ l, I2 o) → SzL ⟨c.items ++ ls, c.weights ++ ws, c.room⟩ := fun ls ws a1 a2 a3 a4 a5 => by
    refine ⟨by simp; omega, by simp; omega, fun l hl' => ?_, fun w hw' => ?_, h.ir, fun l hl' => ?_⟩
    · rcases List.mem_append.1 hl' with h2 | h2
      · exact h.nl l h2
      · exact a3 l h2
    · rcases List.mem_append.1 hw' with h2 | h2
      · exact h.iw w h2
      · exact a4 w h2
    · rcases List.mem_append.1 hl' with h2 | h2
      · exact h.io l h2
      · exact a5 l h2
  unfold spoiltM
  split
  · exact ⟨h.ni, h.nw, h.nl, h.iw, hn64, h.io⟩
  split
  · split
    · refine ⟨h.ni, by simp; omega, h.nl, fun w hw' => ?_, h.ir, h.io⟩
      rcases List.mem_or_eq_of_mem_set hw' with h2 | rfl
      · exact h.iw w h2
      · exact hn64
    · exact h
  split
  · have := add [] [1] (by simp) (by simp) (by simp) (by simp [h1]) (by simp)
    simpa using this
  split
  · exact add [[]] [1] (by simp) (by simp) (by simp) (by simp [h1]) (by simp)
  split
  · split
    · rename_i hlt; exact set_items _ ⟨hn64, h1⟩ hlt
    · exact h
  split
  · split
    · rename_i hlt; exact set_items _ ⟨h1, hn64⟩ hlt
    · exact h
  split
  · refine add _ [1] (by simp) (by simp) (fun l hl' => ?_) (by simp [h1]) (fun l hl' o ho => ?_)
    · simp only [List.mem_cons, List.not_mem_nil, or_false] at hl'
      subst hl'
      simp only [List.length_replicate]; omega
    · simp only [List.mem_cons, List.not_mem_nil, or_false] at hl'
      subst hl'
      have := List.eq_of_mem_replicate ho
      subst this
      exact ⟨h0, h0⟩
  · refine add _ _ (by simp; omega) (by simp; omega) (fun l hl' => ?_) (fun w hw' => ?_) (fun l hl' o ho => ?_)
    · have := List.eq_of_mem_replicate hl'
      subst this
      simp
    · have := List.eq_of_mem_replicate hw'
      subst this
      exact h1
    · have := List.eq_of_mem_replicate hl'
      subst this
      simp only [List.mem_cons, List.not_mem_nil, or_false] at ho
      subst ho
      exact ⟨h1, h0⟩

end Go.Proofs.YthcfjdkflmkhbaaDoor

namespace Go.Proofs.YthcfjdkflmkhbaaDoor
open Go.Av

abbrev none2 : Int × Int := (-1, -1)
def lessM (a b : Int × Int) : Bool := (b.1 == -1 && b.2 == -1) || decide (a.1 < b.1) || (a.1 == b.1 && decide (a.2 < b.2))

section
variable (opts : List (Int × Int)) (w : Int) (aft : List (Int × Int)) (r : Nat)
def stepM (x : (Int × Int) × Int) (k : Nat) : (Int × Int) × Int :=
  if (r : Int) < (opts.getD k default).1 ∨ aft.getD ((r : Int) - (opts.getD k default).1).toNat default = none2 then x
  else if lessM ((aft.getD ((r : Int) - (opts.getD k default).1).toNat default).1 + w * (opts.getD k default).2, (aft.getD ((r : Int) - (opts.getD k default).1).toNat default).2 + (opts.getD k default).1) x.1 then
    (((aft.getD ((r : Int) - (opts.getD k default).1).toNat default).1 + w * (opts.getD k default).2, (aft.getD ((r : Int) - (opts.getD k default).1).toNat default).2 + (opts.getD k default).1), (k : Int))
  else x
def cellM : Nat → (Int × Int) × Int
  | 0 => (none2, 0)
  | k + 1 => stepM opts w aft r (cellM k) k
end

def okT (m : Nat) (x : Int × Int) : Prop := x = none2 ∨ (0 ≤ x.1 ∧ x.1 ≤ 65536 * (m : Int) ∧ 0 ≤ x.2 ∧ x.2 ≤ 64 * (m : Int))
theorem okT.i64 {m : Nat} {x : Int × Int} (h : okT m x) : -1 ≤ x.1 ∧ x.1 ≤ 65536 * (m : Int) ∧ -1 ≤ x.2 ∧ x.2 ≤ 64 * (m : Int) := by
  rcases h with rfl | h
  · simp; omega
  · omega

theorem cell_snd {opts : List (Int × Int)} {w : Int} {aft : List (Int × Int)} {r : Nat} : ∀ k, 0 ≤ (cellM opts w aft r k).2 ∧ (cellM opts w aft r k).2 ≤ (k : Int)
  | 0 => by simp [cellM]
  | k + 1 => by
    have h := cell_snd (opts := opts) (w := w) (aft := aft) (r := r) k
    simp only [cellM, stepM]
    split
    · omega
    · split
      · simp; omega
      · omega

theorem cell_ok {opts : List (Int × Int)} {w : Int} {aft : List (Int × Int)} {r m : Nat} (hw : 0 ≤ w ∧ w ≤ 1024) (ho : ∀ k < opts.length, okO (opts.getD k default)) (hr : r < aft.length) (ha : ∀ q < aft.length, okT m (aft.getD q default)) :
    ∀ k ≤ opts.length, okT (m + 1) (cellM opts w aft r k).1
  | 0, _ => .inl rfl
  | k + 1, hk => by
    have h := cell_ok hw ho hr ha k (by omega)
    have hok := ho k (by omega)
    simp only [cellM, stepM]
    split
    · exact h
    · rename_i hn
      simp only [not_or, Int.not_lt] at hn
      split
      · unfold okO at hok
        have hq := ha ((r : Int) - (opts.getD k default).1).toNat (by omega)
        have hq := hq.resolve_left hn.2
        have h1 : 0 ≤ w * (opts.getD k default).2 := Int.mul_nonneg hw.1 hok.2.2.1
        have h2 : w * (opts.getD k default).2 ≤ 1024 * 64 := Int.mul_le_mul hw.2 hok.2.2.2 hok.2.2.1 (by omega)
        right
        simp only
        omega
      · exact h

theorem cell_fst {opts : List (Int × Int)} {w : Int} {aft : List (Int × Int)} {r : Nat} : ∀ k, (cellM opts w aft r k).1 ≠ none2 →
    (cellM opts w aft r k).2 < (k : Int) ∧ (opts.getD (cellM opts w aft r k).2.toNat default).1 ≤ (r : Int) ∧ aft.getD ((r : Int) - (opts.getD (cellM opts w aft r k).2.toNat default).1).toNat default ≠ none2
  | 0, h => absurd rfl h
  | k + 1, h => by
    have ih := cell_fst (opts := opts) (w := w) (aft := aft) (r := r) k
    simp only [cellM, stepM] at h ⊢
    split at h
    · rename_i hn
      rw [if_pos hn]
      have := ih h
      exact ⟨by omega, this.2⟩
    · rename_i hn
      rw [if_neg hn]
      split at h
      · rename_i hl
        rw [if_pos hl]
        simp only [not_or, Int.not_lt] at hn
        simp only [Int.toNat_natCast]
        exact ⟨by omega, hn.1, hn.2⟩
      · rename_i hl
        rw [if_neg hl]
        have := ih h
        exact ⟨by omega, this.2⟩

section
variable (c : CaseM)
/-- How many rests there are. -/
def n1M : Nat := (c.room + 1).toNat
def aftM : Nat → List (Int × Int)
  | 0 => List.replicate (n1M c) (0, 0)
  | j + 1 => (List.range (n1M c)).map fun r => (cellM (c.items.getD (c.items.length - 1 - j) default) (c.weights.getD (c.items.length - 1 - j) default) (aftM j) r (c.items.getD (c.items.length - 1 - j) default).length).1
def firJ (j : Nat) (r : Nat) : Int := (cellM (c.items.getD (c.items.length - 1 - j) default) (c.weights.getD (c.items.length - 1 - j) default) (aftM c j) r (c.items.getD (c.items.length - 1 - j) default).length).2
def firM (i : Nat) : List Int := (List.range (n1M c)).map (firJ c (c.items.length - 1 - i))
theorem aftM_len : ∀ j, (aftM c j).length = n1M c
  | 0 => by simp [aftM]
  | j + 1 => by simp [aftM]
def curM : Nat → Int
  | 0 => c.room
  | i + 1 => curM i - ((c.items.getD i default).getD ((firM c i).getD (curM i).toNat default).toNat default).1
def kM (i : Nat) : Int := (firM c i).getD (curM c i).toNat default
def pickBM (i : Nat) : List Int := (List.range i).map (kM c)
theorem pickBM_len (i : Nat) : (pickBM c i).length = i := by simp [pickBM]
theorem pickBM_zero : pickBM c 0 = [] := rfl
theorem pickBM_succ (i : Nat) : pickBM c (i + 1) = pickBM c i ++ [kM c i] := by simp [pickBM, List.range_succ]
def bestM : List Int × Int × Int :=
  if validM c ≠ 0 then ([], 0, validM c)
  else if (aftM c c.items.length).getD c.room.toNat default = none2 then ([], 0, 21)
  else (pickBM c c.items.length, ((aftM c c.items.length).getD c.room.toNat default).1, 0)

/-- The rows of the first options: nil ones, and those that are there. -/
def rowsA (j : Nat) : List AV := (List.range c.items.length).map fun k => if k + j < c.items.length then .nils else .dat (isD (firM c k))
theorem rowsA_len (j : Nat) : (rowsA c j).length = c.items.length := by simp [rowsA]
theorem rowsA_kill (j d : Nat) : (rowsA c j).map (AV.kill d) = rowsA c j := by
  simp only [rowsA, List.map_map]
  apply List.map_congr_left
  intro k _
  simp only [Function.comp]
  split <;> simp [AV.kill]
theorem rowsA_frz (j id es : Nat) (ds : List Dat) : (rowsA c j).map (AV.frz id es ds) = rowsA c j := by
  simp only [rowsA, List.map_map]
  apply List.map_congr_left
  intro k _
  simp only [Function.comp]
  split <;> simp [AV.frz]
theorem rowsA_kset (j i id es off len d : Nat) (h : id ≠ d) : ((rowsA c j).set i (.osl id es off len)).map (AV.kill d) = (rowsA c j).set i (.osl id es off len) := by
  rw [List.map_set, rowsA_kill]
  simp [AV.kill, h]
theorem rowsA_zero : rowsA c 0 = List.replicate c.items.length .nils := by
  apply List.ext_getElem (by simp [rowsA])
  intro k h1 h2
  simp only [rowsA, List.getElem_map, List.getElem_range, List.getElem_replicate]
  rw [if_pos]
  simpa [rowsA] using h1
theorem rowsA_nil (j : Nat) (h : j < c.items.length) (d : AV) : ((rowsA c j)[c.items.length - 1 - j]?).getD d = .nils := by
  rw [List.getElem?_eq_getElem (by rw [rowsA_len]; omega)]
  simp only [rowsA, List.getElem_map, List.getElem_range, Option.getD_some]
  rw [if_pos (by omega)]
theorem rowsA_succ (j : Nat) (h : j < c.items.length) : (rowsA c j).set (c.items.length - 1 - j) (.dat (isD (firM c (c.items.length - 1 - j)))) = rowsA c (j + 1) := by
  apply List.ext_getElem (by simp [rowsA])
  intro k h1 h2
  rw [List.getElem_set]
  simp only [rowsA, List.getElem_map, List.getElem_range]
  split
  · rename_i e
    rw [← e, if_neg (by omega)]
  · rename_i e
    have hk : k < c.items.length := by simpa [rowsA] using h2
    by_cases h3 : k + j < c.items.length
    · rw [if_pos h3, if_pos (by omega)]
    · rw [if_neg h3, if_neg (by omega)]
theorem rowsA_all : rowsA c c.items.length = (((List.range c.items.length).map (firM c)).map isD).map .dat := by
  simp only [rowsA, List.map_map]
  apply List.map_congr_left
  intro k _
  simp only [Function.comp]
  rw [if_neg (by omega)]

variable {c}
theorem aft_ok (hc : OkC c) : ∀ j ≤ c.items.length, ∀ r < (aftM c j).length, okT j ((aftM c j).getD r default)
  | 0, _, r, hr => by
    rw [aftM_len] at hr
    have : (aftM c 0).getD r default = (0, 0) := by simp [aftM, List.getD_eq_getElem?_getD, hr]
    rw [this]
    right; simp
  | j + 1, hj, r, hr => by
    rw [aftM_len] at hr
    have ih := aft_ok hc j (by omega)
    simp only [aftM]
    rw [getD_map_range _ _ _ hr]
    exact cell_ok (hc.w _ (by omega)) (fun k hk => getD_all (hc.o _ (by omega)) hk) (by rw [aftM_len]; exact hr) ih _ (Nat.le_refl _)

theorem n1_room (hc : OkC c) : (n1M c : Int) = c.room + 1 := by
  have := hc.room
  unfold n1M; omega

/-- Along the choice the total is there. -/
theorem cur_ok (hc : OkC c) (hb : (aftM c c.items.length).getD c.room.toNat default ≠ none2) : ∀ i ≤ c.items.length, (0 ≤ curM c i ∧ curM c i ≤ c.room) ∧ (aftM c (c.items.length - i)).getD (curM c i).toNat default ≠ none2
  | 0, _ => by
    have := hc.room
    exact ⟨by simp only [curM]; omega, hb⟩
  | i + 1, hi => by
    obtain ⟨h1, h2⟩ := cur_ok hc hb i (by omega)
    have hn := n1_room hc
    have hj : c.items.length - i = (c.items.length - 1 - i) + 1 := by omega
    have hr : (curM c i).toNat < n1M c := by omega
    rw [hj] at h2
    simp only [aftM] at h2
    rw [getD_map_range _ _ _ hr] at h2
    have hii : c.items.length - 1 - (c.items.length - 1 - i) = i := by omega
    rw [hii] at h2
    obtain ⟨h3, h4, h5⟩ := cell_fst _ h2
    have hk : (firM c i).getD (curM c i).toNat default = (cellM (c.items.getD i default) (c.weights.getD i default) (aftM c (c.items.length - 1 - i)) (curM c i).toNat (c.items.getD i default).length).2 := by
      unfold firM
      rw [getD_map_range _ _ _ hr]
      unfold firJ
      rw [hii]
    have hs := (cell_snd (opts := c.items.getD i default) (w := c.weights.getD i default) (aft := aftM c (c.items.length - 1 - i)) (r := (curM c i).toNat) (c.items.getD i default).length).1
    have ho := getD_all (hc.o i (by omega)) (i := ((firM c i).getD (curM c i).toNat default).toNat) (by rw [hk]; simp only [itemM]; omega)
    simp only [curM]
    rw [← hk] at h4 h5
    simp only [itemM] at ho
    unfold okO at ho
    have hcc : ((curM c i).toNat : Int) = curM c i := by omega
    rw [hcc] at h4 h5
    refine ⟨by omega, ?_⟩
    rw [show c.items.length - (i + 1) = c.items.length - 1 - i by omega]
    exact h5
theorem kM_ok (hc : OkC c) (hb : (aftM c c.items.length).getD c.room.toNat default ≠ none2) {i : Nat} (hi : i < c.items.length) : (0 ≤ kM c i ∧ kM c i < ((c.items.getD i default).length : Int)) ∧ okO ((c.items.getD i default).getD (kM c i).toNat default) := by
  obtain ⟨h1, h2⟩ := cur_ok hc hb i (by omega)
  have hn := n1_room hc
  have hj : c.items.length - i = (c.items.length - 1 - i) + 1 := by omega
  have hr : (curM c i).toNat < n1M c := by omega
  rw [hj] at h2
  simp only [aftM] at h2
  rw [getD_map_range _ _ _ hr] at h2
  have hii : c.items.length - 1 - (c.items.length - 1 - i) = i := by omega
  rw [hii] at h2
  obtain ⟨h3, h4, h5⟩ := cell_fst _ h2
  have hk : kM c i = (cellM (c.items.getD i default) (c.weights.getD i default) (aftM c (c.items.length - 1 - i)) (curM c i).toNat (c.items.getD i default).length).2 := by
    unfold kM firM
    rw [getD_map_range _ _ _ hr]
    unfold firJ
    rw [hii]
  have hs := (cell_snd (opts := c.items.getD i default) (w := c.weights.getD i default) (aft := aftM c (c.items.length - 1 - i)) (r := (curM c i).toNat) (c.items.getD i default).length).1
  have hr2 : 0 ≤ kM c i ∧ kM c i < ((c.items.getD i default).length : Int) := by rw [hk]; exact ⟨hs, h3⟩
  exact ⟨hr2, getD_all (hc.o i hi) (by simp only [itemM]; omega)⟩
end

def aftJ (c : CaseM) (j r : Nat) : Int × Int := (cellM (c.items.getD (c.items.length - 1 - j) default) (c.weights.getD (c.items.length - 1 - j) default) (aftM c j) r (c.items.getD (c.items.length - 1 - j) default).length).1
def cellK (c : CaseM) (j r k : Nat) : (Int × Int) × Int := cellM (c.items.getD (c.items.length - 1 - j) default) (c.weights.getD (c.items.length - 1 - j) default) (aftM c j) r k
theorem cellK_zero (c : CaseM) (j r : Nat) : cellK c j r 0 = ((-1, -1), 0) := rfl
theorem cellK_succ (c : CaseM) (j r k : Nat) : cellK c j r (k + 1) = stepM (c.items.getD (c.items.length - 1 - j) default) (c.weights.getD (c.items.length - 1 - j) default) (aftM c j) r (cellK c j r k) k := rfl
theorem aftM_zero (c : CaseM) : aftM c 0 = List.replicate (n1M c) (0, 0) := rfl
theorem aftM_succ (c : CaseM) (j : Nat) : aftM c (j + 1) = (List.range (n1M c)).map (aftJ c j) := rfl
theorem rowsA_next (c : CaseM) (j : Nat) (h : j < c.items.length) : (rowsA c j).set (c.items.length - 1 - j) (.dat (.sl (List.map (Dat.int .i64) ((List.range (n1M c)).map (firJ c j))))) = rowsA c (j + 1) := by
  rw [← rowsA_succ c j h]
  unfold firM
  rw [show c.items.length - 1 - (c.items.length - 1 - j) = j by omega]

/-- The first r of n values, and then d. -/
def nowL {α : Type} (f : Nat → α) (d : α) (n r : Nat) : List α := (List.range n).map fun q => if q < r then f q else d
theorem nowL_len {α : Type} (f : Nat → α) (d : α) (n r : Nat) : (nowL f d n r).length = n := by simp [nowL]
theorem nowL_zero {α : Type} (f : Nat → α) (d : α) (n : Nat) : nowL f d n 0 = List.replicate n d := by
  simp only [nowL, Nat.not_lt_zero, if_false]
  exact (List.eq_replicate_iff.2 ⟨by simp, by simp⟩)
theorem nowL_all {α : Type} (f : Nat → α) (d : α) (n : Nat) : nowL f d n n = (List.range n).map f := by
  simp only [nowL]
  apply List.map_congr_left
  intro q hq
  rw [if_pos (by simpa using hq)]
theorem nowL_set {α : Type} (f : Nat → α) (d : α) (n r : Nat) : (nowL f d n r).set r (f r) = nowL f d n (r + 1) := by
  apply List.ext_getElem (by simp [nowL])
  intro k h1 h2
  rw [List.getElem_set]
  simp only [nowL, List.getElem_map, List.getElem_range]
  split
  · rename_i e; subst e; rw [if_pos (by omega)]
  · rename_i e
    by_cases h3 : k < r
    · rw [if_pos h3, if_pos (by omega)]
    · rw [if_neg h3, if_neg (by omega)]
theorem nowL_self {α : Type} (f : Nat → α) (d : α) (n r : Nat) : (nowL f d n r).set r d = nowL f d n r := by
  apply List.ext_getElem (by simp [nowL])
  intro k h1 h2
  rw [List.getElem_set]
  simp only [nowL, List.getElem_map, List.getElem_range]
  split
  · rename_i e; subst e; rw [if_neg (by omega)]
  · rfl
theorem nowA_next (c : CaseM) (j n r : Nat) (d : Int × Int) : (nowL (aftJ c j) d n r).set r (cellK c j r (c.items.getD (c.items.length - 1 - j) default).length).1 = nowL (aftJ c j) d n (r + 1) := nowL_set (aftJ c j) d n r
theorem nowF_next (c : CaseM) (j n r : Nat) (d : Int) : (nowL (firJ c j) d n r).set r (cellK c j r (c.items.getD (c.items.length - 1 - j) default).length).2 = nowL (firJ c j) d n (r + 1) := nowL_set (firJ c j) d n r
theorem getD_set_self {α : Type} [Inhabited α] (l : List α) (i : Nat) (x : α) (h : i < l.length) : (l.set i x).getD i default = x := by
  simp [List.getD_eq_getElem?_getD, h]
theorem getA_set_self (l : List AV) (i : Nat) (x d : AV) (h : i < l.length) : ((l.set i x)[i]?).getD d = x := by
  simp [h]
theorem set_rowP (l : List (Int × Int)) (i : Nat) (a b : Int) : ((l.map oD).map AV.dat).set i (.dat (.agg [.int .i64 a, .int .i64 b])) = ((l.set i (a, b)).map oD).map AV.dat := set_row oD l i (a, b)

end Go.Proofs.YthcfjdkflmkhbaaDoor

namespace Go.Proofs.YthcfjdkflmkhbaaDoor
open Go.Av

abbrev rD (r : Int × Int × Int × Int) : Dat := .agg [.int .i64 r.1, .int .i64 r.2.1, .int .i64 r.2.2.1, .int .i64 r.2.2.2]
theorem datE_rep (n : Nat) (d : Dat) : datE (List.replicate n (AV.dat d)) = some (List.replicate n d) := by
  have := datE_map (List.replicate n d)
  rwa [List.map_replicate] at this

end Go.Proofs.YthcfjdkflmkhbaaDoor

namespace Go.Proofs.YthcfjdkflmkhbaaDoor
open Go.Av

abbrev ceD (x : Int × Int × Int) : Dat := .agg [.int .i64 x.1, .int .i64 x.2.1, .int .i64 x.2.2]

section
variable (c : CaseM) (p q : Int)
def valM (i : Nat) (o : Int × Int) : Int := q * (c.weights.getD i default) * o.2 + p * o.1
def minV (i : Nat) : Nat → Int
  | 0 => valM c p q i ((c.items.getD i default).getD 0 default)
  | k + 1 => if valM c p q i ((c.items.getD i default).getD k default) < minV i k then valM c p q i ((c.items.getD i default).getD k default) else minV i k
def bndM : Nat → Int
  | 0 => (0 - p) * c.room
  | i + 1 => bndM i + minV c p q i (c.items.getD i default).length
def boundM : Int × Int × Int := (p, q, bndM c p q c.items.length)
def okPQ (p q : Int) : Prop := 0 ≤ p ∧ p ≤ 1048576 ∧ 0 ≤ q ∧ q ≤ 1048576

variable {c p q}
theorem val_range (hpq : okPQ p q) {i : Nat} {o : Int × Int} (hw : 0 ≤ c.weights.getD i default ∧ c.weights.getD i default ≤ 1024) (ho : okO o) :
    (0 ≤ q * (c.weights.getD i default) ∧ q * (c.weights.getD i default) ≤ 1048576 * 1024) ∧ (0 ≤ q * (c.weights.getD i default) * o.2 ∧ q * (c.weights.getD i default) * o.2 ≤ 1048576 * 1024 * 64) ∧ (0 ≤ p * o.1 ∧ p * o.1 ≤ 1048576 * 64) ∧
    0 ≤ valM c p q i o ∧ valM c p q i o ≤ 68786585600 := by
  obtain ⟨p1, p2, q1, q2⟩ := hpq
  obtain ⟨o1, o2, o3, o4⟩ := ho
  have h1 : 0 ≤ q * (c.weights.getD i default) := Int.mul_nonneg q1 hw.1
  have h2 : q * (c.weights.getD i default) ≤ 1048576 * 1024 := Int.mul_le_mul q2 hw.2 hw.1 (by omega)
  have h3 : 0 ≤ q * (c.weights.getD i default) * o.2 := Int.mul_nonneg h1 o3
  have h4 : q * (c.weights.getD i default) * o.2 ≤ 1048576 * 1024 * 64 := Int.mul_le_mul h2 o4 o3 (by omega)
  have h5 : 0 ≤ p * o.1 := Int.mul_nonneg p1 o1
  have h6 : p * o.1 ≤ 1048576 * 64 := Int.mul_le_mul p2 o2 o1 (by omega)
  unfold valM
  omega
theorem minV_range (hc : OkC c) (hpq : okPQ p q) {i : Nat} (hi : i < c.items.length) : ∀ k ≤ (c.items.getD i default).length, 0 ≤ minV c p q i k ∧ minV c p q i k ≤ 68786585600
  | 0, _ => (val_range hpq (hc.w i hi) (getD_all (hc.o i hi) (hc.n1 i hi))).2.2.2
  | k + 1, hk => by
    have h1 := minV_range hc hpq hi k (by omega)
    have h2 := (val_range (p := p) (q := q) hpq (hc.w i hi) (getD_all (hc.o i hi) (i := k) (by simp only [itemM]; omega))).2.2.2
    simp only [minV]
    split
    · exact h2
    · exact h1
theorem room_range (hc : OkC c) (hpq : okPQ p q) : -4294967296 ≤ (0 - p) * c.room ∧ (0 - p) * c.room ≤ 0 := by
  obtain ⟨p1, p2, _⟩ := hpq
  have hr := hc.room
  have h1 : 0 ≤ p * c.room := Int.mul_nonneg p1 hr.1
  have h2 : p * c.room ≤ 1048576 * 4096 := Int.mul_le_mul p2 hr.2 hr.1 (by omega)
  have h3 : (0 - p) * c.room = -(p * c.room) := by rw [Int.zero_sub, Int.neg_mul]
  omega
theorem bnd_range (hc : OkC c) (hpq : okPQ p q) : ∀ i ≤ c.items.length, -4294967296 ≤ bndM c p q i ∧ bndM c p q i ≤ 68786585600 * (i : Int)
  | 0, _ => by
    have := room_range hc hpq
    simp only [bndM]; omega
  | i + 1, h => by
    have h1 := bnd_range hc hpq i (by omega)
    have h2 := minV_range hc hpq (show i < c.items.length by omega) _ (Nat.le_refl _)
    simp only [bndM]
    omega
end

/-- The option with the fewest lines, and of these the fewest turns. -/
def shAt (l : List (Int × Int)) : Nat → Nat
  | 0 => 0
  | k + 1 => if (l.getD k default).1 < (l.getD (shAt l k) default).1 ∨ ((l.getD k default).1 = (l.getD (shAt l k) default).1 ∧ (l.getD k default).2 < (l.getD (shAt l k) default).2) then k else shAt l k
theorem shAt_zero (l : List (Int × Int)) : shAt l 0 = 0 := rfl
theorem shAt_le (l : List (Int × Int)) : ∀ k, shAt l k ≤ k ∧ (0 < k → shAt l k < k)
  | 0 => by simp [shAt]
  | k + 1 => by
    have h := shAt_le l k
    simp only [shAt]
    split
    · omega
    · omega
def shortI (c : CaseM) (i : Nat) : Int := (shAt (c.items.getD i default) (c.items.getD i default).length : Int)
def shortM (c : CaseM) (i : Nat) : List Int := (List.range i).map (shortI c)
theorem shortM_len (c : CaseM) (i : Nat) : (shortM c i).length = i := by simp [shortM]
theorem shortM_zero (c : CaseM) : shortM c 0 = [] := rfl
theorem shortM_succ (c : CaseM) (i : Nat) : shortM c (i + 1) = shortM c i ++ [shortI c i] := by simp [shortM, List.range_succ]
theorem shortM_ok {c : CaseM} (hc : OkC c) : OkP c (shortM c c.items.length) := by
  refine ⟨by rw [shortM_len]; exact Nat.le_refl _, fun i hi => ?_⟩
  rw [shortM_len] at hi
  have hn := hc.n1 i hi
  simp only [itemM] at hn
  have h := (shAt_le (c.items.getD i default) (c.items.getD i default).length).2 hn
  have : pickM (shortM c c.items.length) i = shortI c i := getD_map_range _ _ _ hi
  rw [this]
  unfold shortI
  simp only [itemM]
  omega

/-- The certificate of a price, or the error. -/
def boundE (c : CaseM) (p q : Int) : (Int × Int × Int) × Int :=
  if validM c ≠ 0 then ((0, 0, 0), validM c)
  else if p < 0 ∨ 1048576 < p ∨ q < 1 ∨ 1048576 < q then ((0, 0, 0), 5)
  else (boundM c p q, 0)

theorem boundE_ok {c : CaseM} {p q : Int} (h : (boundE c p q).2 = 0) : OkC c ∧ okPQ p q ∧ 1 ≤ q ∧ (boundE c p q).1 = boundM c p q := by
  unfold boundE at h ⊢
  split at h
  · rename_i h1; exact absurd h h1
  · rename_i h1
    rw [if_neg h1]
    split at h
    · simp at h
    · rename_i h2
      rw [if_neg h2]
      refine ⟨validM_ok.1 (by omega), by unfold okPQ; omega, by omega, rfl⟩
theorem tdiv_small {a b : Int} (h : -4294967296 ≤ a ∧ a ≤ 5000000000000) : -5000000000000 ≤ a.tdiv b ∧ a.tdiv b ≤ 5000000000000 := by
  have h1 : (a.tdiv b).natAbs ≤ a.natAbs := by rw [Int.natAbs_tdiv]; exact Nat.div_le_self _ _
  omega

/-- How many turns there are at least. -/
def checkM (c : CaseM) (pick : List Int) (x : Int × Int × Int) : Int × Int × Int :=
  if (costM c pick).2.2 ≠ 0 then (0, 0, (costM c pick).2.2)
  else if (boundE c x.1 x.2.1).2 ≠ 0 ∨ (boundE c x.1 x.2.1).1 ≠ x then (0, 0, 17)
  else ((costM c pick).2.1, (if 0 < x.2.2 ∧ x.2.2.tmod x.2.1 ≠ 0 then x.2.2.tdiv x.2.1 + 1 else x.2.2.tdiv x.2.1), 0)

theorem mulB {a b A B : Int} (h : -A ≤ a ∧ a ≤ A) (hb : 0 ≤ b ∧ b ≤ B) : -(A * B) ≤ a * b ∧ a * b ≤ A * B := by
  have hA : 0 ≤ A := by omega
  have h1 : a * b ≤ A * B := Int.le_trans (Int.mul_le_mul_of_nonneg_right h.2 hb.1) (Int.mul_le_mul_of_nonneg_left hb.2 hA)
  have h2 : (-a) * b ≤ A * B := Int.le_trans (Int.mul_le_mul_of_nonneg_right (by omega) hb.1) (Int.mul_le_mul_of_nonneg_left hb.2 hA)
  rw [Int.neg_mul] at h2
  omega

/-- What a certificate's numbers may be. -/
def okB (x : Int × Int × Int) : Prop := (0 ≤ x.1 ∧ x.1 ≤ 65536) ∧ (1 ≤ x.2.1 ∧ x.2.1 ≤ 64) ∧ -4294967296 ≤ x.2.2 ∧ x.2.2 ≤ 5000000000000
theorem bound_okB {c : CaseM} (hc : OkC c) {p q : Int} (hp : 0 ≤ p ∧ p ≤ 65536) (hq : 1 ≤ q ∧ q ≤ 64) : okB (boundM c p q) := by
  have hpq : okPQ p q := by unfold okPQ; omega
  have h := bnd_range hc hpq c.items.length (Nat.le_refl _)
  have hn := hc.n64
  unfold okB boundM
  simp only
  omega

theorem pq_div {p q : Nat} (hp : 0 < p ∧ p ≤ 65536) (hq : 0 < q ∧ q ≤ 64) : (0 ≤ (p : Int).tdiv (Nat.gcd p q : Nat) ∧ (p : Int).tdiv (Nat.gcd p q : Nat) ≤ 65536) ∧ 1 ≤ (q : Int).tdiv (Nat.gcd p q : Nat) ∧ (q : Int).tdiv (Nat.gcd p q : Nat) ≤ 64 := by
  have hg : 0 < Nat.gcd p q := Nat.gcd_pos_of_pos_left _ hp.1
  have h1 : (p : Int).tdiv (Nat.gcd p q : Nat) = ((p / Nat.gcd p q : Nat) : Int) := rfl
  have h2 : (q : Int).tdiv (Nat.gcd p q : Nat) = ((q / Nat.gcd p q : Nat) : Int) := rfl
  rw [h1, h2]
  have h3 : p / Nat.gcd p q ≤ p := Nat.div_le_self _ _
  have h4 : q / Nat.gcd p q ≤ q := Nat.div_le_self _ _
  have h5 : 0 < q / Nat.gcd p q := Nat.div_pos (Nat.le_of_dvd hq.1 (Nat.gcd_dvd_right _ _)) hg
  generalize p / Nat.gcd p q = P at *
  generalize q / Nat.gcd p q = Q at *
  omega

/-- The better one of a certificate and that of a price. -/
def tryM (c : CaseM) (best : Int × Int × Int) (p q : Nat) : Int × Int × Int :=
  if 0 < (boundM c ((p : Int).tdiv (Nat.gcd p q : Nat)) ((q : Int).tdiv (Nat.gcd p q : Nat))).2.2 * best.2.1 - best.2.2 * (boundM c ((p : Int).tdiv (Nat.gcd p q : Nat)) ((q : Int).tdiv (Nat.gcd p q : Nat))).2.1 ∨
    ((boundM c ((p : Int).tdiv (Nat.gcd p q : Nat)) ((q : Int).tdiv (Nat.gcd p q : Nat))).2.2 * best.2.1 - best.2.2 * (boundM c ((p : Int).tdiv (Nat.gcd p q : Nat)) ((q : Int).tdiv (Nat.gcd p q : Nat))).2.1 = 0 ∧
      (boundM c ((p : Int).tdiv (Nat.gcd p q : Nat)) ((q : Int).tdiv (Nat.gcd p q : Nat))).1 * best.2.1 < best.1 * (boundM c ((p : Int).tdiv (Nat.gcd p q : Nat)) ((q : Int).tdiv (Nat.gcd p q : Nat))).2.1) then
    boundM c ((p : Int).tdiv (Nat.gcd p q : Nat)) ((q : Int).tdiv (Nat.gcd p q : Nat))
  else best
theorem try_okB {c : CaseM} (hc : OkC c) {best : Int × Int × Int} (hb : okB best) {p q : Nat} (hp : 0 < p ∧ p ≤ 65536) (hq : 0 < q ∧ q ≤ 64) : okB (tryM c best p q) := by
  unfold tryM
  have h := pq_div hp hq
  split
  · exact bound_okB hc h.1 h.2
  · exact hb

section
variable (c : CaseM)
def dP (i a b : Nat) : Int := c.weights.getD i default * (((c.items.getD i default).getD a default).2 - ((c.items.getD i default).getD b default).2)
def dQ (i a b : Nat) : Int := ((c.items.getD i default).getD b default).1 - ((c.items.getD i default).getD a default).1
def dC (i a : Nat) (x : Int × Int × Int) : Nat → Int × Int × Int
  | 0 => x
  | b + 1 => if 0 < dP c i a b ∧ ((c.items.getD i default).getD a default).1 < ((c.items.getD i default).getD b default).1 then tryM c (dC i a x b) (dP c i a b).toNat (dQ c i a b).toNat else dC i a x b
theorem dC_zero (i a : Nat) (x : Int × Int × Int) : dC c i a x 0 = x := rfl
def dB (i : Nat) (x : Int × Int × Int) : Nat → Int × Int × Int
  | 0 => x
  | a + 1 => dC c i a (dB i x a) (c.items.getD i default).length
def dA : Nat → Int × Int × Int
  | 0 => boundM c 0 1
  | i + 1 => dB c i (dA i) (c.items.getD i default).length
/-- The certificate of the price with the greatest bound, or the error. -/
def dualM : (Int × Int × Int) × Int :=
  if validM c ≠ 0 then ((0, 0, 0), validM c)
  else if c.room < linesM c (shortM c c.items.length) (shortM c c.items.length).length then ((0, 0, 0), 21)
  else (dA c c.items.length, 0)
variable {c}
theorem dP_range (hc : OkC c) {i a b : Nat} (hi : i < c.items.length) (ha : a < (c.items.getD i default).length) (hb : b < (c.items.getD i default).length) : (-65536 ≤ dP c i a b ∧ dP c i a b ≤ 65536) ∧ -64 ≤ dQ c i a b ∧ dQ c i a b ≤ 64 := by
  have h1 := getD_all (hc.o i hi) ha
  have h2 := getD_all (hc.o i hi) hb
  have hw := hc.w i hi
  unfold okO at h1 h2
  simp only [itemM, weightM] at h1 h2 hw
  have h3 := mulB (a := ((c.items.getD i default).getD a default).2 - ((c.items.getD i default).getD b default).2) (b := c.weights.getD i default) (A := 64) (B := 1024) (by omega) hw
  unfold dP dQ
  have h4 := Int.mul_comm (c.weights.getD i default) (((c.items.getD i default).getD a default).2 - ((c.items.getD i default).getD b default).2)
  omega
theorem dC_okB (hc : OkC c) {i a : Nat} (hi : i < c.items.length) (ha : a < (c.items.getD i default).length) {x : Int × Int × Int} (hx : okB x) : ∀ b ≤ (c.items.getD i default).length, okB (dC c i a x b)
  | 0, _ => hx
  | b + 1, hb => by
    have h := dC_okB hc hi ha hx b (by omega)
    have hr := dP_range hc hi ha (show b < (c.items.getD i default).length by omega)
    simp only [dC]
    split
    · rename_i hh
      have hd : dQ c i a b = ((c.items.getD i default).getD b default).1 - ((c.items.getD i default).getD a default).1 := rfl
      exact try_okB hc h (by omega) (by omega)
    · exact h
theorem dB_okB (hc : OkC c) {i : Nat} (hi : i < c.items.length) {x : Int × Int × Int} (hx : okB x) : ∀ a ≤ (c.items.getD i default).length, okB (dB c i x a)
  | 0, _ => hx
  | a + 1, ha => by
    simp only [dB]
    exact dC_okB hc hi (by omega) (dB_okB hc hi hx a (by omega)) _ (Nat.le_refl _)
theorem dA_okB (hc : OkC c) : ∀ i ≤ c.items.length, okB (dA c i)
  | 0, _ => bound_okB hc (by omega) (by omega)
  | i + 1, hi => by
    simp only [dA]
    exact dB_okB hc (by omega) (dA_okB hc i (by omega)) _ (Nat.le_refl _)
end

end Go.Proofs.YthcfjdkflmkhbaaDoor

namespace Go.Proofs.YthcfjdkflmkhbaaDoor
open Go.Av

def exM (room : Int) : CaseM := ⟨[[(1, 4), (3, 1)], [(0, 5), (2, 2)]], [3, 1], room⟩
theorem exM_sz (room : Int) (h : 0 ≤ room ∧ room ≤ 9) : SzC (exM room) := by
  apply SzL.sz
  refine ⟨by simp [exM], by simp [exM], ?_, ?_, by unfold I64; simp only [exM]; omega, ?_⟩
  · intro l hl; simp [exM] at hl; rcases hl with rfl | rfl <;> simp
  · intro w hw; simp [exM] at hw; rcases hw with rfl | rfl <;> (unfold I64; omega)
  · intro l hl o ho; simp [exM] at hl; rcases hl with rfl | rfl <;> (simp at ho; rcases ho with rfl | rfl <;> (unfold I2 I64; simp))
theorem exB0 : bestM (exM 0) = ([], 0, 21) := by decide +kernel
theorem exB3 : bestM (exM 3) = ([1, 0], 8, 0) := by decide +kernel
theorem exB2 : bestM (exM 2) = ([0, 0], 17, 0) := by decide +kernel
theorem exB5 : bestM (exM 5) = ([1, 1], 5, 0) := by decide +kernel
theorem exD0 : dualM (exM 0) = ((0, 0, 0), 21) := by decide +kernel
theorem exD3 : dualM (exM 3) = ((3, 2, 16), 0) := by decide +kernel
theorem exD2 : dualM (exM 2) = ((9, 2, 25), 0) := by decide +kernel
theorem exD5 : dualM (exM 5) = ((0, 1, 5), 0) := by decide +kernel
theorem exC : checkM (exM 2) [0, 0] (9, 2, 25) = (17, 13, 0) := by decide +kernel

end Go.Proofs.YthcfjdkflmkhbaaDoor

namespace Go.Proofs.YthcfjdkflmkhbaaDoor
open Go.Av

section
variable (c : CaseM) (p q : Int)
/-- The least value so far, or -1. -/
def lsN (i k : Nat) : Int := if k = 0 then -1 else minV c p q i k
variable {c p q}
theorem lsN_zero (i : Nat) : lsN c p q i 0 = -1 := rfl
theorem lsN_succ (hc : OkC c) (hpq : okPQ p q) {i : Nat} (hi : i < c.items.length) {k : Nat} (hk : k < (c.items.getD i default).length) :
    lsN c p q i (k + 1) = if lsN c p q i k < 0 ∨ valM c p q i ((c.items.getD i default).getD k default) < lsN c p q i k then valM c p q i ((c.items.getD i default).getD k default) else lsN c p q i k := by
  unfold lsN
  rw [if_neg (by omega)]
  by_cases h : k = 0
  · subst h
    simp [minV]
  · rw [if_neg h]
    have := minV_range hc hpq hi k (by omega)
    simp only [minV]
    by_cases h2 : valM c p q i ((c.items.getD i default).getD k default) < minV c p q i k
    · rw [if_pos h2, if_pos (.inr h2)]
    · rw [if_neg h2, if_neg (by omega)]
theorem val_eq (i : Nat) (o : Int × Int) : o.2 * c.weights.getD i default * q + o.1 * p = valM c p q i o := by
  unfold valM
  rw [Int.mul_comm (o.2 * c.weights.getD i default) q, Int.mul_comm o.2, ← Int.mul_assoc, Int.mul_comm o.1 p]
theorem room_eq : (0 - c.room) * p = bndM c p q 0 := by
  simp only [bndM, Int.zero_sub, Int.neg_mul]
  rw [Int.mul_comm]
end

theorem shAt_one (l : List (Int × Int)) : shAt l 1 = 0 := by
  simp [shAt]
theorem fits_iff {c : CaseM} : (decide (linesM c (shortM c c.items.length) (shortM c c.items.length).length ≤ c.room)) = !decide (c.room < linesM c (shortM c c.items.length) (shortM c c.items.length).length) := by
  by_cases h : c.room < linesM c (shortM c c.items.length) (shortM c c.items.length).length
  · simp [h, Int.not_le.2 h]
  · simp [h, Int.not_lt.1 h]

end Go.Proofs.YthcfjdkflmkhbaaDoor

namespace Go.Proofs.YthcfjdkflmkhbaaDoor
open Go.Av

/-- The better one of a certificate and that of a price in lowest terms. -/
def tryQ (c : CaseM) (best : Int × Int × Int) (e : Int × Int) : Int × Int × Int :=
  if 0 < (boundM c e.1 e.2).2.2 * best.2.1 - best.2.2 * (boundM c e.1 e.2).2.1 ∨
    ((boundM c e.1 e.2).2.2 * best.2.1 - best.2.2 * (boundM c e.1 e.2).2.1 = 0 ∧ (boundM c e.1 e.2).1 * best.2.1 < best.1 * (boundM c e.1 e.2).2.1) then boundM c e.1 e.2
  else best
def lowM (p q : Nat) : Int × Int := ((p : Int).tdiv (Nat.gcd p q : Nat), (q : Int).tdiv (Nat.gcd p q : Nat))
theorem tryM_eq (c : CaseM) (best : Int × Int × Int) (p q : Nat) : tryM c best p q = tryQ c best (lowM p q) := rfl

section
variable (c : CaseM)
def eC (i a : Nat) : Nat → List (Int × Int)
  | 0 => []
  | b + 1 => if 0 < dP c i a b ∧ 0 < dQ c i a b then eC i a b ++ [lowM (dP c i a b).toNat (dQ c i a b).toNat] else eC i a b
def eB (i : Nat) : Nat → List (Int × Int)
  | 0 => []
  | a + 1 => eB i a ++ eC c i a (c.items.getD i default).length
def eA : Nat → List (Int × Int)
  | 0 => []
  | i + 1 => eA i ++ eB c i (c.items.getD i default).length
theorem dC_fold (i a : Nat) (x : Int × Int × Int) : ∀ b, dC c i a x b = (eC c i a b).foldl (tryQ c) x
  | 0 => rfl
  | b + 1 => by
    have ih := dC_fold i a x b
    have hd : dQ c i a b = ((c.items.getD i default).getD b default).1 - ((c.items.getD i default).getD a default).1 := rfl
    simp only [dC, eC]
    by_cases h : 0 < dP c i a b ∧ 0 < dQ c i a b
    · rw [if_pos h, if_pos (by omega), List.foldl_append, ← ih, tryM_eq]
      rfl
    · rw [if_neg h, if_neg (by omega), ih]
theorem dB_fold (i : Nat) (x : Int × Int × Int) : ∀ a, dB c i x a = (eB c i a).foldl (tryQ c) x
  | 0 => rfl
  | a + 1 => by
    simp only [dB, eB, List.foldl_append]
    rw [← dB_fold i x a, dC_fold]
theorem dA_fold : ∀ i, dA c i = (eA c i).foldl (tryQ c) (boundM c 0 1)
  | 0 => rfl
  | i + 1 => by
    simp only [dA, eA, List.foldl_append]
    rw [← dA_fold i, dB_fold]
/-- The prices. -/
def prM (i a b : Nat) : List (Int × Int) := (0, 1) :: (eA c i ++ (eB c i a ++ eC c i a b))
def pricesM : List (Int × Int) := (0, 1) :: eA c c.items.length
theorem prM_zero : prM c 0 0 0 = [(0, 1)] := rfl
theorem prM_row (i a : Nat) : prM c i a (c.items.getD i default).length = prM c i (a + 1) 0 := by simp [prM, eB, eC]
theorem prM_item (i : Nat) : prM c i (c.items.getD i default).length 0 = prM c (i + 1) 0 0 := by simp [prM, eA, eB, eC]
theorem prM_all : prM c c.items.length 0 0 = pricesM c := by simp [prM, pricesM, eB, eC]
theorem prM_yes (i a b : Nat) (h : 0 < dP c i a b ∧ 0 < dQ c i a b) : prM c i a (b + 1) = prM c i a b ++ [lowM (dP c i a b).toNat (dQ c i a b).toNat] := by
  simp only [prM, eC, if_pos h, List.cons_append, List.append_assoc]
theorem prM_no (i a b : Nat) (h : ¬ (0 < dP c i a b ∧ 0 < dQ c i a b)) : prM c i a (b + 1) = prM c i a b := by
  simp only [prM, eC, if_neg h]

def okE (e : Int × Int) : Prop := (0 ≤ e.1 ∧ e.1 ≤ 65536) ∧ 1 ≤ e.2 ∧ e.2 ≤ 64
variable {c}
theorem eC_ok (hc : OkC c) {i a : Nat} (hi : i < c.items.length) (ha : a < (c.items.getD i default).length) : ∀ b ≤ (c.items.getD i default).length, (∀ e ∈ eC c i a b, okE e) ∧ (eC c i a b).length ≤ b
  | 0, _ => by simp [eC]
  | b + 1, hb => by
    obtain ⟨h1, h2⟩ := eC_ok hc hi ha b (by omega)
    have hr := dP_range hc hi ha (show b < (c.items.getD i default).length by omega)
    simp only [eC]
    split
    · rename_i h
      refine ⟨fun e he => ?_, by simp; omega⟩
      rcases List.mem_append.1 he with he | he
      · exact h1 e he
      · simp only [List.mem_cons, List.not_mem_nil, or_false] at he
        subst he
        exact pq_div (by omega) (by omega)
    · exact ⟨h1, by omega⟩
theorem eB_ok (hc : OkC c) {i : Nat} (hi : i < c.items.length) : ∀ a ≤ (c.items.getD i default).length, (∀ e ∈ eB c i a, okE e) ∧ (eB c i a).length ≤ a * 8
  | 0, _ => by simp [eB]
  | a + 1, ha => by
    obtain ⟨h1, h2⟩ := eB_ok hc hi a (by omega)
    obtain ⟨h3, h4⟩ := eC_ok hc hi (show a < (c.items.getD i default).length by omega) _ (Nat.le_refl _)
    have h8 := hc.n8 i hi
    simp only [itemM] at h8
    simp only [eB]
    refine ⟨fun e he => ?_, by simp only [List.length_append]; omega⟩
    rcases List.mem_append.1 he with he | he
    · exact h1 e he
    · exact h3 e he
theorem eA_ok (hc : OkC c) : ∀ i ≤ c.items.length, (∀ e ∈ eA c i, okE e) ∧ (eA c i).length ≤ i * 64
  | 0, _ => by simp [eA]
  | i + 1, hi => by
    obtain ⟨h1, h2⟩ := eA_ok hc i (by omega)
    obtain ⟨h3, h4⟩ := eB_ok hc (show i < c.items.length by omega) _ (Nat.le_refl _)
    have h8 := hc.n8 i (by omega)
    simp only [itemM] at h8
    simp only [eA]
    refine ⟨fun e he => ?_, by simp only [List.length_append]; omega⟩
    rcases List.mem_append.1 he with he | he
    · exact h1 e he
    · exact h3 e he
theorem prices_ok (hc : OkC c) : (∀ e ∈ pricesM c, okE e) ∧ (pricesM c).length ≤ 4097 := by
  obtain ⟨h1, h2⟩ := eA_ok hc c.items.length (Nat.le_refl _)
  have hn := hc.n64
  refine ⟨fun e he => ?_, by simp [pricesM]; omega⟩
  rcases List.mem_cons.1 he with rfl | he
  · unfold okE; simp
  · exact h1 e he
theorem prM_len (hc : OkC c) {i a b : Nat} (hi : i < c.items.length) (ha : a < (c.items.getD i default).length) (hb : b ≤ (c.items.getD i default).length) : (prM c i a b).length ≤ 4200 := by
  obtain ⟨_, h2⟩ := eA_ok hc i (by omega)
  obtain ⟨_, h4⟩ := eB_ok hc hi a (by omega)
  obtain ⟨_, h6⟩ := eC_ok hc hi ha b hb
  have hn := hc.n64
  have h8 := hc.n8 i hi
  simp only [itemM] at h8
  simp only [prM, List.length_cons, List.length_append]
  omega

/-- The best certificate of the first prices. -/
def oM (c : CaseM) : Nat → Int × Int × Int
  | 0 => (0, 0, 0)
  | 1 => boundM c 0 1
  | k + 2 => tryQ c (oM c (k + 1)) ((pricesM c).getD (k + 1) default)
theorem oM_zero (c : CaseM) : oM c 0 = (0, 0, 0) := rfl
theorem oM_okB (hc : OkC c) : ∀ k, 0 < k → k ≤ (pricesM c).length → okB (oM c k)
  | 0, h, _ => by omega
  | 1, _, _ => bound_okB hc (by omega) (by omega)
  | k + 2, _, h => by
    have ih := oM_okB hc (k + 1) (by omega) (by omega)
    have he := getD_all (prices_ok hc).1 (show k + 1 < (pricesM c).length by omega)
    simp only [oM, tryQ]
    split
    · exact bound_okB hc he.1 he.2
    · exact ih
theorem oM_fold : ∀ k, k + 1 ≤ (pricesM c).length → oM c (k + 1) = ((eA c c.items.length).take k).foldl (tryQ c) (boundM c 0 1)
  | 0, _ => by simp [oM]
  | k + 1, h => by
    have ih := oM_fold k (by omega)
    have hk : k < (eA c c.items.length).length := by simp [pricesM] at h; omega
    rw [List.take_add_one, List.getElem?_eq_getElem hk]
    simp only [oM, Option.toList_some, List.foldl_append, List.foldl_cons, List.foldl_nil]
    rw [← ih]
    congr 1
    simp [pricesM, List.getD_eq_getElem?_getD, List.getElem?_eq_getElem hk]
theorem oM_all : oM c (pricesM c).length = dA c c.items.length := by
  have h : (pricesM c).length = (eA c c.items.length).length + 1 := by simp [pricesM]
  rw [h, oM_fold _ (by omega), List.take_length, dA_fold]
end

/-- A quotient rounded up, as the reference and as the package have it. -/
theorem up_eq {B Q : Int} (hQ : 1 ≤ Q) : (B.tdiv Q * Q < B) ↔ (0 < B ∧ B.tmod Q ≠ 0) := by
  have h := Int.tdiv_mul_add_tmod B Q
  constructor
  · intro h1
    have h2 : 0 < B.tmod Q := by omega
    refine ⟨?_, by omega⟩
    by_cases hB : 0 ≤ B
    · by_cases h0 : B = 0
      · subst h0; simp at h2
      · omega
    · obtain ⟨m, rfl⟩ : ∃ m, B = -m := ⟨-B, by omega⟩
      rw [Int.neg_tmod] at h2
      have := Int.tmod_nonneg Q (show 0 ≤ m by omega)
      omega
  · rintro ⟨h1, h2⟩
    have := Int.tmod_nonneg Q (show 0 ≤ B by omega)
    omega

end Go.Proofs.YthcfjdkflmkhbaaDoor

namespace Go.Proofs.YthcfjdkflmkhbaaDoor
open Go.Av

section
variable (c : CaseM)
/-- The option that a choice has for an item. -/
def opS (q : Nat → Nat) (i : Nat) : Int × Int := (c.items.getD i default).getD (q i) default
/-- Lines, turns, number of the last j items of a choice, and how many choices these have. -/
def linS (q : Nat → Nat) : Nat → Int
  | 0 => 0
  | j + 1 => linS q j + (opS c q (c.items.length - 1 - j)).1
def trnS (q : Nat → Nat) : Nat → Int
  | 0 => 0
  | j + 1 => trnS q j + c.weights.getD (c.items.length - 1 - j) default * (opS c q (c.items.length - 1 - j)).2
def cntS : Nat → Nat
  | 0 => 1
  | j + 1 => (c.items.getD (c.items.length - 1 - j) default).length * cntS j
def numS (q : Nat → Nat) : Nat → Nat
  | 0 => 0
  | j + 1 => q (c.items.length - 1 - j) * cntS c j + numS q j
/-- A choice of the last j items. -/
def InS (q : Nat → Nat) (j : Nat) : Prop := ∀ i, c.items.length - j ≤ i → i < c.items.length → q i < (c.items.getD i default).length
def pthS : Nat → Nat → Nat → Nat
  | 0, _ => fun _ => 0
  | j + 1, r => fun i => if i = c.items.length - 1 - j then (firJ c j r).toNat else pthS j ((r : Int) - ((c.items.getD (c.items.length - 1 - j) default).getD (firJ c j r).toNat default).1).toNat i

variable {c}
theorem lin_congr {q q' : Nat → Nat} : ∀ j, j ≤ c.items.length → (∀ i, c.items.length - j ≤ i → i < c.items.length → q i = q' i) → linS c q j = linS c q' j ∧ trnS c q j = trnS c q' j ∧ numS c q j = numS c q' j
  | 0, _, _ => ⟨rfl, rfl, rfl⟩
  | j + 1, hj, h => by
    obtain ⟨h1, h2, h3⟩ := lin_congr j (by omega) fun i hi hl => h i (by omega) hl
    have := h (c.items.length - 1 - j) (by omega) (by omega)
    simp only [linS, trnS, numS, opS, h1, h2, h3, this]
    simp

theorem InS.tail {q : Nat → Nat} {j : Nat} (h : InS c q (j + 1)) : InS c q j := fun i hi hl => h i (by omega) hl
theorem InS.head {q : Nat → Nat} {j : Nat} (hj : j < c.items.length) (h : InS c q (j + 1)) : q (c.items.length - 1 - j) < (c.items.getD (c.items.length - 1 - j) default).length := h _ (by omega) (by omega)

theorem opS_ok (hc : OkC c) {q : Nat → Nat} {i : Nat} (hi : i < c.items.length) (h : q i < (c.items.getD i default).length) : okO (opS c q i) := getD_all (hc.o i hi) h

theorem lin_nn (hc : OkC c) {q : Nat → Nat} : ∀ j ≤ c.items.length, InS c q j → 0 ≤ linS c q j ∧ 0 ≤ trnS c q j ∧ numS c q j < cntS c j
  | 0, _, _ => by simp [linS, trnS, numS, cntS]
  | j + 1, hj, h => by
    obtain ⟨h1, h2, h3⟩ := lin_nn hc j (by omega) h.tail
    have hh := h.head (by omega)
    have ho := opS_ok hc (by omega) hh
    have hw := hc.w (c.items.length - 1 - j) (by omega)
    unfold okO at ho
    have hm : 0 ≤ c.weights.getD (c.items.length - 1 - j) default * (opS c q (c.items.length - 1 - j)).2 := Int.mul_nonneg hw.1 ho.2.2.1
    simp only [linS, trnS, numS, cntS]
    refine ⟨by omega, by omega, ?_⟩
    have : (q (c.items.length - 1 - j) + 1) * cntS c j ≤ (c.items.getD (c.items.length - 1 - j) default).length * cntS c j := Nat.mul_le_mul_right _ hh
    rw [Nat.add_mul] at this
    omega

/-- The order: turns, lines. -/
def ltP (a b : Int × Int) : Prop := a.1 < b.1 ∨ (a.1 = b.1 ∧ a.2 < b.2)
theorem lessM_iff {a b : Int × Int} (hb : b = none2 ∨ 0 ≤ b.1) : lessM a b = true ↔ b = none2 ∨ ltP a b := by
  unfold lessM ltP none2
  obtain ⟨b1, b2⟩ := b
  simp only [Bool.or_eq_true, Bool.and_eq_true, beq_iff_eq, decide_eq_true_eq, Prod.mk.injEq] at *
  omega

section
variable {opts : List (Int × Int)} {w : Int} {aft : List (Int × Int)} {r m : Nat}
/-- The total with an option. -/
def cand (opts : List (Int × Int)) (w : Int) (aft : List (Int × Int)) (r k : Nat) : Int × Int :=
  ((aft.getD ((r : Int) - (opts.getD k default).1).toNat default).1 + w * (opts.getD k default).2, (aft.getD ((r : Int) - (opts.getD k default).1).toNat default).2 + (opts.getD k default).1)
def goes (opts : List (Int × Int)) (aft : List (Int × Int)) (r k : Nat) : Prop := (opts.getD k default).1 ≤ (r : Int) ∧ aft.getD ((r : Int) - (opts.getD k default).1).toNat default ≠ none2

theorem step_no {x : (Int × Int) × Int} {k : Nat} (h : ¬ goes opts aft r k) : stepM opts w aft r x k = x := by
  unfold stepM
  rw [if_pos]
  simp only [goes, Classical.not_and_iff_not_or_not, Int.not_le, ne_eq, Decidable.not_not] at h
  exact h
theorem step_go {x : (Int × Int) × Int} {k : Nat} (h : goes opts aft r k) : stepM opts w aft r x k = if lessM (cand opts w aft r k) x.1 then (cand opts w aft r k, (k : Int)) else x := by
  unfold stepM
  rw [if_neg]
  · rfl
  · simp only [not_or, Int.not_lt]
    exact h

theorem cell_best (hw : 0 ≤ w ∧ w ≤ 1024) (ho : ∀ k < opts.length, okO (opts.getD k default)) (hr : r < aft.length) (ha : ∀ q < aft.length, okT m (aft.getD q default)) :
    ∀ k ≤ opts.length, (∀ k' < k, goes opts aft r k' → (cellM opts w aft r k).1 ≠ none2 ∧ (ltP (cellM opts w aft r k).1 (cand opts w aft r k') ∨ ((cellM opts w aft r k).1 = cand opts w aft r k' ∧ (cellM opts w aft r k).2 ≤ (k' : Int))))
      ∧ ((cellM opts w aft r k).1 ≠ none2 → goes opts aft r (cellM opts w aft r k).2.toNat ∧ (cellM opts w aft r k).1 = cand opts w aft r (cellM opts w aft r k).2.toNat ∧ (cellM opts w aft r k).2 < (k : Int))
  | 0, _ => by simp [cellM]
  | k + 1, hk => by
    obtain ⟨i1, i2⟩ := cell_best hw ho hr ha k (by omega)
    have hs := (cell_snd (opts := opts) (w := w) (aft := aft) (r := r) k)
    have hx := cell_ok hw ho hr ha k (by omega)
    have hx' : (cellM opts w aft r k).1 = none2 ∨ 0 ≤ (cellM opts w aft r k).1.1 := hx.imp id fun h => h.1
    simp only [cellM]
    by_cases hg : goes opts aft r k
    · rw [step_go hg]
      have hcn : cand opts w aft r k ≠ none2 := by
        have hok := ho k (by omega)
        unfold okO at hok
        have hq := ha ((r : Int) - (opts.getD k default).1).toNat (by omega)
        have hq := hq.resolve_left hg.2
        have h1 : 0 ≤ w * (opts.getD k default).2 := Int.mul_nonneg hw.1 hok.2.2.1
        intro e
        have e1 := congrArg Prod.fst e
        simp only [cand] at e1
        omega
      split
      · rename_i hl
        rw [lessM_iff hx'] at hl
        refine ⟨fun k' hk' hg' => ⟨hcn, ?_⟩, fun _ => ⟨by simpa using hg, by simp, by simp only; omega⟩⟩
        by_cases he : k' = k
        · subst he; right; simp
        · obtain ⟨j1, j2⟩ := i1 k' (by omega) hg'
          have hl := hl.resolve_left j1
          left
          unfold ltP at *
          rcases j2 with j2 | ⟨j2, _⟩
          · simp only; omega
          · rw [j2] at hl; exact hl
      · rename_i hl
        rw [lessM_iff hx', not_or] at hl
        refine ⟨fun k' hk' hg' => ?_, fun h => ⟨(i2 h).1, (i2 h).2.1, by have := (i2 h).2.2; omega⟩⟩
        by_cases he : k' = k
        · subst he
          refine ⟨hl.1, ?_⟩
          have h2 := hl.2
          unfold ltP at *
          by_cases hq : (cellM opts w aft r k').1 = cand opts w aft r k'
          · exact .inr ⟨hq, hs.2⟩
          · left
            have : ¬ ((cellM opts w aft r k').1.1 = (cand opts w aft r k').1 ∧ (cellM opts w aft r k').1.2 = (cand opts w aft r k').2) := fun h => hq (Prod.ext h.1 h.2)
            omega
        · exact i1 k' (by omega) hg'
    · rw [step_no hg]
      refine ⟨fun k' hk' hg' => ?_, fun h => ⟨(i2 h).1, (i2 h).2.1, by have := (i2 h).2.2; omega⟩⟩
      by_cases he : k' = k
      · subst he; exact absurd hg' hg
      · exact i1 k' (by omega) hg'
end

/-- The order of choices: turns, lines, number. -/
def leC (c : CaseM) (q q' : Nat → Nat) (j : Nat) : Prop := trnS c q j < trnS c q' j ∨ (trnS c q j = trnS c q' j ∧ (linS c q j < linS c q' j ∨ (linS c q j = linS c q' j ∧ numS c q j ≤ numS c q' j)))

theorem aft_get (j r : Nat) (hr : r < n1M c) : (aftM c (j + 1)).getD r default = (cellM (c.items.getD (c.items.length - 1 - j) default) (c.weights.getD (c.items.length - 1 - j) default) (aftM c j) r (c.items.getD (c.items.length - 1 - j) default).length).1 := by
  simp only [aftM]
  rw [getD_map_range _ _ _ hr]

theorem best_at (hc : OkC c) : ∀ j ≤ c.items.length, ∀ r < n1M c,
    ((aftM c j).getD r default ≠ none2 → (aftM c j).getD r default = (trnS c (pthS c j r) j, linS c (pthS c j r) j) ∧ linS c (pthS c j r) j ≤ (r : Int) ∧ InS c (pthS c j r) j) ∧
    ∀ q, InS c q j → linS c q j ≤ (r : Int) → (aftM c j).getD r default ≠ none2 ∧ leC c (pthS c j r) q j
  | 0, _, r, hr => by
    have : (aftM c 0).getD r default = (0, 0) := by simp [aftM, List.getD_eq_getElem?_getD, hr]
    rw [this]
    refine ⟨fun _ => ⟨rfl, by simp [linS], fun i hi hl => by omega⟩, fun q _ _ => ⟨by simp, ?_⟩⟩
    unfold leC
    simp [trnS, linS, numS]
  | j + 1, hj, r, hr => by
    have ih := best_at hc j (by omega)
    have hcb := cell_best (r := r) (m := j) (w := c.weights.getD (c.items.length - 1 - j) default) (aft := aftM c j) (opts := (c.items.getD (c.items.length - 1 - j) default)) (hc.w _ (by omega)) (fun k hk => getD_all (hc.o (c.items.length - 1 - j) (by omega)) hk) (by rw [aftM_len]; exact hr) (aft_ok hc j (by omega)) _ (Nat.le_refl _)
    have hs := (cell_snd (opts := (c.items.getD (c.items.length - 1 - j) default)) (w := c.weights.getD (c.items.length - 1 - j) default) (aft := aftM c j) (r := r) (c.items.getD (c.items.length - 1 - j) default).length)
    obtain ⟨b1, b2⟩ := hcb
    rw [aft_get j r hr]
    have hfir : firJ c j r = (cellM (c.items.getD (c.items.length - 1 - j) default) (c.weights.getD (c.items.length - 1 - j) default) (aftM c j) r (c.items.getD (c.items.length - 1 - j) default).length).2 := rfl
    rw [← hfir] at b1 b2 hs
    generalize hcell : (cellM (c.items.getD (c.items.length - 1 - j) default) (c.weights.getD (c.items.length - 1 - j) default) (aftM c j) r (c.items.getD (c.items.length - 1 - j) default).length).1 = X at b1 b2 ⊢
    -- the choice
    have hpc : ∀ i, c.items.length - j ≤ i → i < c.items.length → pthS c (j + 1) r i = pthS c j ((r : Int) - ((c.items.getD (c.items.length - 1 - j) default).getD (firJ c j r).toNat default).1).toNat i := fun i hi hl => by
      simp only [pthS]
      rw [if_neg (by omega)]
    have hph : pthS c (j + 1) r (c.items.length - 1 - j) = (firJ c j r).toNat := by simp [pthS]
    obtain ⟨e1, e2, e3⟩ := lin_congr j (by omega) hpc
    have hop : opS c (pthS c (j + 1) r) (c.items.length - 1 - j) = (c.items.getD (c.items.length - 1 - j) default).getD (firJ c j r).toNat default := by unfold opS; rw [hph]
    have snd : X ≠ none2 → (X = (trnS c (pthS c (j + 1) r) (j + 1), linS c (pthS c (j + 1) r) (j + 1)) ∧ linS c (pthS c (j + 1) r) (j + 1) ≤ (r : Int) ∧ InS c (pthS c (j + 1) r) (j + 1)) ∧ InS c (pthS c j ((r : Int) - ((c.items.getD (c.items.length - 1 - j) default).getD (firJ c j r).toNat default).1).toNat) j := fun hx => by
      obtain ⟨⟨g1, g2⟩, g3, g4⟩ := b2 hx
      have hok : okO ((c.items.getD (c.items.length - 1 - j) default).getD (firJ c j r).toNat default) := getD_all (hc.o (c.items.length - 1 - j) (by omega)) (by simp only [itemM]; omega)
      unfold okO at hok
      have hr' : ((r : Int) - ((c.items.getD (c.items.length - 1 - j) default).getD (firJ c j r).toNat default).1).toNat < n1M c := by omega
      obtain ⟨i1, i2, i3⟩ := (ih _ hr').1 g2
      refine ⟨⟨?_, ?_, fun i hi hl => ?_⟩, i3⟩
      · rw [g3]
        simp only [cand, i1, trnS, linS, e1, e2, hop]
      · simp only [linS, e1, hop]
        omega
      · by_cases hii : i = c.items.length - 1 - j
        · subst hii
          rw [hph]; omega
        · rw [hpc i (by omega) hl]
          exact i3 i (by omega) hl
    refine ⟨fun hx => (snd hx).1, fun q hq hl => ?_⟩
    have hh := hq.head (by omega)
    have hok := opS_ok hc (by omega) hh
    have hokk := hok
    unfold okO at hok
    obtain ⟨n1, n2, n3⟩ := lin_nn hc j (by omega) hq.tail
    simp only [linS] at hl
    have hr' : ((r : Int) - (opS c q (c.items.length - 1 - j)).1).toNat < n1M c := by omega
    obtain ⟨i1, i2⟩ := ih _ hr'
    obtain ⟨i3, i4⟩ := i2 q hq.tail (by omega)
    obtain ⟨i5, i6, i7⟩ := i1 i3
    obtain ⟨c1, c2⟩ := b1 (q (c.items.length - 1 - j)) hh ⟨by show (opS c q (c.items.length - 1 - j)).1 ≤ (r : Int); omega, i3⟩
    refine ⟨c1, ?_⟩
    obtain ⟨⟨s1, s2, s3⟩, s4⟩ := snd c1
    have t1 := congrArg Prod.fst s1
    have t2 := congrArg Prod.snd s1
    simp only at t1 t2
    have hcd : cand (c.items.getD (c.items.length - 1 - j) default) (c.weights.getD (c.items.length - 1 - j) default) (aftM c j) r (q (c.items.length - 1 - j)) = (trnS c (pthS c j ((r : Int) - (opS c q (c.items.length - 1 - j)).1).toNat) j + c.weights.getD (c.items.length - 1 - j) default * (opS c q (c.items.length - 1 - j)).2, linS c (pthS c j ((r : Int) - (opS c q (c.items.length - 1 - j)).1).toNat) j + (opS c q (c.items.length - 1 - j)).1) := by
      unfold cand
      have : (c.items.getD (c.items.length - 1 - j) default).getD (q (c.items.length - 1 - j)) default = opS c q (c.items.length - 1 - j) := rfl
      rw [this, i5]
    rw [hcd] at c2
    unfold leC at i4 ⊢
    rw [← t1, ← t2]
    simp only [trnS, linS]
    unfold ltP at c2
    simp only at c2
    rcases c2 with c2 | ⟨c2, c3⟩
    · omega
    · have u1 := congrArg Prod.fst c2
      have u2 := congrArg Prod.snd c2
      simp only at u1 u2
      by_cases hlt : trnS c (pthS c j ((r : Int) - (opS c q (c.items.length - 1 - j)).1).toNat) j = trnS c q j ∧ linS c (pthS c j ((r : Int) - (opS c q (c.items.length - 1 - j)).1).toNat) j = linS c q j
      · right
        refine ⟨by omega, .inr ⟨by omega, ?_⟩⟩
        have hnum : numS c (pthS c j ((r : Int) - (opS c q (c.items.length - 1 - j)).1).toNat) j ≤ numS c q j := by omega
        simp only [numS, hph, e3]
        have hk : (firJ c j r).toNat ≤ q (c.items.length - 1 - j) := by omega
        by_cases hkk : (firJ c j r).toNat = q (c.items.length - 1 - j)
        · rw [hkk]
          have : (c.items.getD (c.items.length - 1 - j) default).getD (q (c.items.length - 1 - j)) default = opS c q (c.items.length - 1 - j) := rfl
          rw [this]
          omega
        · have hn := (lin_nn hc j (by omega) s4).2.2
          have : ((firJ c j r).toNat + 1) * cntS c j ≤ q (c.items.length - 1 - j) * cntS c j := Nat.mul_le_mul_right _ (by omega)
          rw [Nat.add_mul] at this
          omega
      · omega

/-- The choice of Best. -/
theorem kM_pth (hc : OkC c) (hb : (aftM c c.items.length).getD c.room.toNat default ≠ none2) : ∀ i ≤ c.items.length, ∀ i', i ≤ i' → i' < c.items.length → pthS c c.items.length c.room.toNat i' = pthS c (c.items.length - i) (curM c i).toNat i'
  | 0, _, i', _, _ => rfl
  | i + 1, hi, i', h1, h2 => by
    rw [kM_pth hc hb i (by omega) i' (by omega) h2]
    have hj : c.items.length - i = (c.items.length - 1 - i) + 1 := by omega
    have hii : c.items.length - 1 - (c.items.length - 1 - i) = i := by omega
    obtain ⟨h3, h4⟩ := cur_ok hc hb i (by omega)
    have hn := n1_room hc
    have hr : (curM c i).toNat < n1M c := by omega
    rw [hj]
    simp only [pthS, hii]
    rw [if_neg (by omega), show c.items.length - (i + 1) = c.items.length - 1 - i by omega]
    simp only [curM]
    have hk : (firM c i).getD (curM c i).toNat default = firJ c (c.items.length - 1 - i) (curM c i).toNat := by
      unfold firM
      rw [getD_map_range _ _ _ hr]
    rw [hk, show ((curM c i).toNat : Int) = curM c i by omega]

theorem kM_eq (hc : OkC c) (hb : (aftM c c.items.length).getD c.room.toNat default ≠ none2) {i : Nat} (hi : i < c.items.length) : kM c i = ((pthS c c.items.length c.room.toNat i : Nat) : Int) := by
  rw [kM_pth hc hb i (by omega) i (Nat.le_refl _) hi]
  have hj : c.items.length - i = (c.items.length - 1 - i) + 1 := by omega
  have hii : c.items.length - 1 - (c.items.length - 1 - i) = i := by omega
  obtain ⟨h3, h4⟩ := cur_ok hc hb i (by omega)
  have hn := n1_room hc
  have hr : (curM c i).toNat < n1M c := by omega
  have hkm := (kM_ok hc hb hi).1.1
  unfold kM at hkm ⊢
  have hk : (firM c i).getD (curM c i).toNat default = firJ c (c.items.length - 1 - i) (curM c i).toNat := by
    unfold firM
    rw [getD_map_range _ _ _ hr]
  rw [hj]
  simp only [pthS, hii, if_true]
  rw [hk] at hkm ⊢
  omega

/-- A choice as a list. -/
def lstS (c : CaseM) (q : Nat → Nat) : List Int := (List.range c.items.length).map fun i => (q i : Int)

/-- Best returns the first one of the best choices that fit, or none does. -/
theorem best_spec (hc : OkC c) : (bestM c = ([], 0, 21) ∧ ∀ q, InS c q c.items.length → ¬ linS c q c.items.length ≤ c.room) ∨
    ∃ q, InS c q c.items.length ∧ linS c q c.items.length ≤ c.room ∧ bestM c = (lstS c q, trnS c q c.items.length, 0) ∧ ∀ q', InS c q' c.items.length → linS c q' c.items.length ≤ c.room → leC c q q' c.items.length := by
  have hv : ¬ validM c ≠ 0 := by rw [validM_ok.2 hc]; simp
  have hn := n1_room hc
  have hcr := hc.room
  have hr : c.room.toNat < n1M c := by omega
  obtain ⟨h1, h2⟩ := best_at hc c.items.length (Nat.le_refl _) c.room.toNat hr
  have hrr : (c.room.toNat : Int) = c.room := by omega
  rw [hrr] at h1 h2
  unfold bestM
  rw [if_neg hv]
  by_cases hb : (aftM c c.items.length).getD c.room.toNat default = none2
  · rw [if_pos hb]
    exact .inl ⟨rfl, fun q hq hl => (h2 q hq hl).1 hb⟩
  · rw [if_neg hb]
    obtain ⟨h3, h4, h5⟩ := h1 hb
    refine .inr ⟨_, h5, h4, ?_, fun q hq hl => (h2 q hq hl).2⟩
    rw [h3]
    simp only [Prod.mk.injEq, and_true]
    unfold pickBM lstS
    apply List.map_congr_left
    intro i hi
    exact kM_eq hc hb (by simpa using hi)

/-- The sums of a choice that is a list. -/
theorem lst_sums {pick : List Int} : ∀ j ≤ c.items.length, linesM c pick c.items.length = linesM c pick (c.items.length - j) + linS c (fun i => (pickM pick i).toNat) j ∧ turnsM c pick c.items.length = turnsM c pick (c.items.length - j) + trnS c (fun i => (pickM pick i).toNat) j
  | 0, _ => by simp [linS, trnS]
  | j + 1, hj => by
    obtain ⟨h1, h2⟩ := lst_sums (pick := pick) j (by omega)
    rw [h1, h2, show c.items.length - j = (c.items.length - (j + 1)) + 1 by omega]
    simp only [linesM, turnsM, linS, trnS, opS, optM, itemM, weightM, show c.items.length - 1 - j = c.items.length - (j + 1) by omega, Int.mul_comm]
    constructor <;> omega
theorem lst_all {pick : List Int} : linesM c pick c.items.length = linS c (fun i => (pickM pick i).toNat) c.items.length ∧ turnsM c pick c.items.length = trnS c (fun i => (pickM pick i).toNat) c.items.length := by
  obtain ⟨h1, h2⟩ := lst_sums (c := c) (pick := pick) c.items.length (Nat.le_refl _)
  rw [h1, h2]
  simp [linesM, turnsM]
theorem lst_in {pick : List Int} (hp : OkP c pick) (hl : pick.length = c.items.length) : InS c (fun i => (pickM pick i).toNat) c.items.length := fun i _ h => by
  have := hp.at_ i (by omega)
  simp only [itemM] at this
  show (pickM pick i).toNat < _
  omega

end
end Go.Proofs.YthcfjdkflmkhbaaDoor

namespace Go.Proofs.YthcfjdkflmkhbaaDoor
open Go.Av

theorem getD_mem {α : Type} [Inhabited α] (l : List α) (i : Nat) (h : i < l.length) : l.getD i default ∈ l := by
  rw [List.getD_eq_getElem?_getD, List.getElem?_eq_getElem h]
  exact List.getElem_mem _

section
variable {c : CaseM} {p q : Int}
theorem minV_le {i : Nat} : ∀ k, ∀ j, j < k ∨ (j = 0 ∧ k = 0) → minV c p q i k ≤ valM c p q i ((c.items.getD i default).getD j default)
  | 0, j, h => by
    obtain rfl : j = 0 := by omega
    exact Int.le_refl _
  | k + 1, j, h => by
    simp only [minV]
    by_cases hj : j = k
    · subst hj
      split <;> omega
    · by_cases hk : k = 0
      · omega
      · have := minV_le (i := i) k j (by omega)
        split <;> omega
theorem minV_at {i : Nat} : ∀ k, ∃ j, (j < k ∨ (j = 0 ∧ k = 0)) ∧ minV c p q i k = valM c p q i ((c.items.getD i default).getD j default)
  | 0 => ⟨0, .inr ⟨rfl, rfl⟩, rfl⟩
  | k + 1 => by
    obtain ⟨j, h1, h2⟩ := minV_at (i := i) k
    simp only [minV]
    split
    · exact ⟨k, by omega, rfl⟩
    · exact ⟨j, by omega, h2⟩

theorem val_sum {i : Nat} {o : Int × Int} (L T : Int) : valM c p q i o + (p * L + q * T) = p * (L + o.1) + q * (T + o.2 * weightM c i) := by
  simp only [valM, weightM, Int.mul_add]
  have : q * c.weights.getD i default * o.2 = q * (o.2 * c.weights.getD i default) := by rw [Int.mul_assoc, Int.mul_comm (c.weights.getD i default)]
  omega

/-- No choice has less than the sum of the least values. -/
theorem bnd_le (hc : OkC c) {pick : List Int} (hp : OkP c pick) : ∀ i ≤ pick.length, bndM c p q i ≤ (0 - p) * c.room + (p * linesM c pick i + q * turnsM c pick i)
  | 0, _ => by simp [bndM, linesM, turnsM]
  | i + 1, h => by
    have ih := bnd_le hc hp i (by omega)
    have h1 := hp.at_ i (by omega)
    have h2 := minV_le (c := c) (p := p) (q := q) (i := i) (c.items.getD i default).length (pickM pick i).toNat (by simp only [itemM] at h1; omega)
    simp only [bndM, linesM, turnsM]
    rw [← val_sum]
    have : (c.items.getD i default).getD (pickM pick i).toNat default = optM c pick i := rfl
    rw [this] at h2
    omega
/-- One that has the least values has just that. -/
theorem bnd_eq (hc : OkC c) {pick : List Int} (hv : ∀ i < pick.length, valM c p q i (optM c pick i) = minV c p q i (c.items.getD i default).length) : ∀ i ≤ pick.length, bndM c p q i = (0 - p) * c.room + (p * linesM c pick i + q * turnsM c pick i)
  | 0, _ => by simp [bndM, linesM, turnsM]
  | i + 1, h => by
    have ih := bnd_eq hc hv i (by omega)
    have h1 := hv i (by omega)
    simp only [bndM, linesM, turnsM]
    rw [← val_sum]
    omega

theorem lstS_len (f : Nat → Nat) : (lstS c f).length = c.items.length := by simp [lstS]
theorem lstS_at (f : Nat → Nat) {i : Nat} (h : i < c.items.length) : pickM (lstS c f) i = (f i : Int) := by
  unfold pickM lstS
  rw [getD_map_range _ _ _ h]
theorem lstS_ok {f : Nat → Nat} (h : InS c f c.items.length) : OkP c (lstS c f) := ⟨by rw [lstS_len]; exact Nat.le_refl _, fun i hi => by
  rw [lstS_len] at hi
  have := h i (by omega) hi
  rw [lstS_at f hi]
  simp only [itemM]
  omega⟩
theorem lstS_sums (f : Nat → Nat) : linesM c (lstS c f) c.items.length = linS c f c.items.length ∧ turnsM c (lstS c f) c.items.length = trnS c f c.items.length := by
  obtain ⟨h1, h2⟩ := lst_all (c := c) (pick := lstS c f)
  obtain ⟨h3, h4, _⟩ := lin_congr (c := c) (q := fun i => (pickM (lstS c f) i).toNat) (q' := f) c.items.length (Nat.le_refl _) (fun i _ hi => by
    show (pickM (lstS c f) i).toNat = f i
    rw [lstS_at f hi]; omega)
  exact ⟨h1.trans h3, h2.trans h4⟩

/-- Best, by lists: the best choice fits, and no choice that fits has fewer turns. -/
theorem best_lists (hc : OkC c) : (bestM c = ([], 0, 21) ∧ ∀ pick, OkP c pick → pick.length = c.items.length → ¬ linesM c pick c.items.length ≤ c.room) ∨
    ∃ pick, OkP c pick ∧ pick.length = c.items.length ∧ linesM c pick c.items.length ≤ c.room ∧ bestM c = (pick, turnsM c pick c.items.length, 0) ∧ ∀ pick', OkP c pick' → pick'.length = c.items.length → linesM c pick' c.items.length ≤ c.room → turnsM c pick c.items.length ≤ turnsM c pick' c.items.length := by
  rcases best_spec hc with ⟨h1, h2⟩ | ⟨f, h1, h2, h3, h4⟩
  · refine .inl ⟨h1, fun pick hp hl hr => h2 _ (lst_in hp hl) ?_⟩
    rw [← (lst_all (c := c) (pick := pick)).1]
    exact hr
  · obtain ⟨e1, e2⟩ := lstS_sums (c := c) f
    refine .inr ⟨lstS c f, lstS_ok h1, lstS_len f, by omega, by rw [h3, e2], fun pick hp hl hr => ?_⟩
    obtain ⟨e3, e4⟩ := lst_all (c := c) (pick := pick)
    have := h4 _ (lst_in hp hl) (by omega)
    unfold leC at this
    omega

/-- The costs of a choice that fits. -/
theorem cost_fits (hc : OkC c) {pick : List Int} (hp : OkP c pick) (hl : pick.length = c.items.length) (hr : linesM c pick c.items.length ≤ c.room) : costM c pick = (linesM c pick c.items.length, turnsM c pick c.items.length, 0) := by
  unfold costM
  have hb : ¬ BadP c pick := by
    rintro ⟨i, hi, h⟩
    have := hp.at_ i hi
    omega
  have h0 := validM_ok.2 hc
  rw [if_neg (by omega), if_neg (by omega), if_neg hb, hl, if_neg (by omega)]
end

section
variable (c : CaseM) (p q : Int) (m : List Int)
/-- The options with the least value. -/
def smM (i : Nat) : Nat → List Int
  | 0 => []
  | k + 1 => if valM c p q i ((c.items.getD i default).getD k default) = minV c p q i (c.items.getD i default).length then smM i k ++ [(k : Int)] else smM i k
theorem smM_zero (i : Nat) : smM c p q i 0 = [] := rfl
def tpM (i : Nat) : Int := (smM c p q i (c.items.getD i default).length).getD (atM m i (smM c p q i (c.items.getD i default).length).length).toNat default
def tpL (i : Nat) : List Int := (List.range i).map (tpM c p q m)
theorem tpL_len (i : Nat) : (tpL c p q m i).length = i := by simp [tpL]
theorem tpL_zero : tpL c p q m 0 = [] := rfl
theorem tpL_succ (i : Nat) : tpL c p q m (i + 1) = tpL c p q m i ++ [tpM c p q m i] := by simp [tpL, List.range_succ]
variable {c p q m}
theorem smM_mem {i : Nat} : ∀ k, ∀ x, x ∈ smM c p q i k ↔ ∃ j : Nat, x = (j : Int) ∧ j < k ∧ valM c p q i ((c.items.getD i default).getD j default) = minV c p q i (c.items.getD i default).length
  | 0, x => by simp [smM]
  | k + 1, x => by
    simp only [smM]
    split
    · rename_i h
      rw [List.mem_append, smM_mem k x, List.mem_singleton]
      constructor
      · rintro (⟨j, h1, h2, h3⟩ | rfl)
        · exact ⟨j, h1, by omega, h3⟩
        · exact ⟨k, rfl, by omega, h⟩
      · rintro ⟨j, h1, h2, h3⟩
        by_cases hj : j = k
        · exact .inr (by rw [h1, hj])
        · exact .inl ⟨j, h1, by omega, h3⟩
    · rename_i h
      rw [smM_mem k x]
      constructor
      · rintro ⟨j, h1, h2, h3⟩
        exact ⟨j, h1, by omega, h3⟩
      · rintro ⟨j, h1, h2, h3⟩
        by_cases hj : j = k
        · subst hj; exact absurd h3 h
        · exact ⟨j, h1, by omega, h3⟩
theorem smM_le {i : Nat} : ∀ k, (smM c p q i k).length ≤ k
  | 0 => by simp [smM]
  | k + 1 => by
    have := smM_le (i := i) k
    simp only [smM]
    split <;> simp <;> omega
theorem smM_pos {i : Nat} (h : 0 < (c.items.getD i default).length) : 0 < (smM c p q i (c.items.getD i default).length).length := by
  obtain ⟨j, h1, h2⟩ := minV_at (c := c) (p := p) (q := q) (i := i) (c.items.getD i default).length
  exact List.length_pos_of_mem ((smM_mem _ _).2 ⟨j, rfl, by omega, h2.symm⟩)
theorem tpM_spec {i : Nat} (h : 0 < (c.items.getD i default).length) : (0 ≤ tpM c p q m i ∧ tpM c p q m i < ((c.items.getD i default).length : Int)) ∧ valM c p q i ((c.items.getD i default).getD (tpM c p q m i).toNat default) = minV c p q i (c.items.getD i default).length := by
  have hp := smM_pos (c := c) (p := p) (q := q) h
  have ha := atM_range (l := m) (i := (i : Int)) (m := ((smM c p q i (c.items.getD i default).length).length : Int)) (by omega)
  have hm : tpM c p q m i ∈ smM c p q i (c.items.getD i default).length := by
    exact getD_mem _ _ (by omega)
  obtain ⟨j, h1, h2, h3⟩ := (smM_mem _ _).1 hm
  rw [h1]
  exact ⟨by omega, by simpa using h3⟩

theorem tpL_at {i n : Nat} (h : i < n) : pickM (tpL c p q m n) i = tpM c p q m i := by
  unfold pickM tpL
  rw [getD_map_range _ _ _ h]
theorem tpL_ok (hc : OkC c) : OkP c (tpL c p q m c.items.length) := ⟨by rw [tpL_len]; exact Nat.le_refl _, fun i hi => by
  rw [tpL_len] at hi
  rw [tpL_at hi]
  exact (tpM_spec (hc.n1 i hi)).1⟩
theorem tpL_val (hc : OkC c) : ∀ i < (tpL c p q m c.items.length).length, valM c p q i (optM c (tpL c p q m c.items.length) i) = minV c p q i (c.items.getD i default).length := fun i hi => by
  rw [tpL_len] at hi
  unfold optM
  rw [tpL_at hi]
  exact (tpM_spec (hc.n1 i hi)).2

end

/-- The case with room for just this choice. -/
def tcM (c : CaseM) (p q : Int) (m : List Int) : CaseM :=
  if 0 < p ∨ c.room < linesM c (tpL c p q m c.items.length) c.items.length then ⟨c.items, c.weights, linesM c (tpL c p q m c.items.length) c.items.length⟩ else c
theorem lines_room (c : CaseM) (r : Int) (pick : List Int) : ∀ i, linesM ⟨c.items, c.weights, r⟩ pick i = linesM c pick i ∧ turnsM ⟨c.items, c.weights, r⟩ pick i = turnsM c pick i
  | 0 => ⟨rfl, rfl⟩
  | i + 1 => by
    obtain ⟨h1, h2⟩ := lines_room c r pick i
    exact ⟨by simp only [linesM, h1], by simp only [turnsM, h2]⟩
theorem minV_room (c : CaseM) (r p q : Int) (i : Nat) : ∀ k, minV ⟨c.items, c.weights, r⟩ p q i k = minV c p q i k
  | 0 => rfl
  | k + 1 => by simp only [minV, minV_room c r p q i k]; rfl
theorem smM_room (c : CaseM) (r p q : Int) (i : Nat) : ∀ k, smM ⟨c.items, c.weights, r⟩ p q i k = smM c p q i k
  | 0 => rfl
  | k + 1 => by simp only [smM, smM_room c r p q i k, minV_room]; rfl
theorem tpL_room (c : CaseM) (r p q : Int) (m : List Int) (i : Nat) : tpL ⟨c.items, c.weights, r⟩ p q m i = tpL c p q m i := by
  unfold tpL
  apply List.map_congr_left
  intro k _
  simp only [tpM, smM_room]
theorem room_ok {c : CaseM} (hc : OkC c) {r : Int} (hr : 0 ≤ r ∧ r ≤ 4096) : OkC ⟨c.items, c.weights, r⟩ := ⟨hc.n64, hc.n8, hc.n1, hc.wl, hr, hc.w, hc.o⟩

theorem tight {c : CaseM} {p q : Int} {m : List Int} (hc : OkC c) (hp : 0 ≤ p) (hq : 1 ≤ q) (hpq : okPQ p q) :
    OkC (tcM c p q m) ∧ costM (tcM c p q m) (tpL c p q m c.items.length) = (linesM c (tpL c p q m c.items.length) c.items.length, turnsM c (tpL c p q m c.items.length) c.items.length, 0) ∧
    (∃ P, bestM (tcM c p q m) = (P, turnsM c (tpL c p q m c.items.length) c.items.length, 0)) ∧
    boundE (tcM c p q m) p q = ((p, q, turnsM c (tpL c p q m c.items.length) c.items.length * q), 0) := by
  have hl := tpL_len c p q m c.items.length
  have ht := tpL_ok (p := p) (q := q) (m := m) hc
  have hsr := sums_range hc ht c.items.length (by omega)
  have h64 := hc.n64
  have hroom := hc.room
  -- the new case
  obtain ⟨r, hr, hlr, hpr, he⟩ : ∃ r : Int, (0 ≤ r ∧ r ≤ 4096) ∧ linesM c (tpL c p q m c.items.length) c.items.length ≤ r ∧ (p = 0 ∨ r = linesM c (tpL c p q m c.items.length) c.items.length) ∧ tcM c p q m = ⟨c.items, c.weights, r⟩ := by
    unfold tcM
    split
    · exact ⟨_, by omega, Int.le_refl _, .inr rfl, rfl⟩
    · exact ⟨c.room, hroom, by omega, .inl (by omega), rfl⟩
  rw [he]
  have hc' := room_ok hc hr
  have htn : tpL ⟨c.items, c.weights, r⟩ p q m c.items.length = tpL c p q m c.items.length := tpL_room ..
  have ht' : OkP ⟨c.items, c.weights, r⟩ (tpL c p q m c.items.length) := ⟨ht.len, ht.at_⟩
  obtain ⟨l1, l2⟩ := lines_room c r (tpL c p q m c.items.length) c.items.length
  have hv' : ∀ i < (tpL c p q m c.items.length).length, valM ⟨c.items, c.weights, r⟩ p q i (optM ⟨c.items, c.weights, r⟩ (tpL c p q m c.items.length) i) = minV ⟨c.items, c.weights, r⟩ p q i (c.items.getD i default).length := by
    have := tpL_val (c := ⟨c.items, c.weights, r⟩) (p := p) (q := q) (m := m) hc'
    rw [htn] at this
    exact this
  have hbe := bnd_eq hc' hv' c.items.length (by omega)
  simp only at hbe
  rw [l1, l2] at hbe
  refine ⟨hc', ?_, ?_, ?_⟩
  · rw [cost_fits hc' ht' hl (by simp only; omega)]
    simp only
    rw [l1, l2]
  · rcases best_lists hc' with ⟨_, h2⟩ | ⟨pick, h1, h2, h3, h4, h5⟩
    · exact absurd (by simp only; omega) (h2 _ ht' hl)
    · refine ⟨pick, ?_⟩
      rw [h4]
      simp only [Prod.mk.injEq, true_and, and_true]
      have h6 := h5 _ ht' hl (by simp only; omega)
      simp only at h6 h3 h2
      rw [l2] at h6
      have h7 := bnd_le (p := p) (q := q) hc' h1 c.items.length (by omega)
      rw [hbe] at h7
      simp only at h7
      have h8 : q * turnsM c (tpL c p q m c.items.length) c.items.length ≤ q * turnsM ⟨c.items, c.weights, r⟩ pick c.items.length := by
        rcases hpr with h0 | h0
        · subst h0; omega
        · have : p * linesM ⟨c.items, c.weights, r⟩ pick c.items.length ≤ p * linesM c (tpL c p q m c.items.length) c.items.length := Int.mul_le_mul_of_nonneg_left (by omega) hp
          omega
      have h9 := Int.le_of_mul_le_mul_left h8 (by omega)
      omega
  · have h0 := validM_ok.2 hc'
    unfold boundE
    unfold okPQ at hpq
    rw [if_neg (by omega), if_neg (by omega)]
    simp only [boundM, Prod.mk.injEq, true_and, and_true]
    rw [hbe, Int.mul_comm q]
    rcases hpr with h0 | h0
    · subst h0; simp
    · rw [h0, Int.sub_mul]; omega
end Go.Proofs.YthcfjdkflmkhbaaDoor

