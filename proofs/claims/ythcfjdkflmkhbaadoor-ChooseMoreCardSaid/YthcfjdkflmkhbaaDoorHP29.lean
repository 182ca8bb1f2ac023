/- What the functions compute, in plain Lean. -/
import Derived.Test.YthcfjdkflmkhbaaDoorHAv41
import Derived.Test.YthcfjdkflmkhbaaDoorRows
import Derived.KernelRfl
import Derived.Test.YthcfjdkflmkhbaaDoorHP1
set_option linter.all false
namespace Go.Proofs.YthcfjdkflmkhbaaDoor
open Go.Av

/-- A number made one from 0 up to most. -/
def aroundM (n m : Int) : Int := (if n < 0 then -(n + 1) else n).tmod m
theorem aroundM_range {n m : Int} (hm : 0 < m) : 0 ≤ aroundM n m ∧ aroundM n m < m := by
  unfold aroundM
  have h : 0 ≤ (if n < 0 then -(n + 1) else n) := by split <;> omega
  exact ⟨Int.tmod_nonneg _ h, Int.tmod_lt_of_pos _ hm⟩

def atM (l : List Int) (i m : Int) : Int := if i < 0 ∨ (l.length : Int) ≤ i then 0 else aroundM (l.getD i.toNat default) m
theorem atM_range {l : List Int} {i m : Int} (hm : 0 < m) : 0 ≤ atM l i m ∧ atM l i m < m := by
  unfold atM
  split
  · omega
  · exact aroundM_range hm
theorem getD_all {α : Type} [Inhabited α] {p : α → Prop} {l : List α} (h : ∀ x ∈ l, p x) {i : Nat} (hi : i < l.length) : p (l.getD i default) := by
  rw [List.getD_eq_getElem?_getD, List.getElem?_eq_getElem hi]
  exact h _ (List.getElem_mem hi)

def takeM (l : List Int) (n : Int) : List Int := l.take (if n < (l.length : Int) then n else (l.length : Int)).toNat

/-- A case: for each item its options (lines, turns), the weights, the room. -/
structure CaseM where
  items : List (List (Int × Int))
  weights : List Int
  room : Int
abbrev oD (o : Int × Int) : Dat := .agg [.int .i64 o.1, .int .i64 o.2]
abbrev osD (l : List (Int × Int)) : Dat := .sl (l.map oD)
abbrev caseL (c : CaseM) : List Dat := [.sl (c.items.map osD), .sl (c.weights.map (Dat.int .i64)), .int .i64 c.room]
abbrev caseD (c : CaseM) : Dat := .agg (caseL c)

abbrev itemM (c : CaseM) (i : Nat) : List (Int × Int) := c.items.getD i default
abbrev weightM (c : CaseM) (i : Nat) : Int := c.weights.getD i default
abbrev pickM (pick : List Int) (i : Nat) : Int := pick.getD i default
/-- The option that a choice has for an item. -/
abbrev optM (c : CaseM) (pick : List Int) (i : Nat) : Int × Int := (itemM c i).getD (pickM pick i).toNat default

def okO (o : Int × Int) : Prop := 0 ≤ o.1 ∧ o.1 ≤ 64 ∧ 0 ≤ o.2 ∧ o.2 ≤ 64
/-- A valid case. -/
structure OkC (c : CaseM) : Prop where
  n64 : c.items.length ≤ 64
  n8 : ∀ i < c.items.length, (itemM c i).length ≤ 8
  n1 : ∀ i < c.items.length, 0 < (itemM c i).length
  wl : c.weights.length = c.items.length
  room : 0 ≤ c.room ∧ c.room ≤ 4096
  w : ∀ i < c.items.length, 0 ≤ weightM c i ∧ weightM c i ≤ 1024
  o : ∀ i < c.items.length, ∀ o ∈ itemM c i, okO o
/-- A choice of a case. -/
structure OkP (c : CaseM) (pick : List Int) : Prop where
  len : pick.length ≤ c.items.length
  at_ : ∀ i < pick.length, 0 ≤ pickM pick i ∧ pickM pick i < ((itemM c i).length : Int)

theorem OkP.opt {c : CaseM} {pick : List Int} (hc : OkC c) (hp : OkP c pick) {i : Nat} (hi : i < pick.length) : okO (optM c pick i) := by
  have h1 := hp.at_ i hi
  have h2 := hp.len
  exact getD_all (hc.o i (by omega)) (by omega)

/-- The lines and the turns of the first items of a choice. -/
def linesM (c : CaseM) (pick : List Int) : Nat → Int
  | 0 => 0
  | i + 1 => linesM c pick i + (optM c pick i).1
def turnsM (c : CaseM) (pick : List Int) : Nat → Int
  | 0 => 0
  | i + 1 => turnsM c pick i + (optM c pick i).2 * weightM c i

theorem sums_range {c : CaseM} {pick : List Int} (hc : OkC c) (hp : OkP c pick) : ∀ i ≤ pick.length, (0 ≤ linesM c pick i ∧ linesM c pick i ≤ 64 * i) ∧ 0 ≤ turnsM c pick i ∧ turnsM c pick i ≤ 65536 * i
  | 0, _ => by simp [linesM, turnsM]
  | i + 1, h => by
    obtain ⟨⟨h1, h2⟩, h3, h4⟩ := sums_range hc hp i (by omega)
    obtain ⟨o1, o2, o3, o4⟩ := hp.opt hc (show i < pick.length by omega)
    obtain ⟨w1, w2⟩ := hc.w i (by have := hp.len; omega)
    have m1 : 0 ≤ (optM c pick i).2 * weightM c i := Int.mul_nonneg o3 w1
    have m2 : (optM c pick i).2 * weightM c i ≤ 64 * 1024 := Int.mul_le_mul o4 w2 w1 (by omega)
    simp only [linesM, turnsM]
    omega

end Go.Proofs.YthcfjdkflmkhbaaDoor

namespace Go.Proofs.YthcfjdkflmkhbaaDoor
open Go.Av
theorem ti1 : ti Tryd.prog 1 = some { size := 1, bytes := 8, zero := some [.raw .nilFunc], tk := .other } := by kernel_rfl
theorem ti2 : ti Tryd.prog 2 = some { size := 1, bytes := 8, zero := some [.dat (.int .i64 0)], tk := .int .i64 } := by kernel_rfl
theorem ti3 : ti Tryd.prog 3 = some { size := 1, bytes := 8, zero := some [.dat (.int .i64 0)], tk := .int .i64 } := by kernel_rfl
theorem ti4 : ti Tryd.prog 4 = some { size := 1, bytes := 1, zero := some [.dat (.bool false)], tk := .bool } := by kernel_rfl
theorem ti5 : ti Tryd.prog 5 = some { size := 1, bytes := 1, zero := some [.dat (.int .u8 0)], tk := .int .u8 } := by kernel_rfl
theorem ti6 : ti Tryd.prog 6 = some { size := 1, bytes := 1, zero := some [.dat (.int .u8 0)], tk := .int .u8 } := by kernel_rfl
theorem ti7 : ti Tryd.prog 7 = some { size := 4, bytes := 24, zero := some [.dat (.int .i64 0), .dat (.int .i64 0), .dat (.bool false), .dat (.int .u8 0)], tk := .struct [(0, 2), (1, 3), (2, 4), (3, 6)] } := by kernel_rfl
theorem ti8 : ti Tryd.prog 8 = some { size := 4, bytes := 24, zero := some [.dat (.int .i64 0), .dat (.int .i64 0), .dat (.bool false), .dat (.int .u8 0)], tk := .struct [(0, 2), (1, 3), (2, 4), (3, 6)] } := by kernel_rfl
theorem ti9 : ti Tryd.prog 9 = some { size := 1, bytes := 16, zero := some [.dat (.str ⟨#[]⟩)], tk := .str } := by kernel_rfl
theorem ti10 : ti Tryd.prog 10 = some { size := 1, bytes := 16, zero := some [.dat (.str ⟨#[]⟩)], tk := .str } := by kernel_rfl
theorem ti11 : ti Tryd.prog 11 = some { size := 1, bytes := 16, zero := some [.dat (.str ⟨#[]⟩)], tk := .str } := by kernel_rfl
theorem ti12 : ti Tryd.prog 12 = some { size := 1, bytes := 8, zero := some [.dat (.int .u64 0)], tk := .int .u64 } := by kernel_rfl
theorem ti13 : ti Tryd.prog 13 = some { size := 2, bytes := 24, zero := some [.dat (.str ⟨#[]⟩), .dat (.int .u64 0)], tk := .struct [(0, 9), (1, 12)] } := by kernel_rfl
theorem ti14 : ti Tryd.prog 14 = some { size := 2, bytes := 24, zero := some [.dat (.str ⟨#[]⟩), .dat (.int .u64 0)], tk := .struct [(0, 9), (1, 12)] } := by kernel_rfl
theorem ti15 : ti Tryd.prog 15 = some { size := 1, bytes := 8, zero := some [.dat .nilp], tk := .ptr 105 } := by kernel_rfl
theorem ti16 : ti Tryd.prog 16 = some { size := 1, bytes := 8, zero := some [.dat .nilp], tk := .ptr 108 } := by kernel_rfl
theorem ti17 : ti Tryd.prog 17 = some { size := 1, bytes := 8, zero := some [.dat .nilp], tk := .ptr 118 } := by kernel_rfl
theorem ti18 : ti Tryd.prog 18 = some { size := 1, bytes := 8, zero := some [.dat .nilp], tk := .struct [(0, 17)] } := by kernel_rfl
theorem ti19 : ti Tryd.prog 19 = some { size := 1, bytes := 8, zero := some [.dat .nilp], tk := .struct [(0, 17)] } := by kernel_rfl
theorem ti20 : ti Tryd.prog 20 = some { size := 1, bytes := 16, zero := some [.dat .nilI], tk := .iface } := by kernel_rfl
theorem ti21 : ti Tryd.prog 21 = some { size := 1, bytes := 4, zero := some [.dat (.int .i32 0)], tk := .int .i32 } := by kernel_rfl
theorem ti22 : ti Tryd.prog 22 = some { size := 1, bytes := 24, zero := some [.nils], tk := .slice 3 } := by kernel_rfl
theorem ti23 : ti Tryd.prog 23 = some { size := 1, bytes := 24, zero := some [.nils], tk := .slice 84 } := by kernel_rfl
theorem ti24 : ti Tryd.prog 24 = some { size := 1, bytes := 24, zero := some [.nils], tk := .slice 71 } := by kernel_rfl
theorem ti25 : ti Tryd.prog 25 = some { size := 3, bytes := 56, zero := some [.nils, .nils, .dat (.int .i64 0)], tk := .struct [(0, 24), (1, 22), (2, 3)] } := by kernel_rfl
theorem ti26 : ti Tryd.prog 26 = some { size := 3, bytes := 56, zero := some [.nils, .nils, .dat (.int .i64 0)], tk := .struct [(0, 24), (1, 22), (2, 3)] } := by kernel_rfl
theorem ti27 : ti Tryd.prog 27 = some { size := 1, bytes := 8, zero := some [.raw .nilFunc], tk := .other } := by kernel_rfl
theorem ti28 : ti Tryd.prog 28 = some { size := 1, bytes := 8, zero := some [.raw .nilFunc], tk := .other } := by kernel_rfl
theorem ti29 : ti Tryd.prog 29 = some { size := 1, bytes := 8, zero := some [.raw .nilFunc], tk := .other } := by kernel_rfl
theorem ti30 : ti Tryd.prog 30 = some { size := 1, bytes := 24, zero := some [.nils], tk := .slice 26 } := by kernel_rfl
theorem ti31 : ti Tryd.prog 31 = some { size := 1, bytes := 8, zero := some [.dat (.int .i64 0)], tk := .int .i64 } := by kernel_rfl
theorem ti32 : ti Tryd.prog 32 = some { size := 1, bytes := 8, zero := some [.raw .nilFunc], tk := .other } := by kernel_rfl
theorem ti33 : ti Tryd.prog 33 = some { size := 1, bytes := 24, zero := some [.nils], tk := .slice 68 } := by kernel_rfl
theorem ti34 : ti Tryd.prog 34 = some { size := 3, bytes := 56, zero := some [.nils, .nils, .dat (.int .i64 0)], tk := .struct [(0, 33), (1, 22), (2, 3)] } := by kernel_rfl
theorem ti35 : ti Tryd.prog 35 = some { size := 3, bytes := 56, zero := some [.nils, .nils, .dat (.int .i64 0)], tk := .struct [(0, 33), (1, 22), (2, 3)] } := by kernel_rfl
theorem ti36 : ti Tryd.prog 36 = some { size := 1, bytes := 8, zero := some [.raw .nilFunc], tk := .other } := by kernel_rfl
theorem ti37 : ti Tryd.prog 37 = some { size := 1, bytes := 8, zero := some [.raw .nilFunc], tk := .other } := by kernel_rfl
theorem ti38 : ti Tryd.prog 38 = some { size := 1, bytes := 8, zero := some [.raw .nilFunc], tk := .other } := by kernel_rfl
theorem ti39 : ti Tryd.prog 39 = some { size := 1, bytes := 8, zero := some [.raw .nilFunc], tk := .other } := by kernel_rfl
theorem ti40 : ti Tryd.prog 40 = some { size := 1, bytes := 24, zero := some [.nils], tk := .slice 22 } := by kernel_rfl
theorem ti42 : ti Tryd.prog 42 = some { size := 1, bytes := 8, zero := some [.raw .nilFunc], tk := .other } := by kernel_rfl
theorem ti43 : ti Tryd.prog 43 = some { size := 1, bytes := 8, zero := some [.raw .nilFunc], tk := .other } := by kernel_rfl
theorem ti44 : ti Tryd.prog 44 = some { size := 1, bytes := 8, zero := some [.raw .nilFunc], tk := .other } := by kernel_rfl
theorem ti45 : ti Tryd.prog 45 = some { size := 1, bytes := 8, zero := some [.raw .nilFunc], tk := .other } := by kernel_rfl
theorem ti46 : ti Tryd.prog 46 = some { size := 2, bytes := 16, zero := some [.dat (.int .i64 0), .dat (.int .i64 0)], tk := .array 2 3 } := by kernel_rfl
theorem ti47 : ti Tryd.prog 47 = some { size := 1, bytes := 8, zero := some [.raw .nilFunc], tk := .other } := by kernel_rfl
theorem ti48 : ti Tryd.prog 48 = some { size := 1, bytes := 24, zero := some [.nils], tk := .slice 46 } := by kernel_rfl
theorem ti49 : ti Tryd.prog 49 = some { size := 3, bytes := 24, zero := some [.dat (.int .i64 0), .dat (.int .i64 0), .dat (.int .i64 0)], tk := .struct [(0, 3), (1, 3), (2, 3)] } := by kernel_rfl
theorem ti50 : ti Tryd.prog 50 = some { size := 3, bytes := 24, zero := some [.dat (.int .i64 0), .dat (.int .i64 0), .dat (.int .i64 0)], tk := .struct [(0, 3), (1, 3), (2, 3)] } := by kernel_rfl
theorem ti52 : ti Tryd.prog 52 = some { size := 1, bytes := 8, zero := some [.raw .nilFunc], tk := .other } := by kernel_rfl
theorem ti53 : ti Tryd.prog 53 = some { size := 3, bytes := 24, zero := some [.dat (.int .i64 0), .dat (.int .i64 0), .dat (.int .i64 0)], tk := .struct [(0, 3), (1, 3), (2, 3)] } := by kernel_rfl
theorem ti55 : ti Tryd.prog 55 = some { size := 1, bytes := 8, zero := some [.raw .nilFunc], tk := .other } := by kernel_rfl
theorem ti56 : ti Tryd.prog 56 = some { size := 1, bytes := 8, zero := some [.raw .nilFunc], tk := .other } := by kernel_rfl
theorem ti57 : ti Tryd.prog 57 = some { size := 1, bytes := 24, zero := some [.nils], tk := .slice 53 } := by kernel_rfl
theorem ti58 : ti Tryd.prog 58 = some { size := 1, bytes := 8, zero := some [.raw .nilFunc], tk := .other } := by kernel_rfl
theorem ti59 : ti Tryd.prog 59 = some { size := 1, bytes := 8, zero := some [.raw .nilFunc], tk := .other } := by kernel_rfl
theorem ti60 : ti Tryd.prog 60 = some { size := 1, bytes := 8, zero := some [.raw .nilFunc], tk := .other } := by kernel_rfl
theorem ti61 : ti Tryd.prog 61 = some { size := 1, bytes := 8, zero := some [.raw .nilFunc], tk := .other } := by kernel_rfl
theorem ti62 : ti Tryd.prog 62 = some { size := 1, bytes := 8, zero := some [.raw .nilFunc], tk := .other } := by kernel_rfl
theorem ti63 : ti Tryd.prog 63 = some { size := 1, bytes := 8, zero := some [.raw .nilFunc], tk := .other } := by kernel_rfl
theorem ti65 : ti Tryd.prog 65 = some { size := 1, bytes := 8, zero := some [.raw .nilFunc], tk := .other } := by kernel_rfl
theorem ti66 : ti Tryd.prog 66 = some { size := 2, bytes := 16, zero := some [.dat (.int .i64 0), .dat (.int .i64 0)], tk := .struct [(0, 3), (1, 3)] } := by kernel_rfl
theorem ti67 : ti Tryd.prog 67 = some { size := 2, bytes := 16, zero := some [.dat (.int .i64 0), .dat (.int .i64 0)], tk := .struct [(0, 3), (1, 3)] } := by kernel_rfl
theorem ti68 : ti Tryd.prog 68 = some { size := 1, bytes := 24, zero := some [.nils], tk := .slice 67 } := by kernel_rfl
theorem ti69 : ti Tryd.prog 69 = some { size := 1, bytes := 8, zero := some [.raw .nilFunc], tk := .other } := by kernel_rfl
theorem ti70 : ti Tryd.prog 70 = some { size := 1, bytes := 8, zero := some [.raw .nilFunc], tk := .other } := by kernel_rfl
theorem ti71 : ti Tryd.prog 71 = some { size := 1, bytes := 24, zero := some [.nils], tk := .slice 72 } := by kernel_rfl
theorem ti72 : ti Tryd.prog 72 = some { size := 2, bytes := 16, zero := some [.dat (.int .i64 0), .dat (.int .i64 0)], tk := .struct [(0, 3), (1, 3)] } := by kernel_rfl
theorem ti73 : ti Tryd.prog 73 = some { size := 1, bytes := 8, zero := some [.raw .nilFunc], tk := .other } := by kernel_rfl
theorem ti75 : ti Tryd.prog 75 = some { size := 1, bytes := 8, zero := some [.raw .nilFunc], tk := .other } := by kernel_rfl
theorem ti76 : ti Tryd.prog 76 = some { size := 1, bytes := 8, zero := some [.raw .nilFunc], tk := .other } := by kernel_rfl
theorem ti77 : ti Tryd.prog 77 = some { size := 1, bytes := 8, zero := some [.raw .nilFunc], tk := .other } := by kernel_rfl
theorem ti78 : ti Tryd.prog 78 = some { size := 1, bytes := 8, zero := some [.raw .nilFunc], tk := .other } := by kernel_rfl
theorem ti79 : ti Tryd.prog 79 = some { size := 1, bytes := 8, zero := some [.raw .nilFunc], tk := .other } := by kernel_rfl
theorem ti80 : ti Tryd.prog 80 = some { size := 1, bytes := 8, zero := some [.raw .nilFunc], tk := .other } := by kernel_rfl
theorem ti81 : ti Tryd.prog 81 = some { size := 1, bytes := 8, zero := some [.raw .nilFunc], tk := .other } := by kernel_rfl
theorem ti82 : ti Tryd.prog 82 = some { size := 1, bytes := 24, zero := some [.nils], tk := .slice 50 } := by kernel_rfl
theorem ti83 : ti Tryd.prog 83 = some { size := 1, bytes := 8, zero := some [.raw .nilFunc], tk := .other } := by kernel_rfl
theorem ti84 : ti Tryd.prog 84 = some { size := 4, bytes := 32, zero := some [.dat (.int .i64 0), .dat (.int .i64 0), .dat (.int .i64 0), .dat (.int .i64 0)], tk := .array 4 3 } := by kernel_rfl
theorem ti85 : ti Tryd.prog 85 = some { size := 1, bytes := 8, zero := some [.raw .nilFunc], tk := .other } := by kernel_rfl
theorem ti86 : ti Tryd.prog 86 = some { size := 1, bytes := 8, zero := some [.raw .nilFunc], tk := .other } := by kernel_rfl
theorem ti87 : ti Tryd.prog 87 = some { size := 1, bytes := 8, zero := some [.raw .nilFunc], tk := .other } := by kernel_rfl
theorem ti88 : ti Tryd.prog 88 = some { size := 1, bytes := 8, zero := some [.raw .nilFunc], tk := .other } := by kernel_rfl
theorem ti89 : ti Tryd.prog 89 = some { size := 1, bytes := 8, zero := some [.raw .nilFunc], tk := .other } := by kernel_rfl
theorem ti90 : ti Tryd.prog 90 = some { size := 1, bytes := 8, zero := some [.raw .nilFunc], tk := .other } := by kernel_rfl
theorem ti91 : ti Tryd.prog 91 = some { size := 1, bytes := 8, zero := some [.raw .nilFunc], tk := .other } := by kernel_rfl
theorem ti92 : ti Tryd.prog 92 = some { size := 1, bytes := 8, zero := some [.raw .nilFunc], tk := .other } := by kernel_rfl
theorem ti93 : ti Tryd.prog 93 = some { size := 1, bytes := 8, zero := some [.raw .nilFunc], tk := .other } := by kernel_rfl
theorem ti94 : ti Tryd.prog 94 = some { size := 1, bytes := 8, zero := some [.raw .nilFunc], tk := .other } := by kernel_rfl
theorem ti95 : ti Tryd.prog 95 = some { size := 1, bytes := 8, zero := some [.raw .nilFunc], tk := .other } := by kernel_rfl
theorem ti96 : ti Tryd.prog 96 = some { size := 1, bytes := 24, zero := some [.nils], tk := .slice 97 } := by kernel_rfl
theorem ti97 : ti Tryd.prog 97 = some { size := 2, bytes := 16, zero := some [.dat (.int .i64 0), .dat (.int .i64 0)], tk := .array 2 3 } := by kernel_rfl
theorem ti98 : ti Tryd.prog 98 = some { size := 1, bytes := 8, zero := some [.raw .nilFunc], tk := .other } := by kernel_rfl
theorem ti99 : ti Tryd.prog 99 = some { size := 1, bytes := 8, zero := some [.raw .nilFunc], tk := .other } := by kernel_rfl
theorem ti100 : ti Tryd.prog 100 = some { size := 1, bytes := 8, zero := some [.raw .nilFunc], tk := .other } := by kernel_rfl
theorem ti101 : ti Tryd.prog 101 = some { size := 1, bytes := 8, zero := some [.raw .nilFunc], tk := .other } := by kernel_rfl
theorem ti102 : ti Tryd.prog 102 = some { size := 1, bytes := 8, zero := some [.raw .nilFunc], tk := .other } := by kernel_rfl
theorem ti103 : ti Tryd.prog 103 = some { size := 1, bytes := 8, zero := some [.raw .nilFunc], tk := .other } := by kernel_rfl
theorem ti104 : ti Tryd.prog 104 = some { size := 4, bytes := 40, zero := some [.dat .nilp, .dat .nilp, .dat .nilp, .dat (.str ⟨#[]⟩)], tk := .struct [(0, 17), (1, 17), (2, 17), (3, 9)] } := by kernel_rfl
theorem ti105 : ti Tryd.prog 105 = some { size := 4, bytes := 40, zero := some [.dat .nilp, .dat .nilp, .dat .nilp, .dat (.str ⟨#[]⟩)], tk := .struct [(0, 17), (1, 17), (2, 17), (3, 9)] } := by kernel_rfl
theorem ti106 : ti Tryd.prog 106 = some { size := 0, bytes := 0, zero := some [], tk := .array 0 16 } := by kernel_rfl
theorem ti107 : ti Tryd.prog 107 = some { size := 0, bytes := 0, zero := some [], tk := .struct [(0, 106)] } := by kernel_rfl
theorem ti108 : ti Tryd.prog 108 = some { size := 0, bytes := 0, zero := some [], tk := .struct [(0, 106)] } := by kernel_rfl
theorem ti109 : ti Tryd.prog 109 = some { size := 1, bytes := 8, zero := some [.raw .nilFunc], tk := .other } := by kernel_rfl
theorem ti110 : ti Tryd.prog 110 = some { size := 1, bytes := 4, zero := some [.dat (.int .u32 0)], tk := .int .u32 } := by kernel_rfl
theorem ti111 : ti Tryd.prog 111 = some { size := 1, bytes := 1, zero := some [.dat (.int .u8 0)], tk := .int .u8 } := by kernel_rfl
theorem ti112 : ti Tryd.prog 112 = some { size := 1, bytes := 1, zero := some [.dat (.int .u8 0)], tk := .int .u8 } := by kernel_rfl
theorem ti113 : ti Tryd.prog 113 = some { size := 1, bytes := 8, zero := some [.raw .nilFunc], tk := .other } := by kernel_rfl
theorem ti114 : ti Tryd.prog 114 = some { size := 1, bytes := 8, zero := some [.dat .nilp], tk := .ptr 5 } := by kernel_rfl
theorem ti115 : ti Tryd.prog 115 = some { size := 1, bytes := 4, zero := some [.dat (.int .i32 0)], tk := .int .i32 } := by kernel_rfl
theorem ti116 : ti Tryd.prog 116 = some { size := 1, bytes := 4, zero := some [.dat (.int .i32 0)], tk := .int .i32 } := by kernel_rfl
theorem ti117 : ti Tryd.prog 117 = some { size := 11, bytes := 48, zero := some [.dat (.int .u64 0), .dat (.int .u64 0), .dat (.int .u32 0), .dat (.int .u8 0), .dat (.int .u8 0), .dat (.int .u8 0), .dat (.int .u8 0), .raw .nilFunc, .dat .nilp, .dat (.int .i32 0), .dat (.int .i32 0)], tk := .struct [(0, 12), (1, 12), (2, 110), (3, 111), (4, 5), (5, 5), (6, 112), (7, 113), (8, 114), (9, 115), (10, 116)] } := by kernel_rfl
theorem ti118 : ti Tryd.prog 118 = some { size := 11, bytes := 48, zero := some [.dat (.int .u64 0), .dat (.int .u64 0), .dat (.int .u32 0), .dat (.int .u8 0), .dat (.int .u8 0), .dat (.int .u8 0), .dat (.int .u8 0), .raw .nilFunc, .dat .nilp, .dat (.int .i32 0), .dat (.int .i32 0)], tk := .struct [(0, 12), (1, 12), (2, 110), (3, 111), (4, 5), (5, 5), (6, 112), (7, 113), (8, 114), (9, 115), (10, 116)] } := by kernel_rfl
theorem ti119 : ti Tryd.prog 119 = some { size := 1, bytes := 8, zero := some [.dat .nilp], tk := .other } := by kernel_rfl
theorem tiA : type_of% (And.intro (And.intro (And.intro (And.intro (And.intro (And.intro (ti1) (And.intro (ti2) (ti3))) (And.intro (And.intro (ti4) (ti5)) (And.intro (ti6) (ti7)))) (And.intro (And.intro (ti8) (And.intro (ti9) (ti10))) (And.intro (And.intro (ti11) (ti12)) (And.intro (ti13) (ti14))))) (And.intro (And.intro (And.intro (ti15) (And.intro (ti16) (ti17))) (And.intro (And.intro (ti18) (ti19)) (And.intro (ti20) (ti21)))) (And.intro (And.intro (ti22) (And.intro (ti23) (ti24))) (And.intro (And.intro (ti25) (ti26)) (And.intro (ti27) (ti28)))))) (And.intro (And.intro (And.intro (And.intro (ti29) (And.intro (ti30) (ti31))) (And.intro (And.intro (ti32) (ti33)) (And.intro (ti34) (ti35)))) (And.intro (And.intro (ti36) (And.intro (ti37) (ti38))) (And.intro (And.intro (ti39) (ti40)) (And.intro (ti42) (ti43))))) (And.intro (And.intro (And.intro (ti44) (And.intro (ti45) (ti46))) (And.intro (And.intro (ti47) (ti48)) (And.intro (ti49) (ti50)))) (And.intro (And.intro (And.intro (ti52) (ti53)) (And.intro (ti55) (ti56))) (And.intro (And.intro (ti57) (ti58)) (And.intro (ti59) (ti60))))))) (And.intro (And.intro (And.intro (And.intro (And.intro (ti61) (And.intro (ti62) (ti63))) (And.intro (And.intro (ti65) (ti66)) (And.intro (ti67) (ti68)))) (And.intro (And.intro (ti69) (And.intro (ti70) (ti71))) (And.intro (And.intro (ti72) (ti73)) (And.intro (ti75) (ti76))))) (And.intro (And.intro (And.intro (ti77) (And.intro (ti78) (ti79))) (And.intro (And.intro (ti80) (ti81)) (And.intro (ti82) (ti83)))) (And.intro (And.intro (ti84) (And.intro (ti85) (ti86))) (And.intro (And.intro (ti87) (ti88)) (And.intro (ti89) (ti90)))))) (And.intro (And.intro (And.intro (And.intro (ti91) (And.intro (ti92) (ti93))) (And.intro (And.intro (ti94) (ti95)) (And.intro (ti96) (ti97)))) (And.intro (And.intro (ti98) (And.intro (ti99) (ti100))) (And.intro (And.intro (ti101) (ti102)) (And.intro (ti103) (ti104))))) (And.intro (And.intro (And.intro (ti105) (And.intro (ti106) (ti107))) (And.intro (And.intro (ti108) (ti109)) (And.intro (ti110) (ti111)))) (And.intro (And.intro (And.intro (ti112) (ti113)) (And.intro (ti114) (ti115))) (And.intro (And.intro (ti116) (ti117)) (And.intro (ti118) (ti119)))))))) := And.intro (And.intro (And.intro (And.intro (And.intro (And.intro (ti1) (And.intro (ti2) (ti3))) (And.intro (And.intro (ti4) (ti5)) (And.intro (ti6) (ti7)))) (And.intro (And.intro (ti8) (And.intro (ti9) (ti10))) (And.intro (And.intro (ti11) (ti12)) (And.intro (ti13) (ti14))))) (And.intro (And.intro (And.intro (ti15) (And.intro (ti16) (ti17))) (And.intro (And.intro (ti18) (ti19)) (And.intro (ti20) (ti21)))) (And.intro (And.intro (ti22) (And.intro (ti23) (ti24))) (And.intro (And.intro (ti25) (ti26)) (And.intro (ti27) (ti28)))))) (And.intro (And.intro (And.intro (And.intro (ti29) (And.intro (ti30) (ti31))) (And.intro (And.intro (ti32) (ti33)) (And.intro (ti34) (ti35)))) (And.intro (And.intro (ti36) (And.intro (ti37) (ti38))) (And.intro (And.intro (ti39) (ti40)) (And.intro (ti42) (ti43))))) (And.intro (And.intro (And.intro (ti44) (And.intro (ti45) (ti46))) (And.intro (And.intro (ti47) (ti48)) (And.intro (ti49) (ti50)))) (And.intro (And.intro (And.intro (ti52) (ti53)) (And.intro (ti55) (ti56))) (And.intro (And.intro (ti57) (ti58)) (And.intro (ti59) (ti60))))))) (And.intro (And.intro (And.intro (And.intro (And.intro (ti61) (And.intro (ti62) (ti63))) (And.intro (And.intro (ti65) (ti66)) (And.intro (ti67) (ti68)))) (And.intro (And.intro (ti69) (And.intro (ti70) (ti71))) (And.intro (And.intro (ti72) (ti73)) (And.intro (ti75) (ti76))))) (And.intro (And.intro (And.intro (ti77) (And.intro (ti78) (ti79))) (And.intro (And.intro (ti80) (ti81)) (And.intro (ti82) (ti83)))) (And.intro (And.intro (ti84) (And.intro (ti85) (ti86))) (And.intro (And.intro (ti87) (ti88)) (And.intro (ti89) (ti90)))))) (And.intro (And.intro (And.intro (And.intro (ti91) (And.intro (ti92) (ti93))) (And.intro (And.intro (ti94) (ti95)) (And.intro (ti96) (ti97)))) (And.intro (And.intro (ti98) (And.intro (ti99) (ti100))) (And.intro (And.intro (ti101) (ti102)) (And.intro (ti103) (ti104))))) (And.intro (And.intro (And.intro (ti105) (And.intro (ti106) (ti107))) (And.intro (And.intro (ti108) (ti109)) (And.intro (ti110) (ti111)))) (And.intro (And.intro (And.intro (ti112) (ti113)) (And.intro (ti114) (ti115))) (And.intro (And.intro (ti116) (ti117)) (And.intro (ti118) (ti119)))))))
end Go.Proofs.YthcfjdkflmkhbaaDoor

namespace Go.Proofs.YthcfjdkflmkhbaaDoor
open Go.Av


theorem around_ok (G) (n m : Int) (hn : I64 n) (hm : 0 < m) (hmr : I64 m) : Gives Tryd.prog G 21 [iD n, iD m] [iD (aroundM n m)] := by
  have hr := aroundM_range (n := n) hm
  unfold aroundM at hr ⊢
  unfold I64 at hn hmr
  refine gives_intro [] [] [] Tryd.func21 rfl (by rfl) (by simp [Tryd.ntmps21]) fun F hP hG hN hR => ?_
  rw [Tryd.ntmps21] at hN
  have hA := And.intro hN (And.intro hP (And.intro hG (And.intro hR.1 (And.intro hR.2.1 hR.2.2.1))))
  first | apply aw_regs [0, 1] [] | apply aw_reg [0, 1] []
  · simp (disch := omega) only [avR2, avA, datsOf, fillA, seval, ↓List.forall_mem_cons, Op.operands, hA, tiA]
    first | exact ⟨rfl, rfl⟩ | ((repeat' first | refine And.intro ?_ ?_ | intro _) <;> first | with_reducible rfl | assumption | omega | rfl | (rename_i hq; rw [hq]; rfl) | (simp_all; done))
  apply aw_seq
  first | apply aw_regs [0, 1, 6] [] | apply aw_reg [0, 1, 6] []
  · simp (disch := omega) only [avR2, avA, datsOf, fillA, seval, ↓List.forall_mem_cons, Op.operands, hA, tiA]
    first | exact ⟨rfl, rfl⟩ | ((repeat' first | refine And.intro ?_ ?_ | intro _) <;> first | with_reducible rfl | assumption | omega | rfl | (rename_i hq; rw [hq]; rfl) | (simp_all; done))
  refine aw_if _ rfl (fun hb => ?_) (fun hb => ?_) <;> (try simp only [pickB_true, pickB_false, Bool.false_or, Bool.false_and, Bool.true_and, decide_eq_true_eq, decide_eq_false_iff_not, Bool.or_eq_true, Bool.and_eq_true, Bool.or_eq_false_iff, Bool.and_eq_false_imp, Bool.not_eq_true, Bool.not_eq_false, Bool.not_eq_eq_eq_not, Bool.not_true, Bool.not_false, Int.not_lt, Int.not_le, beq_iff_eq, beq_eq_false_iff_ne, bne_iff_ne, bne_eq_false_iff_eq, ne_eq, Bool.true_eq_false, Bool.false_eq_true, if_false_left, if_true_left, Bool.not_eq_eq_eq_not, Bool.decide_eq_true, Classical.not_not] at hb)
  · rw [if_pos hb] at hr ⊢
    have e1 : IntKind.i64.wrap (n + 1) = n + 1 := IntWalk.i64_in _ (by omega)
    have e2 : IntKind.i64.wrap (0 - (n + 1)) = -(n + 1) := by rw [IntWalk.i64_in _ (by omega)]; omega
    first | apply aw_regs [0, 1] [] | apply aw_reg [0, 1] []
    · simp (disch := omega) only [avR2, avA, datsOf, fillA, seval, ↓List.forall_mem_cons, Op.operands, hA, tiA, e1, e2]
      first | exact ⟨rfl, rfl⟩ | ((repeat' first | refine And.intro ?_ ?_ | intro _) <;> first | with_reducible rfl | assumption | omega | rfl | (rename_i hq; rw [hq]; rfl) | (simp_all; done))
    apply q_seq
    first | apply aw_regs [4] [] | apply aw_reg [4] []
    · simp (disch := omega) only [avR2, avA, datsOf, fillA, seval, ↓List.forall_mem_cons, Op.operands, hA, tiA]
      first | exact ⟨rfl, rfl⟩ | ((repeat' first | refine And.intro ?_ ?_ | intro _) <;> first | with_reducible rfl | assumption | omega | rfl | (rename_i hq; rw [hq]; rfl) | (simp_all; done))
    apply aw_ret
    simp only [QRet, QRetM, QRetX, retsX_nil, retsX_cons, objsAre, Tryd.results21, resA, mapO_nil, mapO_cons, vD_dat, vD_nils, vD_rp, vD_osl, vD_ptr, vD_agg, vD_fn, vL_dat, vL_app, viewL, avA, datsOf, fillA, seval, ↓List.forall_mem_cons, Op.operands, hP, hG, tiA]
  · rw [if_neg (by omega)] at hr ⊢
    apply aw_skip
    apply q_seq
    first | apply aw_regs [4] [] | apply aw_reg [4] []
    · simp (disch := omega) only [avR2, avA, datsOf, fillA, seval, ↓List.forall_mem_cons, Op.operands, hA, tiA]
      first | exact ⟨rfl, rfl⟩ | ((repeat' first | refine And.intro ?_ ?_ | intro _) <;> first | with_reducible rfl | assumption | omega | rfl | (rename_i hq; rw [hq]; rfl) | (simp_all; done))
    apply aw_ret
    simp only [QRet, QRetM, QRetX, retsX_nil, retsX_cons, objsAre, Tryd.results21, resA, mapO_nil, mapO_cons, vD_dat, vD_nils, vD_rp, vD_osl, vD_ptr, vD_agg, vD_fn, vL_dat, vL_app, viewL, avA, datsOf, fillA, seval, ↓List.forall_mem_cons, Op.operands, hP, hG, tiA]

end Go.Proofs.YthcfjdkflmkhbaaDoor

namespace Go.Proofs.YthcfjdkflmkhbaaDoor
open Go.Av


theorem at_ok (G) (l : List Int) (i m : Int) (hl : ∀ x ∈ l, I64 x) (hm : 0 < m) (hmr : I64 m) : Gives Tryd.prog G 32 [isD l, iD i, iD m] [iD (atM l i m)] := by
  unfold atM
  refine gives_intro [] [] [] Tryd.func32 rfl (by rfl) (by simp [Tryd.ntmps32]) fun F hP hG hN hR => ?_
  rw [Tryd.ntmps32] at hN
  have hA := And.intro hN (And.intro hP (And.intro hG (And.intro hR.1 (And.intro hR.2.1 hR.2.2.1))))
  first | apply aw_regs [0, 1, 2] [] | apply aw_reg [0, 1, 2] []
  · simp (disch := omega) only [avR2, avA, datsOf, fillA, seval, ↓List.forall_mem_cons, Op.operands, hA, tiA]
    first | exact ⟨rfl, rfl⟩ | ((repeat' first | refine And.intro ?_ ?_ | intro _) <;> first | with_reducible rfl | assumption | omega | rfl | (rename_i hq; rw [hq]; rfl) | (simp_all; done))
  apply aw_seq
  first | apply aw_regs [0, 1, 2, 14] [] | apply aw_reg [0, 1, 2, 14] []
  · simp (disch := omega) only [avR2, avA, datsOf, fillA, seval, ↓List.forall_mem_cons, Op.operands, hA, tiA]
    first | exact ⟨rfl, rfl⟩ | ((repeat' first | refine And.intro ?_ ?_ | intro _) <;> first | with_reducible rfl | assumption | omega | rfl | (rename_i hq; rw [hq]; rfl) | (simp_all; done))
  refine aw_if _ rfl (fun hb => ?_) (fun hb => ?_) <;> (try simp only [pickB_true, pickB_false, Bool.false_or, Bool.false_and, Bool.true_and, decide_eq_true_eq, decide_eq_false_iff_not, Bool.or_eq_true, Bool.and_eq_true, Bool.or_eq_false_iff, Bool.and_eq_false_imp, Bool.not_eq_true, Bool.not_eq_false, Bool.not_eq_eq_eq_not, Bool.not_true, Bool.not_false, Int.not_lt, Int.not_le, beq_iff_eq, beq_eq_false_iff_ne, bne_iff_ne, bne_eq_false_iff_eq, ne_eq, Bool.true_eq_false, Bool.false_eq_true, if_false_left, if_true_left, Bool.not_eq_eq_eq_not, Bool.decide_eq_true, Classical.not_not] at hb)
  · rw [if_pos (by omega)]
    first | apply aw_regs [6] [] | apply aw_reg [6] []
    · simp (disch := omega) only [avR2, avA, datsOf, fillA, seval, ↓List.forall_mem_cons, Op.operands, hA, tiA]
      first | exact ⟨rfl, rfl⟩ | ((repeat' first | refine And.intro ?_ ?_ | intro _) <;> first | with_reducible rfl | assumption | omega | rfl | (rename_i hq; rw [hq]; rfl) | (simp_all; done))
    apply aw_ret
    apply q_ret_seq
    simp only [QRet, QRetM, QRetX, retsX_nil, retsX_cons, objsAre, Tryd.results32, resA, mapO_nil, mapO_cons, vD_dat, vD_nils, vD_rp, vD_osl, vD_ptr, vD_agg, vD_fn, vL_dat, vL_app, viewL, avA, datsOf, fillA, seval, ↓List.forall_mem_cons, Op.operands, hP, hG, tiA]
  · rw [if_neg (by omega)]
    apply aw_skip
    apply q_seq
    first | apply aw_regs [6] [] | apply aw_reg [6] []
    · simp (disch := omega) only [avR2, avA, datsOf, fillA, seval, ↓List.forall_mem_cons, Op.operands, hA, tiA]
      (repeat' refine And.intro ?_ ?_) <;> try first | omega | assumption | with_reducible rfl | exact rfl | (intro hside; (repeat' refine And.intro ?_ ?_) <;> first | exact hside | omega | (rw [hside]; rfl) | (simp_all; done))
      refine CallC.use (gvF hP hG (around_ok _ (l.getD i.toNat default) m (getD_all hl (by omega)) hm hmr)) rfl ?_
      try simp (maxSteps := 2000000) (disch := omega) only [avR2, avA, datsOf, fillA, seval, ↓List.forall_mem_cons, Op.operands, hA, tiA]
      first | exact ⟨rfl, rfl⟩ | ((repeat' first | refine And.intro ?_ ?_ | intro _) <;> first | with_reducible rfl | assumption | omega | rfl | (rename_i hq; rw [hq]; rfl) | (simp_all; done))
    apply aw_ret
    simp only [QRet, QRetM, QRetX, retsX_nil, retsX_cons, objsAre, Tryd.results32, resA, mapO_nil, mapO_cons, vD_dat, vD_nils, vD_rp, vD_osl, vD_ptr, vD_agg, vD_fn, vL_dat, vL_app, viewL, avA, datsOf, fillA, seval, ↓List.forall_mem_cons, Op.operands, hP, hG, tiA]


theorem take_ok (G) (l : List Int) (n : Int) (hn : 0 ≤ n) (hn2 : n ≤ 1000) : Gives Tryd.prog G 16 [isD l, iD n] [isD (takeM l n)] := by
  unfold takeM
  refine gives_intro [] [] [] Tryd.func16 rfl (by rfl) (by simp [Tryd.ntmps16]) fun F hP hG hN hR => ?_
  rw [Tryd.ntmps16] at hN
  have hA := And.intro hN (And.intro hP (And.intro hG (And.intro hR.1 (And.intro hR.2.1 hR.2.2.1))))
  first | apply aw_regs [0, 1] [] | apply aw_reg [0, 1] []
  · simp (disch := omega) only [avR2, avA, datsOf, fillA, seval, ↓List.forall_mem_cons, Op.operands, hA, tiA]
    first | exact ⟨rfl, rfl⟩ | ((repeat' first | refine And.intro ?_ ?_ | intro _) <;> first | with_reducible rfl | assumption | omega | rfl | (rename_i hq; rw [hq]; rfl) | (simp_all; done))
  first | apply aw_regs [0, 1, 5] [] | apply aw_reg [0, 1, 5] []
  · simp (disch := omega) only [avR2, avA, datsOf, fillA, seval, ↓List.forall_mem_cons, Op.operands, hA, tiA]
    first | exact ⟨rfl, rfl⟩ | ((repeat' first | refine And.intro ?_ ?_ | intro _) <;> first | with_reducible rfl | assumption | omega | rfl | (rename_i hq; rw [hq]; rfl) | (simp_all; done))
  first | apply aw_regs [4] [13] | apply aw_reg [4] [13]
  · simp (disch := omega) only [avR2, avA, datsOf, fillA, seval, ↓List.forall_mem_cons, Op.operands, hA, tiA]
    first | exact ⟨rfl, rfl⟩ | ((repeat' first | refine And.intro ?_ ?_ | intro _) <;> first | with_reducible rfl | assumption | omega | rfl | (rename_i hq; rw [hq]; rfl) | (simp_all; done))
  apply aw_ret
  simp only [QRet, QRetM, QRetX, retsX_nil, retsX_cons, objsAre, Tryd.results16, resA, mapO_nil, mapO_cons, vD_dat, vD_nils, vD_rp, vD_osl, vD_ptr, vD_agg, vD_fn, vL_dat, vL_app, viewL, avA, datsOf, fillA, seval, ↓List.forall_mem_cons, Op.operands, hP, hG, tiA]

end Go.Proofs.YthcfjdkflmkhbaaDoor

namespace Go.Proofs.YthcfjdkflmkhbaaDoor
open Go.Av


theorem sums_ok (G) (c : CaseM) (pick : List Int) (hc : OkC c) (hp : OkP c pick) : Gives Tryd.prog G 33 [caseD c, isD pick] [iD (linesM c pick pick.length), iD (turnsM c pick pick.length)] := by
  have hw := hc.wl
  have hpl := hp.len
  have hn := hc.n64
  refine gives_intro [] [] [] Tryd.func33 rfl (by rfl) (by simp [Tryd.ntmps33]) fun F hP hG hN hR => ?_
  rw [Tryd.ntmps33] at hN
  have hA := And.intro hN (And.intro hP (And.intro hG (And.intro hR.1 (And.intro hR.2.1 hR.2.2.1))))
  apply aw_regs [1, 2] [2]
  · simp (disch := omega) only [avR2, avA, datsOf, fillA, seval, ↓List.forall_mem_cons, Op.operands, hA, tiA]
    first | exact ⟨rfl, rfl⟩ | ((repeat' first | refine And.intro ?_ ?_ | intro _) <;> first | with_reducible rfl | assumption | omega | rfl | (rename_i hq; rw [hq]; rfl) | (simp_all; done))
  apply aw_regs [1, 2, 6] [2]
  · simp (disch := omega) only [avR2, avA, datsOf, fillA, seval, ↓List.forall_mem_cons, Op.operands, hA, tiA]
    first | exact ⟨rfl, rfl⟩ | ((repeat' first | refine And.intro ?_ ?_ | intro _) <;> first | with_reducible rfl | assumption | omega | rfl | (rename_i hq; rw [hq]; rfl) | (simp_all; done))
  apply aw_regs [1, 2, 6, 7] [2]
  · simp (disch := omega) only [avR2, avA, datsOf, fillA, seval, ↓List.forall_mem_cons, Op.operands, hA, tiA]
    first | exact ⟨rfl, rfl⟩ | ((repeat' first | refine And.intro ?_ ?_ | intro _) <;> first | with_reducible rfl | assumption | omega | rfl | (rename_i hq; rw [hq]; rfl) | (simp_all; done))
  apply aw_seq
  apply aw_regs [1, 2, 6, 7, 8] [2]
  · simp (disch := omega) only [avR2, avA, datsOf, fillA, seval, ↓List.forall_mem_cons, Op.operands, hA, tiA]
    first | exact ⟨rfl, rfl⟩ | ((repeat' first | refine And.intro ?_ ?_ | intro _) <;> first | with_reducible rfl | assumption | omega | rfl | (rename_i hq; rw [hq]; rfl) | (simp_all; done))
  apply aw_block
  refine aw_loop (ι := {i : Nat // i ≤ pick.length}) (fun ⟨i, hi⟩ => .of [(1, .dat (isD pick)), (2, .ptr 2 3 0 0), (6, .dat (iD (linesM c pick i))), (7, .dat (iD (turnsM c pick i))), (8, .dat (iD i))] [(2, ⟨3, [.dat (caseD c)]⟩)]) (fun ⟨i, hi⟩ => pick.length - i) (⟨0, by omega⟩) (Le.of ?_ ?_) fun ix => ?_
  · try simp (disch := omega) only [LeE, LeO, avA, datsOf, fillA, seval, ↓List.forall_mem_cons, Op.operands, linesM, turnsM, optM, itemM, weightM, pickM]
    all_goals first | done | (repeat' apply And.intro) <;> first | rfl | omega | assumption | (simp only [AV.dat.injEq, Dat.int.injEq, true_and]; omega) | (congr <;> omega)
  · try simp (disch := omega) only [LeE, LeO, avA, datsOf, fillA, seval, ↓List.forall_mem_cons, Op.operands, linesM, turnsM, optM, itemM, weightM, pickM]
    all_goals first | done | (repeat' apply And.intro) <;> first | rfl | omega | assumption | (simp only [AV.dat.injEq, Dat.int.injEq, true_and]; omega) | (congr <;> omega)
  obtain ⟨i, hi⟩ := ix
  dsimp only
  apply aw_seq
  apply aw_regs [1, 2, 6, 7, 8, 13] [2]
  · simp (disch := omega) only [avR2, avA, datsOf, fillA, seval, ↓List.forall_mem_cons, Op.operands, hA, tiA]
    first | exact ⟨rfl, rfl⟩ | ((repeat' first | refine And.intro ?_ ?_ | intro _) <;> first | with_reducible rfl | assumption | omega | rfl | (rename_i hq; rw [hq]; rfl) | (simp_all; done))
  refine aw_if _ rfl (fun hb => ?_) (fun hb => ?_) <;> (try simp only [pickB_true, pickB_false, Bool.false_or, Bool.false_and, Bool.true_and, decide_eq_true_eq, decide_eq_false_iff_not, Bool.or_eq_true, Bool.and_eq_true, Bool.or_eq_false_iff, Bool.and_eq_false_imp, Bool.not_eq_true, Bool.not_eq_false, Bool.not_eq_eq_eq_not, Bool.not_true, Bool.not_false, Int.not_lt, Int.not_le, beq_iff_eq, beq_eq_false_iff_ne, bne_iff_ne, bne_eq_false_iff_eq, ne_eq, Bool.true_eq_false, Bool.false_eq_true, if_false_left, if_true_left, Bool.not_eq_eq_eq_not, Bool.decide_eq_true, Classical.not_not] at hb)
  · skip
    have hpi := hp.at_ i (by omega)
    have ho := hp.opt hc (show i < pick.length by omega)
    have hs := sums_range hc hp i (by omega)
    have hwi := hc.w i (by omega)
    have hm1 : 0 ≤ (optM c pick i).2 * weightM c i := Int.mul_nonneg ho.2.2.1 hwi.1
    have hm2 : (optM c pick i).2 * weightM c i ≤ 64 * 1024 := Int.mul_le_mul ho.2.2.2 hwi.2 hwi.1 (by omega)
    unfold okO at ho
    simp only [optM, itemM, weightM, pickM] at hpi ho hs hwi hm1 hm2
    apply aw_skip
    apply q_seq
    apply aw_seq
    apply aw_block
    apply aw_rgds [1, 2, 6, 7, 8, 9] [2, 9] [0, 1, 2, 3, 4, 5, 6, 7, 8, 9, 10, 11, 12] [9]
    · rw [hP]; kernel_rfl
    · exact hR
    · kernel_rfl
    · (repeat (apply PickL.cons; exact rfl)); exact PickL.nil _
    · simp (maxSteps := 2000000) (disch := omega) only [avR2, avA, datsOf, fillA, seval, ↓List.forall_mem_cons, Op.operands, hA, tiA]
      first | exact ⟨rfl, rfl⟩ | ((repeat' first | refine And.intro ?_ ?_ | intro _) <;> first | with_reducible rfl | assumption | omega | rfl | (rename_i hq; rw [hq]; rfl) | (simp_all; done))
    apply aw_regs [1, 2, 6, 7, 8, 9] [2, 9]
    · simp (disch := omega) only [avR2, avA, datsOf, fillA, seval, ↓List.forall_mem_cons, Op.operands, hA, tiA]
      first | exact ⟨rfl, rfl⟩ | ((repeat' first | refine And.intro ?_ ?_ | intro _) <;> first | with_reducible rfl | assumption | omega | rfl | (rename_i hq; rw [hq]; rfl) | (simp_all; done))
    apply aw_rgd [1, 2, 6, 7, 8] [2] [0, 1, 2, 3, 4, 5, 6, 7, 8, 9, 10] []
    · rw [hP]; kernel_rfl
    · exact hR
    · kernel_rfl
    · (repeat (apply PickL.cons; exact rfl)); exact PickL.nil _
    · simp (disch := omega) only [avR2, avA, datsOf, fillA, seval, ↓List.forall_mem_cons, Op.operands, hA, tiA]
      first | exact ⟨rfl, rfl⟩ | ((repeat' first | refine And.intro ?_ ?_ | intro _) <;> first | with_reducible rfl | assumption | omega | rfl | (rename_i hq; rw [hq]; rfl) | (simp_all; done))
    apply q_block
    apply q_seq
    apply aw_reg [1, 2, 6, 7, 8] [2]
    · simp (disch := omega) only [avR2, avA, datsOf, fillA, seval, ↓List.forall_mem_cons, Op.operands, hA, tiA]
      first | exact ⟨rfl, rfl⟩ | ((repeat' first | refine And.intro ?_ ?_ | intro _) <;> first | with_reducible rfl | assumption | omega | rfl | (rename_i hq; rw [hq]; rfl) | (simp_all; done))
    refine q_loop (⟨i + 1, by omega⟩) (Le.of ?_ ?_) (by dsimp only; omega)
    · try simp (disch := omega) only [LeE, LeO, avA, datsOf, fillA, seval, ↓List.forall_mem_cons, Op.operands, linesM, turnsM, optM, itemM, weightM, pickM]
      all_goals first | done | (repeat' apply And.intro) <;> first | rfl | omega | assumption | (simp only [AV.dat.injEq, Dat.int.injEq, true_and]; omega) | (congr <;> omega)
    · try simp (disch := omega) only [LeE, LeO, avA, datsOf, fillA, seval, ↓List.forall_mem_cons, Op.operands, linesM, turnsM, optM, itemM, weightM, pickM]
      all_goals first | done | (repeat' apply And.intro) <;> first | rfl | omega | assumption | (simp only [AV.dat.injEq, Dat.int.injEq, true_and]; omega) | (congr <;> omega)
  · skip
    have hie : i = pick.length := by omega
    subst hie
    apply aw_exit
    apply q_exit_seq
    apply q_exit_loop
    apply q_exit
    apply q_seq
    apply aw_regs [4, 5] []
    · simp (disch := omega) only [avR2, avA, datsOf, fillA, seval, ↓List.forall_mem_cons, Op.operands, hA, tiA]
      first | exact ⟨rfl, rfl⟩ | ((repeat' first | refine And.intro ?_ ?_ | intro _) <;> first | with_reducible rfl | assumption | omega | rfl | (rename_i hq; rw [hq]; rfl) | (simp_all; done))
    apply aw_ret
    simp only [QRet, QRetM, QRetX, retsX_nil, retsX_cons, objsAre, Tryd.results33, resA, mapO_nil, mapO_cons, vD_dat, vD_nils, vD_rp, vD_osl, vD_ptr, vD_agg, vD_fn, vL_dat, vL_app, viewL, avA, datsOf, fillA, seval, ↓List.forall_mem_cons, Op.operands, hP, hG, tiA]

end Go.Proofs.YthcfjdkflmkhbaaDoor

namespace Go.Proofs.YthcfjdkflmkhbaaDoor
open Go.Av

/-- The least number below n that has p, or -1. -/
def firstI (p : Nat → Bool) : Nat → Int
  | 0 => -1
  | n + 1 => if 0 ≤ firstI p n then firstI p n else if p n then (n : Int) else -1
theorem firstI_range (p : Nat → Bool) : ∀ n, -1 ≤ firstI p n ∧ firstI p n < n
  | 0 => by simp [firstI]
  | n + 1 => by
    have h := firstI_range p n
    simp only [firstI]
    split
    · omega
    · split <;> omega
theorem firstI_stay (p : Nat → Bool) {i : Nat} (h : 0 ≤ firstI p i) : ∀ m, i ≤ m → firstI p m = firstI p i
  | 0, hm => by
    have : i = 0 := by omega
    rw [this]
  | m + 1, hm => by
    by_cases hi : i = m + 1
    · rw [hi]
    · have ih := firstI_stay p h m (by omega)
      simp only [firstI]
      rw [ih, if_pos h]
theorem firstI_iff (p : Nat → Bool) : ∀ n, 0 ≤ firstI p n ↔ ∃ i, i < n ∧ p i = true
  | 0 => by simp [firstI]
  | n + 1 => by
    have ih := firstI_iff p n
    simp only [firstI]
    constructor
    · intro h
      split at h
      · rename_i h0
        obtain ⟨i, h1, h2⟩ := ih.1 h0
        exact ⟨i, by omega, h2⟩
      · split at h
        · rename_i hp
          exact ⟨n, by omega, hp⟩
        · omega
    · rintro ⟨i, h1, h2⟩
      split
      · assumption
      · rename_i h0
        by_cases hi : i = n
        · subst hi; rw [if_pos h2]; omega
        · exact absurd (ih.2 ⟨i, by omega, h2⟩) h0
theorem firstI_hit (p : Nat → Bool) {i n : Nat} (h : firstI p i < 0) (hp : p i = true) (hi : i < n) : firstI p n = i := by
  have h1 : firstI p (i + 1) = i := by simp only [firstI]; rw [if_neg (by omega), if_pos hp]
  rw [firstI_stay p (i := i + 1) (by omega) n (by omega), h1]
theorem firstI_miss (p : Nat → Bool) {i : Nat} (h : firstI p i < 0) (hp : p i = false) : firstI p (i + 1) < 0 := by
  simp only [firstI]; rw [if_neg (by omega), if_neg (by simp [hp])]; omega

/-- Sizes that no count runs out of. -/
structure SzC (c : CaseM) : Prop where
  ni : c.items.length ≤ 100
  nl : ∀ i < c.items.length, (itemM c i).length ≤ 100
  nw : c.weights.length ≤ 100
  iw : ∀ i < c.weights.length, I64 (weightM c i)
  ir : I64 c.room
  io : ∀ i < c.items.length, ∀ k < (itemM c i).length, I64 ((itemM c i).getD k default).1 ∧ I64 ((itemM c i).getD k default).2

instance (o : Int × Int) : Decidable (okO o) := by unfold okO; exact inferInstance
def BadI (c : CaseM) (i : Nat) : Prop := (itemM c i).length = 0 ∨ weightM c i < 0 ∨ 1024 < weightM c i ∨ ∃ k, k < (itemM c i).length ∧ ¬ okO ((itemM c i).getD k default)
instance (c : CaseM) (i : Nat) : Decidable (BadI c i) := by unfold BadI; exact inferInstance

/-- The error of a case. -/
def validM (c : CaseM) : Int :=
  if 64 < c.items.length ∨ ∃ i, i < c.items.length ∧ 8 < (itemM c i).length then 4
  else if c.weights.length ≠ c.items.length ∨ c.room < 0 ∨ 4096 < c.room then 1
  else if ∃ i, i < c.items.length ∧ BadI c i then 1 else 0

theorem validM_cases (c : CaseM) : validM c = 0 ∨ validM c = 1 ∨ validM c = 4 := by
  unfold validM
  split
  · simp
  · split
    · simp
    · split <;> simp

theorem validM_ok {c : CaseM} : validM c = 0 ↔ OkC c := by
  unfold validM
  constructor
  · intro h
    split at h
    · omega
    · rename_i h1
      split at h
      · omega
      · rename_i h2
        split at h
        · omega
        · rename_i h3
          simp only [not_or, not_exists, not_and] at h1 h2 h3
          have hb : ∀ i < c.items.length, ¬ BadI c i := fun i hi hb => h3 i hi hb
          refine ⟨by omega, fun i hi => by have := h1.2 i hi; omega, fun i hi => ?_, by omega, by omega, fun i hi => ?_, fun i hi o ho => ?_⟩
          · have := hb i hi
            unfold BadI at this
            omega
          · have := hb i hi
            unfold BadI at this
            omega
          · have := hb i hi
            unfold BadI at this
            simp only [not_or, not_exists, not_and, Classical.not_not] at this
            obtain ⟨k, hk, rfl⟩ := List.mem_iff_getElem.1 ho
            have h4 := this.2.2.2 k hk
            rwa [List.getD_eq_getElem?_getD, List.getElem?_eq_getElem hk] at h4
  · intro h
    rw [if_neg, if_neg, if_neg]
    · rintro ⟨i, hi, hb⟩
      unfold BadI at hb
      have h1 := h.n1 i hi
      have h2 := h.w i hi
      rcases hb with hb | hb | hb | ⟨k, hk, hb⟩
      · omega
      · omega
      · omega
      · exact hb (getD_all (h.o i hi) hk)
    · have h1 := h.wl
      have h2 := h.room
      omega
    · rintro (h1 | ⟨i, hi, h1⟩)
      · have := h.n64; omega
      · have := h.n8 i hi; omega

theorem OkC.sz {c : CaseM} (h : OkC c) : SzC c := by
  refine ⟨by have := h.n64; omega, fun i hi => by have := h.n8 i hi; omega, by have := h.n64; have := h.wl; omega, fun i hi => ?_, ?_, fun i hi k hk => ?_⟩
  · have := h.w i (by have := h.wl; omega)
    unfold I64; omega
  · have := h.room
    unfold I64; omega
  · have := getD_all (h.o i hi) hk
    unfold okO at this
    unfold I64; omega

/-- That a choice has an option that is not there. -/
def BadP (c : CaseM) (pick : List Int) : Prop := ∃ i, i < pick.length ∧ (pickM pick i < 0 ∨ ((itemM c i).length : Int) ≤ pickM pick i)
instance (c : CaseM) (pick : List Int) : Decidable (BadP c pick) := by unfold BadP; exact inferInstance

/-- Lines, turns and the error of a choice. -/
def costM (c : CaseM) (pick : List Int) : Int × Int × Int :=
  if validM c ≠ 0 then (0, 0, validM c)
  else if pick.length ≠ c.items.length then (0, 0, 1)
  else if BadP c pick then (0, 0, 1)
  else if c.room < linesM c pick pick.length then (0, 0, 21)
  else (linesM c pick pick.length, turnsM c pick pick.length, 0)

theorem okP_of {c : CaseM} {pick : List Int} (hl : pick.length ≤ c.items.length) (hb : ¬ BadP c pick) : OkP c pick := by
  refine ⟨hl, fun i hi => ?_⟩
  unfold BadP at hb
  simp only [not_exists, not_and] at hb
  have := hb i hi
  omega

/-- What Pick chooses: the digits of a number. -/
def digitM (n : Int) (k : Nat) : Int := n.tmod (max k 1 : Nat)

end Go.Proofs.YthcfjdkflmkhbaaDoor

namespace Go.Proofs.YthcfjdkflmkhbaaDoor
open Go.Av


theorem index_ok (G) (l : List (Int × Int)) (g : FuncId) (p : Int × Int → Bool) (hl : l.length ≤ 100) (hg : ∀ o ∈ l, Gives Tryd.prog G g [oD o] [.bool (p o)]) : Gives Tryd.prog G 53 [osD l, .fn g []] [iD (firstI (fun k => p (l.getD k default)) l.length)] := by
  refine gives_introF [] [] [] Tryd.func53 rfl (by rfl) (by simp [Tryd.ntmps53]) fun F hP hG hN hR => ?_
  rw [Tryd.ntmps53] at hN
  have hA := And.intro hN (And.intro hP (And.intro hG (And.intro hR.1 (And.intro hR.2.1 hR.2.2.1))))
  apply aw_regs [0, 1] []
  · simp (disch := omega) only [avR2, avA, datsOf, fillA, seval, ↓List.forall_mem_cons, Op.operands, hA, tiA]
    first | exact ⟨rfl, rfl⟩ | ((repeat' first | refine And.intro ?_ ?_ | intro _) <;> first | with_reducible rfl | assumption | omega | rfl | (rename_i hq; rw [hq]; rfl) | (simp_all; done))
  apply aw_seq
  apply aw_regs [0, 1, 7, 8] []
  · simp (disch := omega) only [avR2, avA, datsOf, fillA, seval, ↓List.forall_mem_cons, Op.operands, hA, tiA]
    first | exact ⟨rfl, rfl⟩ | ((repeat' first | refine And.intro ?_ ?_ | intro _) <;> first | with_reducible rfl | assumption | omega | rfl | (rename_i hq; rw [hq]; rfl) | (simp_all; done))
  apply aw_block
  refine aw_loop (ι := {i : Nat // i ≤ l.length ∧ firstI (fun k => p (l.getD k default)) i < 0}) (fun ⟨i, hif⟩ => .of [(0, .dat (osD l)), (1, .fn g []), (7, .dat (iD l.length)), (8, .dat (iD i))] []) (fun ⟨i, hif⟩ => l.length - i) (⟨0, by simp [firstI]⟩) (Le.of ?_ ?_) fun ix => ?_
  · try simp (disch := omega) only [LeE, LeO, avA, datsOf, fillA, seval, ↓List.forall_mem_cons, Op.operands]
    all_goals first | done | (repeat' apply And.intro) <;> first | rfl | omega | assumption | (simp only [AV.dat.injEq, Dat.int.injEq, true_and]; omega) | (congr <;> omega)
  · try simp (disch := omega) only [LeE, LeO, avA, datsOf, fillA, seval, ↓List.forall_mem_cons, Op.operands]
    all_goals first | done | (repeat' apply And.intro) <;> first | rfl | omega | assumption | (simp only [AV.dat.injEq, Dat.int.injEq, true_and]; omega) | (congr <;> omega)
  obtain ⟨i, hif⟩ := ix
  dsimp only
  obtain ⟨hi, hf⟩ := hif
  apply aw_regs [0, 1, 7, 8, 9] []
  · simp (disch := omega) only [avR2, avA, datsOf, fillA, seval, ↓List.forall_mem_cons, Op.operands, hA, tiA]
    first | exact ⟨rfl, rfl⟩ | ((repeat' first | refine And.intro ?_ ?_ | intro _) <;> first | with_reducible rfl | assumption | omega | rfl | (rename_i hq; rw [hq]; rfl) | (simp_all; done))
  apply aw_seq
  refine aw_if _ rfl (fun hb => ?_) (fun hb => ?_) <;> (try simp only [pickB_true, pickB_false, Bool.false_or, Bool.false_and, Bool.true_and, decide_eq_true_eq, decide_eq_false_iff_not, Bool.or_eq_true, Bool.and_eq_true, Bool.or_eq_false_iff, Bool.and_eq_false_imp, Bool.not_eq_true, Bool.not_eq_false, Bool.not_eq_eq_eq_not, Bool.not_true, Bool.not_false, Int.not_lt, Int.not_le, beq_iff_eq, beq_eq_false_iff_ne, bne_iff_ne, bne_eq_false_iff_eq, ne_eq, Bool.true_eq_false, Bool.false_eq_true, if_false_left, if_true_left, Bool.not_eq_eq_eq_not, Bool.decide_eq_true, Classical.not_not] at hb)
  · skip
    apply aw_skip
    apply q_seq
    apply aw_seq
    apply aw_block
    apply aw_regs [0, 1, 5, 7, 8] []
    · simp (disch := omega) only [avR2, avA, datsOf, fillA, seval, ↓List.forall_mem_cons, Op.operands, hA, tiA]
      first | exact ⟨rfl, rfl⟩ | ((repeat' first | refine And.intro ?_ ?_ | intro _) <;> first | with_reducible rfl | assumption | omega | rfl | (rename_i hq; rw [hq]; rfl) | (simp_all; done))
    apply aw_regs [0, 1, 5, 7, 8, 16] []
    · simp (disch := omega) only [avR2, avA, datsOf, fillA, seval, ↓List.forall_mem_cons, Op.operands, hA, tiA]
      (repeat' refine And.intro ?_ ?_) <;> try first | omega | assumption | with_reducible rfl | exact rfl | (intro hside; (repeat' refine And.intro ?_ ?_) <;> first | exact hside | omega | (rw [hside]; rfl) | (simp_all; done))
      refine CallC.use (gvF hP hG (hg (l.getD i default) (getD_all (p := fun o => o ∈ l) (fun o h => h) (by omega)))) rfl ?_
      try simp (maxSteps := 2000000) (disch := omega) only [avR2, avA, datsOf, fillA, seval, ↓List.forall_mem_cons, Op.operands, hA, tiA]
      first | exact ⟨rfl, rfl⟩ | ((repeat' first | refine And.intro ?_ ?_ | intro _) <;> first | with_reducible rfl | assumption | omega | rfl | (rename_i hq; rw [hq]; rfl) | (simp_all; done))
    refine aw_if _ rfl (fun hb => ?_) (fun hb => ?_) <;> (try simp only [pickB_true, pickB_false, Bool.false_or, Bool.false_and, Bool.true_and, decide_eq_true_eq, decide_eq_false_iff_not, Bool.or_eq_true, Bool.and_eq_true, Bool.or_eq_false_iff, Bool.and_eq_false_imp, Bool.not_eq_true, Bool.not_eq_false, Bool.not_eq_eq_eq_not, Bool.not_true, Bool.not_false, Int.not_lt, Int.not_le, beq_iff_eq, beq_eq_false_iff_ne, bne_iff_ne, bne_eq_false_iff_eq, ne_eq, Bool.true_eq_false, Bool.false_eq_true, if_false_left, if_true_left, Bool.not_eq_eq_eq_not, Bool.decide_eq_true, Classical.not_not] at hb)
    · skip
      have hhit := firstI_hit (fun k => p (l.getD k default)) hf hb (show i < l.length by omega)
      apply aw_regs [4] []
      · simp (disch := omega) only [avR2, avA, datsOf, fillA, seval, ↓List.forall_mem_cons, Op.operands, hA, tiA]
        first | exact ⟨rfl, rfl⟩ | ((repeat' first | refine And.intro ?_ ?_ | intro _) <;> first | with_reducible rfl | assumption | omega | rfl | (rename_i hq; rw [hq]; rfl) | (simp_all; done))
      apply aw_ret
      apply q_ret_block
      apply q_ret_seq
      apply q_ret_loop
      apply q_ret_block
      apply q_ret_seq
      simp only [QRet, QRetM, QRetX, retsX_nil, retsX_cons, objsAre, Tryd.results53, resA, mapO_nil, mapO_cons, vD_dat, vD_nils, vD_rp, vD_osl, vD_ptr, vD_agg, vD_fn, vL_dat, vL_app, viewL, avA, datsOf, fillA, seval, ↓List.forall_mem_cons, Op.operands, hP, hG, tiA]
      first | rw [hhit] | rw [hfin]
      
    · skip
      apply aw_skip
      apply q_block
      apply q_seq
      apply aw_reg [0, 1, 7, 8] []
      · simp (disch := omega) only [avR2, avA, datsOf, fillA, seval, ↓List.forall_mem_cons, Op.operands, hA, tiA]
        first | exact ⟨rfl, rfl⟩ | ((repeat' first | refine And.intro ?_ ?_ | intro _) <;> first | with_reducible rfl | assumption | omega | rfl | (rename_i hq; rw [hq]; rfl) | (simp_all; done))
      refine q_loop (⟨i + 1, by omega, firstI_miss _ hf (by simpa using hb)⟩) (Le.of ?_ ?_) (by dsimp only; omega)
      · try simp (disch := omega) only [LeE, LeO, avA, datsOf, fillA, seval, ↓List.forall_mem_cons, Op.operands]
        all_goals first | done | (repeat' apply And.intro) <;> first | rfl | omega | assumption | (simp only [AV.dat.injEq, Dat.int.injEq, true_and]; omega) | (congr <;> omega)
      · try simp (disch := omega) only [LeE, LeO, avA, datsOf, fillA, seval, ↓List.forall_mem_cons, Op.operands]
        all_goals first | done | (repeat' apply And.intro) <;> first | rfl | omega | assumption | (simp only [AV.dat.injEq, Dat.int.injEq, true_and]; omega) | (congr <;> omega)
  · skip
    have hil : i = l.length := by omega
    subst hil
    have hfr := firstI_range (fun k => p (l.getD k default)) l.length
    have hfin : firstI (fun k => p (l.getD k default)) l.length = -1 := by omega
    apply aw_exit
    apply q_exit_seq
    apply q_exit_loop
    apply q_exit
    apply q_seq
    apply aw_regs [4] []
    · simp (disch := omega) only [avR2, avA, datsOf, fillA, seval, ↓List.forall_mem_cons, Op.operands, hA, tiA]
      first | exact ⟨rfl, rfl⟩ | ((repeat' first | refine And.intro ?_ ?_ | intro _) <;> first | with_reducible rfl | assumption | omega | rfl | (rename_i hq; rw [hq]; rfl) | (simp_all; done))
    apply aw_ret
    simp only [QRet, QRetM, QRetX, retsX_nil, retsX_cons, objsAre, Tryd.results53, resA, mapO_nil, mapO_cons, vD_dat, vD_nils, vD_rp, vD_osl, vD_ptr, vD_agg, vD_fn, vL_dat, vL_app, viewL, avA, datsOf, fillA, seval, ↓List.forall_mem_cons, Op.operands, hP, hG, tiA]
    first | rw [hhit] | rw [hfin]
    

theorem indexL_ok (G) (l : List (List (Int × Int))) (g : FuncId) (p : List (Int × Int) → Bool) (hl : l.length ≤ 100) (hg : ∀ o ∈ l, Gives Tryd.prog G g [osD o] [.bool (p o)]) : Gives Tryd.prog G 52 [.sl (l.map osD), .fn g []] [iD (firstI (fun k => p (l.getD k default)) l.length)] := by
  refine gives_introF [] [] [] Tryd.func52 rfl (by rfl) (by simp [Tryd.ntmps52]) fun F hP hG hN hR => ?_
  rw [Tryd.ntmps52] at hN
  have hA := And.intro hN (And.intro hP (And.intro hG (And.intro hR.1 (And.intro hR.2.1 hR.2.2.1))))
  apply aw_regs [0, 1] []
  · simp (disch := omega) only [avR2, avA, datsOf, fillA, seval, ↓List.forall_mem_cons, Op.operands, hA, tiA]
    first | exact ⟨rfl, rfl⟩ | ((repeat' first | refine And.intro ?_ ?_ | intro _) <;> first | with_reducible rfl | assumption | omega | rfl | (rename_i hq; rw [hq]; rfl) | (simp_all; done))
  apply aw_seq
  apply aw_regs [0, 1, 7, 8] []
  · simp (disch := omega) only [avR2, avA, datsOf, fillA, seval, ↓List.forall_mem_cons, Op.operands, hA, tiA]
    first | exact ⟨rfl, rfl⟩ | ((repeat' first | refine And.intro ?_ ?_ | intro _) <;> first | with_reducible rfl | assumption | omega | rfl | (rename_i hq; rw [hq]; rfl) | (simp_all; done))
  apply aw_block
  refine aw_loop (ι := {i : Nat // i ≤ l.length ∧ firstI (fun k => p (l.getD k default)) i < 0}) (fun ⟨i, hif⟩ => .of [(0, .dat (.sl (l.map osD))), (1, .fn g []), (7, .dat (iD l.length)), (8, .dat (iD i))] []) (fun ⟨i, hif⟩ => l.length - i) (⟨0, by simp [firstI]⟩) (Le.of ?_ ?_) fun ix => ?_
  · try simp (disch := omega) only [LeE, LeO, avA, datsOf, fillA, seval, ↓List.forall_mem_cons, Op.operands]
    all_goals first | done | (repeat' apply And.intro) <;> first | rfl | omega | assumption | (simp only [AV.dat.injEq, Dat.int.injEq, true_and]; omega) | (congr <;> omega)
  · try simp (disch := omega) only [LeE, LeO, avA, datsOf, fillA, seval, ↓List.forall_mem_cons, Op.operands]
    all_goals first | done | (repeat' apply And.intro) <;> first | rfl | omega | assumption | (simp only [AV.dat.injEq, Dat.int.injEq, true_and]; omega) | (congr <;> omega)
  obtain ⟨i, hif⟩ := ix
  dsimp only
  obtain ⟨hi, hf⟩ := hif
  apply aw_regs [0, 1, 7, 8, 9] []
  · simp (disch := omega) only [avR2, avA, datsOf, fillA, seval, ↓List.forall_mem_cons, Op.operands, hA, tiA]
    first | exact ⟨rfl, rfl⟩ | ((repeat' first | refine And.intro ?_ ?_ | intro _) <;> first | with_reducible rfl | assumption | omega | rfl | (rename_i hq; rw [hq]; rfl) | (simp_all; done))
  apply aw_seq
  refine aw_if _ rfl (fun hb => ?_) (fun hb => ?_) <;> (try simp only [pickB_true, pickB_false, Bool.false_or, Bool.false_and, Bool.true_and, decide_eq_true_eq, decide_eq_false_iff_not, Bool.or_eq_true, Bool.and_eq_true, Bool.or_eq_false_iff, Bool.and_eq_false_imp, Bool.not_eq_true, Bool.not_eq_false, Bool.not_eq_eq_eq_not, Bool.not_true, Bool.not_false, Int.not_lt, Int.not_le, beq_iff_eq, beq_eq_false_iff_ne, bne_iff_ne, bne_eq_false_iff_eq, ne_eq, Bool.true_eq_false, Bool.false_eq_true, if_false_left, if_true_left, Bool.not_eq_eq_eq_not, Bool.decide_eq_true, Classical.not_not] at hb)
  · skip
    apply aw_skip
    apply q_seq
    apply aw_seq
    apply aw_block
    apply aw_regs [0, 1, 5, 7, 8] []
    · simp (disch := omega) only [avR2, avA, datsOf, fillA, seval, ↓List.forall_mem_cons, Op.operands, hA, tiA]
      first | exact ⟨rfl, rfl⟩ | ((repeat' first | refine And.intro ?_ ?_ | intro _) <;> first | with_reducible rfl | assumption | omega | rfl | (rename_i hq; rw [hq]; rfl) | (simp_all; done))
    apply aw_regs [0, 1, 5, 7, 8, 16] []
    · simp (disch := omega) only [avR2, avA, datsOf, fillA, seval, ↓List.forall_mem_cons, Op.operands, hA, tiA]
      (repeat' refine And.intro ?_ ?_) <;> try first | omega | assumption | with_reducible rfl | exact rfl | (intro hside; (repeat' refine And.intro ?_ ?_) <;> first | exact hside | omega | (rw [hside]; rfl) | (simp_all; done))
      refine CallC.use (gvF hP hG (hg (l.getD i default) (getD_all (p := fun o => o ∈ l) (fun o h => h) (by omega)))) rfl ?_
      try simp (maxSteps := 2000000) (disch := omega) only [avR2, avA, datsOf, fillA, seval, ↓List.forall_mem_cons, Op.operands, hA, tiA]
      first | exact ⟨rfl, rfl⟩ | ((repeat' first | refine And.intro ?_ ?_ | intro _) <;> first | with_reducible rfl | assumption | omega | rfl | (rename_i hq; rw [hq]; rfl) | (simp_all; done))
    refine aw_if _ rfl (fun hb => ?_) (fun hb => ?_) <;> (try simp only [pickB_true, pickB_false, Bool.false_or, Bool.false_and, Bool.true_and, decide_eq_true_eq, decide_eq_false_iff_not, Bool.or_eq_true, Bool.and_eq_true, Bool.or_eq_false_iff, Bool.and_eq_false_imp, Bool.not_eq_true, Bool.not_eq_false, Bool.not_eq_eq_eq_not, Bool.not_true, Bool.not_false, Int.not_lt, Int.not_le, beq_iff_eq, beq_eq_false_iff_ne, bne_iff_ne, bne_eq_false_iff_eq, ne_eq, Bool.true_eq_false, Bool.false_eq_true, if_false_left, if_true_left, Bool.not_eq_eq_eq_not, Bool.decide_eq_true, Classical.not_not] at hb)
    · skip
      have hhit := firstI_hit (fun k => p (l.getD k default)) hf hb (show i < l.length by omega)
      apply aw_regs [4] []
      · simp (disch := omega) only [avR2, avA, datsOf, fillA, seval, ↓List.forall_mem_cons, Op.operands, hA, tiA]
        first | exact ⟨rfl, rfl⟩ | ((repeat' first | refine And.intro ?_ ?_ | intro _) <;> first | with_reducible rfl | assumption | omega | rfl | (rename_i hq; rw [hq]; rfl) | (simp_all; done))
      apply aw_ret
      apply q_ret_block
      apply q_ret_seq
      apply q_ret_loop
      apply q_ret_block
      apply q_ret_seq
      simp only [QRet, QRetM, QRetX, retsX_nil, retsX_cons, objsAre, Tryd.results52, resA, mapO_nil, mapO_cons, vD_dat, vD_nils, vD_rp, vD_osl, vD_ptr, vD_agg, vD_fn, vL_dat, vL_app, viewL, avA, datsOf, fillA, seval, ↓List.forall_mem_cons, Op.operands, hP, hG, tiA]
      first | rw [hhit] | rw [hfin]
      
    · skip
      apply aw_skip
      apply q_block
      apply q_seq
      apply aw_reg [0, 1, 7, 8] []
      · simp (disch := omega) only [avR2, avA, datsOf, fillA, seval, ↓List.forall_mem_cons, Op.operands, hA, tiA]
        first | exact ⟨rfl, rfl⟩ | ((repeat' first | refine And.intro ?_ ?_ | intro _) <;> first | with_reducible rfl | assumption | omega | rfl | (rename_i hq; rw [hq]; rfl) | (simp_all; done))
      refine q_loop (⟨i + 1, by omega, firstI_miss _ hf (by simpa using hb)⟩) (Le.of ?_ ?_) (by dsimp only; omega)
      · try simp (disch := omega) only [LeE, LeO, avA, datsOf, fillA, seval, ↓List.forall_mem_cons, Op.operands]
        all_goals first | done | (repeat' apply And.intro) <;> first | rfl | omega | assumption | (simp only [AV.dat.injEq, Dat.int.injEq, true_and]; omega) | (congr <;> omega)
      · try simp (disch := omega) only [LeE, LeO, avA, datsOf, fillA, seval, ↓List.forall_mem_cons, Op.operands]
        all_goals first | done | (repeat' apply And.intro) <;> first | rfl | omega | assumption | (simp only [AV.dat.injEq, Dat.int.injEq, true_and]; omega) | (congr <;> omega)
  · skip
    have hil : i = l.length := by omega
    subst hil
    have hfr := firstI_range (fun k => p (l.getD k default)) l.length
    have hfin : firstI (fun k => p (l.getD k default)) l.length = -1 := by omega
    apply aw_exit
    apply q_exit_seq
    apply q_exit_loop
    apply q_exit
    apply q_seq
    apply aw_regs [4] []
    · simp (disch := omega) only [avR2, avA, datsOf, fillA, seval, ↓List.forall_mem_cons, Op.operands, hA, tiA]
      first | exact ⟨rfl, rfl⟩ | ((repeat' first | refine And.intro ?_ ?_ | intro _) <;> first | with_reducible rfl | assumption | omega | rfl | (rename_i hq; rw [hq]; rfl) | (simp_all; done))
    apply aw_ret
    simp only [QRet, QRetM, QRetX, retsX_nil, retsX_cons, objsAre, Tryd.results52, resA, mapO_nil, mapO_cons, vD_dat, vD_nils, vD_rp, vD_osl, vD_ptr, vD_agg, vD_fn, vL_dat, vL_app, viewL, avA, datsOf, fillA, seval, ↓List.forall_mem_cons, Op.operands, hP, hG, tiA]
    first | rw [hhit] | rw [hfin]
    

theorem contains_ok (G) (l : List (Int × Int)) (g : FuncId) (p : Int × Int → Bool) (hl : l.length ≤ 100) (hg : ∀ o ∈ l, Gives Tryd.prog G g [oD o] [.bool (p o)]) : Gives Tryd.prog G 42 [osD l, .fn g []] [.bool (decide (0 ≤ firstI (fun k => p (l.getD k default)) l.length))] := by
  refine gives_introF [] [] [] Tryd.func42 rfl (by rfl) (by simp [Tryd.ntmps42]) fun F hP hG hN hR => ?_
  rw [Tryd.ntmps42] at hN
  have hA := And.intro hN (And.intro hP (And.intro hG (And.intro hR.1 (And.intro hR.2.1 hR.2.2.1))))
  apply aw_regs [0, 1] []
  · simp (disch := omega) only [avR2, avA, datsOf, fillA, seval, ↓List.forall_mem_cons, Op.operands, hA, tiA]
    first | exact ⟨rfl, rfl⟩ | ((repeat' first | refine And.intro ?_ ?_ | intro _) <;> first | with_reducible rfl | assumption | omega | rfl | (rename_i hq; rw [hq]; rfl) | (simp_all; done))
  apply aw_regs [4] []
  · simp (disch := omega) only [avR2, avA, datsOf, fillA, seval, ↓List.forall_mem_cons, Op.operands, hA, tiA]
    (repeat' refine And.intro ?_ ?_) <;> try first | omega | assumption | with_reducible rfl | exact rfl | (intro hside; (repeat' refine And.intro ?_ ?_) <;> first | exact hside | omega | (rw [hside]; rfl) | (simp_all; done))
    refine CallC.use (gvF hP hG (index_ok G l g p hl hg)) rfl ?_
    try simp (maxSteps := 2000000) (disch := omega) only [avR2, avA, datsOf, fillA, seval, ↓List.forall_mem_cons, Op.operands, hA, tiA]
    first | exact ⟨rfl, rfl⟩ | ((repeat' first | refine And.intro ?_ ?_ | intro _) <;> first | with_reducible rfl | assumption | omega | rfl | (rename_i hq; rw [hq]; rfl) | (simp_all; done))
  apply aw_ret
  simp only [QRet, QRetM, QRetX, retsX_nil, retsX_cons, objsAre, Tryd.results42, resA, mapO_nil, mapO_cons, vD_dat, vD_nils, vD_rp, vD_osl, vD_ptr, vD_agg, vD_fn, vL_dat, vL_app, viewL, avA, datsOf, fillA, seval, ↓List.forall_mem_cons, Op.operands, hP, hG, tiA]

theorem containsL_ok (G) (l : List (List (Int × Int))) (g : FuncId) (p : List (Int × Int) → Bool) (hl : l.length ≤ 100) (hg : ∀ o ∈ l, Gives Tryd.prog G g [osD o] [.bool (p o)]) : Gives Tryd.prog G 39 [.sl (l.map osD), .fn g []] [.bool (decide (0 ≤ firstI (fun k => p (l.getD k default)) l.length))] := by
  refine gives_introF [] [] [] Tryd.func39 rfl (by rfl) (by simp [Tryd.ntmps39]) fun F hP hG hN hR => ?_
  rw [Tryd.ntmps39] at hN
  have hA := And.intro hN (And.intro hP (And.intro hG (And.intro hR.1 (And.intro hR.2.1 hR.2.2.1))))
  apply aw_regs [0, 1] []
  · simp (disch := omega) only [avR2, avA, datsOf, fillA, seval, ↓List.forall_mem_cons, Op.operands, hA, tiA]
    first | exact ⟨rfl, rfl⟩ | ((repeat' first | refine And.intro ?_ ?_ | intro _) <;> first | with_reducible rfl | assumption | omega | rfl | (rename_i hq; rw [hq]; rfl) | (simp_all; done))
  apply aw_regs [4] []
  · simp (disch := omega) only [avR2, avA, datsOf, fillA, seval, ↓List.forall_mem_cons, Op.operands, hA, tiA]
    (repeat' refine And.intro ?_ ?_) <;> try first | omega | assumption | with_reducible rfl | exact rfl | (intro hside; (repeat' refine And.intro ?_ ?_) <;> first | exact hside | omega | (rw [hside]; rfl) | (simp_all; done))
    refine CallC.use (gvF hP hG (indexL_ok G l g p hl hg)) rfl ?_
    try simp (maxSteps := 2000000) (disch := omega) only [avR2, avA, datsOf, fillA, seval, ↓List.forall_mem_cons, Op.operands, hA, tiA]
    first | exact ⟨rfl, rfl⟩ | ((repeat' first | refine And.intro ?_ ?_ | intro _) <;> first | with_reducible rfl | assumption | omega | rfl | (rename_i hq; rw [hq]; rfl) | (simp_all; done))
  apply aw_ret
  simp only [QRet, QRetM, QRetX, retsX_nil, retsX_cons, objsAre, Tryd.results39, resA, mapO_nil, mapO_cons, vD_dat, vD_nils, vD_rp, vD_osl, vD_ptr, vD_agg, vD_fn, vL_dat, vL_app, viewL, avA, datsOf, fillA, seval, ↓List.forall_mem_cons, Op.operands, hP, hG, tiA]

theorem valid1_ok (G) (l : List (Int × Int)) (hl : l.length ≤ 100) : Gives Tryd.prog G 40 [osD l] [.bool (decide (8 < (l.length : Int)))] := by
  refine gives_intro [] [] [] Tryd.func40 rfl (by rfl) (by simp [Tryd.ntmps40]) fun F hP hG hN hR => ?_
  rw [Tryd.ntmps40] at hN
  have hA := And.intro hN (And.intro hP (And.intro hG (And.intro hR.1 (And.intro hR.2.1 hR.2.2.1))))
  apply aw_regs [0] []
  · simp (disch := omega) only [avR2, avA, datsOf, fillA, seval, ↓List.forall_mem_cons, Op.operands, hA, tiA]
    first | exact ⟨rfl, rfl⟩ | ((repeat' first | refine And.intro ?_ ?_ | intro _) <;> first | with_reducible rfl | assumption | omega | rfl | (rename_i hq; rw [hq]; rfl) | (simp_all; done))
  apply aw_regs [2] []
  · simp (disch := omega) only [avR2, avA, datsOf, fillA, seval, ↓List.forall_mem_cons, Op.operands, hA, tiA]
    first | exact ⟨rfl, rfl⟩ | ((repeat' first | refine And.intro ?_ ?_ | intro _) <;> first | with_reducible rfl | assumption | omega | rfl | (rename_i hq; rw [hq]; rfl) | (simp_all; done))
  apply aw_ret
  simp only [QRet, QRetM, QRetX, retsX_nil, retsX_cons, objsAre, Tryd.results40, resA, mapO_nil, mapO_cons, vD_dat, vD_nils, vD_rp, vD_osl, vD_ptr, vD_agg, vD_fn, vL_dat, vL_app, viewL, avA, datsOf, fillA, seval, ↓List.forall_mem_cons, Op.operands, hP, hG, tiA]

theorem valid2_ok (G) (o : Int × Int) : Gives Tryd.prog G 41 [oD o] [.bool (decide (¬ okO o))] := by
  refine gives_intro [] [] [] Tryd.func41 rfl (by rfl) (by simp [Tryd.ntmps41]) fun F hP hG hN hR => ?_
  rw [Tryd.ntmps41] at hN
  have hA := And.intro hN (And.intro hP (And.intro hG (And.intro hR.1 (And.intro hR.2.1 hR.2.2.1))))
  apply aw_regs [1] [1]
  · simp (disch := omega) only [avR2, avA, datsOf, fillA, seval, ↓List.forall_mem_cons, Op.operands, hA, tiA]
    first | exact ⟨rfl, rfl⟩ | ((repeat' first | refine And.intro ?_ ?_ | intro _) <;> first | with_reducible rfl | assumption | omega | rfl | (rename_i hq; rw [hq]; rfl) | (simp_all; done))
  apply aw_regs [2] []
  · simp (maxSteps := 2000000) (disch := omega) only [avR2, avA, datsOf, fillA, seval, ↓List.forall_mem_cons, Op.operands, hA, tiA]
    first | exact ⟨rfl, rfl⟩ | ((repeat' first | refine And.intro ?_ ?_ | intro _) <;> first | with_reducible rfl | assumption | omega | rfl | (rename_i hq; rw [hq]; rfl) | (simp_all; done))
  apply aw_ret
  simp only [QRet, QRetM, QRetX, retsX_nil, retsX_cons, objsAre, Tryd.results41, resA, mapO_nil, mapO_cons, vD_dat, vD_nils, vD_rp, vD_osl, vD_ptr, vD_agg, vD_fn, vL_dat, vL_app, viewL, avA, datsOf, fillA, seval, ↓List.forall_mem_cons, Op.operands, hP, hG, tiA]
  unfold okO
  simp only [Option.some.injEq, List.cons.injEq, Dat.bool.injEq, and_true]
  rw [Bool.eq_iff_iff]
  simp only [Bool.or_eq_true, decide_eq_true_eq]
  omega
  

theorem cost_ok (G) (c : CaseM) (pick : List Int) (hc : OkC c) (hp : OkP c pick) : Gives Tryd.prog G 43 [caseD c, isD pick] [iD (turnsM c pick pick.length), iD (linesM c pick pick.length)] := by
  have hw := hc.wl
  have hpl := hp.len
  have hn := hc.n64
  refine gives_intro [] [] [] Tryd.func43 rfl (by rfl) (by simp [Tryd.ntmps43]) fun F hP hG hN hR => ?_
  rw [Tryd.ntmps43] at hN
  have hA := And.intro hN (And.intro hP (And.intro hG (And.intro hR.1 (And.intro hR.2.1 hR.2.2.1))))
  apply aw_regs [1, 2] [2]
  · simp (disch := omega) only [avR2, avA, datsOf, fillA, seval, ↓List.forall_mem_cons, Op.operands, hA, tiA]
    first | exact ⟨rfl, rfl⟩ | ((repeat' first | refine And.intro ?_ ?_ | intro _) <;> first | with_reducible rfl | assumption | omega | rfl | (rename_i hq; rw [hq]; rfl) | (simp_all; done))
  apply aw_regs [1, 2, 6, 7] [2]
  · simp (disch := omega) only [avR2, avA, datsOf, fillA, seval, ↓List.forall_mem_cons, Op.operands, hA, tiA]
    first | exact ⟨rfl, rfl⟩ | ((repeat' first | refine And.intro ?_ ?_ | intro _) <;> first | with_reducible rfl | assumption | omega | rfl | (rename_i hq; rw [hq]; rfl) | (simp_all; done))
  apply aw_seq
  apply aw_regs [2, 6, 7, 10, 11, 12] [2]
  · simp (disch := omega) only [avR2, avA, datsOf, fillA, seval, ↓List.forall_mem_cons, Op.operands, hA, tiA]
    first | exact ⟨rfl, rfl⟩ | ((repeat' first | refine And.intro ?_ ?_ | intro _) <;> first | with_reducible rfl | assumption | omega | rfl | (rename_i hq; rw [hq]; rfl) | (simp_all; done))
  apply aw_block
  refine aw_loop (ι := {i : Nat // i ≤ pick.length}) (fun ⟨i, hi⟩ => .of [(2, .ptr 2 3 0 0), (6, .dat (iD (turnsM c pick i))), (7, .dat (iD (linesM c pick i))), (10, .dat (isD pick)), (11, .dat (iD pick.length)), (12, .dat (iD i))] [(2, ⟨3, [.dat (caseD c)]⟩)]) (fun ⟨i, hi⟩ => pick.length - i) (⟨0, by omega⟩) (Le.of ?_ ?_) fun ix => ?_
  · try simp (disch := omega) only [LeE, LeO, avA, datsOf, fillA, seval, ↓List.forall_mem_cons, Op.operands, linesM, turnsM, optM, itemM, weightM, pickM, Int.mul_comm]
    all_goals first | done | (repeat' apply And.intro) <;> first | rfl | omega | assumption | (simp only [AV.dat.injEq, Dat.int.injEq, true_and]; omega) | (congr <;> omega)
  · try simp (disch := omega) only [LeE, LeO, avA, datsOf, fillA, seval, ↓List.forall_mem_cons, Op.operands, linesM, turnsM, optM, itemM, weightM, pickM, Int.mul_comm]
    all_goals first | done | (repeat' apply And.intro) <;> first | rfl | omega | assumption | (simp only [AV.dat.injEq, Dat.int.injEq, true_and]; omega) | (congr <;> omega)
  obtain ⟨i, hi⟩ := ix
  dsimp only
  apply aw_regs [2, 6, 7, 10, 11, 12, 13] [2]
  · simp (disch := omega) only [avR2, avA, datsOf, fillA, seval, ↓List.forall_mem_cons, Op.operands, hA, tiA]
    first | exact ⟨rfl, rfl⟩ | ((repeat' first | refine And.intro ?_ ?_ | intro _) <;> first | with_reducible rfl | assumption | omega | rfl | (rename_i hq; rw [hq]; rfl) | (simp_all; done))
  apply aw_seq
  refine aw_if _ rfl (fun hb => ?_) (fun hb => ?_) <;> (try simp only [pickB_true, pickB_false, Bool.false_or, Bool.false_and, Bool.true_and, decide_eq_true_eq, decide_eq_false_iff_not, Bool.or_eq_true, Bool.and_eq_true, Bool.or_eq_false_iff, Bool.and_eq_false_imp, Bool.not_eq_true, Bool.not_eq_false, Bool.not_eq_eq_eq_not, Bool.not_true, Bool.not_false, Int.not_lt, Int.not_le, beq_iff_eq, beq_eq_false_iff_ne, bne_iff_ne, bne_eq_false_iff_eq, ne_eq, Bool.true_eq_false, Bool.false_eq_true, if_false_left, if_true_left, Bool.not_eq_eq_eq_not, Bool.decide_eq_true, Classical.not_not] at hb)
  · skip
    have hpi := hp.at_ i (by omega)
    have ho := hp.opt hc (show i < pick.length by omega)
    have hs := sums_range hc hp i (by omega)
    have hwi := hc.w i (by omega)
    have hm1 : 0 ≤ weightM c i * (optM c pick i).2 := Int.mul_nonneg hwi.1 ho.2.2.1
    have hm2 : weightM c i * (optM c pick i).2 ≤ 1024 * 64 := Int.mul_le_mul hwi.2 ho.2.2.2 ho.2.2.1 (by omega)
    unfold okO at ho
    simp only [optM, itemM, weightM, pickM] at hpi ho hs hwi hm1 hm2
    apply aw_skip
    apply q_seq
    apply aw_seq
    apply aw_block
    apply aw_regs [2, 6, 7, 8, 9, 10, 11, 12] [2]
    · simp (disch := omega) only [avR2, avA, datsOf, fillA, seval, ↓List.forall_mem_cons, Op.operands, hA, tiA]
      first | exact ⟨rfl, rfl⟩ | ((repeat' first | refine And.intro ?_ ?_ | intro _) <;> first | with_reducible rfl | assumption | omega | rfl | (rename_i hq; rw [hq]; rfl) | (simp_all; done))
    apply aw_rgds [2, 6, 7, 8, 9, 10, 11, 12] [2] [0, 1, 2, 3, 4, 5, 6, 7, 8, 9, 10, 11, 12, 13, 14, 15, 16, 17] []
    · rw [hP]; kernel_rfl
    · exact hR
    · kernel_rfl
    · (repeat (apply PickL.cons; exact rfl)); exact PickL.nil _
    · simp (maxSteps := 2000000) (disch := omega) only [avR2, avA, datsOf, fillA, seval, ↓List.forall_mem_cons, Op.operands, hA, tiA]
      first | exact ⟨rfl, rfl⟩ | ((repeat' first | refine And.intro ?_ ?_ | intro _) <;> first | with_reducible rfl | assumption | omega | rfl | (rename_i hq; rw [hq]; rfl) | (simp_all; done))
    apply aw_reg [2, 6, 7, 10, 11, 12] [2]
    · simp (disch := omega) only [avR2, avA, datsOf, fillA, seval, ↓List.forall_mem_cons, Op.operands, hA, tiA]
      first | exact ⟨rfl, rfl⟩ | ((repeat' first | refine And.intro ?_ ?_ | intro _) <;> first | with_reducible rfl | assumption | omega | rfl | (rename_i hq; rw [hq]; rfl) | (simp_all; done))
    apply q_block
    apply q_seq
    apply aw_reg [2, 6, 7, 10, 11, 12] [2]
    · simp (disch := omega) only [avR2, avA, datsOf, fillA, seval, ↓List.forall_mem_cons, Op.operands, hA, tiA]
      first | exact ⟨rfl, rfl⟩ | ((repeat' first | refine And.intro ?_ ?_ | intro _) <;> first | with_reducible rfl | assumption | omega | rfl | (rename_i hq; rw [hq]; rfl) | (simp_all; done))
    refine q_loop (⟨i + 1, by omega⟩) (Le.of ?_ ?_) (by dsimp only; omega)
    · try simp (disch := omega) only [LeE, LeO, avA, datsOf, fillA, seval, ↓List.forall_mem_cons, Op.operands, linesM, turnsM, optM, itemM, weightM, pickM, Int.mul_comm]
      all_goals first | done | (repeat' apply And.intro) <;> first | rfl | omega | assumption | (simp only [AV.dat.injEq, Dat.int.injEq, true_and]; omega) | (congr <;> omega)
    · try simp (disch := omega) only [LeE, LeO, avA, datsOf, fillA, seval, ↓List.forall_mem_cons, Op.operands, linesM, turnsM, optM, itemM, weightM, pickM, Int.mul_comm]
      all_goals first | done | (repeat' apply And.intro) <;> first | rfl | omega | assumption | (simp only [AV.dat.injEq, Dat.int.injEq, true_and]; omega) | (congr <;> omega)
  · skip
    have hie : i = pick.length := by omega
    subst hie
    
    apply aw_exit
    apply q_exit_seq
    apply q_exit_loop
    apply q_exit
    apply q_seq
    apply aw_regs [4, 5] []
    · simp (disch := omega) only [avR2, avA, datsOf, fillA, seval, ↓List.forall_mem_cons, Op.operands, hA, tiA]
      first | exact ⟨rfl, rfl⟩ | ((repeat' first | refine And.intro ?_ ?_ | intro _) <;> first | with_reducible rfl | assumption | omega | rfl | (rename_i hq; rw [hq]; rfl) | (simp_all; done))
    apply aw_ret
    simp only [QRet, QRetM, QRetX, retsX_nil, retsX_cons, objsAre, Tryd.results43, resA, mapO_nil, mapO_cons, vD_dat, vD_nils, vD_rp, vD_osl, vD_ptr, vD_agg, vD_fn, vL_dat, vL_app, viewL, avA, datsOf, fillA, seval, ↓List.forall_mem_cons, Op.operands, hP, hG, tiA]

end Go.Proofs.YthcfjdkflmkhbaaDoor

namespace Go.Proofs.YthcfjdkflmkhbaaDoor
open Go.Av

theorem SzC.nl' {c : CaseM} (hs : SzC c) : ∀ l ∈ c.items, l.length ≤ 100 := fun l hl => by
  obtain ⟨k, hk, rfl⟩ := List.mem_iff_getElem.1 hl
  have := hs.nl k hk
  rwa [itemM, List.getD_eq_getElem?_getD, List.getElem?_eq_getElem hk] at this

theorem bad_first (c : CaseM) (i : Nat) : 0 ≤ firstI (fun k => decide (¬ okO ((c.items.getD i default).getD k default))) (c.items.getD i default).length ↔ ∃ k, k < (itemM c i).length ∧ ¬ okO ((itemM c i).getD k default) := by
  rw [firstI_iff]; simp [itemM]
theorem long_first (c : CaseM) : 0 ≤ firstI (fun k => decide (8 < ((c.items.getD k default).length : Int))) c.items.length ↔ ∃ i, i < c.items.length ∧ 8 < (itemM c i).length := by
  rw [firstI_iff]
  constructor
  · rintro ⟨i, h1, h2⟩; exact ⟨i, h1, by simp only [decide_eq_true_eq] at h2; simp only [itemM]; omega⟩
  · rintro ⟨i, h1, h2⟩; exact ⟨i, h1, by simp only [decide_eq_true_eq]; simp only [itemM] at h2; omega⟩


theorem valid_ok (G) (c : CaseM) (hs : SzC c) : Gives Tryd.prog G 13 [caseD c] [iD (validM c)] := by
  have hni := hs.ni
  have hnw := hs.nw
  have hir := hs.ir
  unfold I64 at hir
  refine gives_intro [] [] [] Tryd.func13 rfl (by rfl) (by simp [Tryd.ntmps13]) fun F hP hG hN hR => ?_
  rw [Tryd.ntmps13] at hN
  have hA := And.intro hN (And.intro hP (And.intro hG (And.intro hR.1 (And.intro hR.2.1 hR.2.2.1))))
  apply aw_regs [1] [1]
  · simp (disch := omega) only [avR2, avA, datsOf, fillA, seval, ↓List.forall_mem_cons, Op.operands, hA, tiA]
    first | exact ⟨rfl, rfl⟩ | ((repeat' first | refine And.intro ?_ ?_ | intro _) <;> first | with_reducible rfl | assumption | omega | rfl | (rename_i hq; rw [hq]; rfl) | (simp_all; done))
  apply aw_seq
  apply aw_regs [1, 14] [1]
  · simp (disch := omega) only [avR2, avA, datsOf, fillA, seval, ↓List.forall_mem_cons, Op.operands, hA, tiA]
    (repeat' refine And.intro ?_ ?_) <;> try first | omega | assumption | with_reducible rfl | exact rfl | (intro hside; (repeat' refine And.intro ?_ ?_) <;> first | exact hside | omega | (rw [hside]; rfl) | (simp_all; done))
    refine CallGC.use rfl (fun hg => ⟨by simp_all [gdAll], gvF hP hG (containsL_ok G c.items 40 (fun l => decide (8 < (l.length : Int))) hni (fun o ho => valid1_ok G o (hs.nl' o ho)))⟩) ?_
    try simp (maxSteps := 2000000) (disch := omega) only [avR2, avA, datsOf, fillA, seval, ↓List.forall_mem_cons, Op.operands, hA, tiA]
    first | exact ⟨rfl, rfl⟩ | ((repeat' first | refine And.intro ?_ ?_ | intro _) <;> first | with_reducible rfl | assumption | omega | rfl | (rename_i hq; rw [hq]; rfl) | (simp_all; done))
  refine aw_if _ rfl (fun hb => ?_) (fun hb => ?_) <;> (try simp only [pickB_true, pickB_false, Bool.false_or, Bool.false_and, Bool.true_and, decide_eq_true_eq, decide_eq_false_iff_not, Bool.or_eq_true, Bool.and_eq_true, Bool.or_eq_false_iff, Bool.and_eq_false_imp, Bool.not_eq_true, Bool.not_eq_false, Bool.not_eq_eq_eq_not, Bool.not_true, Bool.not_false, Int.not_lt, Int.not_le, beq_iff_eq, beq_eq_false_iff_ne, bne_iff_ne, bne_eq_false_iff_eq, ne_eq, Bool.true_eq_false, Bool.false_eq_true, if_false_left, if_true_left, Bool.not_eq_eq_eq_not, Bool.decide_eq_true, Classical.not_not] at hb)
  · skip
    rw [long_first] at hb
    have hv : validM c = 4 := by
      unfold validM
      rw [if_pos]
      rcases hb with hb | hb
      · left; omega
      · right; exact hb
    apply aw_regs [2] []
    · simp (disch := omega) only [avR2, avA, datsOf, fillA, seval, ↓List.forall_mem_cons, Op.operands, hA, tiA]
      first | exact ⟨rfl, rfl⟩ | ((repeat' first | refine And.intro ?_ ?_ | intro _) <;> first | with_reducible rfl | assumption | omega | rfl | (rename_i hq; rw [hq]; rfl) | (simp_all; done))
    apply aw_ret
    apply q_ret_seq
    simp only [QRet, QRetM, QRetX, retsX_nil, retsX_cons, objsAre, Tryd.results13, resA, mapO_nil, mapO_cons, vD_dat, vD_nils, vD_rp, vD_osl, vD_ptr, vD_agg, vD_fn, vL_dat, vL_app, viewL, avA, datsOf, fillA, seval, ↓List.forall_mem_cons, Op.operands, hP, hG, tiA]
    rw [hv]
    
  · skip
    have h1 : ¬ (64 < c.items.length ∨ ∃ i, i < c.items.length ∧ 8 < (itemM c i).length) := by
      rw [← long_first]
      omega
    apply aw_skip
    apply q_seq
    apply aw_seq
    apply aw_regs [1, 31] [1]
    · simp (maxSteps := 2000000) (disch := omega) only [avR2, avA, datsOf, fillA, seval, ↓List.forall_mem_cons, Op.operands, hA, tiA]
      first | exact ⟨rfl, rfl⟩ | ((repeat' first | refine And.intro ?_ ?_ | intro _) <;> first | with_reducible rfl | assumption | omega | rfl | (rename_i hq; rw [hq]; rfl) | (simp_all; done))
    refine aw_if _ rfl (fun hb => ?_) (fun hb => ?_) <;> (try simp only [pickB_true, pickB_false, Bool.false_or, Bool.false_and, Bool.true_and, decide_eq_true_eq, decide_eq_false_iff_not, Bool.or_eq_true, Bool.and_eq_true, Bool.or_eq_false_iff, Bool.and_eq_false_imp, Bool.not_eq_true, Bool.not_eq_false, Bool.not_eq_eq_eq_not, Bool.not_true, Bool.not_false, Int.not_lt, Int.not_le, beq_iff_eq, beq_eq_false_iff_ne, bne_iff_ne, bne_eq_false_iff_eq, ne_eq, Bool.true_eq_false, Bool.false_eq_true, if_false_left, if_true_left, Bool.not_eq_eq_eq_not, Bool.decide_eq_true, Classical.not_not] at hb)
    · skip
      have hv : validM c = 1 := by
        unfold validM
        rw [if_neg h1, if_pos]
        omega
      apply aw_regs [2] []
      · simp (disch := omega) only [avR2, avA, datsOf, fillA, seval, ↓List.forall_mem_cons, Op.operands, hA, tiA]
        first | exact ⟨rfl, rfl⟩ | ((repeat' first | refine And.intro ?_ ?_ | intro _) <;> first | with_reducible rfl | assumption | omega | rfl | (rename_i hq; rw [hq]; rfl) | (simp_all; done))
      apply aw_ret
      apply q_ret_seq
      simp only [QRet, QRetM, QRetX, retsX_nil, retsX_cons, objsAre, Tryd.results13, resA, mapO_nil, mapO_cons, vD_dat, vD_nils, vD_rp, vD_osl, vD_ptr, vD_agg, vD_fn, vL_dat, vL_app, viewL, avA, datsOf, fillA, seval, ↓List.forall_mem_cons, Op.operands, hP, hG, tiA]
      rw [hv]
      
    · skip
      have h2 : ¬ (c.weights.length ≠ c.items.length ∨ c.room < 0 ∨ 4096 < c.room) := by
        omega
      have hwl : c.weights.length = c.items.length := by omega
      apply aw_skip
      apply q_seq
      apply aw_regs [1, 3] [1]
      · simp (disch := omega) only [avR2, avA, datsOf, fillA, seval, ↓List.forall_mem_cons, Op.operands, hA, tiA]
        first | exact ⟨rfl, rfl⟩ | ((repeat' first | refine And.intro ?_ ?_ | intro _) <;> first | with_reducible rfl | assumption | omega | rfl | (rename_i hq; rw [hq]; rfl) | (simp_all; done))
      apply aw_seq
      apply aw_regs [1, 3, 33, 34, 35] [1]
      · simp (disch := omega) only [avR2, avA, datsOf, fillA, seval, ↓List.forall_mem_cons, Op.operands, hA, tiA]
        first | exact ⟨rfl, rfl⟩ | ((repeat' first | refine And.intro ?_ ?_ | intro _) <;> first | with_reducible rfl | assumption | omega | rfl | (rename_i hq; rw [hq]; rfl) | (simp_all; done))
      apply aw_block
      refine aw_loop (ι := {i : Nat // i ≤ c.items.length ∧ ∀ k < i, ¬ BadI c k}) (fun ⟨i, hif⟩ => .of [(1, .ptr 1 3 0 0), (3, .fn 41 []), (33, .dat (.sl (c.items.map osD))), (34, .dat (iD c.items.length)), (35, .dat (iD i))] [(1, ⟨3, [.dat (caseD c)]⟩)]) (fun ⟨i, hif⟩ => c.items.length - i) (⟨0, by simp⟩) (Le.of ?_ ?_) fun ix => ?_
      · try simp (disch := omega) only [LeE, LeO, avA, datsOf, fillA, seval, ↓List.forall_mem_cons, Op.operands]
        all_goals first | done | (repeat' apply And.intro) <;> first | rfl | omega | assumption | (simp only [AV.dat.injEq, Dat.int.injEq, true_and]; omega) | (congr <;> omega)
      · try simp (disch := omega) only [LeE, LeO, avA, datsOf, fillA, seval, ↓List.forall_mem_cons, Op.operands]
        all_goals first | done | (repeat' apply And.intro) <;> first | rfl | omega | assumption | (simp only [AV.dat.injEq, Dat.int.injEq, true_and]; omega) | (congr <;> omega)
      obtain ⟨i, hif⟩ := ix
      dsimp only
      obtain ⟨hi, hf⟩ := hif
      apply aw_regs [1, 3, 33, 34, 35, 36] [1]
      · simp (disch := omega) only [avR2, avA, datsOf, fillA, seval, ↓List.forall_mem_cons, Op.operands, hA, tiA]
        first | exact ⟨rfl, rfl⟩ | ((repeat' first | refine And.intro ?_ ?_ | intro _) <;> first | with_reducible rfl | assumption | omega | rfl | (rename_i hq; rw [hq]; rfl) | (simp_all; done))
      apply aw_seq
      refine aw_if _ rfl (fun hb => ?_) (fun hb => ?_) <;> (try simp only [pickB_true, pickB_false, Bool.false_or, Bool.false_and, Bool.true_and, decide_eq_true_eq, decide_eq_false_iff_not, Bool.or_eq_true, Bool.and_eq_true, Bool.or_eq_false_iff, Bool.and_eq_false_imp, Bool.not_eq_true, Bool.not_eq_false, Bool.not_eq_eq_eq_not, Bool.not_true, Bool.not_false, Int.not_lt, Int.not_le, beq_iff_eq, beq_eq_false_iff_ne, bne_iff_ne, bne_eq_false_iff_eq, ne_eq, Bool.true_eq_false, Bool.false_eq_true, if_false_left, if_true_left, Bool.not_eq_eq_eq_not, Bool.decide_eq_true, Classical.not_not] at hb)
      · skip
        have hli := hs.nl i (by omega)
        have hwi := hs.iw i (by omega)
        unfold I64 at hwi
        simp only [itemM, weightM] at hli hwi
        apply aw_skip
        apply q_seq
        apply aw_seq
        apply aw_block
        apply aw_regs [1, 3, 4, 5, 33, 34, 35] [1]
        · simp (disch := omega) only [avR2, avA, datsOf, fillA, seval, ↓List.forall_mem_cons, Op.operands, hA, tiA]
          first | exact ⟨rfl, rfl⟩ | ((repeat' first | refine And.intro ?_ ?_ | intro _) <;> first | with_reducible rfl | assumption | omega | rfl | (rename_i hq; rw [hq]; rfl) | (simp_all; done))
        apply aw_regs [1, 3, 33, 34, 35, 63] [1]
        · simp (maxSteps := 2000000) (disch := omega) only [avR2, avA, datsOf, fillA, seval, ↓List.forall_mem_cons, Op.operands, hA, tiA]
          (repeat' refine And.intro ?_ ?_) <;> try first | omega | assumption | with_reducible rfl | exact rfl | (intro hside; (repeat' refine And.intro ?_ ?_) <;> first | exact hside | omega | (rw [hside]; rfl) | (simp_all; done))
          refine CallGC.use rfl (fun hg => ⟨by simp_all [gdAll], gvF hP hG (contains_ok G (c.items.getD i default) 41 (fun o => decide (¬ okO o)) hli (fun o ho => valid2_ok G o))⟩) ?_
          try simp (maxSteps := 2000000) (disch := omega) only [avR2, avA, datsOf, fillA, seval, ↓List.forall_mem_cons, Op.operands, hA, tiA]
          first | exact ⟨rfl, rfl⟩ | ((repeat' first | refine And.intro ?_ ?_ | intro _) <;> first | with_reducible rfl | assumption | omega | rfl | (rename_i hq; rw [hq]; rfl) | (simp_all; done))
        refine aw_if _ rfl (fun hb => ?_) (fun hb => ?_) <;> (try simp only [pickB_true, pickB_false, Bool.false_or, Bool.false_and, Bool.true_and, decide_eq_true_eq, decide_eq_false_iff_not, Bool.or_eq_true, Bool.and_eq_true, Bool.or_eq_false_iff, Bool.and_eq_false_imp, Bool.not_eq_true, Bool.not_eq_false, Bool.not_eq_eq_eq_not, Bool.not_true, Bool.not_false, Int.not_lt, Int.not_le, beq_iff_eq, beq_eq_false_iff_ne, bne_iff_ne, bne_eq_false_iff_eq, ne_eq, Bool.true_eq_false, Bool.false_eq_true, if_false_left, if_true_left, Bool.not_eq_eq_eq_not, Bool.decide_eq_true, Classical.not_not] at hb)
        · skip
          rw [bad_first] at hb
          have hbd : BadI c i := by
            unfold BadI
            simp only [weightM] at hb ⊢
            rcases hb with ((hb | hb) | hb) | hb
            · left; simp only [itemM]; omega
            · right; left; exact hb
            · right; right; left; omega
            · right; right; right; exact hb
          have hv : validM c = 1 := by
            unfold validM
            rw [if_neg h1, if_neg h2, if_pos ⟨i, by omega, hbd⟩]
          apply aw_regs [2] []
          · simp (disch := omega) only [avR2, avA, datsOf, fillA, seval, ↓List.forall_mem_cons, Op.operands, hA, tiA]
            first | exact ⟨rfl, rfl⟩ | ((repeat' first | refine And.intro ?_ ?_ | intro _) <;> first | with_reducible rfl | assumption | omega | rfl | (rename_i hq; rw [hq]; rfl) | (simp_all; done))
          apply aw_ret
          apply q_ret_block
          apply q_ret_seq
          apply q_ret_loop
          apply q_ret_block
          apply q_ret_seq
          simp only [QRet, QRetM, QRetX, retsX_nil, retsX_cons, objsAre, Tryd.results13, resA, mapO_nil, mapO_cons, vD_dat, vD_nils, vD_rp, vD_osl, vD_ptr, vD_agg, vD_fn, vL_dat, vL_app, viewL, avA, datsOf, fillA, seval, ↓List.forall_mem_cons, Op.operands, hP, hG, tiA]
          rw [hv]
          
        · skip
          have hnb : ¬ BadI c i := by
            unfold BadI
            rw [← bad_first]
            simp only [itemM, weightM] at hb ⊢
            omega
          apply aw_skip
          apply q_block
          apply q_seq
          apply aw_reg [1, 3, 33, 34, 35] [1]
          · simp (disch := omega) only [avR2, avA, datsOf, fillA, seval, ↓List.forall_mem_cons, Op.operands, hA, tiA]
            first | exact ⟨rfl, rfl⟩ | ((repeat' first | refine And.intro ?_ ?_ | intro _) <;> first | with_reducible rfl | assumption | omega | rfl | (rename_i hq; rw [hq]; rfl) | (simp_all; done))
          refine q_loop (⟨i + 1, by omega, fun k hk => if h : k < i then hf k h else by (have : k = i := by omega); subst this; exact hnb⟩) (Le.of ?_ ?_) (by dsimp only; omega)
          · try simp (disch := omega) only [LeE, LeO, avA, datsOf, fillA, seval, ↓List.forall_mem_cons, Op.operands]
            all_goals first | done | (repeat' apply And.intro) <;> first | rfl | omega | assumption | (simp only [AV.dat.injEq, Dat.int.injEq, true_and]; omega) | (congr <;> omega)
          · try simp (disch := omega) only [LeE, LeO, avA, datsOf, fillA, seval, ↓List.forall_mem_cons, Op.operands]
            all_goals first | done | (repeat' apply And.intro) <;> first | rfl | omega | assumption | (simp only [AV.dat.injEq, Dat.int.injEq, true_and]; omega) | (congr <;> omega)
      · skip
        have hv : validM c = 0 := by
          unfold validM
          rw [if_neg h1, if_neg h2, if_neg]
          rintro ⟨k, hk, hbk⟩
          exact hf k (by omega) hbk
        apply aw_exit
        apply q_exit_seq
        apply q_exit_loop
        apply q_exit
        apply q_seq
        apply aw_regs [2] []
        · simp (disch := omega) only [avR2, avA, datsOf, fillA, seval, ↓List.forall_mem_cons, Op.operands, hA, tiA]
          first | exact ⟨rfl, rfl⟩ | ((repeat' first | refine And.intro ?_ ?_ | intro _) <;> first | with_reducible rfl | assumption | omega | rfl | (rename_i hq; rw [hq]; rfl) | (simp_all; done))
        apply aw_ret
        simp only [QRet, QRetM, QRetX, retsX_nil, retsX_cons, objsAre, Tryd.results13, resA, mapO_nil, mapO_cons, vD_dat, vD_nils, vD_rp, vD_osl, vD_ptr, vD_agg, vD_fn, vL_dat, vL_app, viewL, avA, datsOf, fillA, seval, ↓List.forall_mem_cons, Op.operands, hP, hG, tiA]
        rw [hv]
        

theorem rvalid_ok (G) (c : CaseM) (hs : SzC c) : Gives Tryd.prog G 15 [caseD c] [iD (validM c)] := by
  have hni := hs.ni
  have hnw := hs.nw
  have hir := hs.ir
  unfold I64 at hir
  refine gives_intro [] [] [] Tryd.func15 rfl (by rfl) (by simp [Tryd.ntmps15]) fun F hP hG hN hR => ?_
  rw [Tryd.ntmps15] at hN
  have hA := And.intro hN (And.intro hP (And.intro hG (And.intro hR.1 (And.intro hR.2.1 hR.2.2.1))))
  apply aw_regs [1] [1]
  · simp (disch := omega) only [avR2, avA, datsOf, fillA, seval, ↓List.forall_mem_cons, Op.operands, hA, tiA]
    first | exact ⟨rfl, rfl⟩ | ((repeat' first | refine And.intro ?_ ?_ | intro _) <;> first | with_reducible rfl | assumption | omega | rfl | (rename_i hq; rw [hq]; rfl) | (simp_all; done))
  apply aw_seq
  apply aw_regs [1, 10] [1]
  · simp (disch := omega) only [avR2, avA, datsOf, fillA, seval, ↓List.forall_mem_cons, Op.operands, hA, tiA]
    first | exact ⟨rfl, rfl⟩ | ((repeat' first | refine And.intro ?_ ?_ | intro _) <;> first | with_reducible rfl | assumption | omega | rfl | (rename_i hq; rw [hq]; rfl) | (simp_all; done))
  refine aw_if _ rfl (fun hb => ?_) (fun hb => ?_) <;> (try simp only [pickB_true, pickB_false, Bool.false_or, Bool.false_and, Bool.true_and, decide_eq_true_eq, decide_eq_false_iff_not, Bool.or_eq_true, Bool.and_eq_true, Bool.or_eq_false_iff, Bool.and_eq_false_imp, Bool.not_eq_true, Bool.not_eq_false, Bool.not_eq_eq_eq_not, Bool.not_true, Bool.not_false, Int.not_lt, Int.not_le, beq_iff_eq, beq_eq_false_iff_ne, bne_iff_ne, bne_eq_false_iff_eq, ne_eq, Bool.true_eq_false, Bool.false_eq_true, if_false_left, if_true_left, Bool.not_eq_eq_eq_not, Bool.decide_eq_true, Classical.not_not] at hb)
  · skip
    have hv : validM c = 4 := by
      unfold validM
      rw [if_pos]
      left; omega
    apply aw_regs [2] []
    · simp (disch := omega) only [avR2, avA, datsOf, fillA, seval, ↓List.forall_mem_cons, Op.operands, hA, tiA]
      first | exact ⟨rfl, rfl⟩ | ((repeat' first | refine And.intro ?_ ?_ | intro _) <;> first | with_reducible rfl | assumption | omega | rfl | (rename_i hq; rw [hq]; rfl) | (simp_all; done))
    apply aw_ret
    apply q_ret_seq
    simp only [QRet, QRetM, QRetX, retsX_nil, retsX_cons, objsAre, Tryd.results15, resA, mapO_nil, mapO_cons, vD_dat, vD_nils, vD_rp, vD_osl, vD_ptr, vD_agg, vD_fn, vL_dat, vL_app, viewL, avA, datsOf, fillA, seval, ↓List.forall_mem_cons, Op.operands, hP, hG, tiA]
    rw [hv]
    
  · skip
    apply aw_skip
    apply q_seq
    apply aw_seq
    apply aw_regs [1, 3] [1]
    · simp (disch := omega) only [avR2, avA, datsOf, fillA, seval, ↓List.forall_mem_cons, Op.operands, hA, tiA]
      first | exact ⟨rfl, rfl⟩ | ((repeat' first | refine And.intro ?_ ?_ | intro _) <;> first | with_reducible rfl | assumption | omega | rfl | (rename_i hq; rw [hq]; rfl) | (simp_all; done))
    apply aw_block
    refine aw_loop (ι := {i : Nat // i ≤ c.items.length ∧ ∀ k < i, ¬ 8 < (c.items.getD k default).length}) (fun ⟨i, hif⟩ => .of [(1, .ptr 1 3 0 0), (3, .dat (iD i))] [(1, ⟨3, [.dat (caseD c)]⟩)]) (fun ⟨i, hif⟩ => c.items.length - i) (⟨0, by simp⟩) (Le.of ?_ ?_) fun ix => ?_
    · try simp (disch := omega) only [LeE, LeO, avA, datsOf, fillA, seval, ↓List.forall_mem_cons, Op.operands]
      all_goals first | done | (repeat' apply And.intro) <;> first | rfl | omega | assumption | (simp only [AV.dat.injEq, Dat.int.injEq, true_and]; omega) | (congr <;> omega)
    · try simp (disch := omega) only [LeE, LeO, avA, datsOf, fillA, seval, ↓List.forall_mem_cons, Op.operands]
      all_goals first | done | (repeat' apply And.intro) <;> first | rfl | omega | assumption | (simp only [AV.dat.injEq, Dat.int.injEq, true_and]; omega) | (congr <;> omega)
    obtain ⟨i, hif⟩ := ix
    dsimp only
    obtain ⟨hi, hf⟩ := hif
    apply aw_seq
    apply aw_regs [1, 3, 15] [1]
    · simp (disch := omega) only [avR2, avA, datsOf, fillA, seval, ↓List.forall_mem_cons, Op.operands, hA, tiA]
      first | exact ⟨rfl, rfl⟩ | ((repeat' first | refine And.intro ?_ ?_ | intro _) <;> first | with_reducible rfl | assumption | omega | rfl | (rename_i hq; rw [hq]; rfl) | (simp_all; done))
    refine aw_if _ rfl (fun hb => ?_) (fun hb => ?_) <;> (try simp only [pickB_true, pickB_false, Bool.false_or, Bool.false_and, Bool.true_and, decide_eq_true_eq, decide_eq_false_iff_not, Bool.or_eq_true, Bool.and_eq_true, Bool.or_eq_false_iff, Bool.and_eq_false_imp, Bool.not_eq_true, Bool.not_eq_false, Bool.not_eq_eq_eq_not, Bool.not_true, Bool.not_false, Int.not_lt, Int.not_le, beq_iff_eq, beq_eq_false_iff_ne, bne_iff_ne, bne_eq_false_iff_eq, ne_eq, Bool.true_eq_false, Bool.false_eq_true, if_false_left, if_true_left, Bool.not_eq_eq_eq_not, Bool.decide_eq_true, Classical.not_not] at hb)
    · skip
      have hli := hs.nl i (by omega)
      simp only [itemM] at hli
      apply aw_skip
      apply q_seq
      apply aw_seq
      apply aw_block
      apply aw_regs [1, 3, 24] [1]
      · simp (disch := omega) only [avR2, avA, datsOf, fillA, seval, ↓List.forall_mem_cons, Op.operands, hA, tiA]
        first | exact ⟨rfl, rfl⟩ | ((repeat' first | refine And.intro ?_ ?_ | intro _) <;> first | with_reducible rfl | assumption | omega | rfl | (rename_i hq; rw [hq]; rfl) | (simp_all; done))
      refine aw_if _ rfl (fun hb => ?_) (fun hb => ?_) <;> (try simp only [pickB_true, pickB_false, Bool.false_or, Bool.false_and, Bool.true_and, decide_eq_true_eq, decide_eq_false_iff_not, Bool.or_eq_true, Bool.and_eq_true, Bool.or_eq_false_iff, Bool.and_eq_false_imp, Bool.not_eq_true, Bool.not_eq_false, Bool.not_eq_eq_eq_not, Bool.not_true, Bool.not_false, Int.not_lt, Int.not_le, beq_iff_eq, beq_eq_false_iff_ne, bne_iff_ne, bne_eq_false_iff_eq, ne_eq, Bool.true_eq_false, Bool.false_eq_true, if_false_left, if_true_left, Bool.not_eq_eq_eq_not, Bool.decide_eq_true, Classical.not_not] at hb)
      · skip
        have hv : validM c = 4 := by
          unfold validM
          rw [if_pos]
          right; exact ⟨i, by omega, by simp only [itemM]; omega⟩
        apply aw_regs [2] []
        · simp (disch := omega) only [avR2, avA, datsOf, fillA, seval, ↓List.forall_mem_cons, Op.operands, hA, tiA]
          first | exact ⟨rfl, rfl⟩ | ((repeat' first | refine And.intro ?_ ?_ | intro _) <;> first | with_reducible rfl | assumption | omega | rfl | (rename_i hq; rw [hq]; rfl) | (simp_all; done))
        apply aw_ret
        apply q_ret_block
        apply q_ret_seq
        apply q_ret_loop
        apply q_ret_block
        apply q_ret_seq
        simp only [QRet, QRetM, QRetX, retsX_nil, retsX_cons, objsAre, Tryd.results15, resA, mapO_nil, mapO_cons, vD_dat, vD_nils, vD_rp, vD_osl, vD_ptr, vD_agg, vD_fn, vL_dat, vL_app, viewL, avA, datsOf, fillA, seval, ↓List.forall_mem_cons, Op.operands, hP, hG, tiA]
        rw [hv]
        
      · skip
        apply aw_skip
        apply q_block
        apply q_seq
        apply aw_reg [1, 3] [1]
        · simp (disch := omega) only [avR2, avA, datsOf, fillA, seval, ↓List.forall_mem_cons, Op.operands, hA, tiA]
          first | exact ⟨rfl, rfl⟩ | ((repeat' first | refine And.intro ?_ ?_ | intro _) <;> first | with_reducible rfl | assumption | omega | rfl | (rename_i hq; rw [hq]; rfl) | (simp_all; done))
        refine q_loop (⟨i + 1, by omega, fun k hk => if h : k < i then hf k h else by (have : k = i := by omega); subst this; omega⟩) (Le.of ?_ ?_) (by dsimp only; omega)
        · try simp (disch := omega) only [LeE, LeO, avA, datsOf, fillA, seval, ↓List.forall_mem_cons, Op.operands]
          all_goals first | done | (repeat' apply And.intro) <;> first | rfl | omega | assumption | (simp only [AV.dat.injEq, Dat.int.injEq, true_and]; omega) | (congr <;> omega)
        · try simp (disch := omega) only [LeE, LeO, avA, datsOf, fillA, seval, ↓List.forall_mem_cons, Op.operands]
          all_goals first | done | (repeat' apply And.intro) <;> first | rfl | omega | assumption | (simp only [AV.dat.injEq, Dat.int.injEq, true_and]; omega) | (congr <;> omega)
    · skip
      have h1 : ¬ (64 < c.items.length ∨ ∃ i, i < c.items.length ∧ 8 < (itemM c i).length) := by
        rintro (h | ⟨k, hk, h⟩)
        · omega
        · exact hf k (by omega) h
      apply aw_exit
      apply q_exit_seq
      apply q_exit_loop
      apply q_exit
      apply q_seq
      apply aw_seq
      apply aw_regs [1, 41] [1]
      · simp (maxSteps := 2000000) (disch := omega) only [avR2, avA, datsOf, fillA, seval, ↓List.forall_mem_cons, Op.operands, hA, tiA]
        first | exact ⟨rfl, rfl⟩ | ((repeat' first | refine And.intro ?_ ?_ | intro _) <;> first | with_reducible rfl | assumption | omega | rfl | (rename_i hq; rw [hq]; rfl) | (simp_all; done))
      refine aw_if _ rfl (fun hb => ?_) (fun hb => ?_) <;> (try simp only [pickB_true, pickB_false, Bool.false_or, Bool.false_and, Bool.true_and, decide_eq_true_eq, decide_eq_false_iff_not, Bool.or_eq_true, Bool.and_eq_true, Bool.or_eq_false_iff, Bool.and_eq_false_imp, Bool.not_eq_true, Bool.not_eq_false, Bool.not_eq_eq_eq_not, Bool.not_true, Bool.not_false, Int.not_lt, Int.not_le, beq_iff_eq, beq_eq_false_iff_ne, bne_iff_ne, bne_eq_false_iff_eq, ne_eq, Bool.true_eq_false, Bool.false_eq_true, if_false_left, if_true_left, Bool.not_eq_eq_eq_not, Bool.decide_eq_true, Classical.not_not] at hb)
      · skip
        have hv : validM c = 1 := by
          unfold validM
          rw [if_neg h1, if_pos]
          omega
        apply aw_regs [2] []
        · simp (disch := omega) only [avR2, avA, datsOf, fillA, seval, ↓List.forall_mem_cons, Op.operands, hA, tiA]
          first | exact ⟨rfl, rfl⟩ | ((repeat' first | refine And.intro ?_ ?_ | intro _) <;> first | with_reducible rfl | assumption | omega | rfl | (rename_i hq; rw [hq]; rfl) | (simp_all; done))
        apply aw_ret
        apply q_ret_seq
        simp only [QRet, QRetM, QRetX, retsX_nil, retsX_cons, objsAre, Tryd.results15, resA, mapO_nil, mapO_cons, vD_dat, vD_nils, vD_rp, vD_osl, vD_ptr, vD_agg, vD_fn, vL_dat, vL_app, viewL, avA, datsOf, fillA, seval, ↓List.forall_mem_cons, Op.operands, hP, hG, tiA]
        rw [hv]
        
      · skip
        have h2 : ¬ (c.weights.length ≠ c.items.length ∨ c.room < 0 ∨ 4096 < c.room) := by
          omega
        have hwl : c.weights.length = c.items.length := by omega
        apply aw_skip
        apply q_seq
        apply aw_seq
        apply aw_regs [1, 4] [1]
        · simp (disch := omega) only [avR2, avA, datsOf, fillA, seval, ↓List.forall_mem_cons, Op.operands, hA, tiA]
          first | exact ⟨rfl, rfl⟩ | ((repeat' first | refine And.intro ?_ ?_ | intro _) <;> first | with_reducible rfl | assumption | omega | rfl | (rename_i hq; rw [hq]; rfl) | (simp_all; done))
        apply aw_block
        refine aw_loop (ι := {i : Nat // i ≤ c.items.length ∧ ∀ k < i, ¬ BadI c k}) (fun ⟨i, hif⟩ => .of [(1, .ptr 1 3 0 0), (4, .dat (iD i))] [(1, ⟨3, [.dat (caseD c)]⟩)]) (fun ⟨i, hif⟩ => c.items.length - i) (⟨0, by simp⟩) (Le.of ?_ ?_) fun ix => ?_
        · try simp (disch := omega) only [LeE, LeO, avA, datsOf, fillA, seval, ↓List.forall_mem_cons, Op.operands]
          all_goals first | done | (repeat' apply And.intro) <;> first | rfl | omega | assumption | (simp only [AV.dat.injEq, Dat.int.injEq, true_and]; omega) | (congr <;> omega)
        · try simp (disch := omega) only [LeE, LeO, avA, datsOf, fillA, seval, ↓List.forall_mem_cons, Op.operands]
          all_goals first | done | (repeat' apply And.intro) <;> first | rfl | omega | assumption | (simp only [AV.dat.injEq, Dat.int.injEq, true_and]; omega) | (congr <;> omega)
        obtain ⟨i, hif⟩ := ix
        dsimp only
        obtain ⟨hi, hf⟩ := hif
        apply aw_seq
        apply aw_regs [1, 4, 46] [1]
        · simp (disch := omega) only [avR2, avA, datsOf, fillA, seval, ↓List.forall_mem_cons, Op.operands, hA, tiA]
          first | exact ⟨rfl, rfl⟩ | ((repeat' first | refine And.intro ?_ ?_ | intro _) <;> first | with_reducible rfl | assumption | omega | rfl | (rename_i hq; rw [hq]; rfl) | (simp_all; done))
        refine aw_if _ rfl (fun hb => ?_) (fun hb => ?_) <;> (try simp only [pickB_true, pickB_false, Bool.false_or, Bool.false_and, Bool.true_and, decide_eq_true_eq, decide_eq_false_iff_not, Bool.or_eq_true, Bool.and_eq_true, Bool.or_eq_false_iff, Bool.and_eq_false_imp, Bool.not_eq_true, Bool.not_eq_false, Bool.not_eq_eq_eq_not, Bool.not_true, Bool.not_false, Int.not_lt, Int.not_le, beq_iff_eq, beq_eq_false_iff_ne, bne_iff_ne, bne_eq_false_iff_eq, ne_eq, Bool.true_eq_false, Bool.false_eq_true, if_false_left, if_true_left, Bool.not_eq_eq_eq_not, Bool.decide_eq_true, Classical.not_not] at hb)
        · skip
          have hli := hs.nl i (by omega)
          have hwi := hs.iw i (by omega)
          unfold I64 at hwi
          simp only [itemM, weightM] at hli hwi
          apply aw_skip
          apply q_seq
          apply aw_seq
          apply aw_block
          apply aw_seq
          apply aw_regs [1, 4, 71] [1]
          · simp (maxSteps := 2000000) (disch := omega) only [avR2, avA, datsOf, fillA, seval, ↓List.forall_mem_cons, Op.operands, hA, tiA]
            first | exact ⟨rfl, rfl⟩ | ((repeat' first | refine And.intro ?_ ?_ | intro _) <;> first | with_reducible rfl | assumption | omega | rfl | (rename_i hq; rw [hq]; rfl) | (simp_all; done))
          refine aw_if _ rfl (fun hb => ?_) (fun hb => ?_) <;> (try simp only [pickB_true, pickB_false, Bool.false_or, Bool.false_and, Bool.true_and, decide_eq_true_eq, decide_eq_false_iff_not, Bool.or_eq_true, Bool.and_eq_true, Bool.or_eq_false_iff, Bool.and_eq_false_imp, Bool.not_eq_true, Bool.not_eq_false, Bool.not_eq_eq_eq_not, Bool.not_true, Bool.not_false, Int.not_lt, Int.not_le, beq_iff_eq, beq_eq_false_iff_ne, bne_iff_ne, bne_eq_false_iff_eq, ne_eq, Bool.true_eq_false, Bool.false_eq_true, if_false_left, if_true_left, Bool.not_eq_eq_eq_not, Bool.decide_eq_true, Classical.not_not] at hb)
          · skip
            have hbd : BadI c i := by
              unfold BadI
              simp only [weightM, itemM]
              omega
            have hv : validM c = 1 := by
              unfold validM
              rw [if_neg h1, if_neg h2, if_pos ⟨i, by omega, hbd⟩]
            apply aw_regs [2] []
            · simp (disch := omega) only [avR2, avA, datsOf, fillA, seval, ↓List.forall_mem_cons, Op.operands, hA, tiA]
              first | exact ⟨rfl, rfl⟩ | ((repeat' first | refine And.intro ?_ ?_ | intro _) <;> first | with_reducible rfl | assumption | omega | rfl | (rename_i hq; rw [hq]; rfl) | (simp_all; done))
            apply aw_ret
            apply q_ret_seq
            apply q_ret_block
            apply q_ret_seq
            apply q_ret_loop
            apply q_ret_block
            apply q_ret_seq
            simp only [QRet, QRetM, QRetX, retsX_nil, retsX_cons, objsAre, Tryd.results15, resA, mapO_nil, mapO_cons, vD_dat, vD_nils, vD_rp, vD_osl, vD_ptr, vD_agg, vD_fn, vL_dat, vL_app, viewL, avA, datsOf, fillA, seval, ↓List.forall_mem_cons, Op.operands, hP, hG, tiA]
            rw [hv]
            
          · skip
            have hn3 : ¬ ((itemM c i).length = 0 ∨ weightM c i < 0 ∨ 1024 < weightM c i) := by
              simp only [weightM, itemM]
              omega
            apply aw_skip
            apply q_seq
            apply aw_regs [1, 4, 5] [1]
            · simp (disch := omega) only [avR2, avA, datsOf, fillA, seval, ↓List.forall_mem_cons, Op.operands, hA, tiA]
              first | exact ⟨rfl, rfl⟩ | ((repeat' first | refine And.intro ?_ ?_ | intro _) <;> first | with_reducible rfl | assumption | omega | rfl | (rename_i hq; rw [hq]; rfl) | (simp_all; done))
            apply aw_block
            refine aw_loop (ι := {k : Nat // k ≤ (c.items.getD i default).length ∧ ∀ j < k, okO ((c.items.getD i default).getD j default)}) (fun ⟨k, hkf⟩ => .of [(1, .ptr 1 3 0 0), (4, .dat (iD i)), (5, .dat (iD k))] [(1, ⟨3, [.dat (caseD c)]⟩)]) (fun ⟨k, hkf⟩ => (c.items.getD i default).length - k) (⟨0, by simp⟩) (Le.of ?_ ?_) fun ix => ?_
            · try simp (disch := omega) only [LeE, LeO, avA, datsOf, fillA, seval, ↓List.forall_mem_cons, Op.operands]
              all_goals first | done | (repeat' apply And.intro) <;> first | rfl | omega | assumption | (simp only [AV.dat.injEq, Dat.int.injEq, true_and]; omega) | (congr <;> omega)
            · try simp (disch := omega) only [LeE, LeO, avA, datsOf, fillA, seval, ↓List.forall_mem_cons, Op.operands]
              all_goals first | done | (repeat' apply And.intro) <;> first | rfl | omega | assumption | (simp only [AV.dat.injEq, Dat.int.injEq, true_and]; omega) | (congr <;> omega)
            obtain ⟨k, hkf⟩ := ix
            dsimp only
            obtain ⟨hk, hkf⟩ := hkf
            apply aw_seq
            apply aw_regs [1, 4, 5, 79] [1]
            · simp (disch := omega) only [avR2, avA, datsOf, fillA, seval, ↓List.forall_mem_cons, Op.operands, hA, tiA]
              first | exact ⟨rfl, rfl⟩ | ((repeat' first | refine And.intro ?_ ?_ | intro _) <;> first | with_reducible rfl | assumption | omega | rfl | (rename_i hq; rw [hq]; rfl) | (simp_all; done))
            refine aw_if _ rfl (fun hb => ?_) (fun hb => ?_) <;> (try simp only [pickB_true, pickB_false, Bool.false_or, Bool.false_and, Bool.true_and, decide_eq_true_eq, decide_eq_false_iff_not, Bool.or_eq_true, Bool.and_eq_true, Bool.or_eq_false_iff, Bool.and_eq_false_imp, Bool.not_eq_true, Bool.not_eq_false, Bool.not_eq_eq_eq_not, Bool.not_true, Bool.not_false, Int.not_lt, Int.not_le, beq_iff_eq, beq_eq_false_iff_ne, bne_iff_ne, bne_eq_false_iff_eq, ne_eq, Bool.true_eq_false, Bool.false_eq_true, if_false_left, if_true_left, Bool.not_eq_eq_eq_not, Bool.decide_eq_true, Classical.not_not] at hb)
            · skip
              apply aw_skip
              apply q_seq
              apply aw_seq
              apply aw_block
              apply aw_regs [1, 4, 5, 6] [1, 6]
              · simp (disch := omega) only [avR2, avA, datsOf, fillA, seval, ↓List.forall_mem_cons, Op.operands, hA, tiA]
                first | exact ⟨rfl, rfl⟩ | ((repeat' first | refine And.intro ?_ ?_ | intro _) <;> first | with_reducible rfl | assumption | omega | rfl | (rename_i hq; rw [hq]; rfl) | (simp_all; done))
              apply aw_regs [1, 4, 5, 107] [1]
              · simp (maxSteps := 2000000) (disch := omega) only [avR2, avA, datsOf, fillA, seval, ↓List.forall_mem_cons, Op.operands, hA, tiA]
                first | exact ⟨rfl, rfl⟩ | ((repeat' first | refine And.intro ?_ ?_ | intro _) <;> first | with_reducible rfl | assumption | omega | rfl | (rename_i hq; rw [hq]; rfl) | (simp_all; done))
              refine aw_if _ rfl (fun hb => ?_) (fun hb => ?_) <;> (try simp only [pickB_true, pickB_false, Bool.false_or, Bool.false_and, Bool.true_and, decide_eq_true_eq, decide_eq_false_iff_not, Bool.or_eq_true, Bool.and_eq_true, Bool.or_eq_false_iff, Bool.and_eq_false_imp, Bool.not_eq_true, Bool.not_eq_false, Bool.not_eq_eq_eq_not, Bool.not_true, Bool.not_false, Int.not_lt, Int.not_le, beq_iff_eq, beq_eq_false_iff_ne, bne_iff_ne, bne_eq_false_iff_eq, ne_eq, Bool.true_eq_false, Bool.false_eq_true, if_false_left, if_true_left, Bool.not_eq_eq_eq_not, Bool.decide_eq_true, Classical.not_not] at hb)
              · skip
                have hbd : BadI c i := by
                  unfold BadI okO
                  right; right; right
                  refine ⟨k, by simp only [itemM]; omega, ?_⟩
                  simp only [itemM]
                  omega
                have hv : validM c = 1 := by
                  unfold validM
                  rw [if_neg h1, if_neg h2, if_pos ⟨i, by omega, hbd⟩]
                apply aw_regs [2] []
                · simp (disch := omega) only [avR2, avA, datsOf, fillA, seval, ↓List.forall_mem_cons, Op.operands, hA, tiA]
                  first | exact ⟨rfl, rfl⟩ | ((repeat' first | refine And.intro ?_ ?_ | intro _) <;> first | with_reducible rfl | assumption | omega | rfl | (rename_i hq; rw [hq]; rfl) | (simp_all; done))
                apply aw_ret
                apply q_ret_block
                apply q_ret_seq
                apply q_ret_loop
                apply q_ret_block
                apply q_ret_block
                apply q_ret_seq
                apply q_ret_loop
                apply q_ret_block
                apply q_ret_seq
                simp only [QRet, QRetM, QRetX, retsX_nil, retsX_cons, objsAre, Tryd.results15, resA, mapO_nil, mapO_cons, vD_dat, vD_nils, vD_rp, vD_osl, vD_ptr, vD_agg, vD_fn, vL_dat, vL_app, viewL, avA, datsOf, fillA, seval, ↓List.forall_mem_cons, Op.operands, hP, hG, tiA]
                rw [hv]
                
              · skip
                have hok : okO ((c.items.getD i default).getD k default) := by
                  unfold okO
                  omega
                apply aw_skip
                apply q_block
                apply q_seq
                apply aw_reg [1, 4, 5] [1]
                · simp (disch := omega) only [avR2, avA, datsOf, fillA, seval, ↓List.forall_mem_cons, Op.operands, hA, tiA]
                  first | exact ⟨rfl, rfl⟩ | ((repeat' first | refine And.intro ?_ ?_ | intro _) <;> first | with_reducible rfl | assumption | omega | rfl | (rename_i hq; rw [hq]; rfl) | (simp_all; done))
                refine q_loop (⟨k + 1, by omega, fun j hj => if h : j < k then hkf j h else by (have : j = k := by omega); subst this; exact hok⟩) (Le.of ?_ ?_) (by dsimp only; omega)
                · try simp (disch := omega) only [LeE, LeO, avA, datsOf, fillA, seval, ↓List.forall_mem_cons, Op.operands]
                  all_goals first | done | (repeat' apply And.intro) <;> first | rfl | omega | assumption | (simp only [AV.dat.injEq, Dat.int.injEq, true_and]; omega) | (congr <;> omega)
                · try simp (disch := omega) only [LeE, LeO, avA, datsOf, fillA, seval, ↓List.forall_mem_cons, Op.operands]
                  all_goals first | done | (repeat' apply And.intro) <;> first | rfl | omega | assumption | (simp only [AV.dat.injEq, Dat.int.injEq, true_and]; omega) | (congr <;> omega)
            · skip
              have hnb : ¬ BadI c i := by
                rintro (h | h | h | ⟨j, hj, h⟩)
                · exact hn3 (.inl h)
                · exact hn3 (.inr (.inl h))
                · exact hn3 (.inr (.inr h))
                · simp only [itemM] at hj h
                  exact h (hkf j (by omega))
              apply aw_exit
              apply q_exit_seq
              apply q_exit_loop
              apply q_exit
              apply q_block
              apply q_seq
              apply aw_reg [1, 4] [1]
              · simp (disch := omega) only [avR2, avA, datsOf, fillA, seval, ↓List.forall_mem_cons, Op.operands, hA, tiA]
                first | exact ⟨rfl, rfl⟩ | ((repeat' first | refine And.intro ?_ ?_ | intro _) <;> first | with_reducible rfl | assumption | omega | rfl | (rename_i hq; rw [hq]; rfl) | (simp_all; done))
              refine q_loop (⟨i + 1, by omega, fun k hk => if h : k < i then hf k h else by (have : k = i := by omega); subst this; exact hnb⟩) (Le.of ?_ ?_) (by dsimp only; omega)
              · try simp (disch := omega) only [LeE, LeO, avA, datsOf, fillA, seval, ↓List.forall_mem_cons, Op.operands]
                all_goals first | done | (repeat' apply And.intro) <;> first | rfl | omega | assumption | (simp only [AV.dat.injEq, Dat.int.injEq, true_and]; omega) | (congr <;> omega)
              · try simp (disch := omega) only [LeE, LeO, avA, datsOf, fillA, seval, ↓List.forall_mem_cons, Op.operands]
                all_goals first | done | (repeat' apply And.intro) <;> first | rfl | omega | assumption | (simp only [AV.dat.injEq, Dat.int.injEq, true_and]; omega) | (congr <;> omega)
        · skip
          have hv : validM c = 0 := by
            unfold validM
            rw [if_neg h1, if_neg h2, if_neg]
            rintro ⟨k, hk, hbk⟩
            exact hf k (by omega) hbk
          apply aw_exit
          apply q_exit_seq
          apply q_exit_loop
          apply q_exit
          apply q_seq
          apply aw_regs [2] []
          · simp (disch := omega) only [avR2, avA, datsOf, fillA, seval, ↓List.forall_mem_cons, Op.operands, hA, tiA]
            first | exact ⟨rfl, rfl⟩ | ((repeat' first | refine And.intro ?_ ?_ | intro _) <;> first | with_reducible rfl | assumption | omega | rfl | (rename_i hq; rw [hq]; rfl) | (simp_all; done))
          apply aw_ret
          simp only [QRet, QRetM, QRetX, retsX_nil, retsX_cons, objsAre, Tryd.results15, resA, mapO_nil, mapO_cons, vD_dat, vD_nils, vD_rp, vD_osl, vD_ptr, vD_agg, vD_fn, vL_dat, vL_app, viewL, avA, datsOf, fillA, seval, ↓List.forall_mem_cons, Op.operands, hP, hG, tiA]
          rw [hv]
          

end Go.Proofs.YthcfjdkflmkhbaaDoor

namespace Go.Proofs.YthcfjdkflmkhbaaDoor
open Go.Av

theorem badP_iff (c : CaseM) (pick : List Int) : BadP c pick ↔ ∃ i, i < pick.length ∧ (pick.getD i default < 0 ∨ ((c.items.getD i default).length : Int) ≤ pick.getD i default) := Iff.rfl


theorem costF_ok (G) (c : CaseM) (pick : List Int) (hs : SzC c) (hpk : pick.length ≤ 1000) : Gives Tryd.prog G 18 [caseD c, isD pick] [iD (costM c pick).1, iD (costM c pick).2.1, iD (costM c pick).2.2] := by
  have hni := hs.ni
  have hir := hs.ir
  unfold I64 at hir
  refine gives_intro [] [] [] Tryd.func18 rfl (by rfl) (by simp [Tryd.ntmps18]) fun F hP hG hN hR => ?_
  rw [Tryd.ntmps18] at hN
  have hA := And.intro hN (And.intro hP (And.intro hG (And.intro hR.1 (And.intro hR.2.1 hR.2.2.1))))
  apply aw_regs [1, 2] [2]
  · simp (disch := omega) only [avR2, avA, datsOf, fillA, seval, ↓List.forall_mem_cons, Op.operands, hA, tiA]
    first | exact ⟨rfl, rfl⟩ | ((repeat' first | refine And.intro ?_ ?_ | intro _) <;> first | with_reducible rfl | assumption | omega | rfl | (rename_i hq; rw [hq]; rfl) | (simp_all; done))
  apply aw_seq
  apply aw_regs [1, 2, 7] [2]
  · simp (disch := omega) only [avR2, avA, datsOf, fillA, seval, ↓List.forall_mem_cons, Op.operands, hA, tiA]
    (repeat' refine And.intro ?_ ?_) <;> try first | omega | assumption | with_reducible rfl | exact rfl | (intro hside; (repeat' refine And.intro ?_ ?_) <;> first | exact hside | omega | (rw [hside]; rfl) | (simp_all; done))
    refine CallC.use (gvF hP hG (valid_ok G c hs)) rfl ?_
    try simp (maxSteps := 2000000) (disch := omega) only [avR2, avA, datsOf, fillA, seval, ↓List.forall_mem_cons, Op.operands, hA, tiA]
    first | exact ⟨rfl, rfl⟩ | ((repeat' first | refine And.intro ?_ ?_ | intro _) <;> first | with_reducible rfl | assumption | omega | rfl | (rename_i hq; rw [hq]; rfl) | (simp_all; done))
  apply aw_regs [1, 2, 7, 15] [2]
  · simp (disch := omega) only [avR2, avA, datsOf, fillA, seval, ↓List.forall_mem_cons, Op.operands, hA, tiA]
    first | exact ⟨rfl, rfl⟩ | ((repeat' first | refine And.intro ?_ ?_ | intro _) <;> first | with_reducible rfl | assumption | omega | rfl | (rename_i hq; rw [hq]; rfl) | (simp_all; done))
  refine aw_if _ rfl (fun hb => ?_) (fun hb => ?_) <;> (try simp only [pickB_true, pickB_false, Bool.false_or, Bool.false_and, Bool.true_and, decide_eq_true_eq, decide_eq_false_iff_not, Bool.or_eq_true, Bool.and_eq_true, Bool.or_eq_false_iff, Bool.and_eq_false_imp, Bool.not_eq_true, Bool.not_eq_false, Bool.not_eq_eq_eq_not, Bool.not_true, Bool.not_false, Int.not_lt, Int.not_le, beq_iff_eq, beq_eq_false_iff_ne, bne_iff_ne, bne_eq_false_iff_eq, ne_eq, Bool.true_eq_false, Bool.false_eq_true, if_false_left, if_true_left, Bool.not_eq_eq_eq_not, Bool.decide_eq_true, Classical.not_not] at hb)
  · skip
    have hv : costM c pick = (0, 0, validM c) := by
      unfold costM
      rw [if_pos hb]
    apply aw_regs [4, 5, 6] []
    · simp (disch := omega) only [avR2, avA, datsOf, fillA, seval, ↓List.forall_mem_cons, Op.operands, hA, tiA]
      first | exact ⟨rfl, rfl⟩ | ((repeat' first | refine And.intro ?_ ?_ | intro _) <;> first | with_reducible rfl | assumption | omega | rfl | (rename_i hq; rw [hq]; rfl) | (simp_all; done))
    apply aw_ret
    apply q_ret_seq
    simp only [QRet, QRetM, QRetX, retsX_nil, retsX_cons, objsAre, Tryd.results18, resA, mapO_nil, mapO_cons, vD_dat, vD_nils, vD_rp, vD_osl, vD_ptr, vD_agg, vD_fn, vL_dat, vL_app, viewL, avA, datsOf, fillA, seval, ↓List.forall_mem_cons, Op.operands, hP, hG, tiA]
    rw [hv]
    
  · skip
    have h0 : ¬ validM c ≠ 0 := by omega
    have hc : OkC c := validM_ok.1 (by omega)
    have hc64 := hc.n64
    have hcr := hc.room
    apply aw_skip
    apply q_seq
    apply aw_seq
    apply aw_regs [1, 2, 22] [2]
    · simp (disch := omega) only [avR2, avA, datsOf, fillA, seval, ↓List.forall_mem_cons, Op.operands, hA, tiA]
      first | exact ⟨rfl, rfl⟩ | ((repeat' first | refine And.intro ?_ ?_ | intro _) <;> first | with_reducible rfl | assumption | omega | rfl | (rename_i hq; rw [hq]; rfl) | (simp_all; done))
    refine aw_if _ rfl (fun hb => ?_) (fun hb => ?_) <;> (try simp only [pickB_true, pickB_false, Bool.false_or, Bool.false_and, Bool.true_and, decide_eq_true_eq, decide_eq_false_iff_not, Bool.or_eq_true, Bool.and_eq_true, Bool.or_eq_false_iff, Bool.and_eq_false_imp, Bool.not_eq_true, Bool.not_eq_false, Bool.not_eq_eq_eq_not, Bool.not_true, Bool.not_false, Int.not_lt, Int.not_le, beq_iff_eq, beq_eq_false_iff_ne, bne_iff_ne, bne_eq_false_iff_eq, ne_eq, Bool.true_eq_false, Bool.false_eq_true, if_false_left, if_true_left, Bool.not_eq_eq_eq_not, Bool.decide_eq_true, Classical.not_not] at hb)
    · skip
      have hv : costM c pick = (0, 0, 1) := by
        unfold costM
        rw [if_neg h0, if_pos]
        omega
      apply aw_regs [4, 5, 6] []
      · simp (disch := omega) only [avR2, avA, datsOf, fillA, seval, ↓List.forall_mem_cons, Op.operands, hA, tiA]
        first | exact ⟨rfl, rfl⟩ | ((repeat' first | refine And.intro ?_ ?_ | intro _) <;> first | with_reducible rfl | assumption | omega | rfl | (rename_i hq; rw [hq]; rfl) | (simp_all; done))
      apply aw_ret
      apply q_ret_seq
      simp only [QRet, QRetM, QRetX, retsX_nil, retsX_cons, objsAre, Tryd.results18, resA, mapO_nil, mapO_cons, vD_dat, vD_nils, vD_rp, vD_osl, vD_ptr, vD_agg, vD_fn, vL_dat, vL_app, viewL, avA, datsOf, fillA, seval, ↓List.forall_mem_cons, Op.operands, hP, hG, tiA]
      rw [hv]
      
    · skip
      have hpl : pick.length = c.items.length := by omega
      have h1 : ¬ pick.length ≠ c.items.length := by omega
      apply aw_skip
      apply q_seq
      apply aw_seq
      apply aw_regs [1, 2, 23, 24, 25] [2]
      · simp (disch := omega) only [avR2, avA, datsOf, fillA, seval, ↓List.forall_mem_cons, Op.operands, hA, tiA]
        first | exact ⟨rfl, rfl⟩ | ((repeat' first | refine And.intro ?_ ?_ | intro _) <;> first | with_reducible rfl | assumption | omega | rfl | (rename_i hq; rw [hq]; rfl) | (simp_all; done))
      apply aw_block
      refine aw_loop (ι := {i : Nat // i ≤ pick.length ∧ ∀ k < i, 0 ≤ pick.getD k default ∧ pick.getD k default < ((c.items.getD k default).length : Int)}) (fun ⟨i, hif⟩ => .of [(1, .dat (isD pick)), (2, .ptr 2 3 0 0), (23, .dat (isD pick)), (24, .dat (iD pick.length)), (25, .dat (iD i))] [(2, ⟨3, [.dat (caseD c)]⟩)]) (fun ⟨i, hif⟩ => pick.length - i) (⟨0, by simp⟩) (Le.of ?_ ?_) fun ix => ?_
      · try simp (disch := omega) only [LeE, LeO, avA, datsOf, fillA, seval, ↓List.forall_mem_cons, Op.operands]
        all_goals first | done | (repeat' apply And.intro) <;> first | rfl | omega | assumption | (simp only [AV.dat.injEq, Dat.int.injEq, true_and]; omega) | (congr <;> omega)
      · try simp (disch := omega) only [LeE, LeO, avA, datsOf, fillA, seval, ↓List.forall_mem_cons, Op.operands]
        all_goals first | done | (repeat' apply And.intro) <;> first | rfl | omega | assumption | (simp only [AV.dat.injEq, Dat.int.injEq, true_and]; omega) | (congr <;> omega)
      obtain ⟨i, hif⟩ := ix
      dsimp only
      obtain ⟨hi, hf⟩ := hif
      apply aw_regs [1, 2, 23, 24, 25, 26] [2]
      · simp (disch := omega) only [avR2, avA, datsOf, fillA, seval, ↓List.forall_mem_cons, Op.operands, hA, tiA]
        first | exact ⟨rfl, rfl⟩ | ((repeat' first | refine And.intro ?_ ?_ | intro _) <;> first | with_reducible rfl | assumption | omega | rfl | (rename_i hq; rw [hq]; rfl) | (simp_all; done))
      apply aw_seq
      refine aw_if _ rfl (fun hb => ?_) (fun hb => ?_) <;> (try simp only [pickB_true, pickB_false, Bool.false_or, Bool.false_and, Bool.true_and, decide_eq_true_eq, decide_eq_false_iff_not, Bool.or_eq_true, Bool.and_eq_true, Bool.or_eq_false_iff, Bool.and_eq_false_imp, Bool.not_eq_true, Bool.not_eq_false, Bool.not_eq_eq_eq_not, Bool.not_true, Bool.not_false, Int.not_lt, Int.not_le, beq_iff_eq, beq_eq_false_iff_ne, bne_iff_ne, bne_eq_false_iff_eq, ne_eq, Bool.true_eq_false, Bool.false_eq_true, if_false_left, if_true_left, Bool.not_eq_eq_eq_not, Bool.decide_eq_true, Classical.not_not] at hb)
      · skip
        have hli := hc.n8 i (by omega)
        simp only [itemM] at hli
        apply aw_skip
        apply q_seq
        apply aw_seq
        apply aw_block
        apply aw_regs [1, 2, 8, 9, 23, 24, 25] [2]
        · simp (disch := omega) only [avR2, avA, datsOf, fillA, seval, ↓List.forall_mem_cons, Op.operands, hA, tiA]
          first | exact ⟨rfl, rfl⟩ | ((repeat' first | refine And.intro ?_ ?_ | intro _) <;> first | with_reducible rfl | assumption | omega | rfl | (rename_i hq; rw [hq]; rfl) | (simp_all; done))
        apply aw_regs [1, 2, 23, 24, 25, 41] [2]
        · simp (disch := omega) only [avR2, avA, datsOf, fillA, seval, ↓List.forall_mem_cons, Op.operands, hA, tiA]
          first | exact ⟨rfl, rfl⟩ | ((repeat' first | refine And.intro ?_ ?_ | intro _) <;> first | with_reducible rfl | assumption | omega | rfl | (rename_i hq; rw [hq]; rfl) | (simp_all; done))
        refine aw_if _ rfl (fun hb => ?_) (fun hb => ?_) <;> (try simp only [pickB_true, pickB_false, Bool.false_or, Bool.false_and, Bool.true_and, decide_eq_true_eq, decide_eq_false_iff_not, Bool.or_eq_true, Bool.and_eq_true, Bool.or_eq_false_iff, Bool.and_eq_false_imp, Bool.not_eq_true, Bool.not_eq_false, Bool.not_eq_eq_eq_not, Bool.not_true, Bool.not_false, Int.not_lt, Int.not_le, beq_iff_eq, beq_eq_false_iff_ne, bne_iff_ne, bne_eq_false_iff_eq, ne_eq, Bool.true_eq_false, Bool.false_eq_true, if_false_left, if_true_left, Bool.not_eq_eq_eq_not, Bool.decide_eq_true, Classical.not_not] at hb)
        · skip
          have hbp : BadP c pick := by
            rw [badP_iff]
            exact ⟨i, by omega, by omega⟩
          have hv : costM c pick = (0, 0, 1) := by
            unfold costM
            rw [if_neg h0, if_neg h1, if_pos hbp]
          apply aw_regs [4, 5, 6] []
          · simp (disch := omega) only [avR2, avA, datsOf, fillA, seval, ↓List.forall_mem_cons, Op.operands, hA, tiA]
            first | exact ⟨rfl, rfl⟩ | ((repeat' first | refine And.intro ?_ ?_ | intro _) <;> first | with_reducible rfl | assumption | omega | rfl | (rename_i hq; rw [hq]; rfl) | (simp_all; done))
          apply aw_ret
          apply q_ret_block
          apply q_ret_seq
          apply q_ret_loop
          apply q_ret_block
          apply q_ret_seq
          simp only [QRet, QRetM, QRetX, retsX_nil, retsX_cons, objsAre, Tryd.results18, resA, mapO_nil, mapO_cons, vD_dat, vD_nils, vD_rp, vD_osl, vD_ptr, vD_agg, vD_fn, vL_dat, vL_app, viewL, avA, datsOf, fillA, seval, ↓List.forall_mem_cons, Op.operands, hP, hG, tiA]
          rw [hv]
          
        · skip
          apply aw_skip
          apply q_block
          apply q_seq
          apply aw_reg [1, 2, 23, 24, 25] [2]
          · simp (disch := omega) only [avR2, avA, datsOf, fillA, seval, ↓List.forall_mem_cons, Op.operands, hA, tiA]
            first | exact ⟨rfl, rfl⟩ | ((repeat' first | refine And.intro ?_ ?_ | intro _) <;> first | with_reducible rfl | assumption | omega | rfl | (rename_i hq; rw [hq]; rfl) | (simp_all; done))
          refine q_loop (⟨i + 1, by omega, fun k hk => if h : k < i then hf k h else by (have : k = i := by omega); subst this; omega⟩) (Le.of ?_ ?_) (by dsimp only; omega)
          · try simp (disch := omega) only [LeE, LeO, avA, datsOf, fillA, seval, ↓List.forall_mem_cons, Op.operands]
            all_goals first | done | (repeat' apply And.intro) <;> first | rfl | omega | assumption | (simp only [AV.dat.injEq, Dat.int.injEq, true_and]; omega) | (congr <;> omega)
          · try simp (disch := omega) only [LeE, LeO, avA, datsOf, fillA, seval, ↓List.forall_mem_cons, Op.operands]
            all_goals first | done | (repeat' apply And.intro) <;> first | rfl | omega | assumption | (simp only [AV.dat.injEq, Dat.int.injEq, true_and]; omega) | (congr <;> omega)
      · skip
        have hbp : ¬ BadP c pick := by
          rw [badP_iff]
          rintro ⟨k, h2, h3⟩
          have := hf k (by omega)
          omega
        have hp : OkP c pick := okP_of (by omega) hbp
        have hsr := sums_range hc hp pick.length (Nat.le_refl _)
        apply aw_exit
        apply q_exit_seq
        apply q_exit_loop
        apply q_exit
        apply q_seq
        apply aw_regs [2, 10, 11] [2]
        · simp (disch := omega) only [avR2, avA, datsOf, fillA, seval, ↓List.forall_mem_cons, Op.operands, hA, tiA]
          (repeat' refine And.intro ?_ ?_) <;> try first | omega | assumption | with_reducible rfl | exact rfl | (intro hside; (repeat' refine And.intro ?_ ?_) <;> first | exact hside | omega | (rw [hside]; rfl) | (simp_all; done))
          refine CallC.use (gvF hP hG (cost_ok G c pick hc hp)) rfl ?_
          try simp (maxSteps := 2000000) (disch := omega) only [avR2, avA, datsOf, fillA, seval, ↓List.forall_mem_cons, Op.operands, hA, tiA]
          first | exact ⟨rfl, rfl⟩ | ((repeat' first | refine And.intro ?_ ?_ | intro _) <;> first | with_reducible rfl | assumption | omega | rfl | (rename_i hq; rw [hq]; rfl) | (simp_all; done))
        apply aw_seq
        apply aw_regs [10, 11, 52] []
        · simp (disch := omega) only [avR2, avA, datsOf, fillA, seval, ↓List.forall_mem_cons, Op.operands, hA, tiA]
          first | exact ⟨rfl, rfl⟩ | ((repeat' first | refine And.intro ?_ ?_ | intro _) <;> first | with_reducible rfl | assumption | omega | rfl | (rename_i hq; rw [hq]; rfl) | (simp_all; done))
        refine aw_if _ rfl (fun hb => ?_) (fun hb => ?_) <;> (try simp only [pickB_true, pickB_false, Bool.false_or, Bool.false_and, Bool.true_and, decide_eq_true_eq, decide_eq_false_iff_not, Bool.or_eq_true, Bool.and_eq_true, Bool.or_eq_false_iff, Bool.and_eq_false_imp, Bool.not_eq_true, Bool.not_eq_false, Bool.not_eq_eq_eq_not, Bool.not_true, Bool.not_false, Int.not_lt, Int.not_le, beq_iff_eq, beq_eq_false_iff_ne, bne_iff_ne, bne_eq_false_iff_eq, ne_eq, Bool.true_eq_false, Bool.false_eq_true, if_false_left, if_true_left, Bool.not_eq_eq_eq_not, Bool.decide_eq_true, Classical.not_not] at hb)
        · skip
          have hv : costM c pick = (0, 0, 21) := by
            unfold costM
            rw [if_neg h0, if_neg h1, if_neg hbp, if_pos]
            omega
          apply aw_regs [4, 5, 6] []
          · simp (disch := omega) only [avR2, avA, datsOf, fillA, seval, ↓List.forall_mem_cons, Op.operands, hA, tiA]
            first | exact ⟨rfl, rfl⟩ | ((repeat' first | refine And.intro ?_ ?_ | intro _) <;> first | with_reducible rfl | assumption | omega | rfl | (rename_i hq; rw [hq]; rfl) | (simp_all; done))
          apply aw_ret
          apply q_ret_seq
          simp only [QRet, QRetM, QRetX, retsX_nil, retsX_cons, objsAre, Tryd.results18, resA, mapO_nil, mapO_cons, vD_dat, vD_nils, vD_rp, vD_osl, vD_ptr, vD_agg, vD_fn, vL_dat, vL_app, viewL, avA, datsOf, fillA, seval, ↓List.forall_mem_cons, Op.operands, hP, hG, tiA]
          rw [hv]
          
        · skip
          have hv : costM c pick = (linesM c pick pick.length, turnsM c pick pick.length, 0) := by
            unfold costM
            rw [if_neg h0, if_neg h1, if_neg hbp, if_neg]
            omega
          apply aw_skip
          apply q_seq
          apply aw_regs [4, 5, 6] []
          · simp (disch := omega) only [avR2, avA, datsOf, fillA, seval, ↓List.forall_mem_cons, Op.operands, hA, tiA]
            first | exact ⟨rfl, rfl⟩ | ((repeat' first | refine And.intro ?_ ?_ | intro _) <;> first | with_reducible rfl | assumption | omega | rfl | (rename_i hq; rw [hq]; rfl) | (simp_all; done))
          apply aw_ret
          simp only [QRet, QRetM, QRetX, retsX_nil, retsX_cons, objsAre, Tryd.results18, resA, mapO_nil, mapO_cons, vD_dat, vD_nils, vD_rp, vD_osl, vD_ptr, vD_agg, vD_fn, vL_dat, vL_app, viewL, avA, datsOf, fillA, seval, ↓List.forall_mem_cons, Op.operands, hP, hG, tiA]
          rw [hv]
          

theorem rcostF_ok (G) (c : CaseM) (pick : List Int) (hs : SzC c) (hpk : pick.length ≤ 1000) : Gives Tryd.prog G 19 [caseD c, isD pick] [iD (costM c pick).1, iD (costM c pick).2.1, iD (costM c pick).2.2] := by
  have hni := hs.ni
  have hir := hs.ir
  unfold I64 at hir
  refine gives_intro [] [] [] Tryd.func19 rfl (by rfl) (by simp [Tryd.ntmps19]) fun F hP hG hN hR => ?_
  rw [Tryd.ntmps19] at hN
  have hA := And.intro hN (And.intro hP (And.intro hG (And.intro hR.1 (And.intro hR.2.1 hR.2.2.1))))
  apply aw_regs [1, 2] [2]
  · simp (disch := omega) only [avR2, avA, datsOf, fillA, seval, ↓List.forall_mem_cons, Op.operands, hA, tiA]
    first | exact ⟨rfl, rfl⟩ | ((repeat' first | refine And.intro ?_ ?_ | intro _) <;> first | with_reducible rfl | assumption | omega | rfl | (rename_i hq; rw [hq]; rfl) | (simp_all; done))
  apply aw_regs [1, 2, 7] [2]
  · simp (disch := omega) only [avR2, avA, datsOf, fillA, seval, ↓List.forall_mem_cons, Op.operands, hA, tiA]
    (repeat' refine And.intro ?_ ?_) <;> try first | omega | assumption | with_reducible rfl | exact rfl | (intro hside; (repeat' refine And.intro ?_ ?_) <;> first | exact hside | omega | (rw [hside]; rfl) | (simp_all; done))
    refine CallC.use (gvF hP hG (rvalid_ok G c hs)) rfl ?_
    try simp (maxSteps := 2000000) (disch := omega) only [avR2, avA, datsOf, fillA, seval, ↓List.forall_mem_cons, Op.operands, hA, tiA]
    first | exact ⟨rfl, rfl⟩ | ((repeat' first | refine And.intro ?_ ?_ | intro _) <;> first | with_reducible rfl | assumption | omega | rfl | (rename_i hq; rw [hq]; rfl) | (simp_all; done))
  apply aw_seq
  apply aw_regs [1, 2, 7, 14] [2]
  · simp (disch := omega) only [avR2, avA, datsOf, fillA, seval, ↓List.forall_mem_cons, Op.operands, hA, tiA]
    first | exact ⟨rfl, rfl⟩ | ((repeat' first | refine And.intro ?_ ?_ | intro _) <;> first | with_reducible rfl | assumption | omega | rfl | (rename_i hq; rw [hq]; rfl) | (simp_all; done))
  refine aw_if _ rfl (fun hb => ?_) (fun hb => ?_) <;> (try simp only [pickB_true, pickB_false, Bool.false_or, Bool.false_and, Bool.true_and, decide_eq_true_eq, decide_eq_false_iff_not, Bool.or_eq_true, Bool.and_eq_true, Bool.or_eq_false_iff, Bool.and_eq_false_imp, Bool.not_eq_true, Bool.not_eq_false, Bool.not_eq_eq_eq_not, Bool.not_true, Bool.not_false, Int.not_lt, Int.not_le, beq_iff_eq, beq_eq_false_iff_ne, bne_iff_ne, bne_eq_false_iff_eq, ne_eq, Bool.true_eq_false, Bool.false_eq_true, if_false_left, if_true_left, Bool.not_eq_eq_eq_not, Bool.decide_eq_true, Classical.not_not] at hb)
  · skip
    have hv : costM c pick = (0, 0, validM c) := by
      unfold costM
      rw [if_pos hb]
    apply aw_regs [4, 5, 6] []
    · simp (disch := omega) only [avR2, avA, datsOf, fillA, seval, ↓List.forall_mem_cons, Op.operands, hA, tiA]
      first | exact ⟨rfl, rfl⟩ | ((repeat' first | refine And.intro ?_ ?_ | intro _) <;> first | with_reducible rfl | assumption | omega | rfl | (rename_i hq; rw [hq]; rfl) | (simp_all; done))
    apply aw_ret
    apply q_ret_seq
    simp only [QRet, QRetM, QRetX, retsX_nil, retsX_cons, objsAre, Tryd.results19, resA, mapO_nil, mapO_cons, vD_dat, vD_nils, vD_rp, vD_osl, vD_ptr, vD_agg, vD_fn, vL_dat, vL_app, viewL, avA, datsOf, fillA, seval, ↓List.forall_mem_cons, Op.operands, hP, hG, tiA]
    rw [hv]
    
  · skip
    have h0 : ¬ validM c ≠ 0 := by omega
    have hc : OkC c := validM_ok.1 (by omega)
    have hc64 := hc.n64
    have hcr := hc.room
    apply aw_skip
    apply q_seq
    apply aw_seq
    apply aw_regs [1, 2, 21] [2]
    · simp (disch := omega) only [avR2, avA, datsOf, fillA, seval, ↓List.forall_mem_cons, Op.operands, hA, tiA]
      first | exact ⟨rfl, rfl⟩ | ((repeat' first | refine And.intro ?_ ?_ | intro _) <;> first | with_reducible rfl | assumption | omega | rfl | (rename_i hq; rw [hq]; rfl) | (simp_all; done))
    refine aw_if _ rfl (fun hb => ?_) (fun hb => ?_) <;> (try simp only [pickB_true, pickB_false, Bool.false_or, Bool.false_and, Bool.true_and, decide_eq_true_eq, decide_eq_false_iff_not, Bool.or_eq_true, Bool.and_eq_true, Bool.or_eq_false_iff, Bool.and_eq_false_imp, Bool.not_eq_true, Bool.not_eq_false, Bool.not_eq_eq_eq_not, Bool.not_true, Bool.not_false, Int.not_lt, Int.not_le, beq_iff_eq, beq_eq_false_iff_ne, bne_iff_ne, bne_eq_false_iff_eq, ne_eq, Bool.true_eq_false, Bool.false_eq_true, if_false_left, if_true_left, Bool.not_eq_eq_eq_not, Bool.decide_eq_true, Classical.not_not] at hb)
    · skip
      have hv : costM c pick = (0, 0, 1) := by
        unfold costM
        rw [if_neg h0, if_pos]
        omega
      apply aw_regs [4, 5, 6] []
      · simp (disch := omega) only [avR2, avA, datsOf, fillA, seval, ↓List.forall_mem_cons, Op.operands, hA, tiA]
        first | exact ⟨rfl, rfl⟩ | ((repeat' first | refine And.intro ?_ ?_ | intro _) <;> first | with_reducible rfl | assumption | omega | rfl | (rename_i hq; rw [hq]; rfl) | (simp_all; done))
      apply aw_ret
      apply q_ret_seq
      simp only [QRet, QRetM, QRetX, retsX_nil, retsX_cons, objsAre, Tryd.results19, resA, mapO_nil, mapO_cons, vD_dat, vD_nils, vD_rp, vD_osl, vD_ptr, vD_agg, vD_fn, vL_dat, vL_app, viewL, avA, datsOf, fillA, seval, ↓List.forall_mem_cons, Op.operands, hP, hG, tiA]
      rw [hv]
      
    · skip
      have hpl : pick.length = c.items.length := by omega
      have h1 : ¬ pick.length ≠ c.items.length := by omega
      apply aw_skip
      apply q_seq
      apply aw_seq
      apply aw_regs [1, 2, 8] [2]
      · simp (disch := omega) only [avR2, avA, datsOf, fillA, seval, ↓List.forall_mem_cons, Op.operands, hA, tiA]
        first | exact ⟨rfl, rfl⟩ | ((repeat' first | refine And.intro ?_ ?_ | intro _) <;> first | with_reducible rfl | assumption | omega | rfl | (rename_i hq; rw [hq]; rfl) | (simp_all; done))
      apply aw_block
      refine aw_loop (ι := {i : Nat // i ≤ pick.length ∧ ∀ k < i, 0 ≤ pick.getD k default ∧ pick.getD k default < ((c.items.getD k default).length : Int)}) (fun ⟨i, hif⟩ => .of [(1, .dat (isD pick)), (2, .ptr 2 3 0 0), (8, .dat (iD i))] [(2, ⟨3, [.dat (caseD c)]⟩)]) (fun ⟨i, hif⟩ => pick.length - i) (⟨0, by simp⟩) (Le.of ?_ ?_) fun ix => ?_
      · try simp (disch := omega) only [LeE, LeO, avA, datsOf, fillA, seval, ↓List.forall_mem_cons, Op.operands]
        all_goals first | done | (repeat' apply And.intro) <;> first | rfl | omega | assumption | (simp only [AV.dat.injEq, Dat.int.injEq, true_and]; omega) | (congr <;> omega)
      · try simp (disch := omega) only [LeE, LeO, avA, datsOf, fillA, seval, ↓List.forall_mem_cons, Op.operands]
        all_goals first | done | (repeat' apply And.intro) <;> first | rfl | omega | assumption | (simp only [AV.dat.injEq, Dat.int.injEq, true_and]; omega) | (congr <;> omega)
      obtain ⟨i, hif⟩ := ix
      dsimp only
      obtain ⟨hi, hf⟩ := hif
      apply aw_seq
      apply aw_regs [1, 2, 8, 25] [2]
      · simp (disch := omega) only [avR2, avA, datsOf, fillA, seval, ↓List.forall_mem_cons, Op.operands, hA, tiA]
        first | exact ⟨rfl, rfl⟩ | ((repeat' first | refine And.intro ?_ ?_ | intro _) <;> first | with_reducible rfl | assumption | omega | rfl | (rename_i hq; rw [hq]; rfl) | (simp_all; done))
      refine aw_if _ rfl (fun hb => ?_) (fun hb => ?_) <;> (try simp only [pickB_true, pickB_false, Bool.false_or, Bool.false_and, Bool.true_and, decide_eq_true_eq, decide_eq_false_iff_not, Bool.or_eq_true, Bool.and_eq_true, Bool.or_eq_false_iff, Bool.and_eq_false_imp, Bool.not_eq_true, Bool.not_eq_false, Bool.not_eq_eq_eq_not, Bool.not_true, Bool.not_false, Int.not_lt, Int.not_le, beq_iff_eq, beq_eq_false_iff_ne, bne_iff_ne, bne_eq_false_iff_eq, ne_eq, Bool.true_eq_false, Bool.false_eq_true, if_false_left, if_true_left, Bool.not_eq_eq_eq_not, Bool.decide_eq_true, Classical.not_not] at hb)
      · skip
        have hli := hc.n8 i (by omega)
        simp only [itemM] at hli
        apply aw_skip
        apply q_seq
        apply aw_seq
        apply aw_block
        apply aw_rgds [1, 2, 8, 45] [2] [0, 1, 2, 3, 4, 5, 6, 7, 8, 9, 10, 11, 12, 13, 14, 15, 16, 17] []
        · rw [hP]; kernel_rfl
        · exact hR
        · kernel_rfl
        · (repeat (apply PickL.cons; exact rfl)); exact PickL.nil _
        · simp (maxSteps := 2000000) (disch := omega) only [avR2, avA, datsOf, fillA, seval, ↓List.forall_mem_cons, Op.operands, hA, tiA]
          first | exact ⟨rfl, rfl⟩ | ((repeat' first | refine And.intro ?_ ?_ | intro _) <;> first | with_reducible rfl | assumption | omega | rfl | (rename_i hq; rw [hq]; rfl) | (simp_all; done))
        refine aw_if _ rfl (fun hb => ?_) (fun hb => ?_) <;> (try simp only [pickB_true, pickB_false, Bool.false_or, Bool.false_and, Bool.true_and, decide_eq_true_eq, decide_eq_false_iff_not, Bool.or_eq_true, Bool.and_eq_true, Bool.or_eq_false_iff, Bool.and_eq_false_imp, Bool.not_eq_true, Bool.not_eq_false, Bool.not_eq_eq_eq_not, Bool.not_true, Bool.not_false, Int.not_lt, Int.not_le, beq_iff_eq, beq_eq_false_iff_ne, bne_iff_ne, bne_eq_false_iff_eq, ne_eq, Bool.true_eq_false, Bool.false_eq_true, if_false_left, if_true_left, Bool.not_eq_eq_eq_not, Bool.decide_eq_true, Classical.not_not] at hb)
        · skip
          have hbp : BadP c pick := by
            rw [badP_iff]
            exact ⟨i, by omega, by omega⟩
          have hv : costM c pick = (0, 0, 1) := by
            unfold costM
            rw [if_neg h0, if_neg h1, if_pos hbp]
          apply aw_regs [4, 5, 6] []
          · simp (disch := omega) only [avR2, avA, datsOf, fillA, seval, ↓List.forall_mem_cons, Op.operands, hA, tiA]
            first | exact ⟨rfl, rfl⟩ | ((repeat' first | refine And.intro ?_ ?_ | intro _) <;> first | with_reducible rfl | assumption | omega | rfl | (rename_i hq; rw [hq]; rfl) | (simp_all; done))
          apply aw_ret
          apply q_ret_block
          apply q_ret_seq
          apply q_ret_loop
          apply q_ret_block
          apply q_ret_seq
          simp only [QRet, QRetM, QRetX, retsX_nil, retsX_cons, objsAre, Tryd.results19, resA, mapO_nil, mapO_cons, vD_dat, vD_nils, vD_rp, vD_osl, vD_ptr, vD_agg, vD_fn, vL_dat, vL_app, viewL, avA, datsOf, fillA, seval, ↓List.forall_mem_cons, Op.operands, hP, hG, tiA]
          rw [hv]
          
        · skip
          apply aw_skip
          apply q_block
          apply q_seq
          apply aw_reg [1, 2, 8] [2]
          · simp (disch := omega) only [avR2, avA, datsOf, fillA, seval, ↓List.forall_mem_cons, Op.operands, hA, tiA]
            first | exact ⟨rfl, rfl⟩ | ((repeat' first | refine And.intro ?_ ?_ | intro _) <;> first | with_reducible rfl | assumption | omega | rfl | (rename_i hq; rw [hq]; rfl) | (simp_all; done))
          refine q_loop (⟨i + 1, by omega, fun k hk => if h : k < i then hf k h else by (have : k = i := by omega); subst this; omega⟩) (Le.of ?_ ?_) (by dsimp only; omega)
          · try simp (disch := omega) only [LeE, LeO, avA, datsOf, fillA, seval, ↓List.forall_mem_cons, Op.operands]
            all_goals first | done | (repeat' apply And.intro) <;> first | rfl | omega | assumption | (simp only [AV.dat.injEq, Dat.int.injEq, true_and]; omega) | (congr <;> omega)
          · try simp (disch := omega) only [LeE, LeO, avA, datsOf, fillA, seval, ↓List.forall_mem_cons, Op.operands]
            all_goals first | done | (repeat' apply And.intro) <;> first | rfl | omega | assumption | (simp only [AV.dat.injEq, Dat.int.injEq, true_and]; omega) | (congr <;> omega)
      · skip
        have hbp : ¬ BadP c pick := by
          rw [badP_iff]
          rintro ⟨k, h2, h3⟩
          have := hf k (by omega)
          omega
        have hp : OkP c pick := okP_of (by omega) hbp
        have hsr := sums_range hc hp pick.length (Nat.le_refl _)
        apply aw_exit
        apply q_exit_seq
        apply q_exit_loop
        apply q_exit
        apply q_seq
        apply aw_regs [2, 9, 10] [2]
        · simp (disch := omega) only [avR2, avA, datsOf, fillA, seval, ↓List.forall_mem_cons, Op.operands, hA, tiA]
          (repeat' refine And.intro ?_ ?_) <;> try first | omega | assumption | with_reducible rfl | exact rfl | (intro hside; (repeat' refine And.intro ?_ ?_) <;> first | exact hside | omega | (rw [hside]; rfl) | (simp_all; done))
          refine CallC.use (gvF hP hG (sums_ok G c pick hc hp)) rfl ?_
          try simp (maxSteps := 2000000) (disch := omega) only [avR2, avA, datsOf, fillA, seval, ↓List.forall_mem_cons, Op.operands, hA, tiA]
          first | exact ⟨rfl, rfl⟩ | ((repeat' first | refine And.intro ?_ ?_ | intro _) <;> first | with_reducible rfl | assumption | omega | rfl | (rename_i hq; rw [hq]; rfl) | (simp_all; done))
        apply aw_seq
        apply aw_regs [9, 10, 55] []
        · simp (disch := omega) only [avR2, avA, datsOf, fillA, seval, ↓List.forall_mem_cons, Op.operands, hA, tiA]
          first | exact ⟨rfl, rfl⟩ | ((repeat' first | refine And.intro ?_ ?_ | intro _) <;> first | with_reducible rfl | assumption | omega | rfl | (rename_i hq; rw [hq]; rfl) | (simp_all; done))
        refine aw_if _ rfl (fun hb => ?_) (fun hb => ?_) <;> (try simp only [pickB_true, pickB_false, Bool.false_or, Bool.false_and, Bool.true_and, decide_eq_true_eq, decide_eq_false_iff_not, Bool.or_eq_true, Bool.and_eq_true, Bool.or_eq_false_iff, Bool.and_eq_false_imp, Bool.not_eq_true, Bool.not_eq_false, Bool.not_eq_eq_eq_not, Bool.not_true, Bool.not_false, Int.not_lt, Int.not_le, beq_iff_eq, beq_eq_false_iff_ne, bne_iff_ne, bne_eq_false_iff_eq, ne_eq, Bool.true_eq_false, Bool.false_eq_true, if_false_left, if_true_left, Bool.not_eq_eq_eq_not, Bool.decide_eq_true, Classical.not_not] at hb)
        · skip
          have hv : costM c pick = (0, 0, 21) := by
            unfold costM
            rw [if_neg h0, if_neg h1, if_neg hbp, if_pos]
            omega
          apply aw_regs [4, 5, 6] []
          · simp (disch := omega) only [avR2, avA, datsOf, fillA, seval, ↓List.forall_mem_cons, Op.operands, hA, tiA]
            first | exact ⟨rfl, rfl⟩ | ((repeat' first | refine And.intro ?_ ?_ | intro _) <;> first | with_reducible rfl | assumption | omega | rfl | (rename_i hq; rw [hq]; rfl) | (simp_all; done))
          apply aw_ret
          apply q_ret_seq
          simp only [QRet, QRetM, QRetX, retsX_nil, retsX_cons, objsAre, Tryd.results19, resA, mapO_nil, mapO_cons, vD_dat, vD_nils, vD_rp, vD_osl, vD_ptr, vD_agg, vD_fn, vL_dat, vL_app, viewL, avA, datsOf, fillA, seval, ↓List.forall_mem_cons, Op.operands, hP, hG, tiA]
          rw [hv]
          
        · skip
          have hv : costM c pick = (linesM c pick pick.length, turnsM c pick pick.length, 0) := by
            unfold costM
            rw [if_neg h0, if_neg h1, if_neg hbp, if_neg]
            omega
          apply aw_skip
          apply q_seq
          apply aw_regs [4, 5, 6] []
          · simp (disch := omega) only [avR2, avA, datsOf, fillA, seval, ↓List.forall_mem_cons, Op.operands, hA, tiA]
            first | exact ⟨rfl, rfl⟩ | ((repeat' first | refine And.intro ?_ ?_ | intro _) <;> first | with_reducible rfl | assumption | omega | rfl | (rename_i hq; rw [hq]; rfl) | (simp_all; done))
          apply aw_ret
          simp only [QRet, QRetM, QRetX, retsX_nil, retsX_cons, objsAre, Tryd.results19, resA, mapO_nil, mapO_cons, vD_dat, vD_nils, vD_rp, vD_osl, vD_ptr, vD_agg, vD_fn, vL_dat, vL_app, viewL, avA, datsOf, fillA, seval, ↓List.forall_mem_cons, Op.operands, hP, hG, tiA]
          rw [hv]
          

end Go.Proofs.YthcfjdkflmkhbaaDoor

namespace Go.Proofs.YthcfjdkflmkhbaaDoor
open Go.Av

/-- How many options an item has, one at least. -/
def manyM (c : CaseM) (i : Nat) : Int := if ((c.items.getD i default).length : Int) < 1 then 1 else ((c.items.getD i default).length : Int)
/-- What is left of the number behind j items, from the last one on. -/
def quoM (c : CaseM) (n : Int) : Nat → Int
  | 0 => n
  | j + 1 => (quoM c n j).tdiv (manyM c (c.items.length - 1 - j))
def rowM (c : CaseM) (n : Int) : Nat → List Int
  | 0 => List.replicate c.items.length 0
  | j + 1 => (rowM c n j).set (c.items.length - 1 - j) ((quoM c n j).tmod (manyM c (c.items.length - 1 - j)))
theorem rowM_length (c : CaseM) (n : Int) : ∀ j, (rowM c n j).length = c.items.length
  | 0 => by simp [rowM]
  | j + 1 => by simp [rowM, rowM_length c n j]
/-- The choice with a number. -/
def pickNM (c : CaseM) (n : Int) : List Int := rowM c n c.items.length
theorem pickNM_length (c : CaseM) (n : Int) : (pickNM c n).length = c.items.length := rowM_length _ _ _
theorem many_pos (c : CaseM) (i : Nat) : 1 ≤ manyM c i := by unfold manyM; split <;> omega
theorem tdiv_range {a b : Int} (h : I64 a) (hb : 1 ≤ b) : I64 (a.tdiv b) := by
  unfold I64 at *
  have h1 : (a.tdiv b).natAbs ≤ a.natAbs := by rw [Int.natAbs_tdiv]; exact Nat.div_le_self _ _
  by_cases ha : 0 ≤ a
  · have := Int.tdiv_nonneg ha (show 0 ≤ b by omega); omega
  · obtain ⟨m, rfl⟩ : ∃ m, a = -m := ⟨-a, by omega⟩
    rw [Int.neg_tdiv] at *
    have := Int.tdiv_nonneg (show 0 ≤ m by omega) (show 0 ≤ b by omega)
    omega
theorem tmod_range {a b : Int} (h : I64 a) : I64 (a.tmod b) := by
  unfold I64 at *
  have h1 : (a.tmod b).natAbs ≤ a.natAbs := by rw [Int.natAbs_tmod]; exact Nat.mod_le _ _
  by_cases ha : 0 ≤ a
  · have := Int.tmod_nonneg b ha; omega
  · obtain ⟨m, rfl⟩ : ∃ m, a = -m := ⟨-a, by omega⟩
    rw [Int.neg_tmod] at *
    have := Int.tmod_nonneg b (show 0 ≤ m by omega)
    omega
theorem quoM_range {c : CaseM} {n : Int} (h : I64 n) : ∀ j, I64 (quoM c n j)
  | 0 => h
  | j + 1 => tdiv_range (quoM_range h j) (many_pos _ _)

end Go.Proofs.YthcfjdkflmkhbaaDoor

namespace Go.Proofs.YthcfjdkflmkhbaaDoor
open Go.Av


theorem pick_ok (G) (c : CaseM) (n : Int) (hs : SzC c) (hn : I64 n) : Gives Tryd.prog G 17 [caseD c, iD n] [isD (pickNM c n)] := by
  have hni := hs.ni
  have hidx : ∀ j : Nat, j < c.items.length → ((c.items.length : Int) - 1 - (j : Int)).toNat = c.items.length - 1 - j := by intro j h; omega
  refine gives_intro [] [] [] Tryd.func17 rfl (by rfl) (by simp [Tryd.ntmps17]) fun F hP hG hN hR => ?_
  rw [Tryd.ntmps17] at hN
  have hA := And.intro hN (And.intro hP (And.intro hG (And.intro hR.1 (And.intro hR.2.1 hR.2.2.1))))
  apply aw_regs [1, 2] [2]
  · simp (disch := omega) only [avR2, avA, datsOf, fillA, seval, ↓List.forall_mem_cons, Op.operands, hA, tiA]
    first | exact ⟨rfl, rfl⟩ | ((repeat' first | refine And.intro ?_ ?_ | intro _) <;> first | with_reducible rfl | assumption | omega | rfl | (rename_i hq; rw [hq]; rfl) | (simp_all; done))
  apply aw_regs [1, 2, 5] [2, 11]
  · simp (disch := omega) only [avR2, avA, datsOf, fillA, seval, ↓List.forall_mem_cons, Op.operands, hA, tiA]
    first | exact ⟨rfl, rfl⟩ | ((repeat' first | refine And.intro ?_ ?_ | intro _) <;> first | with_reducible rfl | assumption | omega | rfl | (rename_i hq; rw [hq]; rfl) | (simp_all; done))
  apply aw_seq
  apply aw_regs [1, 2, 5, 6] [2, 11]
  · simp (disch := omega) only [avR2, avA, datsOf, fillA, seval, ↓List.forall_mem_cons, Op.operands, hA, tiA]
    first | exact ⟨rfl, rfl⟩ | ((repeat' first | refine And.intro ?_ ?_ | intro _) <;> first | with_reducible rfl | assumption | omega | rfl | (rename_i hq; rw [hq]; rfl) | (simp_all; done))
  apply aw_block
  refine aw_loop (ι := {j : Nat // j ≤ c.items.length}) (fun ⟨j, hj⟩ => .of [(1, .dat (iD (quoM c n j))), (2, .ptr 2 3 0 0), (5, .osl 11 1 0 c.items.length), (6, .dat (iD (c.items.length - 1 - j)))] [(2, ⟨3, [.dat (caseD c)]⟩), (11, ⟨1, ((rowM c n j).map iD).map .dat⟩)]) (fun ⟨j, hj⟩ => c.items.length - j) (⟨0, by omega⟩) (Le.of ?_ ?_) fun ix => ?_
  · try simp (disch := omega) only [LeE, LeO, avA, datsOf, fillA, seval, ↓List.forall_mem_cons, Op.operands, rowM, quoM, manyM, hidx, set_row, List.map_replicate, AV.kill, Int.sub_zero]
    all_goals first | done | (repeat' apply And.intro) <;> first | rfl | omega | assumption | (simp only [AV.dat.injEq, Dat.int.injEq, true_and]; omega) | (congr <;> omega)
  · try simp (disch := omega) only [LeE, LeO, avA, datsOf, fillA, seval, ↓List.forall_mem_cons, Op.operands, rowM, quoM, manyM, hidx, set_row, List.map_replicate, AV.kill, Int.sub_zero]
    all_goals first | done | (repeat' apply And.intro) <;> first | rfl | omega | assumption | (simp only [AV.dat.injEq, Dat.int.injEq, true_and]; omega) | (congr <;> omega)
  obtain ⟨j, hj⟩ := ix
  dsimp only
  apply aw_seq
  apply aw_regs [1, 2, 5, 6, 17] [2, 11]
  · simp (disch := omega) only [avR2, avA, datsOf, fillA, seval, ↓List.forall_mem_cons, Op.operands, hA, tiA]
    first | exact ⟨rfl, rfl⟩ | ((repeat' first | refine And.intro ?_ ?_ | intro _) <;> first | with_reducible rfl | assumption | omega | rfl | (rename_i hq; rw [hq]; rfl) | (simp_all; done))
  refine aw_if _ rfl (fun hb => ?_) (fun hb => ?_) <;> (try simp only [pickB_true, pickB_false, Bool.false_or, Bool.false_and, Bool.true_and, decide_eq_true_eq, decide_eq_false_iff_not, Bool.or_eq_true, Bool.and_eq_true, Bool.or_eq_false_iff, Bool.and_eq_false_imp, Bool.not_eq_true, Bool.not_eq_false, Bool.not_eq_eq_eq_not, Bool.not_true, Bool.not_false, Int.not_lt, Int.not_le, beq_iff_eq, beq_eq_false_iff_ne, bne_iff_ne, bne_eq_false_iff_eq, ne_eq, Bool.true_eq_false, Bool.false_eq_true, if_false_left, if_true_left, Bool.not_eq_eq_eq_not, Bool.decide_eq_true, Classical.not_not] at hb)
  · skip
    have hrl := rowM_length c n j
    have hql := quoM_range (c := c) hn j
    have hq1 := quoM_range (c := c) hn (j + 1)
    have hm1 := tmod_range (b := manyM c (c.items.length - 1 - j)) (quoM_range (c := c) hn j)
    have hli := hs.nl (c.items.length - 1 - j) (by omega)
    have hmp := many_pos c (c.items.length - 1 - j)
    simp only [itemM, quoM, manyM] at hli hq1 hm1 hmp
    unfold I64 at hql hq1 hm1
    apply aw_skip
    apply q_seq
    apply aw_seq
    apply aw_block
    apply aw_regs [1, 2, 5, 6, 7] [2, 11]
    · simp (disch := omega) only [avR2, avA, datsOf, fillA, seval, ↓List.forall_mem_cons, Op.operands, hA, tiA, hidx]
      first | exact ⟨rfl, rfl⟩ | ((repeat' first | refine And.intro ?_ ?_ | intro _) <;> first | with_reducible rfl | assumption | omega | rfl | (rename_i hq; rw [hq]; rfl) | (simp_all; done))
    apply aw_regs [1, 2, 5, 6, 7] [2, 11]
    · simp (disch := omega) only [avR2, avA, datsOf, fillA, seval, ↓List.forall_mem_cons, Op.operands, hA, tiA, hidx]
      first | exact ⟨rfl, rfl⟩ | ((repeat' first | refine And.intro ?_ ?_ | intro _) <;> first | with_reducible rfl | assumption | omega | rfl | (rename_i hq; rw [hq]; rfl) | (simp_all; done))
    apply aw_reg [1, 2, 5, 6] [2, 11]
    · simp (disch := omega) only [avR2, avA, datsOf, fillA, seval, ↓List.forall_mem_cons, Op.operands, hA, tiA]
      first | exact ⟨rfl, rfl⟩ | ((repeat' first | refine And.intro ?_ ?_ | intro _) <;> first | with_reducible rfl | assumption | omega | rfl | (rename_i hq; rw [hq]; rfl) | (simp_all; done))
    apply q_block
    apply q_seq
    apply aw_reg [1, 2, 5, 6] [2, 11]
    · simp (disch := omega) only [avR2, avA, datsOf, fillA, seval, ↓List.forall_mem_cons, Op.operands, hA, tiA]
      first | exact ⟨rfl, rfl⟩ | ((repeat' first | refine And.intro ?_ ?_ | intro _) <;> first | with_reducible rfl | assumption | omega | rfl | (rename_i hq; rw [hq]; rfl) | (simp_all; done))
    refine q_loop (⟨j + 1, by omega⟩) (Le.of ?_ ?_) (by dsimp only; omega)
    · try simp (disch := omega) only [LeE, LeO, avA, datsOf, fillA, seval, ↓List.forall_mem_cons, Op.operands, rowM, quoM, manyM, hidx, set_row, List.map_replicate, AV.kill, Int.sub_zero]
      all_goals first | done | (repeat' apply And.intro) <;> first | rfl | omega | assumption | (simp only [AV.dat.injEq, Dat.int.injEq, true_and]; omega) | (congr <;> omega)
    · try simp (disch := omega) only [LeE, LeO, avA, datsOf, fillA, seval, ↓List.forall_mem_cons, Op.operands, rowM, quoM, manyM, hidx, set_row, List.map_replicate, AV.kill, Int.sub_zero]
      all_goals first | done | (repeat' apply And.intro) <;> first | rfl | omega | assumption | (simp only [AV.dat.injEq, Dat.int.injEq, true_and]; omega) | (congr <;> omega)
  · skip
    have hjj : j = c.items.length := by omega
    subst hjj
    have hrl := rowM_length c n c.items.length
    have htk : List.take c.items.length (rowM c n c.items.length) = rowM c n c.items.length := List.take_of_length_le (by omega)
    apply aw_exit
    apply q_exit_seq
    apply q_exit_loop
    apply q_exit
    apply q_seq
    apply aw_regs [4] [11]
    · simp (disch := omega) only [avR2, avA, datsOf, fillA, seval, ↓List.forall_mem_cons, Op.operands, hA, tiA]
      first | exact ⟨rfl, rfl⟩ | ((repeat' first | refine And.intro ?_ ?_ | intro _) <;> first | with_reducible rfl | assumption | omega | rfl | (rename_i hq; rw [hq]; rfl) | (simp_all; done))
    apply aw_ret
    simp only [QRet, QRetM, QRetX, retsX_nil, retsX_cons, objsAre, Tryd.results17, resA, mapO_nil, mapO_cons, vD_dat, vD_nils, vD_rp, vD_osl, vD_ptr, vD_agg, vD_fn, vL_dat, vL_app, viewL, avA, datsOf, fillA, seval, ↓List.forall_mem_cons, Op.operands, hP, hG, tiA]
    rw [if_pos (by omega), htk]
    rfl
    

end Go.Proofs.YthcfjdkflmkhbaaDoor

namespace Go.Proofs.YthcfjdkflmkhbaaDoor
open Go.Av


theorem own_ok (G) (c : CaseM) (hs : SzC c) : Gives Tryd.prog G 14 [caseD c] [caseD c] := by
  have hni := hs.ni
  have hnw := hs.nw
  refine gives_intro [] [] [10] Tryd.func14 rfl (by rfl) (by simp [Tryd.ntmps14]) fun F hP hG hN hR => ?_
  rw [Tryd.ntmps14] at hN
  have hA := And.intro hN (And.intro hP (And.intro hG (And.intro hR.1 (And.intro hR.2.1 hR.2.2.1))))
  apply aw_regs [1, 2] [1, 2, 7, 10, 51, 52, 56, 57]
  · simp (disch := omega) only [avR2, avA, datsOf, fillA, seval, ↓List.forall_mem_cons, Op.operands, hA, tiA]
    first | exact ⟨rfl, rfl⟩ | ((repeat' first | refine And.intro ?_ ?_ | intro _) <;> first | with_reducible rfl | assumption | omega | rfl | (rename_i hq; rw [hq]; rfl) | (simp_all; done))
  apply aw_rgds [1, 2, 3] [1, 2, 3, 7, 10, 51, 52, 56, 57] [0, 1, 2, 3, 4, 5, 6, 7, 8] [10, 3]
  · rw [hP]; kernel_rfl
  · exact hR
  · kernel_rfl
  · (repeat (apply PickL.cons; exact rfl)); exact PickL.nil _
  · simp (disch := omega) only [avR2, avA, datsOf, fillA, seval, ↓List.forall_mem_cons, Op.operands, hA, tiA]
    first | exact ⟨rfl, rfl⟩ | ((repeat' first | refine And.intro ?_ ?_ | intro _) <;> first | with_reducible rfl | assumption | omega | rfl | (rename_i hq; rw [hq]; rfl) | (simp_all; done))
  apply aw_seq
  apply aw_regs [1, 2, 3, 4] [1, 2, 3, 7, 10, 51, 52, 56, 57]
  · simp (disch := omega) only [avR2, avA, datsOf, fillA, seval, ↓List.forall_mem_cons, Op.operands, hA, tiA]
    first | exact ⟨rfl, rfl⟩ | ((repeat' first | refine And.intro ?_ ?_ | intro _) <;> first | with_reducible rfl | assumption | omega | rfl | (rename_i hq; rw [hq]; rfl) | (simp_all; done))
  apply aw_block
  refine aw_new0 57 1 (by omega) ?_
  refine aw_nilO 3 57 1 0 rfl rfl rfl rfl ?_
  refine aw_loop (ι := {i : Nat // i ≤ c.items.length}) (fun ⟨i, hi⟩ => .of [(1, .ptr 1 3 0 0), (2, .ptr 2 3 0 0), (3, .ptr 3 3 0 0), (4, .dat (iD i))] [(1, ⟨3, [.dat (caseD c)]⟩), (2, ⟨3, [.agg [.nils, .nils, .dat (iD 0)]]⟩), (3, ⟨3, [.agg [.osl 57 1 0 i, .osl 10 1 0 c.weights.length, .dat (iD c.room)]]⟩), (10, ⟨1, (c.weights.map iD).map .dat⟩), (57, ⟨1, ((preM c.items i).map osD).map .dat⟩)]) (fun ⟨i, hi⟩ => c.items.length - i) (⟨0, by omega⟩) (Le.of ?_ ?_) fun ix => ?_
  · try simp (disch := omega) only [LeE, LeO, avA, datsOf, fillA, seval, ↓List.forall_mem_cons, Op.operands, preM_zero, preM_succ, preM_all, preM_len]
    all_goals first | done | (repeat' apply And.intro) <;> first | rfl | omega | assumption | (simp only [AV.dat.injEq, Dat.int.injEq, true_and]; omega) | (congr <;> omega)
  · try simp (disch := omega) only [LeE, LeO, avA, datsOf, fillA, seval, ↓List.forall_mem_cons, Op.operands, preM_zero, preM_succ, preM_all, preM_len]
    all_goals first | done | (repeat' apply And.intro) <;> first | rfl | omega | assumption | (simp only [AV.dat.injEq, Dat.int.injEq, true_and]; omega) | (congr <;> omega)
  obtain ⟨i, hi⟩ := ix
  dsimp only
  apply aw_seq
  apply aw_regs [1, 2, 3, 4, 18] [1, 2, 3, 7, 10, 51, 52, 56, 57]
  · simp (disch := omega) only [avR2, avA, datsOf, fillA, seval, ↓List.forall_mem_cons, Op.operands, hA, tiA]
    first | exact ⟨rfl, rfl⟩ | ((repeat' first | refine And.intro ?_ ?_ | intro _) <;> first | with_reducible rfl | assumption | omega | rfl | (rename_i hq; rw [hq]; rfl) | (simp_all; done))
  refine aw_if _ rfl (fun hb => ?_) (fun hb => ?_) <;> (try simp only [pickB_true, pickB_false, Bool.false_or, Bool.false_and, Bool.true_and, decide_eq_true_eq, decide_eq_false_iff_not, Bool.or_eq_true, Bool.and_eq_true, Bool.or_eq_false_iff, Bool.and_eq_false_imp, Bool.not_eq_true, Bool.not_eq_false, Bool.not_eq_eq_eq_not, Bool.not_true, Bool.not_false, Int.not_lt, Int.not_le, beq_iff_eq, beq_eq_false_iff_ne, bne_iff_ne, bne_eq_false_iff_eq, ne_eq, Bool.true_eq_false, Bool.false_eq_true, if_false_left, if_true_left, Bool.not_eq_eq_eq_not, Bool.decide_eq_true, Classical.not_not] at hb)
  · skip
    have hli := hs.nl i (by omega)
    simp only [itemM] at hli
    have hpl := preM_len c.items i (by omega)
    apply aw_skip
    apply q_seq
    apply aw_seq
    apply aw_block
    apply aw_regs [1, 2, 3, 4, 5] [1, 2, 3, 7, 10, 51, 52, 56, 57]
    · simp (disch := omega) only [avR2, avA, datsOf, fillA, seval, ↓List.forall_mem_cons, Op.operands, hA, tiA]
      first | exact ⟨rfl, rfl⟩ | ((repeat' first | refine And.intro ?_ ?_ | intro _) <;> first | with_reducible rfl | assumption | omega | rfl | (rename_i hq; rw [hq]; rfl) | (simp_all; done))
    apply aw_seq
    apply aw_regs [1, 2, 3, 4, 5, 6] [1, 2, 3, 7, 10, 51, 52, 56, 57]
    · simp (disch := omega) only [avR2, avA, datsOf, fillA, seval, ↓List.forall_mem_cons, Op.operands, hA, tiA]
      first | exact ⟨rfl, rfl⟩ | ((repeat' first | refine And.intro ?_ ?_ | intro _) <;> first | with_reducible rfl | assumption | omega | rfl | (rename_i hq; rw [hq]; rfl) | (simp_all; done))
    apply aw_block
    refine aw_new0 52 2 (by omega) ?_
    refine aw_nilE 5 52 2 rfl rfl ?_
    refine aw_loop (ι := {k : Nat // k ≤ (c.items.getD i default).length}) (fun ⟨k, hk⟩ => .of [(1, .ptr 1 3 0 0), (2, .ptr 2 3 0 0), (3, .ptr 3 3 0 0), (4, .dat (iD i)), (5, .osl 52 2 0 k), (6, .dat (iD k))] [(1, ⟨3, [.dat (caseD c)]⟩), (2, ⟨3, [.agg [.nils, .nils, .dat (iD 0)]]⟩), (3, ⟨3, [.agg [.osl 57 1 0 i, .osl 10 1 0 c.weights.length, .dat (iD c.room)]]⟩), (10, ⟨1, (c.weights.map iD).map .dat⟩), (57, ⟨1, ((preM c.items i).map osD).map .dat⟩), (52, ⟨2, ((preM (c.items.getD i default) k).map oD).map .dat⟩)]) (fun ⟨k, hk⟩ => (c.items.getD i default).length - k) (⟨0, by omega⟩) (Le.of ?_ ?_) fun ix => ?_
    · try simp (disch := omega) only [LeE, LeO, avA, datsOf, fillA, seval, ↓List.forall_mem_cons, Op.operands, preM_zero, preM_succ, preM_all, preM_len]
      all_goals first | done | (repeat' apply And.intro) <;> first | rfl | omega | assumption | (simp only [AV.dat.injEq, Dat.int.injEq, true_and]; omega) | (congr <;> omega)
    · try simp (disch := omega) only [LeE, LeO, avA, datsOf, fillA, seval, ↓List.forall_mem_cons, Op.operands, preM_zero, preM_succ, preM_all, preM_len]
      all_goals first | done | (repeat' apply And.intro) <;> first | rfl | omega | assumption | (simp only [AV.dat.injEq, Dat.int.injEq, true_and]; omega) | (congr <;> omega)
    obtain ⟨k, hk⟩ := ix
    dsimp only
    apply aw_seq
    apply aw_regs [1, 2, 3, 4, 5, 6, 28] [1, 2, 3, 7, 10, 51, 52, 56, 57]
    · simp (disch := omega) only [avR2, avA, datsOf, fillA, seval, ↓List.forall_mem_cons, Op.operands, hA, tiA]
      first | exact ⟨rfl, rfl⟩ | ((repeat' first | refine And.intro ?_ ?_ | intro _) <;> first | with_reducible rfl | assumption | omega | rfl | (rename_i hq; rw [hq]; rfl) | (simp_all; done))
    refine aw_if _ rfl (fun hb => ?_) (fun hb => ?_) <;> (try simp only [pickB_true, pickB_false, Bool.false_or, Bool.false_and, Bool.true_and, decide_eq_true_eq, decide_eq_false_iff_not, Bool.or_eq_true, Bool.and_eq_true, Bool.or_eq_false_iff, Bool.and_eq_false_imp, Bool.not_eq_true, Bool.not_eq_false, Bool.not_eq_eq_eq_not, Bool.not_true, Bool.not_false, Int.not_lt, Int.not_le, beq_iff_eq, beq_eq_false_iff_ne, bne_iff_ne, bne_eq_false_iff_eq, ne_eq, Bool.true_eq_false, Bool.false_eq_true, if_false_left, if_true_left, Bool.not_eq_eq_eq_not, Bool.decide_eq_true, Classical.not_not] at hb)
    · skip
      have hpk := preM_len (c.items.getD i default) k (by omega)
      apply aw_skip
      apply q_seq
      apply aw_seq
      apply aw_block
      apply aw_rgd [1, 2, 3, 4, 5, 6] [1, 2, 3, 7, 10, 51, 52, 56, 57] [0, 1, 2, 3, 4, 5, 6, 7, 8, 9, 10, 11, 12, 13, 14, 15, 16, 17, 18, 19, 20, 21, 22] []
      · rw [hP]; kernel_rfl
      · exact hR
      · kernel_rfl
      · (repeat (apply PickL.cons; exact rfl)); exact PickL.nil _
      · simp (maxSteps := 2000000) (disch := omega) only [avR2, avA, datsOf, fillA, seval, ↓List.forall_mem_cons, Op.operands, hA, tiA, preM_len]
        first | exact ⟨rfl, rfl⟩ | ((repeat' first | refine And.intro ?_ ?_ | intro _) <;> first | with_reducible rfl | assumption | omega | rfl | (rename_i hq; rw [hq]; rfl) | (simp_all; done))
      apply q_block
      apply q_seq
      apply aw_reg [1, 2, 3, 4, 5, 6] [1, 2, 3, 7, 10, 51, 52, 56, 57]
      · simp (disch := omega) only [avR2, avA, datsOf, fillA, seval, ↓List.forall_mem_cons, Op.operands, hA, tiA]
        first | exact ⟨rfl, rfl⟩ | ((repeat' first | refine And.intro ?_ ?_ | intro _) <;> first | with_reducible rfl | assumption | omega | rfl | (rename_i hq; rw [hq]; rfl) | (simp_all; done))
      refine q_loop (⟨k + 1, by omega⟩) (Le.of ?_ ?_) (by dsimp only; omega)
      · try simp (disch := omega) only [LeE, LeO, avA, datsOf, fillA, seval, ↓List.forall_mem_cons, Op.operands, preM_zero, preM_succ, preM_all, preM_len]
        all_goals first | done | (repeat' apply And.intro) <;> first | rfl | omega | assumption | (simp only [AV.dat.injEq, Dat.int.injEq, true_and]; omega) | (congr <;> omega)
      · try simp (disch := omega) only [LeE, LeO, avA, datsOf, fillA, seval, ↓List.forall_mem_cons, Op.operands, preM_zero, preM_succ, preM_all, preM_len]
        all_goals first | done | (repeat' apply And.intro) <;> first | rfl | omega | assumption | (simp only [AV.dat.injEq, Dat.int.injEq, true_and]; omega) | (congr <;> omega)
    · skip
      have hkk : k = (c.items.getD i default).length := by omega
      subst hkk
      refine aw_frz 52 hR.2.2.2 rfl (datE_map _) ?_
      apply aw_exit
      apply q_exit_seq
      apply q_exit_loop
      apply q_exit
      apply q_seq
      apply aw_reg [1, 2, 3, 4] [1, 2, 3, 7, 10, 51, 52, 56, 57]
      · simp (disch := omega) only [avR2, avA, datsOf, fillA, seval, ↓List.forall_mem_cons, Op.operands, hA, tiA, preM_len, preM_all]
        first | exact ⟨rfl, rfl⟩ | ((repeat' first | refine And.intro ?_ ?_ | intro _) <;> first | with_reducible rfl | assumption | omega | rfl | (rename_i hq; rw [hq]; rfl) | (simp_all; done))
      apply q_block
      apply q_seq
      apply aw_reg [1, 2, 3, 4] [1, 2, 3, 7, 10, 51, 52, 56, 57]
      · simp (disch := omega) only [avR2, avA, datsOf, fillA, seval, ↓List.forall_mem_cons, Op.operands, hA, tiA]
        first | exact ⟨rfl, rfl⟩ | ((repeat' first | refine And.intro ?_ ?_ | intro _) <;> first | with_reducible rfl | assumption | omega | rfl | (rename_i hq; rw [hq]; rfl) | (simp_all; done))
      refine q_loop (⟨i + 1, by omega⟩) (Le.of ?_ ?_) (by dsimp only; omega)
      · try simp (disch := omega) only [LeE, LeO, avA, datsOf, fillA, seval, ↓List.forall_mem_cons, Op.operands, preM_zero, preM_succ, preM_all, preM_len]
        all_goals first | done | (repeat' apply And.intro) <;> first | rfl | omega | assumption | (simp only [AV.dat.injEq, Dat.int.injEq, true_and]; omega) | (congr <;> omega)
      · try simp (disch := omega) only [LeE, LeO, avA, datsOf, fillA, seval, ↓List.forall_mem_cons, Op.operands, preM_zero, preM_succ, preM_all, preM_len]
        all_goals first | done | (repeat' apply And.intro) <;> first | rfl | omega | assumption | (simp only [AV.dat.injEq, Dat.int.injEq, true_and]; omega) | (congr <;> omega)
  · skip
    have hii : i = c.items.length := by omega
    subst hii
    apply aw_exit
    apply q_exit_seq
    apply q_exit_loop
    apply q_exit
    apply q_seq
    apply aw_regs [2] [2, 7, 10, 51, 52, 56, 57]
    · simp (disch := omega) only [avR2, avA, datsOf, fillA, seval, ↓List.forall_mem_cons, Op.operands, hA, tiA]
      first | exact ⟨rfl, rfl⟩ | ((repeat' first | refine And.intro ?_ ?_ | intro _) <;> first | with_reducible rfl | assumption | omega | rfl | (rename_i hq; rw [hq]; rfl) | (simp_all; done))
    apply aw_ret
    simp only [QRet, QRetM, QRetX, retsX_nil, retsX_cons, objsAre, Tryd.results14, resA, mapO_nil, mapO_cons, vD_dat, vD_nils, vD_rp, vD_osl, vD_ptr, vD_agg, vD_fn, vL_dat, vL_app, viewL, avA, datsOf, fillA, seval, ↓List.forall_mem_cons, Op.operands, hP, hG, tiA]
    simp [preM_all]
    

end Go.Proofs.YthcfjdkflmkhbaaDoor

namespace Go.Proofs.YthcfjdkflmkhbaaDoor
open Go.Av

section
variable (l : List Int)
def mN (i k : Nat) : Int := atM l (3 + 5 * (i : Int) + (k : Int)) 4096
def mO (i k : Nat) : Int × Int := ((mN l i k).tmod 5, ((mN l i k).tdiv 5).tmod 9)
def mK (i : Nat) : Int := 1 + atM l (2 + 5 * (i : Int)) 4
def mL (i : Nat) : Nat → Int
  | 0 => 64
  | k + 1 => if (mN l i k).tmod 5 < mL i k then (mN l i k).tmod 5 else mL i k
def mRow (i k : Nat) : List (Int × Int) := (List.range k).map (mO l i)
def mItem (i : Nat) : List (Int × Int) := mRow l i (mK l i).toNat
def mF : Nat → Int
  | 0 => 0
  | i + 1 => mF i + mL l i (mK l i).toNat
def mW (i : Nat) : Int := [1, 2, 3, 0, 10, 1].getD (atM l (7 + 5 * (i : Int)) 6).toNat default
def mItems (i : Nat) : List (List (Int × Int)) := (List.range i).map (mItem l)
def mWs (i : Nat) : List Int := (List.range i).map (mW l)
def mCnt : Int := atM l 0 7
def mRoom : Int := if mF l (mCnt l).toNat + atM l 1 16 - 2 < 0 then 0 else mF l (mCnt l).toNat + atM l 1 16 - 2
def madeM : CaseM := ⟨mItems l (mCnt l).toNat, mWs l (mCnt l).toNat, mRoom l⟩

theorem mN_range (i k : Nat) : 0 ≤ mN l i k ∧ mN l i k < 4096 := atM_range (by omega)
theorem mK_range (i : Nat) : 1 ≤ mK l i ∧ mK l i ≤ 4 := by
  have := atM_range (l := l) (i := 2 + 5 * (i : Int)) (m := 4) (by omega)
  unfold mK; omega
theorem mCnt_range : 0 ≤ mCnt l ∧ mCnt l ≤ 6 := by
  have := atM_range (l := l) (i := 0) (m := 7) (by omega)
  unfold mCnt; omega
theorem mO_range (i k : Nat) : (0 ≤ (mN l i k).tmod 5 ∧ (mN l i k).tmod 5 < 5) ∧ (0 ≤ (mN l i k).tdiv 5 ∧ (mN l i k).tdiv 5 < 820) ∧ 0 ≤ ((mN l i k).tdiv 5).tmod 9 ∧ ((mN l i k).tdiv 5).tmod 9 < 9 := by
  have h := mN_range l i k
  rw [Int.tmod_eq_emod_of_nonneg h.1, Int.tdiv_eq_ediv_of_nonneg h.1, Int.tmod_eq_emod_of_nonneg (by omega)]
  omega
theorem mL_range (i : Nat) : ∀ k, 0 ≤ mL l i k ∧ mL l i k ≤ 64
  | 0 => by simp [mL]
  | k + 1 => by
    have h := mL_range i k
    have ho := mO_range l i k
    simp only [mL]
    split <;> omega
theorem mF_range : ∀ i, 0 ≤ mF l i ∧ mF l i ≤ 64 * (i : Int)
  | 0 => by simp [mF]
  | i + 1 => by
    have h := mF_range i
    have ho := mL_range l i (mK l i).toNat
    simp only [mF]
    omega
theorem mRow_len (i k : Nat) : (mRow l i k).length = k := by simp [mRow]
theorem mItems_len (i : Nat) : (mItems l i).length = i := by simp [mItems]
theorem mWs_len (i : Nat) : (mWs l i).length = i := by simp [mWs]
theorem mRow_zero (i : Nat) : mRow l i 0 = [] := rfl
theorem mItems_zero : mItems l 0 = [] := rfl
theorem mWs_zero : mWs l 0 = [] := rfl
theorem mRow_succ (i k : Nat) : mRow l i (k + 1) = mRow l i k ++ [mO l i k] := by simp [mRow, List.range_succ]
theorem mItems_succ (i : Nat) : mItems l (i + 1) = mItems l i ++ [mItem l i] := by simp [mItems, List.range_succ]
theorem mWs_succ (i : Nat) : mWs l (i + 1) = mWs l i ++ [mW l i] := by simp [mWs, List.range_succ]
theorem at6 (i : Nat) : 0 ≤ atM l (7 + 5 * (i : Int)) 6 ∧ atM l (7 + 5 * (i : Int)) 6 < 6 := atM_range (by omega)
theorem mW_range (i : Nat) : 0 ≤ mW l i ∧ mW l i ≤ 10 := by
  have h := at6 l i
  have h2 : (atM l (7 + 5 * (i : Int)) 6).toNat < 6 := by omega
  unfold mW
  generalize (atM l (7 + 5 * (i : Int)) 6).toNat = n at h2
  match n, h2 with
  | 0, _ | 1, _ | 2, _ | 3, _ | 4, _ | 5, _ => decide
theorem getD_map_range {α : Type} [Inhabited α] (f : Nat → α) (n i : Nat) (h : i < n) : ((List.range n).map f).getD i default = f i := by
  simp [List.getD_eq_getElem?_getD, h]

theorem madeM_ok : OkC (madeM l) := by
  have hc := mCnt_range l
  have hlen : (madeM l).items.length = (mCnt l).toNat := mItems_len l _
  have hit : ∀ i < (mCnt l).toNat, itemM (madeM l) i = mItem l i := fun i hi => getD_map_range _ _ _ hi
  have hwt : ∀ i < (mCnt l).toNat, weightM (madeM l) i = mW l i := fun i hi => getD_map_range _ _ _ hi
  refine ⟨by omega, fun i hi => ?_, fun i hi => ?_, by rw [hlen]; exact mWs_len l _, ?_, fun i hi => ?_, fun i hi o ho => ?_⟩
  · rw [hit i (by omega), mItem, mRow_len]
    have := mK_range l i; omega
  · rw [hit i (by omega), mItem, mRow_len]
    have := mK_range l i; omega
  · have h1 := mF_range l (mCnt l).toNat
    have h2 := atM_range (l := l) (i := 1) (m := 16) (by omega)
    show 0 ≤ mRoom l ∧ mRoom l ≤ 4096
    unfold mRoom
    split <;> omega
  · rw [hwt i (by omega)]
    have := mW_range l i; omega
  · rw [hit i (by omega), mItem, mRow, List.mem_map] at ho
    obtain ⟨k, _, rfl⟩ := ho
    have := mO_range l i k
    unfold okO mO
    simp only
    omega
theorem madeM_len : (madeM l).items.length ≤ 6 := by
  have hc := mCnt_range l
  have hlen : (madeM l).items.length = (mCnt l).toNat := mItems_len l _
  omega
end

end Go.Proofs.YthcfjdkflmkhbaaDoor

namespace Go.Proofs.YthcfjdkflmkhbaaDoor
open Go.Av

theorem lit6 (l : List Int) (i : Nat) : (([Dat.int .i64 1, Dat.int .i64 2, Dat.int .i64 3, Dat.int .i64 0, Dat.int .i64 10, Dat.int .i64 1] : List Dat)[(atM l (7 + 5 * (i : Int)) 6).toNat]?).getD Dat.nilp = .int .i64 (mW l i) := by
  have h := at6 l i
  exact nth_map (Dat.int .i64) [1, 2, 3, 0, 10, 1] _ _ (by simp; omega)


theorem made_ok (G) (l : List Int) (hl : ∀ x ∈ l, I64 x) : Gives Tryd.prog G 10 [isD l] [caseD (madeM l)] := by
  have hcr := mCnt_range l
  have i7 : I64 7 := by unfold I64; omega
  have i4 : I64 4 := by unfold I64; omega
  have i4096 : I64 4096 := by unfold I64; omega
  have i6 : I64 6 := by unfold I64; omega
  have i16 : I64 16 := by unfold I64; omega
  refine gives_intro [] [] [] Tryd.func10 rfl (by rfl) (by simp [Tryd.ntmps10]) fun F hP hG hN hR => ?_
  rw [Tryd.ntmps10] at hN
  have hA := And.intro hN (And.intro hP (And.intro hG (And.intro hR.1 (And.intro hR.2.1 hR.2.2.1))))
  apply aw_regs [0, 2] [2, 40, 41, 52, 53, 65, 66]
  · simp (disch := omega) only [avR2, avA, datsOf, fillA, seval, ↓List.forall_mem_cons, Op.operands, hA, tiA]
    first | exact ⟨rfl, rfl⟩ | ((repeat' first | refine And.intro ?_ ?_ | intro _) <;> first | with_reducible rfl | assumption | omega | rfl | (rename_i hq; rw [hq]; rfl) | (simp_all; done))
  apply aw_regs [0, 2, 3] [2, 3, 40, 41, 52, 53, 65, 66]
  · simp (disch := omega) only [avR2, avA, datsOf, fillA, seval, ↓List.forall_mem_cons, Op.operands, hA, tiA]
    first | exact ⟨rfl, rfl⟩ | ((repeat' first | refine And.intro ?_ ?_ | intro _) <;> first | with_reducible rfl | assumption | omega | rfl | (rename_i hq; rw [hq]; rfl) | (simp_all; done))
  apply aw_regs [0, 2, 3, 4] [2, 3, 40, 41, 52, 53, 65, 66]
  · simp (disch := omega) only [avR2, avA, datsOf, fillA, seval, ↓List.forall_mem_cons, Op.operands, hA, tiA]
    first | exact ⟨rfl, rfl⟩ | ((repeat' first | refine And.intro ?_ ?_ | intro _) <;> first | with_reducible rfl | assumption | omega | rfl | (rename_i hq; rw [hq]; rfl) | (simp_all; done))
  apply aw_seq
  apply aw_regs [0, 2, 3, 4, 5] [2, 3, 40, 41, 52, 53, 65, 66]
  · simp (disch := omega) only [avR2, avA, datsOf, fillA, seval, ↓List.forall_mem_cons, Op.operands, hA, tiA]
    first | exact ⟨rfl, rfl⟩ | ((repeat' first | refine And.intro ?_ ?_ | intro _) <;> first | with_reducible rfl | assumption | omega | rfl | (rename_i hq; rw [hq]; rfl) | (simp_all; done))
  apply aw_block
  refine aw_new0 53 1 (by omega) ?_
  refine aw_nilO 3 53 1 0 rfl rfl rfl rfl ?_
  refine aw_new0 66 1 (by omega) ?_
  refine aw_nilO 3 66 1 1 rfl rfl rfl rfl ?_
  refine aw_loop (ι := {i : Nat // (i : Int) ≤ mCnt l}) (fun ⟨i, hi⟩ => .of [(0, .dat (isD l)), (2, .ptr 2 3 0 0), (3, .ptr 3 3 0 0), (4, .dat (iD (mF l i))), (5, .dat (iD i))] [(2, ⟨3, [.agg [.nils, .nils, .dat (iD 0)]]⟩), (3, ⟨3, [.agg [.osl 53 1 0 i, .osl 66 1 0 i, .dat (iD 0)]]⟩), (53, ⟨1, ((mItems l i).map osD).map .dat⟩), (66, ⟨1, ((mWs l i).map iD).map .dat⟩)]) (fun ⟨i, hi⟩ => (mCnt l).toNat - i) (⟨0, by simp; omega⟩) (Le.of ?_ ?_) fun ix => ?_
  · try simp (disch := omega) only [LeE, LeO, avA, datsOf, fillA, seval, ↓List.forall_mem_cons, Op.operands, mItems_zero, mWs_zero, mItems_succ, mWs_succ, mF, mItems_len, mWs_len]
    all_goals first | done | (repeat' apply And.intro) <;> first | rfl | omega | assumption | (simp only [AV.dat.injEq, Dat.int.injEq, true_and]; omega) | (congr <;> omega)
  · try simp (disch := omega) only [LeE, LeO, avA, datsOf, fillA, seval, ↓List.forall_mem_cons, Op.operands, mItems_zero, mWs_zero, mItems_succ, mWs_succ, mF, mItems_len, mWs_len]
    all_goals first | done | (repeat' apply And.intro) <;> first | rfl | omega | assumption | (simp only [AV.dat.injEq, Dat.int.injEq, true_and]; omega) | (congr <;> omega)
  obtain ⟨i, hi⟩ := ix
  dsimp only
  apply aw_seq
  apply aw_regs [0, 2, 3, 4, 5, 13] [2, 3, 40, 41, 52, 53, 65, 66]
  · simp (disch := omega) only [avR2, avA, datsOf, fillA, seval, ↓List.forall_mem_cons, Op.operands, hA, tiA]
    (repeat' refine And.intro ?_ ?_) <;> try first | omega | assumption | with_reducible rfl | exact rfl | (intro hside; (repeat' refine And.intro ?_ ?_) <;> first | exact hside | omega | (rw [hside]; rfl) | (simp_all; done))
    refine CallC.use (gvF hP hG (at_ok G l 0 7 hl (by omega) i7)) rfl ?_
    try simp (maxSteps := 2000000) (disch := omega) only [avR2, avA, datsOf, fillA, seval, ↓List.forall_mem_cons, Op.operands, hA, tiA]
    first | exact ⟨rfl, rfl⟩ | ((repeat' first | refine And.intro ?_ ?_ | intro _) <;> first | with_reducible rfl | assumption | omega | rfl | (rename_i hq; rw [hq]; rfl) | (simp_all; done))
  refine aw_if _ rfl (fun hb => ?_) (fun hb => ?_) <;> (try simp only [pickB_true, pickB_false, Bool.false_or, Bool.false_and, Bool.true_and, decide_eq_true_eq, decide_eq_false_iff_not, Bool.or_eq_true, Bool.and_eq_true, Bool.or_eq_false_iff, Bool.and_eq_false_imp, Bool.not_eq_true, Bool.not_eq_false, Bool.not_eq_eq_eq_not, Bool.not_true, Bool.not_false, Int.not_lt, Int.not_le, beq_iff_eq, beq_eq_false_iff_ne, bne_iff_ne, bne_eq_false_iff_eq, ne_eq, Bool.true_eq_false, Bool.false_eq_true, if_false_left, if_true_left, Bool.not_eq_eq_eq_not, Bool.decide_eq_true, Classical.not_not] at hb)
  · skip
    have hic : (i : Int) < mCnt l := hb
    have hil := mItems_len l i
    have hwl := mWs_len l i
    have hkr := mK_range l i
    have hfr := mF_range l i
    apply aw_skip
    apply q_seq
    apply aw_seq
    apply aw_block
    apply aw_regs [0, 2, 3, 4, 5, 6] [2, 3, 40, 41, 52, 53, 65, 66]
    · simp (disch := omega) only [avR2, avA, datsOf, fillA, seval, ↓List.forall_mem_cons, Op.operands, hA, tiA]
      first | exact ⟨rfl, rfl⟩ | ((repeat' first | refine And.intro ?_ ?_ | intro _) <;> first | with_reducible rfl | assumption | omega | rfl | (rename_i hq; rw [hq]; rfl) | (simp_all; done))
    apply aw_regs [0, 2, 3, 4, 5, 6, 7] [2, 3, 40, 41, 52, 53, 65, 66]
    · simp (disch := omega) only [avR2, avA, datsOf, fillA, seval, ↓List.forall_mem_cons, Op.operands, hA, tiA]
      first | exact ⟨rfl, rfl⟩ | ((repeat' first | refine And.intro ?_ ?_ | intro _) <;> first | with_reducible rfl | assumption | omega | rfl | (rename_i hq; rw [hq]; rfl) | (simp_all; done))
    apply aw_seq
    apply aw_regs [0, 2, 3, 4, 5, 6, 7, 8] [2, 3, 40, 41, 52, 53, 65, 66]
    · simp (disch := omega) only [avR2, avA, datsOf, fillA, seval, ↓List.forall_mem_cons, Op.operands, hA, tiA]
      first | exact ⟨rfl, rfl⟩ | ((repeat' first | refine And.intro ?_ ?_ | intro _) <;> first | with_reducible rfl | assumption | omega | rfl | (rename_i hq; rw [hq]; rfl) | (simp_all; done))
    apply aw_block
    refine aw_new0 41 2 (by omega) ?_
    refine aw_nilE 6 41 2 rfl rfl ?_
    refine aw_loop (ι := {k : Nat // (k : Int) ≤ mK l i}) (fun ⟨k, hk⟩ => .of [(0, .dat (isD l)), (2, .ptr 2 3 0 0), (3, .ptr 3 3 0 0), (4, .dat (iD (mF l i))), (5, .dat (iD i)), (6, .osl 41 2 0 k), (7, .dat (iD (mL l i k))), (8, .dat (iD k))] [(2, ⟨3, [.agg [.nils, .nils, .dat (iD 0)]]⟩), (3, ⟨3, [.agg [.osl 53 1 0 i, .osl 66 1 0 i, .dat (iD 0)]]⟩), (53, ⟨1, ((mItems l i).map osD).map .dat⟩), (66, ⟨1, ((mWs l i).map iD).map .dat⟩), (41, ⟨2, ((mRow l i k).map oD).map .dat⟩)]) (fun ⟨k, hk⟩ => (mK l i).toNat - k) (⟨0, by simp; omega⟩) (Le.of ?_ ?_) fun ix => ?_
    · try simp (disch := omega) only [LeE, LeO, avA, datsOf, fillA, seval, ↓List.forall_mem_cons, Op.operands, mRow_zero, mRow_succ, mO, mL, mN, mRow_len]
      all_goals first | done | (repeat' apply And.intro) <;> first | rfl | omega | assumption | (simp only [AV.dat.injEq, Dat.int.injEq, true_and]; omega) | (congr <;> omega)
    · try simp (disch := omega) only [LeE, LeO, avA, datsOf, fillA, seval, ↓List.forall_mem_cons, Op.operands, mRow_zero, mRow_succ, mO, mL, mN, mRow_len]
      all_goals first | done | (repeat' apply And.intro) <;> first | rfl | omega | assumption | (simp only [AV.dat.injEq, Dat.int.injEq, true_and]; omega) | (congr <;> omega)
    obtain ⟨k, hk⟩ := ix
    dsimp only
    have ha4 := atM_range (l := l) (i := 2 + 5 * (i : Int)) (m := 4) (by omega)
    apply aw_seq
    apply aw_regs [0, 2, 3, 4, 5, 6, 7, 8, 23] [2, 3, 40, 41, 52, 53, 65, 66]
    · simp (disch := omega) only [avR2, avA, datsOf, fillA, seval, ↓List.forall_mem_cons, Op.operands, hA, tiA]
      (repeat' refine And.intro ?_ ?_) <;> try first | omega | assumption | with_reducible rfl | exact rfl | (intro hside; (repeat' refine And.intro ?_ ?_) <;> first | exact hside | omega | (rw [hside]; rfl) | (simp_all; done))
      refine CallC.use (gvF hP hG (at_ok G l (2 + 5 * (i : Int)) 4 hl (by omega) i4)) rfl ?_
      try simp (maxSteps := 2000000) (disch := omega) only [avR2, avA, datsOf, fillA, seval, ↓List.forall_mem_cons, Op.operands, hA, tiA]
      first | exact ⟨rfl, rfl⟩ | ((repeat' first | refine And.intro ?_ ?_ | intro _) <;> first | with_reducible rfl | assumption | omega | rfl | (rename_i hq; rw [hq]; rfl) | (simp_all; done))
    refine aw_if _ rfl (fun hb => ?_) (fun hb => ?_) <;> (try simp only [pickB_true, pickB_false, Bool.false_or, Bool.false_and, Bool.true_and, decide_eq_true_eq, decide_eq_false_iff_not, Bool.or_eq_true, Bool.and_eq_true, Bool.or_eq_false_iff, Bool.and_eq_false_imp, Bool.not_eq_true, Bool.not_eq_false, Bool.not_eq_eq_eq_not, Bool.not_true, Bool.not_false, Int.not_lt, Int.not_le, beq_iff_eq, beq_eq_false_iff_ne, bne_iff_ne, bne_eq_false_iff_eq, ne_eq, Bool.true_eq_false, Bool.false_eq_true, if_false_left, if_true_left, Bool.not_eq_eq_eq_not, Bool.decide_eq_true, Classical.not_not] at hb)
    · skip
      have hkk : (k : Int) < mK l i := hb
      have hrl := mRow_len l i k
      have hnr := mN_range l i k
      have hor := mO_range l i k
      have hlr := mL_range l i k
      simp only [mN] at hnr hor
      apply aw_skip
      apply q_seq
      apply aw_seq
      apply aw_block
      apply aw_regs [0, 2, 3, 4, 5, 6, 7, 8, 9] [2, 3, 40, 41, 52, 53, 65, 66]
      · simp (disch := omega) only [avR2, avA, datsOf, fillA, seval, ↓List.forall_mem_cons, Op.operands, hA, tiA]
        (repeat' refine And.intro ?_ ?_) <;> try first | omega | assumption | with_reducible rfl | exact rfl | (intro hside; (repeat' refine And.intro ?_ ?_) <;> first | exact hside | omega | (rw [hside]; rfl) | (simp_all; done))
        refine CallC.use (gvF hP hG (at_ok G l (3 + 5 * (i : Int) + (k : Int)) 4096 hl (by omega) i4096)) rfl ?_
        try simp (maxSteps := 2000000) (disch := omega) only [avR2, avA, datsOf, fillA, seval, ↓List.forall_mem_cons, Op.operands, hA, tiA]
        first | exact ⟨rfl, rfl⟩ | ((repeat' first | refine And.intro ?_ ?_ | intro _) <;> first | with_reducible rfl | assumption | omega | rfl | (rename_i hq; rw [hq]; rfl) | (simp_all; done))
      apply aw_regs [0, 2, 3, 4, 5, 6, 7, 8, 9] [2, 3, 40, 41, 52, 53, 65, 66]
      · simp (disch := omega) only [avR2, avA, datsOf, fillA, seval, ↓List.forall_mem_cons, Op.operands, hA, tiA, mRow_len]
        first | exact ⟨rfl, rfl⟩ | ((repeat' first | refine And.intro ?_ ?_ | intro _) <;> first | with_reducible rfl | assumption | omega | rfl | (rename_i hq; rw [hq]; rfl) | (simp_all; done))
      apply aw_reg [0, 2, 3, 4, 5, 6, 7, 8] [2, 3, 40, 41, 52, 53, 65, 66]
      · simp (disch := omega) only [avR2, avA, datsOf, fillA, seval, ↓List.forall_mem_cons, Op.operands, hA, tiA]
        first | exact ⟨rfl, rfl⟩ | ((repeat' first | refine And.intro ?_ ?_ | intro _) <;> first | with_reducible rfl | assumption | omega | rfl | (rename_i hq; rw [hq]; rfl) | (simp_all; done))
      apply q_block
      apply q_seq
      apply aw_reg [0, 2, 3, 4, 5, 6, 7, 8] [2, 3, 40, 41, 52, 53, 65, 66]
      · simp (disch := omega) only [avR2, avA, datsOf, fillA, seval, ↓List.forall_mem_cons, Op.operands, hA, tiA]
        first | exact ⟨rfl, rfl⟩ | ((repeat' first | refine And.intro ?_ ?_ | intro _) <;> first | with_reducible rfl | assumption | omega | rfl | (rename_i hq; rw [hq]; rfl) | (simp_all; done))
      refine q_loop (⟨k + 1, by omega⟩) (Le.of ?_ ?_) (by dsimp only; omega)
      · try simp (disch := omega) only [LeE, LeO, avA, datsOf, fillA, seval, ↓List.forall_mem_cons, Op.operands, mRow_zero, mRow_succ, mO, mL, mN, mRow_len]
        all_goals first | done | (repeat' apply And.intro) <;> first | rfl | omega | assumption | (simp only [AV.dat.injEq, Dat.int.injEq, true_and]; omega) | (congr <;> omega)
      · try simp (disch := omega) only [LeE, LeO, avA, datsOf, fillA, seval, ↓List.forall_mem_cons, Op.operands, mRow_zero, mRow_succ, mO, mL, mN, mRow_len]
        all_goals first | done | (repeat' apply And.intro) <;> first | rfl | omega | assumption | (simp only [AV.dat.injEq, Dat.int.injEq, true_and]; omega) | (congr <;> omega)
    · skip
      have hkk : k = (mK l i).toNat := by
        have : mK l i ≤ (k : Int) := hb
        omega
      subst hkk
      have hrl := mRow_len l i (mK l i).toNat
      have hlr := mL_range l i (mK l i).toNat
      have h6 := at6 l i
      refine aw_frz 41 hR.2.2.2 rfl (datE_map _) ?_
      apply aw_exit
      apply q_exit_seq
      apply q_exit_loop
      apply q_exit
      apply q_seq
      apply aw_regs [0, 2, 3, 4, 5, 6] [2, 3, 40, 41, 52, 53, 65, 66]
      · simp (disch := omega) only [avR2, avA, datsOf, fillA, seval, ↓List.forall_mem_cons, Op.operands, hA, tiA, mRow_len]
        first | exact ⟨rfl, rfl⟩ | ((repeat' first | refine And.intro ?_ ?_ | intro _) <;> first | with_reducible rfl | assumption | omega | rfl | (rename_i hq; rw [hq]; rfl) | (simp_all; done))
      apply aw_regs [0, 2, 3, 4, 5] [2, 3, 40, 41, 52, 53, 65, 66]
      · simp (disch := omega) only [avR2, avA, datsOf, fillA, seval, ↓List.forall_mem_cons, Op.operands, hA, tiA, mItems_len]
        first | exact ⟨rfl, rfl⟩ | ((repeat' first | refine And.intro ?_ ?_ | intro _) <;> first | with_reducible rfl | assumption | omega | rfl | (rename_i hq; rw [hq]; rfl) | (simp_all; done))
      apply aw_rgd [0, 2, 3, 4, 5] [2, 3, 40, 41, 52, 53, 65, 66] [0, 1, 2, 3, 4, 5, 6, 7, 8, 9, 10, 11, 12, 13] []
      · rw [hP]; kernel_rfl
      · exact hR
      · kernel_rfl
      · (repeat (apply PickL.cons; exact rfl)); exact PickL.nil _
      · simp (maxSteps := 2000000) (disch := omega) only [avR2, avA, datsOf, fillA, seval, ↓List.forall_mem_cons, Op.operands, hA, tiA, mWs_len, lit6]
        (repeat' refine And.intro ?_ ?_) <;> try first | omega | assumption | with_reducible rfl | exact rfl | (intro hside; (repeat' refine And.intro ?_ ?_) <;> first | exact hside | omega | (rw [hside]; rfl) | (simp_all; done))
        refine CallC.use (gvF hP hG (at_ok G l (7 + 5 * (i : Int)) 6 hl (by omega) i6)) rfl ?_
        try simp (maxSteps := 2000000) (disch := omega) only [avR2, avA, datsOf, fillA, seval, ↓List.forall_mem_cons, Op.operands, hA, tiA, lit6, mWs_len]
        first | exact ⟨rfl, rfl⟩ | ((repeat' first | refine And.intro ?_ ?_ | intro _) <;> first | with_reducible rfl | assumption | omega | rfl | (rename_i hq; rw [hq]; rfl) | (simp_all; done))
      apply q_block
      apply q_seq
      apply aw_reg [0, 2, 3, 4, 5] [2, 3, 40, 41, 52, 53, 65, 66]
      · simp (disch := omega) only [avR2, avA, datsOf, fillA, seval, ↓List.forall_mem_cons, Op.operands, hA, tiA]
        first | exact ⟨rfl, rfl⟩ | ((repeat' first | refine And.intro ?_ ?_ | intro _) <;> first | with_reducible rfl | assumption | omega | rfl | (rename_i hq; rw [hq]; rfl) | (simp_all; done))
      refine q_loop (⟨i + 1, by omega⟩) (Le.of ?_ ?_) (by dsimp only; omega)
      · try simp (disch := omega) only [LeE, LeO, avA, datsOf, fillA, seval, ↓List.forall_mem_cons, Op.operands, mItems_zero, mWs_zero, mItems_succ, mWs_succ, mF, mItems_len, mWs_len]
        all_goals first | done | (repeat' apply And.intro) <;> first | rfl | omega | assumption | (simp only [AV.dat.injEq, Dat.int.injEq, true_and]; omega) | (congr <;> omega)
      · try simp (disch := omega) only [LeE, LeO, avA, datsOf, fillA, seval, ↓List.forall_mem_cons, Op.operands, mItems_zero, mWs_zero, mItems_succ, mWs_succ, mF, mItems_len, mWs_len]
        all_goals first | done | (repeat' apply And.intro) <;> first | rfl | omega | assumption | (simp only [AV.dat.injEq, Dat.int.injEq, true_and]; omega) | (congr <;> omega)
  · skip
    have hii : i = (mCnt l).toNat := by
      have : mCnt l ≤ (i : Int) := hb
      omega
    subst hii
    have hfr := mF_range l (mCnt l).toNat
    have har := atM_range (l := l) (i := 1) (m := 16) (by omega)
    apply aw_exit
    apply q_exit_seq
    apply q_exit_loop
    apply q_exit
    apply q_seq
    apply aw_regs [2, 3] [2, 3, 40, 41, 52, 53, 65, 66]
    · simp (disch := omega) only [avR2, avA, datsOf, fillA, seval, ↓List.forall_mem_cons, Op.operands, hA, tiA]
      (repeat' refine And.intro ?_ ?_) <;> try first | omega | assumption | with_reducible rfl | exact rfl | (intro hside; (repeat' refine And.intro ?_ ?_) <;> first | exact hside | omega | (rw [hside]; rfl) | (simp_all; done))
      refine CallC.use (gvF hP hG (at_ok G l 1 16 hl (by omega) i16)) rfl ?_
      try simp (maxSteps := 2000000) (disch := omega) only [avR2, avA, datsOf, fillA, seval, ↓List.forall_mem_cons, Op.operands, hA, tiA]
      first | exact ⟨rfl, rfl⟩ | ((repeat' first | refine And.intro ?_ ?_ | intro _) <;> first | with_reducible rfl | assumption | omega | rfl | (rename_i hq; rw [hq]; rfl) | (simp_all; done))
    apply aw_regs [2] [2, 40, 41, 52, 53, 65, 66]
    · simp (disch := omega) only [avR2, avA, datsOf, fillA, seval, ↓List.forall_mem_cons, Op.operands, hA, tiA]
      first | exact ⟨rfl, rfl⟩ | ((repeat' first | refine And.intro ?_ ?_ | intro _) <;> first | with_reducible rfl | assumption | omega | rfl | (rename_i hq; rw [hq]; rfl) | (simp_all; done))
    apply aw_ret
    simp only [QRet, QRetM, QRetX, retsX_nil, retsX_cons, objsAre, Tryd.results10, resA, mapO_nil, mapO_cons, vD_dat, vD_nils, vD_rp, vD_osl, vD_ptr, vD_agg, vD_fn, vL_dat, vL_app, viewL, avA, datsOf, fillA, seval, ↓List.forall_mem_cons, Op.operands, hP, hG, tiA]
    simp [mItems_len, mWs_len, madeM, mRoom, List.take_of_length_le]
    

end Go.Proofs.YthcfjdkflmkhbaaDoor

namespace Go.Proofs.YthcfjdkflmkhbaaDoor
open Go.Av

def I2 (o : Int × Int) : Prop := I64 o.1 ∧ I64 o.2
/-- Sizes that no count runs out of, by members. -/
structure SzL (c : CaseM) : Prop where
  ni : c.items.length ≤ 100
  nw : c.weights.length ≤ 100
  nl : ∀ l ∈ c.items, l.length ≤ 100
  iw : ∀ w ∈ c.weights, I64 w
  ir : I64 c.room
  io : ∀ l ∈ c.items, ∀ o ∈ l, I2 o
theorem SzL.sz {c : CaseM} (h : SzL c) : SzC c :=
  ⟨h.ni, fun i hi => getD_all h.nl hi, h.nw, fun i hi => getD_all h.iw hi, h.ir, fun i hi k hk => getD_all (getD_all (p := fun l => ∀ o ∈ l, I2 o) h.io hi) hk⟩
theorem mem_getD {α : Type} [Inhabited α] {l : List α} {x : α} (h : x ∈ l) : ∃ i, i < l.length ∧ x = l.getD i default := by
  obtain ⟨k, hk, rfl⟩ := List.mem_iff_getElem.1 h
  exact ⟨k, hk, by rw [List.getD_eq_getElem?_getD, List.getElem?_eq_getElem hk]; rfl⟩
theorem SzC.szl {c : CaseM} (h : SzC c) : SzL c := by
  refine ⟨h.ni, h.nw, fun l hl => ?_, fun w hw => ?_, h.ir, fun l hl o ho => ?_⟩
  · obtain ⟨i, hi, rfl⟩ := mem_getD hl; exact h.nl i hi
  · obtain ⟨i, hi, rfl⟩ := mem_getD hw; exact h.iw i hi
  · obtain ⟨i, hi, rfl⟩ := mem_getD hl
    obtain ⟨k, hk, rfl⟩ := mem_getD ho
    exact h.io i hi k hk

def spN (y : Int) : Int := [-1, 0, 1, 64, 65, 1024, 1025, 4096, 4097].getD (aroundM y 9).toNat default
def spMax (c : CaseM) : Int := if (c.items.length : Int) < 1 then 1 else (c.items.length : Int)
def spK (c : CaseM) (y : Int) : Int := aroundM (y.tdiv 9) (spMax c)
def spJ (c : CaseM) (y : Int) : Nat := (63 + aroundM y 3 - c.items.length).toNat
def spoiltM (c : CaseM) (how y : Int) : CaseM :=
  if aroundM how 8 = 0 then ⟨c.items, c.weights, spN y⟩
  else if aroundM how 8 = 1 then (if spK c y < c.weights.length then ⟨c.items, c.weights.set (spK c y).toNat (spN y), c.room⟩ else c)
  else if aroundM how 8 = 2 then ⟨c.items, c.weights ++ [1], c.room⟩
  else if aroundM how 8 = 3 then ⟨c.items ++ [[]], c.weights ++ [1], c.room⟩
  else if aroundM how 8 = 4 then (if spK c y < c.items.length then ⟨c.items.set (spK c y).toNat ((spN y, 1) :: itemM c (spK c y).toNat), c.weights, c.room⟩ else c)
  else if aroundM how 8 = 5 then (if spK c y < c.items.length then ⟨c.items.set (spK c y).toNat ((1, spN y) :: itemM c (spK c y).toNat), c.weights, c.room⟩ else c)
  else if aroundM how 8 = 6 then ⟨c.items ++ [List.replicate (7 + aroundM y 3).toNat (0, 0)], c.weights ++ [1], c.room⟩
  else ⟨c.items ++ List.replicate (spJ c y) [(1, 0)], c.weights ++ List.replicate (spJ c y) 1, c.room⟩

theorem spN_range (y : Int) : -1 ≤ spN y ∧ spN y ≤ 4097 := by
  have h := aroundM_range (n := y) (m := 9) (by omega)
  have h2 : (aroundM y 9).toNat < 9 := by omega
  unfold spN
  generalize (aroundM y 9).toNat = n at h2
  match n, h2 with
  | 0, _ | 1, _ | 2, _ | 3, _ | 4, _ | 5, _ | 6, _ | 7, _ | 8, _ => decide

theorem spoiltM_sz {c : CaseM} (h : SzC c) (how y : Int) (hl : ∀ l ∈ c.items, l.length ≤ 8) (hi : c.items.length ≤ 6) (hw : c.weights.length ≤ 6) : SzC (spoiltM c how y) := by
  apply SzL.sz
  have h := h.szl
  have hn := spN_range y
  have hn64 : I64 (spN y) := by unfold I64; omega
  have h0 : I64 0 := by unfold I64; omega
  have h1 : I64 1 := by unfold I64; omega
  have ha := aroundM_range (n := y) (m := 3) (by omega)
  have hj : spJ c y ≤ 65 := by unfold spJ; omega
  have hk : spK c y < c.items.length → 0 ≤ spK c y := fun _ => by
    have hm : 0 < spMax c := by unfold spMax; split <;> omega
    exact (aroundM_range (n := y.tdiv 9) (m := spMax c) hm).1
  have hit : spK c y < c.items.length → itemM c (spK c y).toNat ∈ c.items := fun hlt => getD_all (p := fun x => x ∈ c.items) (fun x h => h) (by have := hk hlt; omega)
  have set_items : ∀ o : Int × Int, I2 o → spK c y < c.items.length → SzL ⟨c.items.set (spK c y).toNat (o :: itemM c (spK c y).toNat), c.weights, c.room⟩ := fun o ho hlt => by
    have hm := hit hlt
    refine ⟨by simp; omega, h.nw, fun l hl' => ?_, h.iw, h.ir, fun l hl' p hp => ?_⟩
    · rcases List.mem_or_eq_of_mem_set hl' with h2 | rfl
      · exact h.nl l h2
      · have := hl _ hm; simp only [List.length_cons]; omega
    · rcases List.mem_or_eq_of_mem_set hl' with h2 | rfl
      · exact h.io l h2 p hp
      · rcases List.mem_cons.1 hp with rfl | hp
        · exact ho
        · exact h.io _ hm p hp
  have add : ∀ (ls : List (List (Int × Int))) (ws : List Int), ls.length ≤ 65 → ws.length ≤ 65 → (∀ l ∈ ls, l.length ≤ 100) → (∀ w ∈ ws, I64 w) → (∀ l ∈ ls, ∀ o ∈ l, I2 o) → SzL ⟨c.items ++ ls, c.weights ++ ws, c.room⟩ := fun ls ws a1 a2 a3 a4 a5 => by
    refine ⟨by simp; omega, by simp; omega, fun l hl' => ?_, fun w hw' => ?_, h.ir, fun l hl' => ?_⟩
    · rcases List.mem_append.1 hl' with h2 | h2
      · exact h.nl l h2
      · exact a3 l h2
    · rcases List.mem_append.1 hw' with h2 | h2
      · exact h.iw w h2
      · exact a4 w h2
    · rcases List.mem_append.1 hl' with h2 | h2
      · exact h.io l h2
      · exact a5 l h2
  unfold spoiltM
  split
  · exact ⟨h.ni, h.nw, h.nl, h.iw, hn64, h.io⟩
  split
  · split
    · refine ⟨h.ni, by simp; omega, h.nl, fun w hw' => ?_, h.ir, h.io⟩
      rcases List.mem_or_eq_of_mem_set hw' with h2 | rfl
      · exact h.iw w h2
      · exact hn64
    · exact h
  split
  · have := add [] [1] (by simp) (by simp) (by simp) (by simp [h1]) (by simp)
    simpa using this
  split
  · exact add [[]] [1] (by simp) (by simp) (by simp) (by simp [h1]) (by simp)
  split
  · split
    · rename_i hlt; exact set_items _ ⟨hn64, h1⟩ hlt
    · exact h
  split
  · split
    · rename_i hlt; exact set_items _ ⟨h1, hn64⟩ hlt
    · exact h
  split
  · refine add _ [1] (by simp) (by simp) (fun l hl' => ?_) (by simp [h1]) (fun l hl' o ho => ?_)
    · simp only [List.mem_cons, List.not_mem_nil, or_false] at hl'
      subst hl'
      simp only [List.length_replicate]; omega
    · simp only [List.mem_cons, List.not_mem_nil, or_false] at hl'
      subst hl'
      have := List.eq_of_mem_replicate ho
      subst this
      exact ⟨h0, h0⟩
  · refine add _ _ (by simp; omega) (by simp; omega) (fun l hl' => ?_) (fun w hw' => ?_) (fun l hl' o ho => ?_)
    · have := List.eq_of_mem_replicate hl'
      subst this
      simp
    · have := List.eq_of_mem_replicate hw'
      subst this
      exact h1
    · have := List.eq_of_mem_replicate hl'
      subst this
      simp only [List.mem_cons, List.not_mem_nil, or_false] at ho
      subst ho
      exact ⟨h1, h0⟩

end Go.Proofs.YthcfjdkflmkhbaaDoor

namespace Go.Proofs.YthcfjdkflmkhbaaDoor
open Go.Av

abbrev none2 : Int × Int := (-1, -1)
def lessM (a b : Int × Int) : Bool := (b.1 == -1 && b.2 == -1) || decide (a.1 < b.1) || (a.1 == b.1 && decide (a.2 < b.2))

section
variable (opts : List (Int × Int)) (w : Int) (aft : List (Int × Int)) (r : Nat)
def stepM (x : (Int × Int) × Int) (k : Nat) : (Int × Int) × Int :=
  if (r : Int) < (opts.getD k default).1 ∨ aft.getD ((r : Int) - (opts.getD k default).1).toNat default = none2 then x
  else if lessM ((aft.getD ((r : Int) - (opts.getD k default).1).toNat default).1 + w * (opts.getD k default).2, (aft.getD ((r : Int) - (opts.getD k default).1).toNat default).2 + (opts.getD k default).1) x.1 then
    (((aft.getD ((r : Int) - (opts.getD k default).1).toNat default).1 + w * (opts.getD k default).2, (aft.getD ((r : Int) - (opts.getD k default).1).toNat default).2 + (opts.getD k default).1), (k : Int))
  else x
def cellM : Nat → (Int × Int) × Int
  | 0 => (none2, 0)
  | k + 1 => stepM opts w aft r (cellM k) k
end

def okT (m : Nat) (x : Int × Int) : Prop := x = none2 ∨ (0 ≤ x.1 ∧ x.1 ≤ 65536 * (m : Int) ∧ 0 ≤ x.2 ∧ x.2 ≤ 64 * (m : Int))
theorem okT.i64 {m : Nat} {x : Int × Int} (h : okT m x) : -1 ≤ x.1 ∧ x.1 ≤ 65536 * (m : Int) ∧ -1 ≤ x.2 ∧ x.2 ≤ 64 * (m : Int) := by
  rcases h with rfl | h
  · simp; omega
  · omega

theorem cell_snd {opts : List (Int × Int)} {w : Int} {aft : List (Int × Int)} {r : Nat} : ∀ k, 0 ≤ (cellM opts w aft r k).2 ∧ (cellM opts w aft r k).2 ≤ (k : Int)
  | 0 => by simp [cellM]
  | k + 1 => by
    have h := cell_snd (opts := opts) (w := w) (aft := aft) (r := r) k
    simp only [cellM, stepM]
    split
    · omega
    · split
      · simp; omega
      · omega

theorem cell_ok {opts : List (Int × Int)} {w : Int} {aft : List (Int × Int)} {r m : Nat} (hw : 0 ≤ w ∧ w ≤ 1024) (ho : ∀ k < opts.length, okO (opts.getD k default)) (hr : r < aft.length) (ha : ∀ q < aft.length, okT m (aft.getD q default)) :
    ∀ k ≤ opts.length, okT (m + 1) (cellM opts w aft r k).1
  | 0, _ => .inl rfl
  | k + 1, hk => by
    have h := cell_ok hw ho hr ha k (by omega)
    have hok := ho k (by omega)
    simp only [cellM, stepM]
    split
    · exact h
    · rename_i hn
      simp only [not_or, Int.not_lt] at hn
      split
      · unfold okO at hok
        have hq := ha ((r : Int) - (opts.getD k default).1).toNat (by omega)
        have hq := hq.resolve_left hn.2
        have h1 : 0 ≤ w * (opts.getD k default).2 := Int.mul_nonneg hw.1 hok.2.2.1
        have h2 : w * (opts.getD k default).2 ≤ 1024 * 64 := Int.mul_le_mul hw.2 hok.2.2.2 hok.2.2.1 (by omega)
        right
        simp only
        omega
      · exact h

theorem cell_fst {opts : List (Int × Int)} {w : Int} {aft : List (Int × Int)} {r : Nat} : ∀ k, (cellM opts w aft r k).1 ≠ none2 →
    (cellM opts w aft r k).2 < (k : Int) ∧ (opts.getD (cellM opts w aft r k).2.toNat default).1 ≤ (r : Int) ∧ aft.getD ((r : Int) - (opts.getD (cellM opts w aft r k).2.toNat default).1).toNat default ≠ none2
  | 0, h => absurd rfl h
  | k + 1, h => by
    have ih := cell_fst (opts := opts) (w := w) (aft := aft) (r := r) k
    simp only [cellM, stepM] at h ⊢
    split at h
    · rename_i hn
      rw [if_pos hn]
      have := ih h
      exact ⟨by omega, this.2⟩
    · rename_i hn
      rw [if_neg hn]
      split at h
      · rename_i hl
        rw [if_pos hl]
        simp only [not_or, Int.not_lt] at hn
        simp only [Int.toNat_natCast]
        exact ⟨by omega, hn.1, hn.2⟩
      · rename_i hl
        rw [if_neg hl]
        have := ih h
        exact ⟨by omega, this.2⟩

section
variable (c : CaseM)
/-- How many rests there are. -/
def n1M : Nat := (c.room + 1).toNat
def aftM : Nat → List (Int × Int)
  | 0 => List.replicate (n1M c) (0, 0)
  | j + 1 => (List.range (n1M c)).map fun r => (cellM (c.items.getD (c.items.length - 1 - j) default) (c.weights.getD (c.items.length - 1 - j) default) (aftM j) r (c.items.getD (c.items.length - 1 - j) default).length).1
def firJ (j : Nat) (r : Nat) : Int := (cellM (c.items.getD (c.items.length - 1 - j) default) (c.weights.getD (c.items.length - 1 - j) default) (aftM c j) r (c.items.getD (c.items.length - 1 - j) default).length).2
def firM (i : Nat) : List Int := (List.range (n1M c)).map (firJ c (c.items.length - 1 - i))
theorem aftM_len : ∀ j, (aftM c j).length = n1M c
  | 0 => by simp [aftM]
  | j + 1 => by simp [aftM]
def curM : Nat → Int
  | 0 => c.room
  | i + 1 => curM i - ((c.items.getD i default).getD ((firM c i).getD (curM i).toNat default).toNat default).1
def kM (i : Nat) : Int := (firM c i).getD (curM c i).toNat default
def pickBM (i : Nat) : List Int := (List.range i).map (kM c)
theorem pickBM_len (i : Nat) : (pickBM c i).length = i := by simp [pickBM]
theorem pickBM_zero : pickBM c 0 = [] := rfl
theorem pickBM_succ (i : Nat) : pickBM c (i + 1) = pickBM c i ++ [kM c i] := by simp [pickBM, List.range_succ]
def bestM : List Int × Int × Int :=
  if validM c ≠ 0 then ([], 0, validM c)
  else if (aftM c c.items.length).getD c.room.toNat default = none2 then ([], 0, 21)
  else (pickBM c c.items.length, ((aftM c c.items.length).getD c.room.toNat default).1, 0)

/-- The rows of the first options: nil ones, and those that are there. -/
def rowsA (j : Nat) : List AV := (List.range c.items.length).map fun k => if k + j < c.items.length then .nils else .dat (isD (firM c k))
theorem rowsA_len (j : Nat) : (rowsA c j).length = c.items.length := by simp [rowsA]
theorem rowsA_kill (j d : Nat) : (rowsA c j).map (AV.kill d) = rowsA c j := by
  simp only [rowsA, List.map_map]
  apply List.map_congr_left
  intro k _
  simp only [Function.comp]
  split <;> simp [AV.kill]
theorem rowsA_frz (j id es : Nat) (ds : List Dat) : (rowsA c j).map (AV.frz id es ds) = rowsA c j := by
  simp only [rowsA, List.map_map]
  apply List.map_congr_left
  intro k _
  simp only [Function.comp]
  split <;> simp [AV.frz]
theorem rowsA_kset (j i id es off len d : Nat) (h : id ≠ d) : ((rowsA c j).set i (.osl id es off len)).map (AV.kill d) = (rowsA c j).set i (.osl id es off len) := by
  rw [List.map_set, rowsA_kill]
  simp [AV.kill, h]
theorem rowsA_zero : rowsA c 0 = List.replicate c.items.length .nils := by
  apply List.ext_getElem (by simp [rowsA])
  intro k h1 h2
  simp only [rowsA, List.getElem_map, List.getElem_range, List.getElem_replicate]
  rw [if_pos]
  simpa [rowsA] using h1
theorem rowsA_nil (j : Nat) (h : j < c.items.length) (d : AV) : ((rowsA c j)[c.items.length - 1 - j]?).getD d = .nils := by
  rw [List.getElem?_eq_getElem (by rw [rowsA_len]; omega)]
  simp only [rowsA, List.getElem_map, List.getElem_range, Option.getD_some]
  rw [if_pos (by omega)]
theorem rowsA_succ (j : Nat) (h : j < c.items.length) : (rowsA c j).set (c.items.length - 1 - j) (.dat (isD (firM c (c.items.length - 1 - j)))) = rowsA c (j + 1) := by
  apply List.ext_getElem (by simp [rowsA])
  intro k h1 h2
  rw [List.getElem_set]
  simp only [rowsA, List.getElem_map, List.getElem_range]
  split
  · rename_i e
    rw [← e, if_neg (by omega)]
  · rename_i e
    have hk : k < c.items.length := by simpa [rowsA] using h2
    by_cases h3 : k + j < c.items.length
    · rw [if_pos h3, if_pos (by omega)]
    · rw [if_neg h3, if_neg (by omega)]
theorem rowsA_all : rowsA c c.items.length = (((List.range c.items.length).map (firM c)).map isD).map .dat := by
  simp only [rowsA, List.map_map]
  apply List.map_congr_left
  intro k _
  simp only [Function.comp]
  rw [if_neg (by omega)]

variable {c}
theorem aft_ok (hc : OkC c) : ∀ j ≤ c.items.length, ∀ r < (aftM c j).length, okT j ((aftM c j).getD r default)
  | 0, _, r, hr => by
    rw [aftM_len] at hr
    have : (aftM c 0).getD r default = (0, 0) := by simp [aftM, List.getD_eq_getElem?_getD, hr]
    rw [this]
    right; simp
  | j + 1, hj, r, hr => by
    rw [aftM_len] at hr
    have ih := aft_ok hc j (by omega)
    simp only [aftM]
    rw [getD_map_range _ _ _ hr]
    exact cell_ok (hc.w _ (by omega)) (fun k hk => getD_all (hc.o _ (by omega)) hk) (by rw [aftM_len]; exact hr) ih _ (Nat.le_refl _)

theorem n1_room (hc : OkC c) : (n1M c : Int) = c.room + 1 := by
  have := hc.room
  unfold n1M; omega

/-- Along the choice the total is there. -/
theorem cur_ok (hc : OkC c) (hb : (aftM c c.items.length).getD c.room.toNat default ≠ none2) : ∀ i ≤ c.items.length, (0 ≤ curM c i ∧ curM c i ≤ c.room) ∧ (aftM c (c.items.length - i)).getD (curM c i).toNat default ≠ none2
  | 0, _ => by
    have := hc.room
    exact ⟨by simp only [curM]; omega, hb⟩
  | i + 1, hi => by
    obtain ⟨h1, h2⟩ := cur_ok hc hb i (by omega)
    have hn := n1_room hc
    have hj : c.items.length - i = (c.items.length - 1 - i) + 1 := by omega
    have hr : (curM c i).toNat < n1M c := by omega
    rw [hj] at h2
    simp only [aftM] at h2
    rw [getD_map_range _ _ _ hr] at h2
    have hii : c.items.length - 1 - (c.items.length - 1 - i) = i := by omega
    rw [hii] at h2
    obtain ⟨h3, h4, h5⟩ := cell_fst _ h2
    have hk : (firM c i).getD (curM c i).toNat default = (cellM (c.items.getD i default) (c.weights.getD i default) (aftM c (c.items.length - 1 - i)) (curM c i).toNat (c.items.getD i default).length).2 := by
      unfold firM
      rw [getD_map_range _ _ _ hr]
      unfold firJ
      rw [hii]
    have hs := (cell_snd (opts := c.items.getD i default) (w := c.weights.getD i default) (aft := aftM c (c.items.length - 1 - i)) (r := (curM c i).toNat) (c.items.getD i default).length).1
    have ho := getD_all (hc.o i (by omega)) (i := ((firM c i).getD (curM c i).toNat default).toNat) (by rw [hk]; simp only [itemM]; omega)
    simp only [curM]
    rw [← hk] at h4 h5
    simp only [itemM] at ho
    unfold okO at ho
    have hcc : ((curM c i).toNat : Int) = curM c i := by omega
    rw [hcc] at h4 h5
    refine ⟨by omega, ?_⟩
    rw [show c.items.length - (i + 1) = c.items.length - 1 - i by omega]
    exact h5
theorem kM_ok (hc : OkC c) (hb : (aftM c c.items.length).getD c.room.toNat default ≠ none2) {i : Nat} (hi : i < c.items.length) : (0 ≤ kM c i ∧ kM c i < ((c.items.getD i default).length : Int)) ∧ okO ((c.items.getD i default).getD (kM c i).toNat default) := by
  obtain ⟨h1, h2⟩ := cur_ok hc hb i (by omega)
  have hn := n1_room hc
  have hj : c.items.length - i = (c.items.length - 1 - i) + 1 := by omega
  have hr : (curM c i).toNat < n1M c := by omega
  rw [hj] at h2
  simp only [aftM] at h2
  rw [getD_map_range _ _ _ hr] at h2
  have hii : c.items.length - 1 - (c.items.length - 1 - i) = i := by omega
  rw [hii] at h2
  obtain ⟨h3, h4, h5⟩ := cell_fst _ h2
  have hk : kM c i = (cellM (c.items.getD i default) (c.weights.getD i default) (aftM c (c.items.length - 1 - i)) (curM c i).toNat (c.items.getD i default).length).2 := by
    unfold kM firM
    rw [getD_map_range _ _ _ hr]
    unfold firJ
    rw [hii]
  have hs := (cell_snd (opts := c.items.getD i default) (w := c.weights.getD i default) (aft := aftM c (c.items.length - 1 - i)) (r := (curM c i).toNat) (c.items.getD i default).length).1
  have hr2 : 0 ≤ kM c i ∧ kM c i < ((c.items.getD i default).length : Int) := by rw [hk]; exact ⟨hs, h3⟩
  exact ⟨hr2, getD_all (hc.o i hi) (by simp only [itemM]; omega)⟩
end

def aftJ (c : CaseM) (j r : Nat) : Int × Int := (cellM (c.items.getD (c.items.length - 1 - j) default) (c.weights.getD (c.items.length - 1 - j) default) (aftM c j) r (c.items.getD (c.items.length - 1 - j) default).length).1
def cellK (c : CaseM) (j r k : Nat) : (Int × Int) × Int := cellM (c.items.getD (c.items.length - 1 - j) default) (c.weights.getD (c.items.length - 1 - j) default) (aftM c j) r k
theorem cellK_zero (c : CaseM) (j r : Nat) : cellK c j r 0 = ((-1, -1), 0) := rfl
theorem cellK_succ (c : CaseM) (j r k : Nat) : cellK c j r (k + 1) = stepM (c.items.getD (c.items.length - 1 - j) default) (c.weights.getD (c.items.length - 1 - j) default) (aftM c j) r (cellK c j r k) k := rfl
theorem aftM_zero (c : CaseM) : aftM c 0 = List.replicate (n1M c) (0, 0) := rfl
theorem aftM_succ (c : CaseM) (j : Nat) : aftM c (j + 1) = (List.range (n1M c)).map (aftJ c j) := rfl
theorem rowsA_next (c : CaseM) (j : Nat) (h : j < c.items.length) : (rowsA c j).set (c.items.length - 1 - j) (.dat (.sl (List.map (Dat.int .i64) ((List.range (n1M c)).map (firJ c j))))) = rowsA c (j + 1) := by
  rw [← rowsA_succ c j h]
  unfold firM
  rw [show c.items.length - 1 - (c.items.length - 1 - j) = j by omega]

/-- The first r of n values, and then d. -/
def nowL {α : Type} (f : Nat → α) (d : α) (n r : Nat) : List α := (List.range n).map fun q => if q < r then f q else d
theorem nowL_len {α : Type} (f : Nat → α) (d : α) (n r : Nat) : (nowL f d n r).length = n := by simp [nowL]
theorem nowL_zero {α : Type} (f : Nat → α) (d : α) (n : Nat) : nowL f d n 0 = List.replicate n d := by
  simp only [nowL, Nat.not_lt_zero, if_false]
  exact (List.eq_replicate_iff.2 ⟨by simp, by simp⟩)
theorem nowL_all {α : Type} (f : Nat → α) (d : α) (n : Nat) : nowL f d n n = (List.range n).map f := by
  simp only [nowL]
  apply List.map_congr_left
  intro q hq
  rw [if_pos (by simpa using hq)]
theorem nowL_set {α : Type} (f : Nat → α) (d : α) (n r : Nat) : (nowL f d n r).set r (f r) = nowL f d n (r + 1) := by
  apply List.ext_getElem (by simp [nowL])
  intro k h1 h2
  rw [List.getElem_set]
  simp only [nowL, List.getElem_map, List.getElem_range]
  split
  · rename_i e; subst e; rw [if_pos (by omega)]
  · rename_i e
    by_cases h3 : k < r
    · rw [if_pos h3, if_pos (by omega)]
    · rw [if_neg h3, if_neg (by omega)]
theorem nowL_self {α : Type} (f : Nat → α) (d : α) (n r : Nat) : (nowL f d n r).set r d = nowL f d n r := by
  apply List.ext_getElem (by simp [nowL])
  intro k h1 h2
  rw [List.getElem_set]
  simp only [nowL, List.getElem_map, List.getElem_range]
  split
  · rename_i e; subst e; rw [if_neg (by omega)]
  · rfl
theorem nowA_next (c : CaseM) (j n r : Nat) (d : Int × Int) : (nowL (aftJ c j) d n r).set r (cellK c j r (c.items.getD (c.items.length - 1 - j) default).length).1 = nowL (aftJ c j) d n (r + 1) := nowL_set (aftJ c j) d n r
theorem nowF_next (c : CaseM) (j n r : Nat) (d : Int) : (nowL (firJ c j) d n r).set r (cellK c j r (c.items.getD (c.items.length - 1 - j) default).length).2 = nowL (firJ c j) d n (r + 1) := nowL_set (firJ c j) d n r
theorem getD_set_self {α : Type} [Inhabited α] (l : List α) (i : Nat) (x : α) (h : i < l.length) : (l.set i x).getD i default = x := by
  simp [List.getD_eq_getElem?_getD, h]
theorem getA_set_self (l : List AV) (i : Nat) (x d : AV) (h : i < l.length) : ((l.set i x)[i]?).getD d = x := by
  simp [h]
theorem set_rowP (l : List (Int × Int)) (i : Nat) (a b : Int) : ((l.map oD).map AV.dat).set i (.dat (.agg [.int .i64 a, .int .i64 b])) = ((l.set i (a, b)).map oD).map AV.dat := set_row oD l i (a, b)

end Go.Proofs.YthcfjdkflmkhbaaDoor

namespace Go.Proofs.YthcfjdkflmkhbaaDoor
open Go.Av

theorem eq97 : eqA2 Tryd.prog 97 := by unfold eqA2; kernel_rfl
theorem eq50 : eqS3 Tryd.prog 50 := by unfold eqS3; kernel_rfl

/-- The package's variable: no choice. -/
abbrev gG : List (Nat × Dat) := [(0, oD (-1, -1))]

theorem gG_look : List.lookup 0 gG = some (oD (-1, -1)) := rfl


theorem example_ok (G) (room : Int) : Gives Tryd.prog G 44 [iD room] [caseD ⟨[[(1, 4), (3, 1)], [(0, 5), (2, 2)]], [3, 1], room⟩] := by
  refine gives_intro [] [] [] Tryd.func44 rfl (by rfl) (by simp [Tryd.ntmps44]) fun F hP hG hN hR => ?_
  rw [Tryd.ntmps44] at hN
  have hA := And.intro hN (And.intro hP (And.intro hG (And.intro hR.1 (And.intro hR.2.1 hR.2.2.1))))
  apply aw_regs [0, 2] [2, 5, 8, 9, 10]
  · simp (disch := omega) only [avR2, avA, datsOf, fillA, seval, ↓List.forall_mem_cons, Op.operands, hA, tiA]
    first | exact ⟨rfl, rfl⟩ | ((repeat' first | refine And.intro ?_ ?_ | intro _) <;> first | with_reducible rfl | assumption | omega | rfl | (rename_i hq; rw [hq]; rfl) | (simp_all; done))
  apply aw_regs [2] [2, 5, 8, 9, 10]
  · simp (disch := omega) only [avR2, avA, datsOf, fillA, seval, ↓List.forall_mem_cons, Op.operands, hA, tiA]
    first | exact ⟨rfl, rfl⟩ | ((repeat' first | refine And.intro ?_ ?_ | intro _) <;> first | with_reducible rfl | assumption | omega | rfl | (rename_i hq; rw [hq]; rfl) | (simp_all; done))
  apply aw_ret
  simp only [QRet, QRetM, QRetX, retsX_nil, retsX_cons, objsAre, Tryd.results44, resA, mapO_nil, mapO_cons, vD_dat, vD_nils, vD_rp, vD_osl, vD_ptr, vD_agg, vD_fn, vL_dat, vL_app, viewL, avA, datsOf, fillA, seval, ↓List.forall_mem_cons, Op.operands, hP, hG, tiA]
  rfl
  

theorem same_ok (G) (a b : List Int) (ha : a.length ≤ 1000) : Gives Tryd.prog G 34 [isD a, isD b] [.bool (decide (a = b))] := by
  refine gives_intro [] [] [] Tryd.func34 rfl (by rfl) (by simp [Tryd.ntmps34]) fun F hP hG hN hR => ?_
  rw [Tryd.ntmps34] at hN
  have hA := And.intro hN (And.intro hP (And.intro hG (And.intro hR.1 (And.intro hR.2.1 hR.2.2.1))))
  apply aw_regs [0, 1] []
  · simp (disch := omega) only [avR2, avA, datsOf, fillA, seval, ↓List.forall_mem_cons, Op.operands, hA, tiA]
    first | exact ⟨rfl, rfl⟩ | ((repeat' first | refine And.intro ?_ ?_ | intro _) <;> first | with_reducible rfl | assumption | omega | rfl | (rename_i hq; rw [hq]; rfl) | (simp_all; done))
  apply aw_seq
  apply aw_regs [0, 1, 10] []
  · simp (disch := omega) only [avR2, avA, datsOf, fillA, seval, ↓List.forall_mem_cons, Op.operands, hA, tiA]
    first | exact ⟨rfl, rfl⟩ | ((repeat' first | refine And.intro ?_ ?_ | intro _) <;> first | with_reducible rfl | assumption | omega | rfl | (rename_i hq; rw [hq]; rfl) | (simp_all; done))
  refine aw_if _ rfl (fun hb => ?_) (fun hb => ?_) <;> (try simp only [pickB_true, pickB_false, Bool.false_or, Bool.false_and, Bool.true_and, decide_eq_true_eq, decide_eq_false_iff_not, Bool.or_eq_true, Bool.and_eq_true, Bool.or_eq_false_iff, Bool.and_eq_false_imp, Bool.not_eq_true, Bool.not_eq_false, Bool.not_eq_eq_eq_not, Bool.not_true, Bool.not_false, Int.not_lt, Int.not_le, beq_iff_eq, beq_eq_false_iff_ne, bne_iff_ne, bne_eq_false_iff_eq, ne_eq, Bool.true_eq_false, Bool.false_eq_true, if_false_left, if_true_left, Bool.not_eq_eq_eq_not, Bool.decide_eq_true, Classical.not_not] at hb)
  · skip
    have hv : decide (a = b) = false := by
      rw [decide_eq_false_iff_not]
      rintro rfl
      omega
    apply aw_regs [4] []
    · simp (disch := omega) only [avR2, avA, datsOf, fillA, seval, ↓List.forall_mem_cons, Op.operands, hA, tiA]
      first | exact ⟨rfl, rfl⟩ | ((repeat' first | refine And.intro ?_ ?_ | intro _) <;> first | with_reducible rfl | assumption | omega | rfl | (rename_i hq; rw [hq]; rfl) | (simp_all; done))
    apply aw_ret
    apply q_ret_seq
    simp only [QRet, QRetM, QRetX, retsX_nil, retsX_cons, objsAre, Tryd.results34, resA, mapO_nil, mapO_cons, vD_dat, vD_nils, vD_rp, vD_osl, vD_ptr, vD_agg, vD_fn, vL_dat, vL_app, viewL, avA, datsOf, fillA, seval, ↓List.forall_mem_cons, Op.operands, hP, hG, tiA]
    rw [hv]
    
  · skip
    have hlen : a.length = b.length := by omega
    apply aw_skip
    apply q_seq
    apply aw_seq
    apply aw_regs [0, 1, 5] []
    · simp (disch := omega) only [avR2, avA, datsOf, fillA, seval, ↓List.forall_mem_cons, Op.operands, hA, tiA]
      first | exact ⟨rfl, rfl⟩ | ((repeat' first | refine And.intro ?_ ?_ | intro _) <;> first | with_reducible rfl | assumption | omega | rfl | (rename_i hq; rw [hq]; rfl) | (simp_all; done))
    apply aw_block
    refine aw_loop (ι := {i : Nat // i ≤ a.length ∧ ∀ k < i, a.getD k default = b.getD k default}) (fun ⟨i, hif⟩ => .of [(0, .dat (isD a)), (1, .dat (isD b)), (5, .dat (iD i))] []) (fun ⟨i, hif⟩ => a.length - i) (⟨0, by simp⟩) (Le.of ?_ ?_) fun ix => ?_
    · try simp (disch := omega) only [LeE, LeO, avA, datsOf, fillA, seval, ↓List.forall_mem_cons, Op.operands]
      all_goals first | done | (repeat' apply And.intro) <;> first | rfl | omega | assumption | (simp only [AV.dat.injEq, Dat.int.injEq, true_and]; omega) | (congr <;> omega)
    · try simp (disch := omega) only [LeE, LeO, avA, datsOf, fillA, seval, ↓List.forall_mem_cons, Op.operands]
      all_goals first | done | (repeat' apply And.intro) <;> first | rfl | omega | assumption | (simp only [AV.dat.injEq, Dat.int.injEq, true_and]; omega) | (congr <;> omega)
    obtain ⟨i, hif⟩ := ix
    dsimp only
    obtain ⟨hi, hf⟩ := hif
    apply aw_seq
    apply aw_regs [0, 1, 5, 14] []
    · simp (disch := omega) only [avR2, avA, datsOf, fillA, seval, ↓List.forall_mem_cons, Op.operands, hA, tiA]
      first | exact ⟨rfl, rfl⟩ | ((repeat' first | refine And.intro ?_ ?_ | intro _) <;> first | with_reducible rfl | assumption | omega | rfl | (rename_i hq; rw [hq]; rfl) | (simp_all; done))
    refine aw_if _ rfl (fun hb => ?_) (fun hb => ?_) <;> (try simp only [pickB_true, pickB_false, Bool.false_or, Bool.false_and, Bool.true_and, decide_eq_true_eq, decide_eq_false_iff_not, Bool.or_eq_true, Bool.and_eq_true, Bool.or_eq_false_iff, Bool.and_eq_false_imp, Bool.not_eq_true, Bool.not_eq_false, Bool.not_eq_eq_eq_not, Bool.not_true, Bool.not_false, Int.not_lt, Int.not_le, beq_iff_eq, beq_eq_false_iff_ne, bne_iff_ne, bne_eq_false_iff_eq, ne_eq, Bool.true_eq_false, Bool.false_eq_true, if_false_left, if_true_left, Bool.not_eq_eq_eq_not, Bool.decide_eq_true, Classical.not_not] at hb)
    · skip
      apply aw_skip
      apply q_seq
      apply aw_seq
      apply aw_block
      apply aw_rgds [0, 1, 5, 25] [] [0, 1, 2, 3, 4, 5, 6, 7, 8] []
      · rw [hP]; kernel_rfl
      · exact hR
      · kernel_rfl
      · (repeat (apply PickL.cons; exact rfl)); exact PickL.nil _
      · simp (disch := omega) only [avR2, avA, datsOf, fillA, seval, ↓List.forall_mem_cons, Op.operands, hA, tiA]
        first | exact ⟨rfl, rfl⟩ | ((repeat' first | refine And.intro ?_ ?_ | intro _) <;> first | with_reducible rfl | assumption | omega | rfl | (rename_i hq; rw [hq]; rfl) | (simp_all; done))
      refine aw_if _ rfl (fun hb => ?_) (fun hb => ?_) <;> (try simp only [pickB_true, pickB_false, Bool.false_or, Bool.false_and, Bool.true_and, decide_eq_true_eq, decide_eq_false_iff_not, Bool.or_eq_true, Bool.and_eq_true, Bool.or_eq_false_iff, Bool.and_eq_false_imp, Bool.not_eq_true, Bool.not_eq_false, Bool.not_eq_eq_eq_not, Bool.not_true, Bool.not_false, Int.not_lt, Int.not_le, beq_iff_eq, beq_eq_false_iff_ne, bne_iff_ne, bne_eq_false_iff_eq, ne_eq, Bool.true_eq_false, Bool.false_eq_true, if_false_left, if_true_left, Bool.not_eq_eq_eq_not, Bool.decide_eq_true, Classical.not_not] at hb)
      · skip
        have hv : decide (a = b) = false := by
          rw [decide_eq_false_iff_not]
          rintro rfl
          omega
        apply aw_regs [4] []
        · simp (disch := omega) only [avR2, avA, datsOf, fillA, seval, ↓List.forall_mem_cons, Op.operands, hA, tiA]
          first | exact ⟨rfl, rfl⟩ | ((repeat' first | refine And.intro ?_ ?_ | intro _) <;> first | with_reducible rfl | assumption | omega | rfl | (rename_i hq; rw [hq]; rfl) | (simp_all; done))
        apply aw_ret
        apply q_ret_block
        apply q_ret_seq
        apply q_ret_loop
        apply q_ret_block
        apply q_ret_seq
        simp only [QRet, QRetM, QRetX, retsX_nil, retsX_cons, objsAre, Tryd.results34, resA, mapO_nil, mapO_cons, vD_dat, vD_nils, vD_rp, vD_osl, vD_ptr, vD_agg, vD_fn, vL_dat, vL_app, viewL, avA, datsOf, fillA, seval, ↓List.forall_mem_cons, Op.operands, hP, hG, tiA]
        rw [hv]
        
      · skip
        apply aw_skip
        apply q_block
        apply q_seq
        apply aw_reg [0, 1, 5] []
        · simp (disch := omega) only [avR2, avA, datsOf, fillA, seval, ↓List.forall_mem_cons, Op.operands, hA, tiA]
          first | exact ⟨rfl, rfl⟩ | ((repeat' first | refine And.intro ?_ ?_ | intro _) <;> first | with_reducible rfl | assumption | omega | rfl | (rename_i hq; rw [hq]; rfl) | (simp_all; done))
        refine q_loop (⟨i + 1, by omega, fun k hk => if h : k < i then hf k h else by (have : k = i := by omega); subst this; omega⟩) (Le.of ?_ ?_) (by dsimp only; omega)
        · try simp (disch := omega) only [LeE, LeO, avA, datsOf, fillA, seval, ↓List.forall_mem_cons, Op.operands]
          all_goals first | done | (repeat' apply And.intro) <;> first | rfl | omega | assumption | (simp only [AV.dat.injEq, Dat.int.injEq, true_and]; omega) | (congr <;> omega)
        · try simp (disch := omega) only [LeE, LeO, avA, datsOf, fillA, seval, ↓List.forall_mem_cons, Op.operands]
          all_goals first | done | (repeat' apply And.intro) <;> first | rfl | omega | assumption | (simp only [AV.dat.injEq, Dat.int.injEq, true_and]; omega) | (congr <;> omega)
    · skip
      have hv : decide (a = b) = true := by
        rw [decide_eq_true_eq]
        apply List.ext_getElem hlen
        intro k h1 h2
        have := hf k (by omega)
        simp only [List.getD_eq_getElem?_getD, List.getElem?_eq_getElem h1, List.getElem?_eq_getElem h2, Option.getD_some] at this
        exact this
      apply aw_exit
      apply q_exit_seq
      apply q_exit_loop
      apply q_exit
      apply q_seq
      apply aw_regs [4] []
      · simp (disch := omega) only [avR2, avA, datsOf, fillA, seval, ↓List.forall_mem_cons, Op.operands, hA, tiA]
        first | exact ⟨rfl, rfl⟩ | ((repeat' first | refine And.intro ?_ ?_ | intro _) <;> first | with_reducible rfl | assumption | omega | rfl | (rename_i hq; rw [hq]; rfl) | (simp_all; done))
      apply aw_ret
      simp only [QRet, QRetM, QRetX, retsX_nil, retsX_cons, objsAre, Tryd.results34, resA, mapO_nil, mapO_cons, vD_dat, vD_nils, vD_rp, vD_osl, vD_ptr, vD_agg, vD_fn, vL_dat, vL_app, viewL, avA, datsOf, fillA, seval, ↓List.forall_mem_cons, Op.operands, hP, hG, tiA]
      rw [hv]
      

theorem less_ok (a b : Int × Int) : Gives Tryd.prog gG 50 [oD a, oD b] [.bool (lessM a b)] := by
  refine gives_intro [] [] [] Tryd.func50 rfl (by rfl) (by simp [Tryd.ntmps50]) fun F hP hG hN hR => ?_
  rw [Tryd.ntmps50] at hN
  have hA := And.intro hN (And.intro hP (And.intro hG (And.intro hR.1 (And.intro hR.2.1 hR.2.2.1))))
  apply aw_regs [2, 3] [2, 3]
  · simp (disch := omega) only [avR2, avA, datsOf, fillA, seval, ↓List.forall_mem_cons, Op.operands, hA, tiA]
    first | exact ⟨rfl, rfl⟩ | ((repeat' first | refine And.intro ?_ ?_ | intro _) <;> first | with_reducible rfl | assumption | omega | rfl | (rename_i hq; rw [hq]; rfl) | (simp_all; done))
  apply aw_regs [4] []
  · simp (maxSteps := 2000000) (disch := omega) only [avR2, avA, datsOf, fillA, seval, ↓List.forall_mem_cons, Op.operands, hA, tiA, eq97, Dat.flat]
    first | exact ⟨rfl, rfl⟩ | ((repeat' first | refine And.intro ?_ ?_ | intro _) <;> first | with_reducible rfl | assumption | omega | rfl | (rename_i hq; rw [hq]; rfl) | (simp_all; done))
  apply aw_ret
  simp only [QRet, QRetM, QRetX, retsX_nil, retsX_cons, objsAre, Tryd.results50, resA, mapO_nil, mapO_cons, vD_dat, vD_nils, vD_rp, vD_osl, vD_ptr, vD_agg, vD_fn, vL_dat, vL_app, viewL, avA, datsOf, fillA, seval, ↓List.forall_mem_cons, Op.operands, hP, hG, tiA]
  simp [lessM, vD_dat]
  

end Go.Proofs.YthcfjdkflmkhbaaDoor

namespace Go.Proofs.YthcfjdkflmkhbaaDoor
open Go.Av

abbrev rD (r : Int × Int × Int × Int) : Dat := .agg [.int .i64 r.1, .int .i64 r.2.1, .int .i64 r.2.2.1, .int .i64 r.2.2.2]
theorem datE_rep (n : Nat) (d : Dat) : datE (List.replicate n (AV.dat d)) = some (List.replicate n d) := by
  have := datE_map (List.replicate n d)
  rwa [List.map_replicate] at this

end Go.Proofs.YthcfjdkflmkhbaaDoor

