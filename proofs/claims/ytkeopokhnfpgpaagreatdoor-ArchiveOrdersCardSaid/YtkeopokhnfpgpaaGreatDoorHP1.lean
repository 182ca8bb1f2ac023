/- A part of the proof. -/
import Derived.WalkKit
import Derived.WalkSpells
import Derived.OrdersIn
import Derived.TacticsIn
import Derived.RangeFuncLeaves
import Derived.RangeFuncRecord
import Derived.Laws.BytesString
set_option linter.all false
namespace Go.Av
inductive Dat where
 | int (k : IntKind) (n : Int)
 | bool (b : Bool)
 | str (s : ByteArray)
 | sl (l : List Dat)
 | agg (l : List Dat)
 | ref (d : Dat)
 | nilp
 | fn (f : FuncId) (caps : List Dat)
 | nilI
 | iface (t : TypeId) (d : Dat)
 deriving Inhabited
def Dat.cells : Dat → List Dat
 | .agg l => l
 | d => [d]
@[simp] theorem Dat.cells_agg (l : List Dat) : (Dat.agg l).cells = l := rfl
@[simp] theorem Dat.cells_int (k : IntKind) (n : Int) : (Dat.int k n).cells = [.int k n] := rfl
@[simp] theorem Dat.cells_bool (b : Bool) : (Dat.bool b).cells = [.bool b] := rfl
@[simp] theorem Dat.cells_str (s : ByteArray) : (Dat.str s).cells = [.str s] := rfl
@[simp] theorem Dat.cells_sl (l : List Dat) : (Dat.sl l).cells = [.sl l] := rfl
@[simp] theorem Dat.cells_ref (d : Dat) : (Dat.ref d).cells = [.ref d] := rfl
@[simp] theorem Dat.cells_nilp : Dat.nilp.cells = [.nilp] := rfl
@[simp] theorem Dat.cells_fn (f : FuncId) (l : List Dat) : (Dat.fn f l).cells = [.fn f l] := rfl
@[simp] theorem Dat.cells_nilI : Dat.nilI.cells = [.nilI] := rfl
@[simp] theorem Dat.cells_iface (t : TypeId) (d : Dat) : (Dat.iface t d).cells = [.iface t d] := rfl
def Dat.isAgg : Dat → Bool
 | .agg _ => true
 | _ => false
section
variable (S : Nat → Nat → Prop) (w : World)
mutual
/-- 'v' is a value of one cell that represents 'd'; all memory that is read lies in S. -/
def Rep1 : Dat → Value → Prop
 | .int k n, v => v = .int k n
 | .bool b, v => v = .bool b
 | .str s, v => v = .string s
 | .sl l, v => ∃ es a cap, v = .slice a l.length cap ∧ l.length ≤ cap ∧ RepS es l a
 | .agg _, _ => False
 | .ref d, v => ∃ b off, v = .pointer (some ⟨b, off, none⟩) ∧ RepAt d b off
 | .nilp, v => v = .pointer none
 | .fn f caps, v => ∃ vs, v = .func (.func f) #[] vs ∧ RepV caps vs.toList
 | .nilI, v => v = .nilIface
 | .iface t d, v => ∃ x, v = .iface t x ∧ RepX d x
/-- A value, which may be a struct or an array. -/
def RepX : Dat → Value → Prop
 | .agg l, v => ∃ cs, v = .agg cs ∧ RepL l cs.toList
 | .int k n, v => v = .int k n
 | .bool b, v => v = .bool b
 | .str s, v => v = .string s
 | .sl l, v => ∃ es a cap, v = .slice a l.length cap ∧ l.length ≤ cap ∧ RepS es l a
 | .ref d, v => ∃ b off, v = .pointer (some ⟨b, off, none⟩) ∧ RepAt d b off
 | .nilp, v => v = .pointer none
 | .fn f caps, v => ∃ vs, v = .func (.func f) #[] vs ∧ RepV caps vs.toList
 | .nilI, v => v = .nilIface
 | .iface t d, v => ∃ x, v = .iface t x ∧ RepX d x
/-- Cell for cell. -/
def RepL : List Dat → List Value → Prop
 | [], vs => vs = []
 | d :: ds, vs => ∃ v vs', vs = v :: vs' ∧ Rep1 d v ∧ RepL ds vs'
/-- Value for value. -/
def RepV : List Dat → List Value → Prop
 | [], vs => vs = []
 | d :: ds, vs => ∃ v vs', vs = v :: vs' ∧ RepX d v ∧ RepV ds vs'
/-- The elements of a slice, from an address on. -/
def RepS (es : Nat) : List Dat → Option Addr → Prop
 | [], _ => True
 | d :: ds, a => ∃ b off, a = some ⟨b, off, none⟩ ∧ d.cells.length = es ∧ RepAt d b off ∧ RepS es ds (some ⟨b, off + es, none⟩)
/-- A datum in memory. -/
def RepAt : Dat → Nat → Nat → Prop
 | .agg l, b, off => RepC l b off
 | .int k n, b, off => S b off ∧ w.cell? ⟨b, off, none⟩ = some (.int k n)
 | .bool x, b, off => S b off ∧ w.cell? ⟨b, off, none⟩ = some (.bool x)
 | .str s, b, off => S b off ∧ w.cell? ⟨b, off, none⟩ = some (.string s)
 | .sl l, b, off => S b off ∧ ∃ es a cap, w.cell? ⟨b, off, none⟩ = some (.slice a l.length cap) ∧ l.length ≤ cap ∧ RepS es l a
 | .ref d, b, off => S b off ∧ ∃ b' off', w.cell? ⟨b, off, none⟩ = some (.pointer (some ⟨b', off', none⟩)) ∧ RepAt d b' off'
 | .nilp, b, off => S b off ∧ w.cell? ⟨b, off, none⟩ = some (.pointer none)
 | .fn f caps, b, off => S b off ∧ ∃ vs, w.cell? ⟨b, off, none⟩ = some (.func (.func f) #[] vs) ∧ RepV caps vs.toList
 | .nilI, b, off => S b off ∧ w.cell? ⟨b, off, none⟩ = some .nilIface
 | .iface t d, b, off => S b off ∧ ∃ x, w.cell? ⟨b, off, none⟩ = some (.iface t x) ∧ RepX d x
def RepC : List Dat → Nat → Nat → Prop
 | [], _, _ => True
 | d :: ds, b, off => (S b off ∧ ∃ v, w.cell? ⟨b, off, none⟩ = some v ∧ Rep1 d v) ∧ RepC ds b (off + 1)
end
end
theorem Xo {S : Nat → Nat → Prop} {w : World} {d : Dat} {v : Value} (h : Rep1 S w d v) : RepX S w d v := by
 cases d <;> simp_all [Rep1, RepX]
theorem xf {S : Nat → Nat → Prop} {w : World} {d : Dat} {v : Value} (ha : d.isAgg = false) (h : RepX S w d v) : Rep1 S w d v := by
 cases d <;> simp_all [Rep1, RepX, Dat.isAgg]
theorem zc3 {S : Nat → Nat → Prop} {w : World} {d : Dat} {b off : Nat} (ha : d.isAgg = false) :
  RepAt S w d b off ↔ S b off ∧ ∃ v, w.cell? ⟨b, off, none⟩ = some v ∧ Rep1 S w d v := by
 cases d <;> simp [RepAt, Rep1, Dat.isAgg] at *
 all_goals
  intro _
  constructor
 all_goals first
  | (rintro ⟨e, a, c, h1, h2⟩; exact ⟨_, h1, e, a, c, rfl, h2⟩)
  | (rintro ⟨v, h1, e, a, c, rfl, h2⟩; exact ⟨e, a, c, h1, h2⟩)
  | (rintro ⟨a, c, h1, h2⟩; exact ⟨_, h1, a, c, rfl, h2⟩)
  | (rintro ⟨a, h1, h2⟩; exact ⟨_, h1, a, rfl, h2⟩)
  | (rintro ⟨v, h1, a, c, rfl, h2⟩; exact ⟨a, c, h1, h2⟩)
  | (rintro ⟨v, h1, a, rfl, h2⟩; exact ⟨a, h1, h2⟩)
def Keeps (S S' : Nat → Nat → Prop) (w w' : World) : Prop :=
 ∀ b i, S b i → S' b i ∧ w'.cell? ⟨b, i, none⟩ = w.cell? ⟨b, i, none⟩
theorem Keeps.refl (S : Nat → Nat → Prop) (w : World) : Keeps S S w w := fun _ _ h => ⟨h, rfl⟩
theorem Keeps.trans {S S' S'' : Nat → Nat → Prop} {w w' w'' : World} (h : Keeps S S' w w') (k : Keeps S' S'' w' w'') : Keeps S S'' w w'' :=
 fun b i hs => ⟨(k b i (h b i hs).1).1, (k b i (h b i hs).1).2.trans (h b i hs).2⟩
theorem Keeps.wider {S S' : Nat → Nat → Prop} (w : World) (h : ∀ b i, S b i → S' b i) : Keeps S S' w w := fun b i hs => ⟨h b i hs, rfl⟩
mutual
theorem Rep1.mono {S S' : Nat → Nat → Prop} {w w' : World} (hk : Keeps S S' w w') : ∀ (d : Dat) (v : Value), Rep1 S w d v → Rep1 S' w' d v
 | .int _ _, _, h | .bool _, _, h | .str _, _, h | .nilp, _, h | .nilI, _, h => by simpa [Rep1] using h
 | .sl l, v, h => by
  simp only [Rep1] at h ⊢
  obtain ⟨es, a, cap, hv, hc, hr⟩ := h
  exact ⟨es, a, cap, hv, hc, RepS.mono hk es l a hr⟩
 | .agg _, _, h => by simp [Rep1] at h
 | .ref d, v, h => by
  simp only [Rep1] at h ⊢
  obtain ⟨b, off, hv, hr⟩ := h
  exact ⟨b, off, hv, RepAt.mono hk d b off hr⟩
 | .fn f caps, v, h => by
  simp only [Rep1] at h ⊢
  obtain ⟨vs, hv, hr⟩ := h
  exact ⟨vs, hv, RepV.mono hk caps _ hr⟩
 | .iface t d, v, h => by
  simp only [Rep1] at h ⊢
  obtain ⟨x, hv, hr⟩ := h
  exact ⟨x, hv, RepX.mono hk d x hr⟩
theorem RepX.mono {S S' : Nat → Nat → Prop} {w w' : World} (hk : Keeps S S' w w') : ∀ (d : Dat) (v : Value), RepX S w d v → RepX S' w' d v
 | .int _ _, _, h | .bool _, _, h | .str _, _, h | .nilp, _, h | .nilI, _, h => by simpa [RepX] using h
 | .sl l, v, h => by
  simp only [RepX] at h ⊢
  obtain ⟨es, a, cap, hv, hc, hr⟩ := h
  exact ⟨es, a, cap, hv, hc, RepS.mono hk es l a hr⟩
 | .agg l, v, h => by
  simp only [RepX] at h ⊢
  obtain ⟨cs, hv, hr⟩ := h
  exact ⟨cs, hv, RepL.mono hk l _ hr⟩
 | .ref d, v, h => by
  simp only [RepX] at h ⊢
  obtain ⟨b, off, hv, hr⟩ := h
  exact ⟨b, off, hv, RepAt.mono hk d b off hr⟩
 | .fn f caps, v, h => by
  simp only [RepX] at h ⊢
  obtain ⟨vs, hv, hr⟩ := h
  exact ⟨vs, hv, RepV.mono hk caps _ hr⟩
 | .iface t d, v, h => by
  simp only [RepX] at h ⊢
  obtain ⟨x, hv, hr⟩ := h
  exact ⟨x, hv, RepX.mono hk d x hr⟩
theorem RepL.mono {S S' : Nat → Nat → Prop} {w w' : World} (hk : Keeps S S' w w') : ∀ (l : List Dat) (vs : List Value), RepL S w l vs → RepL S' w' l vs
 | [], _, h => by simpa [RepL] using h
 | d :: ds, vs, h => by
  simp only [RepL] at h ⊢
  obtain ⟨v, vs', hv, h1, h2⟩ := h
  exact ⟨v, vs', hv, Rep1.mono hk d v h1, RepL.mono hk ds vs' h2⟩
theorem RepV.mono {S S' : Nat → Nat → Prop} {w w' : World} (hk : Keeps S S' w w') : ∀ (l : List Dat) (vs : List Value), RepV S w l vs → RepV S' w' l vs
 | [], _, h => by simpa [RepV] using h
 | d :: ds, vs, h => by
  simp only [RepV] at h ⊢
  obtain ⟨v, vs', hv, h1, h2⟩ := h
  exact ⟨v, vs', hv, RepX.mono hk d v h1, RepV.mono hk ds vs' h2⟩
theorem RepS.mono {S S' : Nat → Nat → Prop} {w w' : World} (hk : Keeps S S' w w') : ∀ (es : Nat) (l : List Dat) (a : Option Addr), RepS S w es l a → RepS S' w' es l a
 | _, [], _, _ => by simp [RepS]
 | es, d :: ds, a, h => by
  simp only [RepS] at h ⊢
  obtain ⟨b, off, ha, hs, h1, h2⟩ := h
  exact ⟨b, off, ha, hs, RepAt.mono hk d b off h1, RepS.mono hk es ds _ h2⟩
theorem RepAt.mono {S S' : Nat → Nat → Prop} {w w' : World} (hk : Keeps S S' w w') : ∀ (d : Dat) (b off : Nat), RepAt S w d b off → RepAt S' w' d b off
 | .agg l, b, off, h => by
  simp only [RepAt] at h ⊢
  exact RepC.mono hk l b off h
 | .int _ _, b, off, h | .bool _, b, off, h | .str _, b, off, h | .nilp, b, off, h | .nilI, b, off, h => by
  simp only [RepAt] at h ⊢
  exact ⟨(hk b off h.1).1, (hk b off h.1).2.trans h.2⟩
 | .sl l, b, off, h => by
  simp only [RepAt] at h ⊢
  obtain ⟨hs, es, a, cap, hv, hc, hr⟩ := h
  exact ⟨(hk b off hs).1, es, a, cap, (hk b off hs).2.trans hv, hc, RepS.mono hk es l a hr⟩
 | .ref d, b, off, h => by
  simp only [RepAt] at h ⊢
  obtain ⟨hs, b', off', hv, hr⟩ := h
  exact ⟨(hk b off hs).1, b', off', (hk b off hs).2.trans hv, RepAt.mono hk d b' off' hr⟩
 | .fn f caps, b, off, h => by
  simp only [RepAt] at h ⊢
  obtain ⟨hs, vs, hv, hr⟩ := h
  exact ⟨(hk b off hs).1, vs, (hk b off hs).2.trans hv, RepV.mono hk caps _ hr⟩
 | .iface t d, b, off, h => by
  simp only [RepAt] at h ⊢
  obtain ⟨hs, x, hv, hr⟩ := h
  exact ⟨(hk b off hs).1, x, (hk b off hs).2.trans hv, RepX.mono hk d x hr⟩
theorem RepC.mono {S S' : Nat → Nat → Prop} {w w' : World} (hk : Keeps S S' w w') : ∀ (l : List Dat) (b off : Nat), RepC S w l b off → RepC S' w' l b off
 | [], _, _, _ => by simp [RepC]
 | d :: ds, b, off, h => by
  simp only [RepC] at h ⊢
  obtain ⟨⟨hs, v, hv, h1⟩, h2⟩ := h
  exact ⟨⟨(hk b off hs).1, v, (hk b off hs).2.trans hv, Rep1.mono hk d v h1⟩, RepC.mono hk ds b (off + 1) h2⟩
end
theorem vn {S : Nat → Nat → Prop} {w : World} (d : Dat) (b off : Nat) : RepAt S w d b off ↔ RepC S w d.cells b off := by
 by_cases ha : d.isAgg = false
 ·rw [zc3 ha]
  have hc : d.cells = [d] := by cases d <;> simp_all [Dat.isAgg]
  simp [hc, RepC]
 ·cases d <;> simp_all [Dat.isAgg, RepAt]
theorem z0r {S : Nat → Nat → Prop} {w : World} : ∀ {l : List Dat} {vs : List Value}, RepL S w l vs → vs.length = l.length
 | [], vs, h => by simp [RepL] at h; simp [h]
 | d :: ds, vs, h => by
  simp only [RepL] at h
  obtain ⟨v, vs', rfl, _, h2⟩ := h
  simp [z0r h2]
theorem z3d {S : Nat → Nat → Prop} {w : World} : ∀ {l : List Dat} {vs : List Value}, RepL S w l vs → ∀ {i : Nat} {d : Dat}, l[i]? = some d → ∃ v, vs[i]? = some v ∧ Rep1 S w d v
 | [], vs, h, i, d, hd => by simp at hd
 | x :: ds, vs, h, i, d, hd => by
  simp only [RepL] at h
  obtain ⟨v, vs', rfl, h1, h2⟩ := h
  cases i with
  | zero => simp at hd; subst hd; exact ⟨v, by simp, h1⟩
  | succ i => simpa using z3d h2 (by simpa using hd)
theorem zc4 {S : Nat → Nat → Prop} {w : World} : ∀ {l : List Dat} {vs : List Value}, vs.length = l.length → (∀ (i : Nat) (d : Dat), l[i]? = some d → ∃ v, vs[i]? = some v ∧ Rep1 S w d v) → RepL S w l vs
 | [], vs, hl, _ => by simp [RepL]; exact List.eq_nil_of_length_eq_zero (by simpa using hl)
 | x :: ds, vs, hl, h => by
  simp only [RepL]
  cases vs with
  | nil => simp at hl
  | cons v vs' =>
   refine ⟨v, vs', rfl, ?_, zc4 (by simpa using hl) fun i d hd => by simpa using h (i + 1) d (by simpa using hd)⟩
   obtain ⟨v', hv', hr⟩ := h 0 x (by simp)
   simp at hv'
   exact hv' ▸ hr
theorem z0q {S : Nat → Nat → Prop} {w : World} : ∀ {l : List Dat} {b off : Nat}, RepC S w l b off → ∀ {i : Nat} {d : Dat}, l[i]? = some d → S b (off + i) ∧ ∃ v, w.cell? ⟨b, off + i, none⟩ = some v ∧ Rep1 S w d v
 | [], _, _, _, i, d, hd => by simp at hd
 | x :: ds, b, off, h, i, d, hd => by
  simp only [RepC] at h
  cases i with
  | zero => simp at hd; subst hd; exact h.1
  | succ i =>
   have := z0q h.2 (i := i) (by simpa using hd)
   rwa [show off + 1 + i = off + (i + 1) from by omega] at this
theorem Q3 {S : Nat → Nat → Prop} {w : World} : ∀ {l : List Dat} {b off : Nat}, (∀ (i : Nat) (d : Dat), l[i]? = some d → S b (off + i) ∧ ∃ v, w.cell? ⟨b, off + i, none⟩ = some v ∧ Rep1 S w d v) → RepC S w l b off
 | [], _, _, _ => by simp [RepC]
 | x :: ds, b, off, h => by
  simp only [RepC]
  refine ⟨by simpa using h 0 x (by simp), Q3 fun i d hd => ?_⟩
  have := h (i + 1) d (by simpa using hd)
  rwa [show off + (i + 1) = off + 1 + i from by omega] at this
theorem v7 {S : Nat → Nat → Prop} {w : World} {es : Nat} : ∀ {l : List Dat} {a : Option Addr}, RepS S w es l a → ∀ {i : Nat} {d : Dat}, l[i]? = some d → ∃ b off, a = some ⟨b, off, none⟩ ∧ d.cells.length = es ∧ RepC S w d.cells b (off + i * es)
 | [], _, _, i, d, hd => by simp at hd
 | x :: ds, a, h, i, d, hd => by
  simp only [RepS] at h
  obtain ⟨b, off, rfl, hc, h1, h2⟩ := h
  cases i with
  | zero => simp at hd; subst hd; exact ⟨b, off, rfl, hc, by simpa using (vn _ _ _).1 h1⟩
  | succ i =>
   obtain ⟨b', off', ha, hc', hr⟩ := v7 h2 (i := i) (by simpa using hd)
   simp only [Option.some.injEq, Addr.mk.injEq, and_true] at ha
   obtain ⟨rfl, rfl⟩ := ha
   refine ⟨b, off, rfl, hc', ?_⟩
   rwa [show off + es + i * es = off + (i + 1) * es from by rw [Nat.add_mul]; omega] at hr
theorem Q4 {S : Nat → Nat → Prop} {w : World} {es b : Nat} : ∀ {l : List Dat} {off : Nat}, (∀ (i : Nat) (d : Dat), l[i]? = some d → d.cells.length = es ∧ RepC S w d.cells b (off + i * es)) → RepS S w es l (some ⟨b, off, none⟩)
 | [], _, _ => by simp [RepS]
 | x :: ds, off, h => by
  simp only [RepS]
  have h0 := h 0 x (by simp)
  refine ⟨b, off, rfl, h0.1, (vn _ _ _).2 (by simpa using h0.2), Q4 fun i d hd => ?_⟩
  have := h (i + 1) d (by simpa using hd)
  rwa [show off + (i + 1) * es = off + es + i * es from by rw [Nat.add_mul]; omega] at this
theorem Zu {S : Nat → Nat → Prop} {w : World} {d : Dat} {v : Value} (h : Rep1 S w d v) : v.oneCell' = true := by
 cases d <;> simp [Rep1] at h
 all_goals first
  | (subst h; rfl)
  | (obtain ⟨e, a, cap, rfl, _⟩ := h; rfl)
  | (obtain ⟨a, cap, rfl, _⟩ := h; rfl)
  | (obtain ⟨a, rfl, _⟩ := h; rfl)
 all_goals (obtain ⟨a, b, rfl, _⟩ := h; rfl)
inductive AV where
 | junk
 | dat (d : Dat)
 | agg (l : List AV)
 | tup (l : List AV)
 | osl (id es off len : Nat)
 | nils
 | lits (l : List Dat)
 | ptr (id es i off : Nat)
 | gl (g off : Nat)
 | rp (d : Dat) (off : Nat)
 | fn (f : FuncId) (caps : List AV)
 | cond (b : Bool) (v : AV)
 | raw (v : Value)
 | mp (id : Nat)
 | isl (id es i off len cap : Nat)
 deriving Inhabited
structure AObj where
 es : Nat
 elems : List AV
def AV.cells : AV → List AV
 | .agg l => l
 | .dat (.agg l) => l.map .dat
 | v => [v]
mutual
/-- Every reference to an object is struck. -/
def AV.kill (id : Nat) : AV → AV
 | .junk => .junk
 | .dat d => .dat d
 | .agg l => .agg (killL id l)
 | .tup l => .tup (killL id l)
 | .osl i es off len => if i = id then .junk else .osl i es off len
 | .nils => .nils
 | .lits l => .lits l
 | .ptr i es k off => if i = id then .junk else .ptr i es k off
 | .gl g off => .gl g off
 | .rp d off => .rp d off
 | .fn f caps => .fn f (killL id caps)
 | .cond b v => .cond b (v.kill id)
 | .raw v => .raw v
 | .mp i => if i = id then .junk else .mp i
 | .isl i es k off len cap => if i = id then .junk else .isl i es k off len cap
def killL (id : Nat) : List AV → List AV
 | [] => []
 | v :: l => v.kill id :: killL id l
end
theorem yw (id : Nat) : ∀ l, killL id l = l.map (AV.kill id)
 | [] => by simp [killL]
 | v :: l => by simp [killL, yw id l]
theorem z1a (id : Nat) (l : List Dat) : (l.map AV.dat).map (AV.kill id) = l.map AV.dat := by
 simp [List.map_map, Function.comp_def, AV.kill]
mutual
theorem jd (id : Nat) : ∀ x : AV, (x.kill id).kill id = x.kill id
 | .junk | .dat _ | .nils | .lits _ | .gl _ _ | .rp _ _ | .raw _ => by simp [AV.kill]
 | .agg l => by simp only [AV.kill]; rw [Z2 id l]
 | .tup l => by simp only [AV.kill]; rw [Z2 id l]
 | .osl i es off len => by simp only [AV.kill]; split <;> simp_all [AV.kill]
 | .ptr i es k off => by simp only [AV.kill]; split <;> simp_all [AV.kill]
 | .mp i => by simp only [AV.kill]; split <;> simp_all [AV.kill]
 | .isl i es k off len cap => by simp only [AV.kill]; split <;> simp_all [AV.kill]
 | .fn f l => by simp only [AV.kill]; rw [Z2 id l]
 | .cond b v => by simp only [AV.kill]; rw [jd id v]
theorem Z2 (id : Nat) : ∀ l : List AV, killL id (killL id l) = killL id l
 | [] => by simp [killL]
 | v :: l => by simp only [killL]; rw [jd id v, Z2 id l]
end
abbrev zg := Nat → Option (Nat × Nat)
section
variable (β : zg) (S : Nat → Nat → Prop) (w : World)
mutual
def RepA : AV → Value → Prop
 | .junk, _ => True
 | .dat d, v => RepX S w d v
 | .agg l, v => ∃ cs, v = .agg cs ∧ RepAL l cs.toList
 | .tup l, v => ∃ cs, v = .tuple cs ∧ RepAL l cs.toList
 | .osl id es off len, v =>
  (β id = none ∧ len = 0 ∧ ∃ a, v = .slice a 0 0) ∨
  ∃ b s cap arr e a, β id = some (b, s) ∧ v = .slice a len cap ∧ (0 < cap → a = some ⟨b, s + off * es, none⟩) ∧ len ≤ cap ∧ w.heap[b]? = some (.cells arr e (0, 0)) ∧ s + (off + cap) * es ≤ arr.size
 | .nils, v => ∃ a, v = .slice a 0 0
 | .lits l, v => ∃ es a, v = .slice a l.length l.length ∧ RepS S w es l a
 | .ptr id es i off, v => ∃ b s, β id = some (b, s) ∧ v = .pointer (some ⟨b, s + i * es + off, none⟩) ∧ ∃ arr e, w.heap[b]? = some (.cells arr e (0, 0))
 | .gl g off, v => v = .pointer (some ⟨g, off, none⟩)
 | .rp d off, v => ∃ b o, v = .pointer (some ⟨b, o + off, none⟩) ∧ RepAt S w d b o
 | .fn f caps, v => ∃ vs, v = .func (.func f) #[] vs ∧ RepAL caps vs.toList
 | .cond c x, v => (c = true → RepA x v) ∧ (c = false → v = undef)
 | .raw x, v => v = x ∧ v.oneCell' = true
 | .mp id, v => ∃ b, β id = some (b, 0) ∧ v = .map (some b)
 | .isl id es i off len cap, v => len ≤ cap ∧ ∃ b s, β id = some (b, s) ∧ v = .slice (some ⟨b, s + i * es + off, none⟩) len cap ∧ ∃ arr e, w.heap[b]? = some (.cells arr e (0, 0))
def RepAL : List AV → List Value → Prop
 | [], vs => vs = []
 | x :: xs, vs => ∃ v vs', vs = v :: vs' ∧ RepA x v ∧ RepAL xs vs'
end
end
def Shapes (w w' : World) : Prop :=
 ∀ (b : Nat) (arr : Array Value) (e : TypeId), w.heap[b]? = some (Obj.cells arr e (0, 0)) → ∃ arr' : Array Value, w'.heap[b]? = some (Obj.cells arr' e (0, 0)) ∧ arr'.size = arr.size
theorem Shapes.refl (w : World) : Shapes w w := fun _ arr _ h => ⟨arr, h, rfl⟩
theorem Shapes.trans {a b c : World} (h : Shapes a b) (k : Shapes b c) : Shapes a c := fun x arr e hx => by
 obtain ⟨arr', h', hs⟩ := h x arr e hx
 obtain ⟨arr'', h'', hs'⟩ := k x arr' e h'
 exact ⟨arr'', h'', hs'.trans hs⟩
mutual
theorem RepA.mono {β : zg} {S S' : Nat → Nat → Prop} {w w' : World} (hk : Keeps S S' w w') (hs : Shapes w w') : ∀ (x : AV) (v : Value), RepA β S w x v → RepA β S' w' x v
 | .junk, _, _ => by simp [RepA]
 | .dat d, v, h => by simp only [RepA] at h ⊢; exact RepX.mono hk d v h
 | .agg l, v, h => by
  simp only [RepA] at h ⊢
  obtain ⟨cs, hv, hr⟩ := h
  exact ⟨cs, hv, RepAL.mono hk hs l _ hr⟩
 | .tup l, v, h => by
  simp only [RepA] at h ⊢
  obtain ⟨cs, hv, hr⟩ := h
  exact ⟨cs, hv, RepAL.mono hk hs l _ hr⟩
 | .osl id es off len, v, h => by
  simp only [RepA] at h ⊢
  rcases h with h | ⟨b, s, cap, arr, e, a, hb, hv, ha, hc, hh, hz⟩
  ·exact .inl h
  ·obtain ⟨arr', h', hs'⟩ := hs b arr e hh
   exact .inr ⟨b, s, cap, arr', e, a, hb, hv, ha, hc, h', by omega⟩
 | .nils, v, h => by simpa [RepA] using h
 | .lits l, v, h => by
  simp only [RepA] at h ⊢
  obtain ⟨es, a, hv, hr⟩ := h
  exact ⟨es, a, hv, RepS.mono hk es l a hr⟩
 | .ptr id es i off, v, h => by
  simp only [RepA] at h ⊢
  obtain ⟨b, s, hb, hv, arr, e, hh⟩ := h
  obtain ⟨arr', h', _⟩ := hs b arr e hh
  exact ⟨b, s, hb, hv, arr', e, h'⟩
 | .mp id, v, h => by simpa [RepA] using h
 | .isl id es i off len cap, v, h => by
  simp only [RepA] at h ⊢
  obtain ⟨hl, b, s, hb, hv, arr, e, hh⟩ := h
  obtain ⟨arr', h', _⟩ := hs b arr e hh
  exact ⟨hl, b, s, hb, hv, arr', e, h'⟩
 | .gl g off, v, h => by simpa [RepA] using h
 | .rp d off, v, h => by
  simp only [RepA] at h ⊢
  obtain ⟨b, o, hv, hr⟩ := h
  exact ⟨b, o, hv, RepAt.mono hk d b o hr⟩
 | .fn f caps, v, h => by
  simp only [RepA] at h ⊢
  obtain ⟨vs, hv, hr⟩ := h
  exact ⟨vs, hv, RepAL.mono hk hs caps _ hr⟩
 | .cond c x, v, h => by
  simp only [RepA] at h ⊢
  exact ⟨fun hc => RepA.mono hk hs x v (h.1 hc), h.2⟩
 | .raw x, v, h => by simpa [RepA] using h
theorem RepAL.mono {β : zg} {S S' : Nat → Nat → Prop} {w w' : World} (hk : Keeps S S' w w') (hs : Shapes w w') : ∀ (l : List AV) (vs : List Value), RepAL β S w l vs → RepAL β S' w' l vs
 | [], _, h => by simpa [RepAL] using h
 | x :: xs, vs, h => by
  simp only [RepAL] at h ⊢
  obtain ⟨v, vs', hv, h1, h2⟩ := h
  exact ⟨v, vs', hv, RepA.mono hk hs x v h1, RepAL.mono hk hs xs vs' h2⟩
end
mutual
/-- Another place for one object: what does not refer to it stays as it is. -/
theorem RepA.moved {β β' : zg} {S : Nat → Nat → Prop} {w : World} {id : Nat} (hb : ∀ i, i ≠ id → β' i = β i) : ∀ (x : AV) (v : Value), RepA β S w x v → RepA β' S w (x.kill id) v
 | .junk, _, _ => by simp [RepA, AV.kill]
 | .dat d, v, h => by simpa only [RepA, AV.kill] using h
 | .agg l, v, h => by
  simp only [RepA, AV.kill] at h ⊢
  obtain ⟨cs, hv, hr⟩ := h
  exact ⟨cs, hv, RepAL.moved hb l _ hr⟩
 | .tup l, v, h => by
  simp only [RepA, AV.kill] at h ⊢
  obtain ⟨cs, hv, hr⟩ := h
  exact ⟨cs, hv, RepAL.moved hb l _ hr⟩
 | .osl i es off len, v, h => by
  simp only [AV.kill]
  split
  ·simp [RepA]
  ·rename_i hi
   simp only [RepA] at h ⊢
   rwa [hb i hi]
 | .nils, v, h => by simpa [RepA, AV.kill] using h
 | .lits l, v, h => by simpa [RepA, AV.kill] using h
 | .ptr i es k off, v, h => by
  simp only [AV.kill]
  split
  ·simp [RepA]
  ·rename_i hi
   simp only [RepA] at h ⊢
   rwa [hb i hi]
 | .mp i, v, h => by
  simp only [AV.kill]
  split
  ·simp [RepA]
  ·rename_i hi
   simp only [RepA] at h ⊢
   rwa [hb i hi]
 | .isl i es k off len cap, v, h => by
  simp only [AV.kill]
  split
  ·simp [RepA]
  ·rename_i hi
   simp only [RepA] at h ⊢
   rwa [hb i hi]
 | .gl g off, v, h => by simpa [RepA, AV.kill] using h
 | .rp d off, v, h => by simpa [RepA, AV.kill] using h
 | .fn f caps, v, h => by
  simp only [RepA, AV.kill] at h ⊢
  obtain ⟨vs, hv, hr⟩ := h
  exact ⟨vs, hv, RepAL.moved hb caps _ hr⟩
 | .cond c x, v, h => by
  simp only [RepA, AV.kill] at h ⊢
  exact ⟨fun hc => RepA.moved hb x v (h.1 hc), h.2⟩
 | .raw x, v, h => by simpa [RepA, AV.kill] using h
theorem RepAL.moved {β β' : zg} {S : Nat → Nat → Prop} {w : World} {id : Nat} (hb : ∀ i, i ≠ id → β' i = β i) : ∀ (l : List AV) (vs : List Value), RepAL β S w l vs → RepAL β' S w (killL id l) vs
 | [], _, h => by simpa [RepAL, killL] using h
 | x :: xs, vs, h => by
  simp only [RepAL, killL] at h ⊢
  obtain ⟨v, vs', hv, h1, h2⟩ := h
  exact ⟨v, vs', hv, RepA.moved hb x v h1, RepAL.moved hb xs vs' h2⟩
end
theorem zy {β : zg} {S : Nat → Nat → Prop} {w : World} : ∀ {l : List AV} {vs : List Value}, RepAL β S w l vs → vs.length = l.length
 | [], vs, h => by simp [RepAL] at h; simp [h]
 | d :: ds, vs, h => by
  simp only [RepAL] at h
  obtain ⟨v, vs', rfl, _, h2⟩ := h
  simp [zy h2]
theorem xu {β : zg} {S : Nat → Nat → Prop} {w : World} : ∀ {l : List AV} {vs : List Value}, RepAL β S w l vs → ∀ {i : Nat} {d : AV}, l[i]? = some d → ∃ v, vs[i]? = some v ∧ RepA β S w d v
 | [], vs, h, i, d, hd => by simp at hd
 | x :: ds, vs, h, i, d, hd => by
  simp only [RepAL] at h
  obtain ⟨v, vs', rfl, h1, h2⟩ := h
  cases i with
  | zero => simp at hd; subst hd; exact ⟨v, by simp, h1⟩
  | succ i => simpa using xu h2 (by simpa using hd)
theorem z3c {β : zg} {S : Nat → Nat → Prop} {w : World} : ∀ {l : List AV} {vs : List Value}, vs.length = l.length → (∀ (i : Nat) (d : AV), l[i]? = some d → ∃ v, vs[i]? = some v ∧ RepA β S w d v) → RepAL β S w l vs
 | [], vs, hl, _ => by simp [RepAL]; exact List.eq_nil_of_length_eq_zero (by simpa using hl)
 | x :: ds, vs, hl, h => by
  simp only [RepAL]
  cases vs with
  | nil => simp at hl
  | cons v vs' =>
   refine ⟨v, vs', rfl, ?_, z3c (by simpa using hl) fun i d hd => by simpa using h (i + 1) d (by simpa using hd)⟩
   obtain ⟨v', hv', hr⟩ := h 0 x (by simp)
   simp at hv'
   exact hv' ▸ hr
theorem z2b {β : zg} {S : Nat → Nat → Prop} {w : World} : ∀ {l : List Dat} {vs : List Value}, RepL S w l vs → RepAL β S w (l.map .dat) vs
 | [], _, h => by simpa [RepAL, RepL] using h
 | d :: ds, vs, h => by
  simp only [RepL] at h
  obtain ⟨v, vs', rfl, h1, h2⟩ := h
  simp only [List.map_cons, RepAL]
  exact ⟨v, vs', rfl, by simpa only [RepA] using Xo h1, z2b h2⟩
theorem z7n {β : zg} {S : Nat → Nat → Prop} {w : World} {x : AV} {v : Value} (h : RepA β S w x v) (ht : ∀ l, x ≠ .tup l) (hc : ∀ b y, x ≠ .cond b y) (hj : x ≠ .junk) : RepAL β S w x.cells v.cells.toList := by
 have one : ∀ v : Value, v.oneCell' = true → v.cells = #[v] := fun v hv => by cases v <;> simp_all [Value.cells, Value.oneCell']
 cases x with
 | junk => exact absurd rfl hj
 | tup l => exact absurd rfl (ht l)
 | cond b y => exact absurd rfl (hc b y)
 | agg l =>
  simp only [RepA] at h
  obtain ⟨cs, rfl, hr⟩ := h
  simpa [AV.cells, Value.cells] using hr
 | dat d =>
  simp only [RepA] at h
  by_cases ha : d.isAgg = false
  ·have h1 := xf ha h
   have hcell : (AV.dat d).cells = [.dat d] := by cases d <;> simp_all [AV.cells, Dat.isAgg]
   rw [hcell, one v (Zu h1)]
   simp only [RepAL]
   exact ⟨v, [], rfl, by simpa only [RepA] using h, rfl⟩
  ·cases d <;> simp_all [Dat.isAgg]
   simp only [RepX] at h
   obtain ⟨cs, rfl, hr⟩ := h
   simpa [AV.cells, Value.cells] using z2b hr
 | osl id es off len =>
  have h' := h
  simp only [RepA] at h
  have hv : v.oneCell' = true := by
   rcases h with ⟨_, _, a, rfl⟩ | ⟨b, s, cap, arr, e, a, _, rfl, _⟩ <;> rfl
  simp only [AV.cells, one v hv, RepAL]
  exact ⟨v, [], rfl, h', rfl⟩
 | nils =>
  have h' := h
  simp only [RepA] at h
  obtain ⟨a, rfl⟩ := h
  simp only [AV.cells, one _ (show (Value.slice a 0 0).oneCell' = true from rfl), RepAL]
  exact ⟨_, [], rfl, h', rfl⟩
 | lits l =>
  have h' := h
  simp only [RepA] at h
  obtain ⟨es, a, rfl, _⟩ := h
  simp only [AV.cells, one (.slice _ _ _) rfl, RepAL]
  exact ⟨_, [], rfl, h', rfl⟩
 | ptr id es i off =>
  have h' := h
  simp only [RepA] at h
  obtain ⟨b, s, _, rfl, _⟩ := h
  simp only [AV.cells, one (.pointer _) rfl, RepAL]
  exact ⟨_, [], rfl, h', rfl⟩
 | mp id =>
  have h' := h
  simp only [RepA] at h
  obtain ⟨b, _, rfl⟩ := h
  simp only [AV.cells, one (.map _) rfl, RepAL]
  exact ⟨_, [], rfl, h', rfl⟩
 | isl id es i off len cap =>
  have h' := h
  simp only [RepA] at h
  obtain ⟨_, b, s, _, rfl, _⟩ := h
  simp only [AV.cells, one (.slice _ _ _) rfl, RepAL]
  exact ⟨_, [], rfl, h', rfl⟩
 | gl g off =>
  have h' := h
  simp only [RepA] at h
  subst h
  simp only [AV.cells, one (.pointer _) rfl, RepAL]
  exact ⟨_, [], rfl, h', rfl⟩
 | rp d off =>
  have h' := h
  simp only [RepA] at h
  obtain ⟨b, o, rfl, _⟩ := h
  simp only [AV.cells, one (.pointer _) rfl, RepAL]
  exact ⟨_, [], rfl, h', rfl⟩
 | fn f caps =>
  have h' := h
  simp only [RepA] at h
  obtain ⟨vs, rfl, _⟩ := h
  simp only [AV.cells, one (.func _ _ _) rfl, RepAL]
  exact ⟨_, [], rfl, h', rfl⟩
 | raw y =>
  have h' := h
  simp only [RepA] at h
  simp only [AV.cells, one v h.2, RepAL]
  exact ⟨v, [], rfl, h', rfl⟩
def MemC (β : zg) (S : Nat → Nat → Prop) (w : World) (l : List AV) (b o : Nat) : Prop :=
 ∀ (i : Nat) (c : AV), l[i]? = some c → ∃ v, w.cell? ⟨b, o + i, none⟩ = some v ∧ v.oneCell' = true ∧ RepA β S w c v
structure Ext (M : Nat → Prop) (w w' : World) : Prop where
 os : w'.os = w.os
 tape : w'.tape = w.tape
 output : w'.output = w.output
 size : w.heap.size ≤ w'.heap.size
 block : ∀ k, k < w.heap.size → ¬ M k → w'.heap[k]? = w.heap[k]?
 shape : Shapes w w'
theorem Ext.refl (M : Nat → Prop) (w : World) : Ext M w w := ⟨rfl, rfl, rfl, Nat.le_refl _, fun _ _ _ => rfl, .refl w⟩
theorem Ext.trans {M M' : Nat → Prop} {a b c : World} (h : Ext M a b) (k : Ext M' b c) (hM : ∀ i, i < a.heap.size → M' i → M i) : Ext M a c :=
 ⟨k.os.trans h.os, k.tape.trans h.tape, k.output.trans h.output, Nat.le_trans h.size k.size,
   fun i hi hm => (k.block i (Nat.lt_of_lt_of_le hi h.size) (fun hm' => hm (hM i hi hm'))).trans (h.block i hi hm), h.shape.trans k.shape⟩
theorem Shapes.alloc (w : World) (o : Obj) : Shapes w (w.alloc o) := fun b arr e h => by
 have hb : b < w.heap.size := (Array.getElem?_eq_some_iff.1 h).1
 exact ⟨arr, (RowKit.Below.heap_alloc w o b hb).trans h, rfl⟩
theorem Ext.alloc (M : Nat → Prop) (w : World) (o : Obj) : Ext M w (w.alloc o) :=
 ⟨rfl, rfl, rfl, by simp, fun k hk _ => RowKit.Below.heap_alloc w o k hk, .alloc w o⟩
theorem Ext.drew (M : Nat → Prop) (w : World) : Ext M w w.drew :=
 ⟨rfl, rfl, rfl, Nat.le_refl _, fun _ _ _ => rfl, fun _ arr _ h => ⟨arr, h, rfl⟩⟩
structure ASt where
 env : Nat → AV
 objs : Nat → Option AObj
def upd {α : Type} (f : Nat → α) (n : Nat) (v : α) : Nat → α := fun k => if k = n then v else f k
@[simp] theorem upd_same {α : Type} (f : Nat → α) (n : Nat) (v : α) : upd f n v n = v := by simp [upd]
theorem qo {α : Type} (f : Nat → α) {n k : Nat} (v : α) (h : k ≠ n) : upd f n v k = f k := by simp [upd, h]
theorem zq {α : Type} (f : Nat → α) (n : Nat) (v : α) (k : Nat) : upd f n v k = if k = n then v else f k := rfl
def ASt.put (st : ASt) (dst : Option Nat) (v : AV) : ASt :=
 match dst with
 | some d => { st with env := upd st.env d v }
 | none => st
def ASt.kill (st : ASt) (id : Nat) : ASt :=
 { env := fun n => (st.env n).kill id, objs := fun i => if i = id then none else (st.objs i).map fun o => { o with elems := o.elems.map (AV.kill id) } }
def ASt.obj (st : ASt) (id : Nat) (o : AObj) : ASt := { st with objs := upd st.objs id (some o) }
structure FC where
 P : Program
 N : Nat
 G : List (Nat × Dat)
 w0 : World
 M0 : Nat → Prop
 S0 : Nat → Nat → Prop
 rows : List Nat := []
 lits : List Nat := []
 apps : List Nat := []
 pin : zg := fun _ => none
 rnd : Option Nat := none
 ds : List Deferred := []
 b0 : Nat := 0
 frb : Nat → Prop := fun _ => False
 db : List Deferred := []
def TopF (F : FC) : Prop := (∀ b, F.M0 b → F.frb b) ∧ F.rnd = none
def zvq (F : FC) : Prop := ∀ p ∈ F.G, p.1 < F.w0.heap.size ∧ ¬ F.M0 p.1 ∧ RepC (fun b _ => b = p.1) F.w0 p.2.cells p.1 0
def MapRep (S : Nat → Nat → Prop) (w : World) (en : Array MapEntry) (ck : Nat) (ks vs : List Dat) : Prop :=
 (ck = en.size ∧ ∀ (i : Nat) (x : MapEntry), en[i]? = some x → x.born = i) ∧ en.size = ks.length ∧ ks.length = vs.length ∧ ∀ (i : Nat) (k v : Dat), ks[i]? = some k → vs[i]? = some v → ∃ x, en[i]? = some x ∧ RepX S w k x.key ∧ RepX S w v x.val
theorem MapRep.mono {S S' : Nat → Nat → Prop} {w w' : World} (hk : Keeps S S' w w') {en : Array MapEntry} {ck : Nat} {ks vs : List Dat} (h : MapRep S w en ck ks vs) : MapRep S' w' en ck ks vs :=
 ⟨h.1, h.2.1, h.2.2.1, fun i k v h1 h2 => by
   obtain ⟨x, h3, h4, h5⟩ := h.2.2.2 i k v h1 h2
   exact ⟨x, h3, RepX.mono hk k _ h4, RepX.mono hk v _ h5⟩⟩
abbrev yy (ks vs : List Dat) : AObj := ⟨0, [.tup [], .dat (.sl ks), .dat (.sl vs)]⟩
def IsMap (F : FC) (β : zg) (S : Nat → Nat → Prop) (w : World) (id : Nat) (o : AObj) : Prop :=
 ∃ b en ck ks vs, β id = some (b, 0) ∧ (F.w0.heap.size ≤ b ∨ F.M0 b) ∧ w.heap[b]? = some (.map en ck) ∧ o = yy ks vs ∧ MapRep S w en ck ks vs
def zvr (F : FC) (β : zg) (S : Nat → Nat → Prop) (w : World) (id : Nat) (o : AObj) : Prop :=
 (β id = none ∧ o.elems = []) ∨
 (∃ b s arr e, β id = some (b, s) ∧ (F.w0.heap.size ≤ b ∨ F.M0 b) ∧ w.heap[b]? = some (.cells arr e (0, 0)) ∧ s + o.elems.length * o.es ≤ arr.size ∧
   ∀ (i : Nat) (x : AV), o.elems[i]? = some x → x.cells.length = o.es ∧ MemC β S w x.cells b (s + i * o.es)) ∨
 IsMap F β S w id o
theorem IsMap.noCells {F : FC} {β : zg} {S : Nat → Nat → Prop} {w : World} {id : Nat} {o : AObj} {b s : Nat} (h : IsMap F β S w id o) (hb : β id = some (b, s)) (hc : ∃ arr e, w.heap[b]? = some (.cells arr e (0, 0))) : False := by
 obtain ⟨b', en, ck, ks, vs, hb', _, hh, _⟩ := h
 obtain ⟨arr, e, hc⟩ := hc
 rw [hb'] at hb
 simp only [Option.some.injEq, Prod.mk.injEq] at hb
 obtain ⟨rfl, _⟩ := hb
 rw [hh] at hc
 cases hc
theorem IsMap.none {F : FC} {β : zg} {S : Nat → Nat → Prop} {w : World} {id : Nat} {o : AObj} (h : IsMap F β S w id o) (hb : β id = none) : False := by
 obtain ⟨b', en, ck, ks, vs, hb', _⟩ := h
 rw [hb'] at hb; cases hb
theorem IsMap.place {F : FC} {β : zg} {S : Nat → Nat → Prop} {w : World} {id : Nat} {o : AObj} {b s : Nat} (h : IsMap F β S w id o) (hb : β id = some (b, s)) : (F.w0.heap.size ≤ b ∨ F.M0 b) ∧ b < w.heap.size := by
 obtain ⟨b', en, ck, ks, vs, hb', hw, hh, _⟩ := h
 rw [hb'] at hb
 simp only [Option.some.injEq, Prod.mk.injEq] at hb
 obtain ⟨rfl, _⟩ := hb
 exact ⟨hw, (Array.getElem?_eq_some_iff.1 hh).1⟩
theorem IsMap.mono {F : FC} {β β' : zg} {S S' : Nat → Nat → Prop} {w w' : World} {id id' : Nat} {o : AObj} (h : IsMap F β S w id o) (hβ : β' id' = β id) (hk : Keeps S S' w w') (hb : ∀ b, β id = some (b, 0) → w'.heap[b]? = w.heap[b]?) : IsMap F β' S' w' id' o := by
 obtain ⟨b, en, ck, ks, vs, hb', hw, hh, ho, hm⟩ := h
 exact ⟨b, en, ck, ks, vs, hβ.trans hb', hw, (hb b hb').trans hh, ho, hm.mono hk⟩
theorem IsMap.kill {F : FC} {β : zg} {S : Nat → Nat → Prop} {w : World} {id : Nat} {o : AObj} (h : IsMap F β S w id o) (d : Nat) : IsMap F β S w id { o with elems := o.elems.map (AV.kill d) } := by
 obtain ⟨b, en, ck, ks, vs, hb', hw, hh, rfl, hm⟩ := h
 exact ⟨b, en, ck, ks, vs, hb', hw, hh, by simp [AV.kill, killL], hm⟩
structure SimB (F : FC) (β : zg) (S : Nat → Nat → Prop) (st : ASt) (tm : Array Value) (w : World) : Prop where
 ext : Ext F.M0 F.w0 w
 glob : zvq F
 sub : ∀ b i, S b i → F.S0 b i ∨ F.w0.heap.size ≤ b ∨ F.frb b
 lt : ∀ b i, S b i → b < w.heap.size
 sep : ∀ id o b s i, st.objs id = some o → β id = some (b, s) → ¬ S b i
 inj : ∀ id id' o o' b s s', st.objs id = some o → st.objs id' = some o' → β id = some (b, s) → β id' = some (b, s') → id = id'
 obj : ∀ id o, st.objs id = some o → zvr F β S w id o
 env : ∀ n, RepA β S w (st.env n) (tm.getD n undef)
 size : F.N ≤ tm.size ∧ ∀ id, F.N ≤ id → β id = F.pin id
def zja (D : Nat) : Deferred := { target := .collected D, args := #[] }
def DsOK (F : FC) : Prop := F.b0 ≤ F.w0.heap.size ∧ ∃ Ds : List Nat, F.ds = Ds.map zja ++ F.db ∧ Ds.Nodup ∧ ∀ D ∈ Ds, F.w0.heap[D]? = some (.deferred (some [])) ∧ ¬ F.M0 D ∧ F.b0 ≤ D
theorem DsOK.nil {F : FC} (h : F.ds = F.db) (hb : F.b0 ≤ F.w0.heap.size := by exact Nat.le_refl _) : DsOK F := ⟨hb, [], h, List.nodup_nil, by simp⟩
def zxm (F : FC) (a : Act) : Prop := a.defers = F.ds ∧ DsOK F
def Sim (F : FC) (st : ASt) (a : Act) (w : World) : Prop := zxm F a ∧ ∃ β S, SimB F β S st a.tmps w
def SimR (F : FC) (st : ASt) (a : Act) (w : World) : Prop := (∃ Ds : List Nat, a.defers = Ds.map zja ++ F.db ∧ Ds.Nodup ∧ ∀ D ∈ Ds, w.heap[D]? = some (.deferred (some [])) ∧ F.b0 ≤ D) ∧ ∃ β S, SimB F β S st a.tmps w
def SimX (F : FC) : Exit → ASt → Act → World → Prop
 | .ret => SimR F
 | _ => Sim F
theorem Sim.ret {F : FC} {st : ASt} {a : Act} {w : World} (h : Sim F st a w) : SimR F st a w := by
 obtain ⟨⟨hd, _, Ds, hD, hn, hDs⟩, β, S, hs⟩ := h
 refine ⟨⟨Ds, hd.trans hD, hn, fun D hdm => ?_⟩, β, S, hs⟩
 obtain ⟨h1, h2, h3⟩ := hDs D hdm
 exact ⟨(hs.ext.block D (Array.getElem?_eq_some_iff.1 h1).1 h2).trans h1, h3⟩
theorem SimX.of {F : FC} {e : Exit} {st : ASt} {a : Act} {w : World} (h : Sim F st a w) : SimX F e st a w := by
 cases e <;> first | exact h | exact h.ret
inductive TK where
 | int (k : IntKind)
 | bool
 | str
 | slice (e : TypeId)
 | struct (fs : List (Nat × TypeId))
 | array (n : Nat) (e : TypeId)
 | ptr (e : TypeId)
 | map (k e : TypeId)
 | iface
 | other
def TK.srcK : TK → TK
 | .str => .slice 0
 | t => t
structure TI where
 size : Nat
 bytes : Nat
 zero : Option (List AV)
 tk : TK
def avOf : Value → AV
 | .int k n => .dat (.int k n)
 | .bool b => .dat (.bool b)
 | .string s => .dat (.str s)
 | .slice none 0 0 => .nils
 | .pointer none => .dat .nilp
 | .nilIface => .dat .nilI
 | v => if v.oneCell' then .raw v else .junk
def z02 : TypeDesc → TK
 | .int k => .int k
 | .bool => .bool
 | .string => .str
 | .slice e => .slice e
 | .struct fs => .struct (fs.toList.map fun f => (f.offset, f.type))
 | .array n e => .array n e
 | .pointer e => .ptr e
 | .map k e => .map k e
 | .interface _ => .iface
 | _ => .other
def TK.isAgg : TK → Bool
 | .struct _ | .array _ _ => true
 | _ => false
def ti (P : Program) (t : TypeId) : Option TI :=
 match P.info? t, P.underlying t with
 | some i, some u => some { size := i.size, bytes := i.bytes, zero := i.zero.map fun z => z.cells.toList.map avOf, tk := z02 u }
 | _, _ => none
theorem z65 {β : zg} {S : Nat → Nat → Prop} {w : World} (v : Value) : RepA β S w (avOf v) v := by
 unfold avOf
 split
 all_goals first
  | (simp [RepA, RepX]; done)
  | (split <;> simp_all [RepA])
def evA (env : Nat → AV) : Operand → AV
 | .tmp t => env t
 | .const v => avOf v
 | .global g => .gl g 0
 | .func f => .fn f []
theorem qj {β : zg} {S : Nat → Nat → Prop} {w : World} {env : Nat → AV} {a : Act} (h : ∀ n, RepA β S w (env n) (a.tmps.getD n undef)) (x : Operand) :
  RepA β S w (evA env x) (a.eval x) := by
 cases x with
 | tmp t => exact h t
 | const v => exact z65 v
 | global g => simp [evA, Act.eval, RepA]
 | func f => simp [evA, Act.eval, RepA, RepAL]
abbrev VR := Prop × AV
def VR.bad : VR := (False, .junk)
def binI (op : BinOp) (k : IntKind) (a : Int) (yk : IntKind) (b : Int) : VR :=
 match op with
 | .add => (k = yk, .dat (.int k (k.wrap (a + b))))
 | .sub => (k = yk, .dat (.int k (k.wrap (a - b))))
 | .mul => (k = yk, .dat (.int k (k.wrap (a * b))))
 | .quo => (k = yk ∧ b ≠ 0, .dat (.int k (k.wrap (a.tdiv b))))
 | .rem => (k = yk ∧ b ≠ 0, .dat (.int k (a.tmod b)))
 | .and => (k = yk, .dat (.int k (k.wrap (BitVec.ofInt k.bits a &&& BitVec.ofInt k.bits b).toNat)))
 | .or => (k = yk, .dat (.int k (k.wrap (BitVec.ofInt k.bits a ||| BitVec.ofInt k.bits b).toNat)))
 | .xor => (k = yk, .dat (.int k (k.wrap (BitVec.ofInt k.bits a ^^^ BitVec.ofInt k.bits b).toNat)))
 | .andNot => (k = yk, .dat (.int k (k.wrap (BitVec.ofInt k.bits a &&& ~~~ BitVec.ofInt k.bits b).toNat)))
 | .shl => (0 ≤ b, .dat (.int k (k.wrap (a * 2 ^ (min b.toNat k.bits)))))
 | .shr => (0 ≤ b, .dat (.int k (a.fdiv (2 ^ (min b.toNat k.bits)))))
 | .eql => (k = yk, .dat (.bool (a == b)))
 | .neq => (k = yk, .dat (.bool (a != b)))
 | .lss => (k = yk, .dat (.bool (decide (a < b))))
 | .leq => (k = yk, .dat (.bool (decide (a ≤ b))))
 | .gtr => (k = yk, .dat (.bool (decide (b < a))))
 | .geq => (k = yk, .dat (.bool (decide (b ≤ a))))
def binS (op : BinOp) (x y : ByteArray) : VR :=
 match op with
 | .add => (x.size + y.size ≤ 9223372036854775807, .dat (.str (x ++ y)))
 | .eql => (True, .dat (.bool (x.toList == y.toList)))
 | .neq => (True, .dat (.bool (!(x.toList == y.toList))))
 | .lss => (True, .dat (.bool (Op.bytesLess x.toList y.toList)))
 | .leq => (True, .dat (.bool (Op.bytesLess x.toList y.toList || x.toList == y.toList)))
 | .gtr => (True, .dat (.bool (!(Op.bytesLess x.toList y.toList || x.toList == y.toList))))
 | .geq => (True, .dat (.bool (!(Op.bytesLess x.toList y.toList))))
 | _ => .bad
def binB (op : BinOp) (t : TK) (a b : Bool) : VR :=
 match op, t with
 | .eql, .bool => (True, .dat (.bool (a == b)))
 | .neq, .bool => (True, .dat (.bool (!(a == b))))
 | _, _ => .bad
def Qg (P : Program) (t : TypeId) : Bool := match P.underlying t with
 | some (.int _) => true
 | _ => false
theorem vt {P : Program} {t : TypeId} (h : Qg P t = true) : ∃ k, P.underlying t = some (.int k) := by
 unfold Qg at h
 split at h
 ·rename_i k hk; exact ⟨k, hk⟩
 ·simp at h
def zoc (P : Program) (t : TypeId) : Prop := (match P.underlying t with
 | some (.array 2 e) => Qg P e && ((P.info? e).map (·.size) == some 1) && !P.eqGuardType P.depth t
 | _ => false) = true
def z5j (P : Program) (t : TypeId) : Prop := (match P.underlying t with
 | some (.struct fs) => match fs.toList with
  | [f, g] => (f.offset == 0 && g.offset == 1) && (f.name != "_" && g.name != "_") && (Qg P f.type && Qg P g.type) && !P.stoodInHeld t && !P.eqGuardType P.depth t
  | _ => false
 | _ => false) = true
def zdn (P : Program) (t : TypeId) : Prop := zoc P t ∨ z5j P t
def zbk (P : Program) (t : TypeId) : Prop := (match P.underlying t with
 | some (.struct fs) => match fs.toList with
  | [f, g, h] => (f.offset == 0 && g.offset == 1 && h.offset == 2) && (f.name != "_" && g.name != "_" && h.name != "_") && (Qg P f.type && Qg P g.type && Qg P h.type) && !P.stoodInHeld t && !P.eqGuardType P.depth t
  | _ => false
 | _ => false) = true
theorem z9i {P : Program} {t : TypeId} (h : zoc P t) : ∃ e k i, P.underlying t = some (.array 2 e) ∧ P.underlying e = some (.int k) ∧ P.info? e = some i ∧ i.size = 1 ∧ P.eqGuardType P.depth t = false := by
 unfold zoc at h
 split at h
 ·rename_i e he
  simp only [Bool.and_eq_true, Bool.not_eq_true', beq_iff_eq] at h
  obtain ⟨⟨h1, h2⟩, h3⟩ := h
  obtain ⟨k, hk⟩ := vt h1
  cases hi : P.info? e with
  | none => simp [hi] at h2
  | some i => exact ⟨e, k, i, he, hk, hi, by simpa [hi] using h2, h3⟩
 ·simp at h
theorem z9k {P : Program} {t : TypeId} (h : zbk P t) : ∃ f g h k k' k'', P.underlying t = some (.struct #[f, g, h]) ∧ (f.offset = 0 ∧ g.offset = 1 ∧ h.offset = 2) ∧ (f.name ≠ "_" ∧ g.name ≠ "_" ∧ h.name ≠ "_") ∧
  (P.underlying f.type = some (.int k) ∧ P.underlying g.type = some (.int k') ∧ P.underlying h.type = some (.int k'')) ∧ P.stoodInHeld t = false ∧ P.eqGuardType P.depth t = false := by
 unfold zbk at h
 split at h
 ·rename_i fs hfs
  split at h
  ·rename_i f g q hl
   simp only [Bool.and_eq_true, Bool.not_eq_true', beq_iff_eq, bne_iff_ne] at h
   obtain ⟨⟨⟨⟨⟨⟨h1, h2⟩, h3⟩, ⟨h4, h5⟩, h6⟩, ⟨h7, h8⟩, h9⟩, h10⟩, h11⟩ := h
   obtain ⟨k, hk⟩ := vt h7
   obtain ⟨k', hk'⟩ := vt h8
   obtain ⟨k'', hk''⟩ := vt h9
   have : fs = #[f, g, q] := by cases fs; simpa using hl
   exact ⟨f, g, q, k, k', k'', this ▸ hfs, ⟨h1, h2, h3⟩, ⟨h4, h5, h6⟩, ⟨hk, hk', hk''⟩, h10, h11⟩
  ·simp at h
 ·simp at h
theorem z17 {P : Program} {t : TypeId} (h : z5j P t) : ∃ f g k k', P.underlying t = some (.struct #[f, g]) ∧ (f.offset = 0 ∧ g.offset = 1) ∧ (f.name ≠ "_" ∧ g.name ≠ "_") ∧
  (P.underlying f.type = some (.int k) ∧ P.underlying g.type = some (.int k')) ∧ P.stoodInHeld t = false ∧ P.eqGuardType P.depth t = false := by
 unfold z5j at h
 split at h
 ·rename_i fs hfs
  split at h
  ·rename_i f g hl
   simp only [Bool.and_eq_true, Bool.not_eq_true', beq_iff_eq, bne_iff_ne] at h
   obtain ⟨⟨⟨⟨⟨h1, h2⟩, h4, h5⟩, ⟨h7, h8⟩⟩, h10⟩, h11⟩ := h
   obtain ⟨k, hk⟩ := vt h7
   obtain ⟨k', hk'⟩ := vt h8
   have : fs = #[f, g] := by cases fs; simpa using hl
   exact ⟨f, g, k, k', this ▸ hfs, ⟨h1, h2⟩, ⟨h4, h5⟩, ⟨hk, hk'⟩, h10, h11⟩
  ·simp at h
 ·simp at h
theorem zgj {P : Program} {t : TypeId} (h : zdn P t) : P.eqGuardType P.depth t = false := by
 rcases h with h | h
 ·obtain ⟨_, _, _, _, _, _, _, hg⟩ := z9i h; exact hg
 ·obtain ⟨_, _, _, _, _, _, _, _, _, hg⟩ := z17 h; exact hg
def eqR (p : Prop) (op : BinOp) (b : Bool) : VR := match op with
 | .eql => (p, .dat (.bool b))
 | .neq => (p, .dat (.bool (!b)))
 | _ => .bad
def Xd (P : Program) (t : TypeId) : Prop := (match P.underlying t with
 | some (.pointer _) => true
 | _ => false) = true
theorem ze0 {P : Program} {t : TypeId} (h : Xd P t) : ∃ e, P.underlying t = some (.pointer e) := by
 unfold Xd at h
 split at h
 ·rename_i e he; exact ⟨e, he⟩
 ·simp at h
theorem kg {P : Program} {w : World} {t : TypeId} (h : Xd P t) (x : Option Addr) : (Op.equal t (.pointer x) (.pointer none)).run P w = .ok x.isNone w := by
 obtain ⟨e, he⟩ := ze0 h
 show (Op.equalIn (9999 + 1) t _ _).run P w = _
 unfold Op.equalIn
 cases x <;> simp [run_underlying he]
def binA (P : Program) (op : BinOp) (t : TypeId) (x y : AV) : VR :=
 match x, y with
 | .dat (.agg [.int k1 a, .int k2 b]), .dat (.agg [.int k3 c, .int k4 d]) => eqR (zdn P t ∧ k1 = k3 ∧ k2 = k4) op (a == c && b == d)
 | .dat (.agg [.int k1 a, .int k2 b, .int k5 e]), .dat (.agg [.int k3 c, .int k4 d, .int k6 f]) => eqR (zbk P t ∧ k1 = k3 ∧ k2 = k4 ∧ k5 = k6) op (a == c && b == d && e == f)
 | .dat (.int k a), .dat (.int yk b) => binI op k a yk b
 | .dat (.str a), .dat (.str b) => binS op a b
 | .dat (.bool a), .dat (.bool b) => match ti P t with
  | some i => binB op i.tk a b
  | none => .bad
 | .ptr _ _ _ _, .dat .nilp => eqR (Xd P t) op false
 | .dat .nilp, .dat .nilp => eqR (Xd P t) op true
 | _, _ => .bad
theorem z4s {P : Program} {w : World} (d : Nat) {t : TypeId} (a b : Bool) (hu : P.underlying t = some .bool) :
  (Op.equalIn (d + 1) t (.bool a) (.bool b)).run P w = .ok (a == b) w := by
 simp [Op.equalIn, run_underlying hu]
theorem w9 {P : Program} {w : World} (d : Nat) {t : TypeId} {k k' : IntKind} (a b : Int) (hu : P.underlying t = some (.int k)) :
  (Op.equalIn (d + 1) t (.int k' a) (.int k' b)).run P w = .ok (a == b) w := by
 simp [Op.equalIn, run_underlying hu]
theorem w8 {P : Program} {w : World} {t : TypeId} {k : IntKind} (hu : P.underlying t = some (.int k)) {cs : Array Value} {off : Nat} {v : Value} (h : cs[off]? = some v) : (part t cs off).run P w = .ok v w := by
 simp [part, isAgg, run_underlying hu, h]
theorem Z5 {P : Program} {w : World} {op : BinOp} {t : TypeId} {xo yo : Operand} {xs ys : Array Value} (h : P.eqGuardType P.depth t = false) (ho : op = .eql ∨ op = .neq) : (eqGuard op t xo yo (.agg xs) (.agg ys)).run P w = .ok () w := by
 rcases ho with rfl | rfl <;> simp [eqGuard, h]
theorem zhv {P : Program} {w : World} {t : TypeId} (h : zoc P t) (k1 k2 : IntKind) (a b c d : Int) : (Op.equal t (.agg #[.int k1 a, .int k2 b]) (.agg #[.int k1 c, .int k2 d])).run P w = .ok (a == c && b == d) w := by
 obtain ⟨e, k, i, h1, h2, h3, h4, _⟩ := z9i h
 have hs : (sizeOf e).run P w = .ok 1 w := by simp [sizeOf, typeInfo, h3, h4]
 show (Op.equalIn (9999 + 1) t _ _).run P w = _
 unfold Op.equalIn
 simp only [Sem.run_bind, run_underlying h1, Result.andThen_ok, hs]
 have q0 : ∀ x y : Int, ∀ k, (Op.equalIn 9999 e (.int k x) (.int k y)).run P w = .ok (x == y) w := fun x y k => w9 9998 x y h2
 simp [List.range', Sem.run_bind, w8 h2, q0]
 by_cases h7 : a = c <;> by_cases h8 : b = d <;> simp [h7, h8]
theorem zfa {P : Program} {w : World} {t : TypeId} (h : z5j P t) (k1 k2 : IntKind) (a b c d : Int) : (Op.equal t (.agg #[.int k1 a, .int k2 b]) (.agg #[.int k1 c, .int k2 d])).run P w = .ok (a == c && b == d) w := by
 obtain ⟨p, q, k, k', h1, ⟨h2, h3⟩, ⟨h5, h6⟩, ⟨h8, h9⟩, h11, _⟩ := z17 h
 show (Op.equalIn (9999 + 1) t _ _).run P w = _
 unfold Op.equalIn
 simp only [Sem.run_bind, run_underlying h1, Result.andThen_ok]
 have q0 : ∀ x y : Int, ∀ k, (Op.equalIn 9999 p.type (.int k x) (.int k y)).run P w = .ok (x == y) w := fun x y k => w9 9998 x y h8
 have q1 : ∀ x y : Int, ∀ k, (Op.equalIn 9999 q.type (.int k x) (.int k y)).run P w = .ok (x == y) w := fun x y k => w9 9998 x y h9
 simp [h2, h3, h5, h6, h11, w8 h8, w8 h9, q0, q1]
 by_cases g1 : a = c <;> by_cases g2 : b = d <;> simp [g1, g2]
theorem z2g {P : Program} {w : World} {t : TypeId} (h : zdn P t) (k1 k2 : IntKind) (a b c d : Int) : (Op.equal t (.agg #[.int k1 a, .int k2 b]) (.agg #[.int k1 c, .int k2 d])).run P w = .ok (a == c && b == d) w :=
 h.elim (fun h => zhv h k1 k2 a b c d) (fun h => zfa h k1 k2 a b c d)
theorem z7z {P : Program} {w : World} {t : TypeId} (h : zbk P t) (k1 k2 k3 : IntKind) (a b e c d f : Int) : (Op.equal t (.agg #[.int k1 a, .int k2 b, .int k3 e]) (.agg #[.int k1 c, .int k2 d, .int k3 f])).run P w = .ok (a == c && b == d && e == f) w := by
 obtain ⟨p, q, r, k, k', k'', h1, ⟨h2, h3, h4⟩, ⟨h5, h6, h7⟩, ⟨h8, h9, h10⟩, h11, _⟩ := z9k h
 show (Op.equalIn (9999 + 1) t _ _).run P w = _
 unfold Op.equalIn
 simp only [Sem.run_bind, run_underlying h1, Result.andThen_ok]
 have q0 : ∀ x y : Int, ∀ k, (Op.equalIn 9999 p.type (.int k x) (.int k y)).run P w = .ok (x == y) w := fun x y k => w9 9998 x y h8
 have q1 : ∀ x y : Int, ∀ k, (Op.equalIn 9999 q.type (.int k x) (.int k y)).run P w = .ok (x == y) w := fun x y k => w9 9998 x y h9
 have q2 : ∀ x y : Int, ∀ k, (Op.equalIn 9999 r.type (.int k x) (.int k y)).run P w = .ok (x == y) w := fun x y k => w9 9998 x y h10
 simp [h2, h3, h4, h5, h6, h7, h11, w8 h8, w8 h9, w8 h10, q0, q1, q2]
 by_cases g1 : a = c <;> by_cases g2 : b = d <;> by_cases g3 : e = f <;> simp [g1, g2, g3]
theorem zni {P : Program} {β : zg} {S : Nat → Nat → Prop} {w : World} {op : BinOp} {t : TypeId} {x y : AV} {u v : Value} (xo yo : Operand) (hx : RepA β S w x u) (hy : RepA β S w y v) (h : (binA P op t x y).1) :
  ∃ r, (do eqGuard op t xo yo u v; binOp op t u v : Sem Value).run P w = .ok r w ∧ RepA β S w (binA P op t x y).2 r := by
 have run : ∀ {p : Prop} {x : AV} {m : Sem Value} {r : Value}, m.run P w = .ok r w → RepA β S w x r → ∃ r, m.run P w = .ok r w ∧ RepA β S w x r := fun h1 h2 => ⟨_, h1, h2⟩
 unfold binA at h ⊢
 have agg2 : ∀ {l : List Dat} {v : Value}, RepA β S w (.dat (.agg l)) v → ∃ cs, v = .agg cs ∧ RepL S w l cs.toList := fun h => by simpa only [RepA, RepX] using h
 split at h
 ·rename_i k1 a k2 b k3 c k4 d
  obtain ⟨xs, rfl, hxs⟩ := agg2 hx
  obtain ⟨ys, rfl, hys⟩ := agg2 hy
  have hp : zdn P t ∧ k1 = k3 ∧ k2 = k4 := by cases op <;> simp only [eqR] at h <;> first | exact h | exact h.elim
  have ho : op = .eql ∨ op = .neq := by cases op <;> simp only [eqR] at h <;> first | (exact .inl rfl) | (exact .inr rfl) | exact h.elim
  obtain ⟨hp, rfl, rfl⟩ := hp
  simp only [RepL, Rep1] at hxs hys
  obtain ⟨u1, us1, e1, rfl, u2, us2, rfl, rfl, rfl⟩ := hxs
  obtain ⟨v1, vs1, e2, rfl, v2, vs2, rfl, rfl, rfl⟩ := hys
  have e1 : xs = #[.int k1 a, .int k2 b] := by cases xs; simpa using e1
  have e2 : ys = #[.int k1 c, .int k2 d] := by cases ys; simpa using e2
  subst e1 e2
  simp only [Sem.run_bind, Z5 (zgj hp) ho, Result.andThen_ok]
  rcases ho with rfl | rfl
  ·refine ⟨_, ?_, by simp only [eqR, RepA, RepX]; rfl⟩
   simp only [binOp, Sem.run_bind, z2g hp, Result.andThen_ok, Sem.run_pure]
  ·refine ⟨_, ?_, by simp only [eqR, RepA, RepX]; rfl⟩
   simp only [binOp, Sem.run_bind, z2g hp, Result.andThen_ok, Sem.run_pure]
 ·rename_i k1 a k2 b k5 e k3 c k4 d k6 f
  obtain ⟨xs, rfl, hxs⟩ := agg2 hx
  obtain ⟨ys, rfl, hys⟩ := agg2 hy
  have hp : zbk P t ∧ k1 = k3 ∧ k2 = k4 ∧ k5 = k6 := by cases op <;> simp only [eqR] at h <;> first | exact h | exact h.elim
  have ho : op = .eql ∨ op = .neq := by cases op <;> simp only [eqR] at h <;> first | (exact .inl rfl) | (exact .inr rfl) | exact h.elim
  obtain ⟨hp, rfl, rfl, rfl⟩ := hp
  simp only [RepL, Rep1] at hxs hys
  obtain ⟨u1, us1, e1, rfl, u2, us2, rfl, rfl, u3, us3, rfl, rfl, rfl⟩ := hxs
  obtain ⟨v1, vs1, e2, rfl, v2, vs2, rfl, rfl, v3, vs3, rfl, rfl, rfl⟩ := hys
  have e1 : xs = #[.int k1 a, .int k2 b, .int k5 e] := by cases xs; simpa using e1
  have e2 : ys = #[.int k1 c, .int k2 d, .int k5 f] := by cases ys; simpa using e2
  subst e1 e2
  have hg : P.eqGuardType P.depth t = false := by obtain ⟨_, _, _, _, _, _, _, _, _, _, _, hg⟩ := z9k hp; exact hg
  simp only [Sem.run_bind, Z5 hg ho, Result.andThen_ok]
  rcases ho with rfl | rfl
  ·refine ⟨_, ?_, by simp only [eqR, RepA, RepX]; rfl⟩
   simp only [binOp, Sem.run_bind, z7z hp, Result.andThen_ok, Sem.run_pure]
  ·refine ⟨_, ?_, by simp only [eqR, RepA, RepX]; rfl⟩
   simp only [binOp, Sem.run_bind, z7z hp, Result.andThen_ok, Sem.run_pure]
 ·rename_i k a yk b
  simp only [RepA, RepX] at hx hy
  subst hx; subst hy
  have hg : (eqGuard op t xo yo (.int k a) (.int yk b)).run P w = .ok () w := by cases op <;> rfl
  simp only [Sem.run_bind, hg, Result.andThen_ok]
  cases op <;> simp only [binI] at h ⊢ <;> first
   | (refine ⟨_, ?_, by simp only [RepA, RepX]; rfl⟩; subst h; simp [binOp, Op.intArith, Op.intBits, Op.intCmp]; done)
   | (refine ⟨_, ?_, by simp only [RepA, RepX]; rfl⟩; obtain ⟨h, h0⟩ := h; subst h; simp [binOp, Op.intDiv, h0]; done)
   | (refine ⟨_, ?_, by simp only [RepA, RepX]; rfl⟩; simp [binOp, Op.shift, Int.not_lt.2 h]; done)
 ·rename_i a b
  simp only [RepA, RepX] at hx hy
  subst hx; subst hy
  have hg : (eqGuard op t xo yo (.string a) (.string b)).run P w = .ok () w := by cases op <;> rfl
  simp only [Sem.run_bind, hg, Result.andThen_ok]
  cases op <;> simp only [binS] at h ⊢ <;> first
   | (exact h.elim)
   | (refine ⟨_, ?_, by simp only [RepA, RepX]; rfl⟩; simp [binOp, Op.stringOp]; done)
   | (refine ⟨_, ?_, by simp only [RepA, RepX]; rfl⟩; have hm : IntKind.i64.max = 9223372036854775807 := rfl; have : ¬ (((a.size + b.size : Nat) : Int) > IntKind.i64.max) := (by rw [hm]; omega); simp only [binOp, Op.stringOp, if_neg this]; rfl)
 ·rename_i a b
  simp only [RepA, RepX] at hx hy
  subst hx; subst hy
  have hg : (eqGuard op t xo yo (.bool a) (.bool b)).run P w = .ok () w := by cases op <;> rfl
  simp only [Sem.run_bind, hg, Result.andThen_ok]
  cases hti : ti P t with
  | none => simp [hti, VR.bad] at h
  | some i =>
   simp only [hti] at h ⊢
   have hu : P.underlying t = some .bool ∨ i.tk ≠ .bool := by
    unfold ti at hti
    split at hti
    ·rename_i j u _ hu'
     simp only [Option.some.injEq] at hti
     subst hti
     cases u <;> simp [z02, hu']
    ·simp at hti
   have hb : i.tk = .bool := by
    cases op <;> cases hk : i.tk <;> simp [binB, hk, VR.bad] at h <;> rfl
   rcases hu with hu | hu
   ·cases op <;> simp only [binB, hb] at h ⊢ <;> first
     | (exact h.elim)
     | (refine ⟨_, ?_, by simp only [RepA, RepX]; rfl⟩; simp only [binOp, Op.equal, Sem.run_bind, show Op.maxDepth = 9999 + 1 from rfl, z4s 9999 a b hu, Result.andThen_ok, Sem.run_pure])
   ·exact absurd hb hu
 ·have hp : Xd P t := by cases op <;> simp only [eqR] at h <;> first | exact h | exact h.elim
  have ho : op = .eql ∨ op = .neq := by cases op <;> simp only [eqR] at h <;> first | (exact .inl rfl) | (exact .inr rfl) | exact h.elim
  simp only [RepA, RepX] at hx hy
  obtain ⟨b, s, _, rfl, _⟩ := hx
  subst hy
  have hg : ∀ z, (eqGuard op t xo yo (.pointer z) (.pointer none)).run P w = .ok () w := fun z => by cases op <;> rfl
  simp only [Sem.run_bind, hg, Result.andThen_ok]
  rcases ho with rfl | rfl
  ·refine ⟨.bool false, ?_, by simp only [eqR, RepA, RepX] <;> rfl⟩
   simp only [binOp, Sem.run_bind, kg hp, Result.andThen_ok, Sem.run_pure]
   rfl
  ·refine ⟨.bool true, ?_, by simp only [eqR, RepA, RepX] <;> rfl⟩
   simp only [binOp, Sem.run_bind, kg hp, Result.andThen_ok, Sem.run_pure]
   rfl
 ·have hp : Xd P t := by cases op <;> simp only [eqR] at h <;> first | exact h | exact h.elim
  have ho : op = .eql ∨ op = .neq := by cases op <;> simp only [eqR] at h <;> first | (exact .inl rfl) | (exact .inr rfl) | exact h.elim
  simp only [RepA, RepX] at hx hy
  subst hx; subst hy
  have hg : ∀ z, (eqGuard op t xo yo (.pointer z) (.pointer none)).run P w = .ok () w := fun z => by cases op <;> rfl
  simp only [Sem.run_bind, hg, Result.andThen_ok]
  rcases ho with rfl | rfl
  ·refine ⟨.bool true, ?_, by simp only [eqR, RepA, RepX] <;> rfl⟩
   simp only [binOp, Sem.run_bind, kg hp, Result.andThen_ok, Sem.run_pure]
   rfl
  ·refine ⟨.bool false, ?_, by simp only [eqR, RepA, RepX] <;> rfl⟩
   simp only [binOp, Sem.run_bind, kg hp, Result.andThen_ok, Sem.run_pure]
   rfl
 ·simp [VR.bad] at h
def unA (op : UnOp) (x : AV) : VR :=
 match op, x with
 | .neg, .dat (.int k n) => (True, .dat (.int k (k.wrap (0 - n))))
 | .xor, .dat (.int k n) => (True, .dat (.int k (k.wrap (BitVec.ofInt k.bits (if k.signed then -1 else k.max) ^^^ BitVec.ofInt k.bits n).toNat)))
 | .not, .dat (.bool b) => (True, .dat (.bool (!b)))
 | _, _ => .bad
theorem zv6 {P : Program} {β : zg} {S : Nat → Nat → Prop} {w : World} {op : UnOp} {x : AV} {u : Value} (hx : RepA β S w x u) (h : (unA op x).1) :
  ∃ r, (Op.unary op u).run P w = .ok r w ∧ RepA β S w (unA op x).2 r := by
 unfold unA at h ⊢
 split at h <;> first
  | (simp [VR.bad] at h; done)
  | (simp only [RepA, RepX] at hx; subst hx; exact ⟨_, rfl, by simp only [RepA, RepX]⟩)
theorem ti_info {P : Program} {t : TypeId} {i : TI} (h : ti P t = some i) :
  ∃ j u, P.info? t = some j ∧ P.underlying t = some u ∧ i.size = j.size ∧ i.bytes = j.bytes ∧ i.zero = j.zero.map (fun z => z.cells.toList.map avOf) ∧ i.tk = z02 u := by
 unfold ti at h
 split at h
 ·rename_i j u hj hu
  simp only [Option.some.injEq] at h
  subst h
  exact ⟨j, u, hj, hu, rfl, rfl, rfl, rfl⟩
 ·simp at h
theorem z4v {u : TypeDesc} {fs : List (Nat × TypeId)} (h : z02 u = .struct fs) : ∃ f, u = .struct f ∧ fs = f.toList.map fun x => (x.offset, x.type) := by
 cases u <;> simp [z02] at h; exact ⟨_, rfl, h.symm⟩
theorem Zy {u : TypeDesc} {n : Nat} {e : TypeId} (h : z02 u = .array n e) : u = .array n e := by
 cases u <;> simp [z02] at h; obtain ⟨rfl, rfl⟩ := h; rfl
theorem wt {u : TypeDesc} {e : TypeId} (h : z02 u = .slice e) : u = .slice e := by
 cases u <;> simp [z02] at h; subst h; rfl
theorem z8c {u : TypeDesc} (h : z02 u = .str) : u = .string := by
 cases u <;> simp [z02] at h; rfl
theorem zci {u : TypeDesc} {k : IntKind} (h : z02 u = .int k) : u = .int k := by
 cases u <;> simp [z02] at h; subst h; rfl
theorem Q8 {P : Program} {w : World} {t : TypeId} {i : TI} (h : ti P t = some i) : (isAgg t).run P w = .ok i.tk.isAgg w := by
 obtain ⟨j, u, _, hu, _, _, _, hk⟩ := ti_info h
 simp only [isAgg, Sem.run_bind, run_underlying hu, Result.andThen_ok, hk]
 cases u <;> simp [z02, TK.isAgg]
theorem qe {P : Program} {w : World} {t : TypeId} {i : TI} (h : ti P t = some i) : (sizeOf t).run P w = .ok i.size w := by
 obtain ⟨j, u, hj, _, hs, _⟩ := ti_info h
 simp [sizeOf, typeInfo, hj, hs]
theorem wo (b o n : Nat) : (⟨b, o, none⟩ : Addr).add n = ⟨b, o + n, none⟩ := by unfold Addr.add; split <;> simp_all
def zk : List AV → Option (List Dat)
 | [] => some []
 | .dat d :: l => if d.isAgg then none else (zk l).map (d :: ·)
 | _ :: _ => none
def mkAgg (l : List AV) : AV :=
 match zk l with
 | some ds => .dat (.agg ds)
 | none => .agg l
theorem z6c {β : zg} {S : Nat → Nat → Prop} {w : World} : ∀ {l : List AV} {ds : List Dat} {vs : List Value}, zk l = some ds → RepAL β S w l vs → RepL S w ds vs
 | [], ds, vs, h, hr => by
  simp only [zk, Option.some.injEq] at h
  subst h
  simpa [RepL, RepAL] using hr
 | x :: l, ds, vs, h, hr => by
  cases x <;> simp only [zk] at h <;> try (simp at h; done)
  rename_i d
  split at h
  ·simp at h
  ·rename_i hd
   cases hl : zk l with
   | none => simp [hl] at h
   | some ds' =>
    simp only [hl, Option.map_some, Option.some.injEq] at h
    subst h
    simp only [RepAL] at hr
    obtain ⟨v, vs', rfl, h1, h2⟩ := hr
    simp only [RepL]
    exact ⟨v, vs', rfl, xf (by simpa using hd) (by simpa only [RepA] using h1), z6c hl h2⟩
theorem Zr {β : zg} {S : Nat → Nat → Prop} {w : World} {l : List AV} {vs : Array Value} (h : RepAL β S w l vs.toList) : RepA β S w (mkAgg l) (.agg vs) := by
 unfold mkAgg
 split
 ·rename_i ds hd
  simp only [RepA, RepX]
  exact ⟨vs, rfl, z6c hd h⟩
 ·simp only [RepA]
  exact ⟨vs, rfl, h⟩
def AV.solid : AV → Bool
 | .junk | .tup _ | .cond _ _ => false
 | _ => true
def AV.isAgg : AV → Bool
 | .agg _ => true
 | .dat d => d.isAgg
 | _ => false
def partA (agg : Bool) (off size : Nat) (cells : List AV) : VR :=
 if agg then (off + size ≤ cells.length, mkAgg ((cells.drop off).take size))
 else (off < cells.length, (cells[off]?).getD .junk)
theorem z2c {β : zg} {S : Nat → Nat → Prop} {w : World} {l : List AV} {vs : List Value} (h : RepAL β S w l vs) (n : Nat) : RepAL β S w (l.drop n) (vs.drop n) :=
 z3c (by simp [zy h]) fun i d hd => by
  rw [List.getElem?_drop] at hd
  simpa [List.getElem?_drop] using xu h hd
theorem z2d {β : zg} {S : Nat → Nat → Prop} {w : World} {l : List AV} {vs : List Value} (h : RepAL β S w l vs) (n : Nat) : RepAL β S w (l.take n) (vs.take n) :=
 z3c (by simp [zy h]) fun i d hd => by
  rw [List.getElem?_take] at hd
  split at hd
  ·rename_i hi
   simpa [List.getElem?_take, hi] using xu h hd
  ·simp at hd
theorem yn {β : zg} {S : Nat → Nat → Prop} {w : World} : ∀ {l l' : List AV} {vs vs' : List Value}, RepAL β S w l vs → RepAL β S w l' vs' → RepAL β S w (l ++ l') (vs ++ vs')
 | [], l', vs, vs', h, h' => by simp only [RepAL] at h; subst h; simpa using h'
 | x :: l, l', vs, vs', h, h' => by
  simp only [RepAL] at h
  obtain ⟨v, vs'', rfl, h1, h2⟩ := h
  simp only [List.cons_append, RepAL]
  exact ⟨v, _, rfl, h1, yn h2 h'⟩
theorem zab {P : Program} {β : zg} {S : Nat → Nat → Prop} {w : World} {t : TypeId} {i : TI} (ht : ti P t = some i) {off : Nat} {cells : List AV} {vs : Array Value}
  (h : RepAL β S w cells vs.toList) (hc : (partA i.tk.isAgg off i.size cells).1) :
  ∃ r, (part t vs off).run P w = .ok r w ∧ RepA β S w (partA i.tk.isAgg off i.size cells).2 r := by
 have hl := zy h
 unfold partA at hc ⊢
 cases ha : i.tk.isAgg
 ·simp only [ha, Bool.false_eq_true, if_false] at hc ⊢
  obtain ⟨v, hv, hr⟩ := xu h (i := off) (d := cells[off]) (by simp [hc])
  refine ⟨v, ?_, by simpa [hc] using hr⟩
  have hv' : vs[off]? = some v := by simpa using hv
  simp [part, Q8 ht, ha, hv']
 ·simp only [ha, if_true] at hc ⊢
  refine ⟨.agg (vs.extract off (off + i.size)), by simp [part, Q8 ht, ha, qe ht], Zr ?_⟩
  have := z2d (z2c h off) i.size
  simpa [List.extract, Nat.add_sub_cancel_left] using this
def fieldA (P : Program) (t : TypeId) (x : AV) (f : Nat) : VR :=
 match ti P t with
 | some { tk := .struct fs, .. } => match fs[f]? with
  | some (off, ft) => match ti P ft with
   | some j => ((x.isAgg = true ∧ x.solid = true) ∧ (partA j.tk.isAgg off j.size x.cells).1, (partA j.tk.isAgg off j.size x.cells).2)
   | none => .bad
  | none => .bad
 | _ => .bad
theorem zew {β : zg} {S : Nat → Nat → Prop} {w : World} {x : AV} {v : Value} (h : RepA β S w x v) (ha : x.isAgg = true) : ∃ cs, v = .agg cs ∧ RepAL β S w x.cells cs.toList := by
 cases x <;> simp [AV.isAgg] at ha
 ·rename_i d
  cases d <;> simp [Dat.isAgg] at ha
  simp only [RepA, RepX] at h
  obtain ⟨cs, rfl, hr⟩ := h
  exact ⟨cs, rfl, by simpa [AV.cells] using z2b hr⟩
 ·simp only [RepA] at h
  obtain ⟨cs, rfl, hr⟩ := h
  exact ⟨cs, rfl, by simpa [AV.cells] using hr⟩
theorem zgo {P : Program} {β : zg} {S : Nat → Nat → Prop} {w : World} {t : TypeId} {x : AV} {u : Value} {f : Nat} (hx : RepA β S w x u) (h : (fieldA P t x f).1) :
  ∃ r, (Instr.field t u f).run P w = .ok r w ∧ RepA β S w (fieldA P t x f).2 r := by
 unfold fieldA at h ⊢
 split at h <;> try (simp [VR.bad] at h; done)
 rename_i sz by_ z fs hti
 split at h <;> try (simp [VR.bad] at h; done)
 rename_i off ft hf
 split at h <;> try (simp [VR.bad] at h; done)
 rename_i j hj
 obtain ⟨⟨ha, _⟩, hc⟩ := h
 obtain ⟨_, u', _, hu, _, _, _, hk⟩ := ti_info hti
 obtain ⟨flds, rfl, hfs⟩ := z4v hk.symm
 obtain ⟨cs, rfl, hr⟩ := zew hx ha
 obtain ⟨r, hrun, hrep⟩ := zab hj hr hc
 refine ⟨r, ?_, hrep⟩
 subst hfs
 rw [List.getElem?_map] at hf
 cases hg : flds.toList[f]? with
 | none => simp [hg] at hf
 | some fd =>
  simp only [hg, Option.map_some, Option.some.injEq, Prod.mk.injEq] at hf
  obtain ⟨rfl, rfl⟩ := hf
  have hg' : flds[f]? = some fd := by simpa using hg
  simp [Instr.field, run_underlying hu, hg', asAgg, hrun]
def fieldAddrA (P : Program) (t : TypeId) (x : AV) (f : Nat) : VR :=
 match ti P t with
 | some { tk := .struct fs, .. } => match fs[f]? with
  | some (off, ft) => match ti P ft with
   | some j => match x with
    | .ptr id es i o => (j.size ≠ 0, .ptr id es i (o + off))
    | .rp d o => (j.size ≠ 0, .rp d (o + off))
    | .gl g o => (j.size ≠ 0, .gl g (o + off))
    | .dat (.ref d) => (j.size ≠ 0, .rp d off)
    | _ => .bad
   | none => .bad
  | none => .bad
 | _ => .bad
theorem z6l {P : Program} {β : zg} {S : Nat → Nat → Prop} {w : World} {t : TypeId} {x : AV} {u : Value} {f : Nat} (hx : RepA β S w x u) (h : (fieldAddrA P t x f).1) :
  ∃ r, (Instr.fieldAt t u f).run P w = .ok r w ∧ RepA β S w (fieldAddrA P t x f).2 r := by
 unfold fieldAddrA at h ⊢
 split at h <;> try (simp [VR.bad] at h; done)
 rename_i sz by_ z fs hti
 split at h <;> try (simp [VR.bad] at h; done)
 rename_i off ft hf
 split at h <;> try (simp [VR.bad] at h; done)
 rename_i j hj
 obtain ⟨_, u', _, hu, _, _, _, hk⟩ := ti_info hti
 obtain ⟨flds, rfl, hfs⟩ := z4v hk.symm
 subst hfs
 rw [List.getElem?_map] at hf
 cases hg : flds.toList[f]? with
 | none => simp [hg] at hf
 | some fd =>
  simp only [hg, Option.map_some, Option.some.injEq, Prod.mk.injEq] at hf
  obtain ⟨rfl, rfl⟩ := hf
  have hg' : flds[f]? = some fd := by simpa using hg
  have go : ∀ (b o : Nat), j.size ≠ 0 → (Instr.fieldAt t (.pointer (some ⟨b, o, none⟩)) f).run P w = .ok (.pointer (some ⟨b, o + fd.offset, none⟩)) w := fun b o hz => by
   simp [Instr.fieldAt, run_underlying hu, hg', Instr.sureAddr, fieldPlace, qe hj, hz, wo]
  split at h <;> try (simp [VR.bad] at h; done)
  ·simp only [RepA] at hx ⊢
   obtain ⟨b, s, hb, rfl, hc⟩ := hx
   exact ⟨_, go _ _ h, b, s, hb, by simp [Nat.add_assoc], hc⟩
  ·simp only [RepA] at hx ⊢
   obtain ⟨b, o, rfl, hr⟩ := hx
   exact ⟨_, go _ _ h, b, o, by simp [Nat.add_assoc], hr⟩
  ·simp only [RepA] at hx ⊢
   subst hx
   exact ⟨_, go _ _ h, rfl⟩
  ·simp only [RepA, RepX] at hx ⊢
   obtain ⟨b, o, rfl, hr⟩ := hx
   exact ⟨_, go _ _ h, b, o, rfl, hr⟩
def indexAddrA (P : Program) (t : TypeId) (x ix : AV) : VR :=
 match ti P t, ix with
 | some { tk := .slice e, .. }, .dat (.int _ n) => match ti P e with
  | some j => match x with
   | .dat (.sl l) => ((0 ≤ n ∧ n < l.length) ∧ ((l[n.toNat]?).getD .nilp).cells.length = j.size, .rp ((l[n.toNat]?).getD .nilp) 0)
   | .osl id es off len => ((es = j.size ∧ 0 ≤ n) ∧ n < len, .ptr id es (off + n.toNat) 0)
   | _ => .bad
  | none => .bad
 | some { tk := .array m e, .. }, .dat (.int _ n) => match ti P e with
  | some j => match x with
   | .ptr id es i o => (0 ≤ n ∧ n < m, .ptr id es i (o + n.toNat * j.size))
   | .rp d o => (0 ≤ n ∧ n < m, .rp d (o + n.toNat * j.size))
   | .gl g o => (0 ≤ n ∧ n < m, .gl g (o + n.toNat * j.size))
   | .dat (.ref d) => (0 ≤ n ∧ n < m, .rp d (n.toNat * j.size))
   | _ => .bad
  | none => .bad
 | _, _ => .bad
theorem zuc {S : Nat → Nat → Prop} {w : World} {es : Nat} {l : List Dat} {a : Option Addr} (h : RepS S w es l a) {i : Nat} {d : Dat} (hd : l[i]? = some d) :
  ∃ b off, a = some ⟨b, off, none⟩ ∧ RepAt S w d b (off + i * es) := by
 obtain ⟨b, off, ha, _, hr⟩ := v7 h hd
 exact ⟨b, off, ha, (vn _ _ _).2 hr⟩
theorem z6u {P : Program} {β : zg} {S : Nat → Nat → Prop} {w : World} {t : TypeId} {x ix : AV} {u v : Value} (hx : RepA β S w x u) (hi : RepA β S w ix v) (h : (indexAddrA P t x ix).1) :
  ∃ r, (Instr.indexAt t u v).run P w = .ok r w ∧ RepA β S w (indexAddrA P t x ix).2 r := by
 unfold indexAddrA at h ⊢
 split at h <;> try (simp [VR.bad] at h; done)
 ·rename_i sz by_ z e k n hti
  split at h <;> try (simp [VR.bad] at h; done)
  rename_i j hj
  obtain ⟨_, u', _, hu, _, _, _, hk⟩ := ti_info hti
  have hu' := wt hk.symm
  subst hu'
  simp only [RepA, RepX] at hi
  subst hi
  split at h <;> try (simp [VR.bad] at h; done)
  ·rename_i l
   obtain ⟨⟨h0, h1⟩, h2⟩ := h
   simp only [RepA, RepX] at hx ⊢
   obtain ⟨es, a, cap, rfl, hc, hr⟩ := hx
   have hlt : n.toNat < l.length := by omega
   obtain ⟨b, off, rfl, hat⟩ := zuc hr (i := n.toNat) (d := l[n.toNat]) (by simp [hlt])
   obtain ⟨_, _, _, hcl, _⟩ := v7 hr (i := n.toNat) (d := l[n.toNat]) (by simp [hlt])
   rw [List.getElem?_eq_getElem hlt, Option.getD_some] at h2
   obtain rfl : es = j.size := by omega
   refine ⟨.pointer (some ⟨b, off + n.toNat * j.size, none⟩), ?_, b, off + n.toNat * j.size, by simp, by simpa [hlt] using hat⟩
   simp [Instr.indexAt, asIntOf, run_underlying hu, qe hj, h0, h1, wo]
  ·rename_i id es off len
   obtain ⟨⟨rfl, h0⟩, h1⟩ := h
   simp only [RepA] at hx ⊢
   rcases hx with ⟨_, rfl, _, _⟩ | ⟨b, s, cap, arr, e', a, hb, rfl, ha, hc, hh, hz⟩
   ·omega
   ·have ha' := ha (by omega)
    subst ha'
    refine ⟨.pointer (some ⟨b, s + off * j.size + n.toNat * j.size, none⟩), ?_, b, s, hb, by simp [Nat.add_mul, Nat.add_assoc], arr, e', hh⟩
    simp [Instr.indexAt, asIntOf, run_underlying hu, qe hj, h0, h1, wo]
 ·rename_i sz by_ z m e k n hti
  split at h <;> try (simp [VR.bad] at h; done)
  rename_i j hj
  obtain ⟨_, u', _, hu, _, _, _, hk⟩ := ti_info hti
  have hu' := Zy hk.symm
  subst hu'
  simp only [RepA, RepX] at hi
  subst hi
  have go : ∀ (b o : Nat), 0 ≤ n ∧ n < m → (Instr.indexAt t (.pointer (some ⟨b, o, none⟩)) (.int k n)).run P w = .ok (.pointer (some ⟨b, o + n.toNat * j.size, none⟩)) w := fun b o hz => by
   simp [Instr.indexAt, asIntOf, run_underlying hu, qe hj, hz, Instr.sureAddr, wo]
  split at h <;> try (simp [VR.bad] at h; done)
  ·simp only [RepA] at hx ⊢
   obtain ⟨b, s, hb, rfl, hc⟩ := hx
   exact ⟨_, go _ _ h, b, s, hb, by simp [Nat.add_assoc], hc⟩
  ·simp only [RepA] at hx ⊢
   obtain ⟨b, o, rfl, hr⟩ := hx
   exact ⟨_, go _ _ h, b, o, by simp [Nat.add_assoc], hr⟩
  ·simp only [RepA] at hx ⊢
   subst hx
   exact ⟨_, go _ _ h, rfl⟩
  ·simp only [RepA, RepX] at hx ⊢
   obtain ⟨b, o, rfl, hr⟩ := hx
   exact ⟨_, go _ _ h, b, o, rfl, hr⟩
def ql (s : ByteArray) (n : Nat) : Int := ((s.data[n]?).getD 0).toNat
def indexA (P : Program) (t : TypeId) (x ix : AV) : VR :=
 match ti P t, ix with
 | some { tk := .str, .. }, .dat (.int _ n) => match x with
  | .dat (.str s) => (0 ≤ n ∧ n < s.size, .dat (.int .u8 (ql s n.toNat)))
  | _ => .bad
 | some { tk := .array m e, .. }, .dat (.int _ n) => match ti P e with
  | some j => ((0 ≤ n ∧ n < m) ∧ (x.isAgg = true ∧ (partA j.tk.isAgg (n.toNat * j.size) j.size x.cells).1), (partA j.tk.isAgg (n.toNat * j.size) j.size x.cells).2)
  | none => .bad
 | _, _ => .bad
theorem zgw {P : Program} {β : zg} {S : Nat → Nat → Prop} {w : World} {t : TypeId} {x ix : AV} {u v : Value} (hx : RepA β S w x u) (hi : RepA β S w ix v) (h : (indexA P t x ix).1) :
  ∃ r, (Instr.index t u v).run P w = .ok r w ∧ RepA β S w (indexA P t x ix).2 r := by
 unfold indexA at h ⊢
 split at h <;> try (simp [VR.bad] at h; done)
 ·rename_i sz by_ z k n hti
  obtain ⟨_, u', _, hu, _, _, _, hk⟩ := ti_info hti
  have hu' := z8c hk.symm
  subst hu'
  simp only [RepA, RepX] at hi
  subst hi
  split at h <;> try (simp [VR.bad] at h; done)
  rename_i s
  simp only [RepA, RepX] at hx ⊢
  subst hx
  have hlt : n.toNat < s.size := by omega
  refine ⟨_, ?_, rfl⟩
  have hg : s[n.toNat]? = some s[n.toNat] := by simp [hlt]
  have hb : ql s n.toNat = s[n.toNat].toNat := by
   have hd : s.data[n.toNat]? = some s.data[n.toNat] := Array.getElem?_eq_getElem hlt
   simp only [ql, hd, Option.getD_some]; rfl
  simp [Instr.index, asIntOf, run_underlying hu, h.1, hg, hb]
 ·rename_i sz by_ z m e k n hti
  split at h <;> try (simp [VR.bad] at h; done)
  rename_i j hj
  obtain ⟨_, u', _, hu, _, _, _, hk⟩ := ti_info hti
  have hu' := Zy hk.symm
  subst hu'
  simp only [RepA, RepX] at hi
  subst hi
  obtain ⟨hb, ha, hc⟩ := h
  obtain ⟨cs, rfl, hr⟩ := zew hx ha
  obtain ⟨r, hrun, hrep⟩ := zab hj hr hc
  exact ⟨r, by simp [Instr.index, asIntOf, run_underlying hu, qe hj, hb, hrun], hrep⟩
def extractA (x : AV) (i : Nat) : VR :=
 match x with
 | .tup l => (i < l.length, (l[i]?).getD .junk)
 | _ => .bad
theorem zbm {P : Program} {β : zg} {S : Nat → Nat → Prop} {w : World} {x : AV} {u : Value} {i : Nat} (hx : RepA β S w x u) (h : (extractA x i).1) :
  ∃ r, (Instr.extract u i).run P w = .ok r w ∧ RepA β S w (extractA x i).2 r := by
 unfold extractA at h ⊢
 split at h <;> try (simp [VR.bad] at h; done)
 rename_i l
 simp only [RepA] at hx
 obtain ⟨cs, rfl, hr⟩ := hx
 have h : i < l.length := h
 obtain ⟨v, hv, hr'⟩ := xu hr (i := i) (d := l[i]) (by simp [h])
 have hv' : cs[i]? = some v := by simpa using hv
 exact ⟨v, by simp [Instr.extract, hv'], by simpa [h] using hr'⟩
def zo (place : Nat → Option (Nat × Nat)) (cells : List AV) : List (Nat × AV) → Prop × List AV
 | [] => (True, cells)
 | (i, v) :: rest =>
  match place i with
  | none => (False, [])
  | some (off, size) =>
   let r := zo place (cells.take off ++ v.cells ++ cells.drop (off + v.cells.length)) rest
   (((v.solid = true ∧ v.cells.length = size) ∧ off + size ≤ cells.length) ∧ r.1, r.2)
theorem z9q (off : Nat) : ∀ (vs : List Value) (k : Nat) (cells : List Value), off + k + vs.length ≤ cells.length →
  ((vs.zipIdx k).foldl (fun (cs : Array Value) (x : Value × Nat) => cs.setIfInBounds (off + x.2) x.1) cells.toArray).toList = cells.take (off + k) ++ vs ++ cells.drop (off + k + vs.length)
 | [], k, cells, _ => by simp
 | v :: vs, k, cells, h => by
  simp only [List.zipIdx_cons, List.foldl_cons, List.setIfInBounds_toArray]
  simp only [List.length_cons] at h
  rw [z9q off vs (k + 1) (cells.set (off + k) v) (by simp; omega)]
  have := list_seg_step cells (off + k) v vs (by omega)
  simpa [Nat.add_assoc, Nat.add_comm 1] using this
theorem z18 {β : zg} {S : Nat → Nat → Prop} {w : World} (place : Nat → Option (Nat × Nat)) : ∀ (parts : List (Nat × AV)) (vparts : List (Nat × Value)) (cells : List AV) (vs : List Value),
  parts.map (·.1) = vparts.map (·.1) → (∀ (j : Nat) (x : Nat × AV) (y : Nat × Value), parts[j]? = some x → vparts[j]? = some y → RepA β S w x.2 y.2) → RepAL β S w cells vs → (zo place cells parts).1 →
  ∃ out : Array Value, Instr.fill place vs.toArray vparts = some out ∧ RepAL β S w (zo place cells parts).2 out.toList
 | [], vparts, cells, vs, hm, _, hc, _ => by
  have : vparts = [] := by simpa using hm.symm
  subst this
  exact ⟨vs.toArray, rfl, by simpa [zo] using hc⟩
 | (i, x) :: parts, vparts, cells, vs, hm, hr, hc, h => by
  cases vparts with
  | nil => simp at hm
  | cons y vparts =>
   obtain ⟨i', y⟩ := y
   simp only [List.map_cons, List.cons.injEq] at hm
   obtain ⟨rfl, hm⟩ := hm
   unfold zo at h ⊢
   cases hp : place i with
   | none => simp [hp] at h
   | some os =>
    obtain ⟨off, size⟩ := os
    simp only [hp] at h ⊢
    obtain ⟨⟨⟨hs, hl⟩, hf⟩, h⟩ := h
    have hxy : RepA β S w x y := hr 0 (i, x) (i, y) (by simp) (by simp)
    have hxc : RepAL β S w x.cells y.cells.toList := z7n hxy (fun l e => by subst e; simp [AV.solid] at hs) (fun b z e => by subst e; simp [AV.solid] at hs) (fun e => by subst e; simp [AV.solid] at hs)
    have hyl : y.cells.size = size := by have := zy hxc; simp only [Array.length_toList] at this; omega
    have hvl : vs.length = cells.length := zy hc
    have hstep := z9q off y.cells.toList 0 vs (by simp; omega)
    simp only [Nat.add_zero, Array.length_toList] at hstep
    obtain ⟨out, ho, hout⟩ := z18 place parts vparts (cells.take off ++ x.cells ++ cells.drop (off + x.cells.length)) (vs.take off ++ y.cells.toList ++ vs.drop (off + y.cells.size)) hm
     (fun j a b ha hb => hr (j + 1) a b (by simpa using ha) (by simpa using hb))
     (by rw [hl, ← hyl]; exact yn (yn (z2d hc off) hxc) (z2c hc _)) h
    refine ⟨out, ?_, hout⟩
    unfold Instr.fill
    simp only [hp, hyl, ne_eq, not_true_eq_false, decide_false, Bool.false_or, List.size_toArray, hvl]
    have : ¬ (off + size > cells.length) := by omega
    simp only [this, decide_false, Bool.false_eq_true, if_false]
    rw [← ho]
    congr 1
    apply Array.toList_inj.1
    rw [← hstep]
    rw [show y.cells.zipIdx = y.cells.toList.zipIdx.toArray from by rw [← Array.toList_zipIdx], List.foldl_toArray]
def buildA (P : Program) (t : TypeId) (parts : List (Nat × AV)) : VR :=
 match ti P t with
 | some { zero := some z, tk := .struct fs, .. } =>
  let r := zo (fun i => match fs[i]? with
   | some (off, ft) => (ti P ft).map fun j => (off, j.size)
   | none => none) z parts
  (r.1 ∧ fs.all (fun f => (ti P f.2).isSome), mkAgg r.2)
 | some { zero := some z, tk := .array _ e, .. } => match ti P e with
  | some j =>
   let r := zo (fun i => some (i * j.size, j.size)) z parts
   (r.1, mkAgg r.2)
  | none => .bad
 | _ => .bad
theorem Ql {β : zg} {S : Nat → Nat → Prop} {w : World} : ∀ (vs : List Value), RepAL β S w (vs.map avOf) vs
 | [] => by simp [RepAL]
 | v :: vs => by simp only [List.map_cons, RepAL]; exact ⟨v, vs, rfl, z65 v, Ql vs⟩
theorem kh {P : Program} {w : World} {t : TypeId} {i : TI} {z : List AV} (h : ti P t = some i) (hz : i.zero = some z) : ∃ v : Value, (zeroValue t).run P w = .ok v w ∧ z = v.cells.toList.map avOf := by
 obtain ⟨j, u, hj, _, _, _, hzz, _⟩ := ti_info h
 rw [hzz] at hz
 cases hjz : j.zero with
 | none => simp [hjz] at hz
 | some v =>
  simp only [hjz, Option.map_some, Option.some.injEq] at hz
  exact ⟨v, by simp [zeroValue, typeInfo, hj, hjz], hz.symm⟩
theorem Xy {P : Program} {w : World} : ∀ (fs : List Field), (∀ f ∈ fs, (ti P f.type).isSome) →
  ((fs.mapM fun f => do pure (f.offset, ← sizeOf f.type) : Sem (List (Nat × Nat))).run P w) = .ok (fs.map fun f => (f.offset, ((ti P f.type).map (·.size)).getD 0)) w
 | [], _ => by simp
 | f :: fs, h => by
  have h0 := h f (by simp)
  cases ht : ti P f.type with
  | none => simp [ht] at h0
  | some j =>
   have ih := Xy (w := w) fs (fun g hg => h g (by simp [hg]))
   simp only [bind_pure_comp] at ih
   simp [List.mapM_cons, qe ht, ih, ht]
theorem zfz {P : Program} {β : zg} {S : Nat → Nat → Prop} {w : World} {t : TypeId} {parts : List (Nat × AV)} {vparts : Array (Nat × Value)}
  (hm : parts.map (·.1) = vparts.toList.map (·.1)) (hr : ∀ (j : Nat) (x : Nat × AV) (y : Nat × Value), parts[j]? = some x → vparts.toList[j]? = some y → RepA β S w x.2 y.2) (h : (buildA P t parts).1) :
  ∃ r, (Instr.build t vparts).run P w = .ok r w ∧ RepA β S w (buildA P t parts).2 r := by
 unfold buildA at h ⊢
 split at h
 ·rename_i sz by_ z fs hti
  obtain ⟨_, u', _, hu, _, _, _, hk⟩ := ti_info hti
  obtain ⟨flds, rfl, hfs⟩ := z4v hk.symm
  obtain ⟨zv, hzr, hz⟩ := kh (w := w) hti rfl
  obtain ⟨h, hall⟩ := h
  subst hz
  obtain ⟨out, ho, hout⟩ := z18 _ parts vparts.toList _ zv.cells.toList hm hr (Ql _) h
  refine ⟨.agg out, ?_, Zr hout⟩
  have hall' : ∀ f ∈ flds.toList, (ti P f.type).isSome := by
   subst hfs
   intro f hf
   have := List.all_eq_true.1 hall (f.offset, f.type) (List.mem_map.2 ⟨f, hf, rfl⟩)
   simpa using this
  have hpl := Xy (P := P) (w := w) flds.toList hall'
  have hplace : (fun i : Nat => (flds.toList.map fun f => (f.offset, ((ti P f.type).map (·.size)).getD 0))[i]?) = (fun i : Nat => match fs[i]? with
   | some (off, ft) => (ti P ft).map fun j : TI => (off, j.size)
   | none => none) := by
   funext i
   subst hfs
   simp only [List.getElem?_map]
   cases hg : flds.toList[i]? with
   | none => simp
   | some f =>
    have := hall' f (List.mem_of_getElem? hg)
    cases ht : ti P f.type with
    | none => simp [ht] at this
    | some j => simp [ht]
  have hmm : (flds.mapM fun f => do pure (f.offset, ← sizeOf f.type) : Sem (Array (Nat × Nat))).run P w = .ok (flds.toList.map fun f => (f.offset, ((ti P f.type).map (·.size)).getD 0)).toArray w := by
   have e : (flds.mapM fun f => do pure (f.offset, ← sizeOf f.type) : Sem (Array (Nat × Nat))) = Functor.map List.toArray (flds.toList.mapM fun f => do pure (f.offset, ← sizeOf f.type) : Sem (List (Nat × Nat))) := by
    exact Array.mapM_eq_mapM_toList
   rw [e, Sem.run_map, hpl]
   rfl
  simp only [Instr.build, Sem.run_bind, hzr, Result.andThen_ok, run_underlying hu, hmm]
  have hpf : (fun i : Nat => ((flds.toList.map fun f => (f.offset, ((ti P f.type).map (·.size)).getD 0)).toArray)[i]?) = (fun i : Nat => match fs[i]? with
   | some (off, ft) => (ti P ft).map fun j : TI => (off, j.size)
   | none => none) := by rw [← hplace]; funext i; simp
  rw [hpf]
  simp only [Array.toArray_toList] at ho
  rw [ho]
  rfl
 ·rename_i sz by_ z n e hti
  split at h <;> try (simp [VR.bad] at h; done)
  rename_i j hj
  obtain ⟨_, u', _, hu, _, _, _, hk⟩ := ti_info hti
  have hu' := Zy hk.symm
  subst hu'
  obtain ⟨zv, hzr, hz⟩ := kh (w := w) hti rfl
  subst hz
  obtain ⟨out, ho, hout⟩ := z18 _ parts vparts.toList _ zv.cells.toList hm hr (Ql _) h
  refine ⟨.agg out, ?_, Zr hout⟩
  simp only [Array.toArray_toList] at ho
  simp [Instr.build, hzr, run_underlying hu, qe hj, ho]
 ·simp [VR.bad] at h
def lenA (P : Program) (t : TypeId) (x : AV) : VR :=
 match ti P t with
 | some { tk := .slice _, .. } => match x with
  | .dat (.sl l) => (True, .dat (.int .i64 l.length))
  | .osl _ _ _ len => (True, .dat (.int .i64 len))
  | .nils => (True, .dat (.int .i64 0))
  | _ => .bad
 | some { tk := .str, .. } => match x with
  | .dat (.str s) => (True, .dat (.int .i64 s.size))
  | _ => .bad
 | some { tk := .array n _, .. } => (True, .dat (.int .i64 n))
 | _ => .bad
theorem zph {P : Program} {β : zg} {S : Nat → Nat → Prop} {w : World} {t : TypeId} {ty : TypeId} {x : AV} {u : Value} (hx : RepA β S w x u) (h : (lenA P t x).1) :
  ∃ r, (Builtin.len_ #[t] ty #[u]).run P w = .ok r w ∧ RepA β S w (lenA P t x).2 r := by
 unfold lenA at h ⊢
 split at h
 ·rename_i sz by_ z e hti
  obtain ⟨_, u', _, hu, _, _, _, hk⟩ := ti_info hti
  have hu' := wt hk.symm
  subst hu'
  split at h <;> try (simp [VR.bad] at h; done)
  ·simp only [RepA, RepX] at hx ⊢
   obtain ⟨es, a, cap, rfl, _, _⟩ := hx
   exact ⟨_, by simp [Builtin.len_, run_underlying hu, goInt], rfl⟩
  ·simp only [RepA, RepX] at hx ⊢
   rcases hx with ⟨_, rfl, a, rfl⟩ | ⟨b, s, cap, arr, e', a, hb, rfl, _⟩
   ·exact ⟨_, by simp [Builtin.len_, run_underlying hu, goInt], rfl⟩
   ·exact ⟨_, by simp [Builtin.len_, run_underlying hu, goInt], rfl⟩
  ·simp only [RepA, RepX] at hx ⊢
   obtain ⟨a, rfl⟩ := hx
   exact ⟨_, by simp [Builtin.len_, run_underlying hu, goInt], rfl⟩
 ·rename_i sz by_ z hti
  obtain ⟨_, u', _, hu, _, _, _, hk⟩ := ti_info hti
  have hu' := z8c hk.symm
  subst hu'
  split at h <;> try (simp [VR.bad] at h; done)
  simp only [RepA, RepX] at hx ⊢
  subst hx
  exact ⟨_, by simp [Builtin.len_, run_underlying hu, goInt], rfl⟩
 ·rename_i sz by_ z n e hti
  obtain ⟨_, u', _, hu, _, _, _, hk⟩ := ti_info hti
  have hu' := Zy hk.symm
  subst hu'
  simp only [RepA, RepX]
  exact ⟨_, by cases u <;> simp [Builtin.len_, run_underlying hu, goInt], rfl⟩
 ·simp [VR.bad] at h
def min2A : AV → AV → VR
 | .dat (.int k a), .dat (.int _ b) => (True, .dat (.int k (if b < a then b else a)))
 | _, _ => .bad
def max2A : AV → AV → VR
 | .dat (.int k a), .dat (.int _ b) => (True, .dat (.int k (if a < b then b else a)))
 | _, _ => .bad
def foldA (f : AV → AV → VR) : AV → List AV → VR
 | x, [] => (True, x)
 | x, y :: l => let r := f x y; let q := foldA f r.2 l; (r.1 ∧ q.1, q.2)
theorem z45 {P : Program} {β : zg} {S : Nat → Nat → Prop} {w : World} {f : AV → AV → VR} {g : Value → Value → Sem Value}
  (hfg : ∀ x y u v, RepA β S w x u → RepA β S w y v → (f x y).1 → ∃ r, (g u v).run P w = .ok r w ∧ RepA β S w (f x y).2 r) :
  ∀ (l : List AV) (vs : List Value) (x : AV) (u : Value), RepA β S w x u → RepAL β S w l vs → (foldA f x l).1 → ∃ r, (vs.foldlM g u).run P w = .ok r w ∧ RepA β S w (foldA f x l).2 r
 | [], vs, x, u, hx, hl, _ => by
  simp only [RepAL] at hl
  subst hl
  exact ⟨u, by simp, by simpa [foldA] using hx⟩
 | y :: l, vs, x, u, hx, hl, h => by
  simp only [RepAL] at hl
  obtain ⟨v, vs', rfl, h1, h2⟩ := hl
  simp only [foldA] at h ⊢
  obtain ⟨r, hr, hrep⟩ := hfg x y u v hx h1 h.1
  obtain ⟨q, hq, hqrep⟩ := z45 hfg l vs' _ r hrep h2 h.2
  exact ⟨q, by simp [hr, hq], hqrep⟩
def minA (l : List AV) : VR := match l with
 | [] => .bad
 | x :: l => foldA min2A x l
def maxA (l : List AV) : VR := match l with
 | [] => .bad
 | x :: l => foldA max2A x l
theorem zpy {P : Program} {β : zg} {S : Nat → Nat → Prop} {w : World} {ts : Array TypeId} {ty : TypeId} {l : List AV} {vs : Array Value} (hl : RepAL β S w l vs.toList) (h : (minA l).1) :
  ∃ r, (Builtin.min_ ts ty vs).run P w = .ok r w ∧ RepA β S w (minA l).2 r := by
 cases l with
 | nil => simp [minA, VR.bad] at h
 | cons x l =>
  simp only [RepAL] at hl
  obtain ⟨v, vs', hv, h1, h2⟩ := hl
  obtain ⟨r, hr, hrep⟩ := z45 (P := P) (g := Builtin.min2) (f := min2A) (fun x y u v hx hy hc => by
   unfold min2A at hc ⊢
   split at hc <;> try (simp [VR.bad] at hc; done)
   simp only [RepA, RepX] at hx hy ⊢
   subst hx; subst hy
   exact ⟨_, by simp [Builtin.min2], rfl⟩) l vs' x v h1 h2 h
  exact ⟨r, by simp [Builtin.min_, hv, hr], hrep⟩
theorem zpx {P : Program} {β : zg} {S : Nat → Nat → Prop} {w : World} {ts : Array TypeId} {ty : TypeId} {l : List AV} {vs : Array Value} (hl : RepAL β S w l vs.toList) (h : (maxA l).1) :
  ∃ r, (Builtin.max_ ts ty vs).run P w = .ok r w ∧ RepA β S w (maxA l).2 r := by
 cases l with
 | nil => simp [maxA, VR.bad] at h
 | cons x l =>
  simp only [RepAL] at hl
  obtain ⟨v, vs', hv, h1, h2⟩ := hl
  obtain ⟨r, hr, hrep⟩ := z45 (P := P) (g := Builtin.max2) (f := max2A) (fun x y u v hx hy hc => by
   unfold max2A at hc ⊢
   split at hc <;> try (simp [VR.bad] at hc; done)
   simp only [RepA, RepX] at hx hy ⊢
   subst hx; subst hy
   exact ⟨_, by simp [Builtin.max2], rfl⟩) l vs' x v h1 h2 h
  exact ⟨r, by simp [Builtin.max_, hv, hr], hrep⟩
def boundA (d : Int) : Option AV → Option Int
 | none => some d
 | some (.dat (.int _ n)) => some n
 | _ => none
def sliceA (P : Program) (t : TypeId) (x : AV) (lo hi mx : Option AV) : VR :=
 match mx, ti P t with
 | none, some { tk := .slice e, .. } => match ti P e with
  | some j => match x with
   | .dat (.sl l) => match boundA 0 lo, boundA l.length hi with
    | some a, some b => (((∀ d ∈ l, d.cells.length = j.size) ∧ 0 ≤ a) ∧ a ≤ b ∧ b ≤ l.length, .dat (.sl ((l.take b.toNat).drop a.toNat)))
    | _, _ => .bad
   | .osl id es off len => match boundA 0 lo, boundA len hi with
    | some a, some b => ((es = j.size ∧ 0 ≤ a) ∧ a ≤ b ∧ b ≤ len, .osl id es (off + a.toNat) (b.toNat - a.toNat))
    | _, _ => .bad
   | .nils => match boundA 0 lo, boundA 0 hi with
    | some a, some b => (a = 0 ∧ b = 0, .nils)
    | _, _ => .bad
   | _ => .bad
  | none => .bad
 | none, some { tk := .str, .. } => match x with
  | .dat (.str s) => match boundA 0 lo, boundA s.size hi with
   | some a, some b => (0 ≤ a ∧ a ≤ b ∧ b ≤ s.size, .dat (.str (s.extract a.toNat b.toNat)))
   | _, _ => .bad
  | _ => .bad
 | none, some { tk := .array n e, .. } => match ti P e with
  | some j => match boundA 0 lo, boundA n hi with
   | some a, some b => match x with
    | .ptr id es k o => ((j.size = 1 ∧ 0 ≤ a) ∧ (a ≤ b ∧ b ≤ n) ∧ a < n, .isl id es k (o + a.toNat) (b.toNat - a.toNat) (n - a.toNat))
    | .dat (.ref (.agg l)) => ((j.size = 1 ∧ 0 ≤ a) ∧ (a ≤ b ∧ b ≤ n) ∧ a < n ∧ l.length = n, .dat (.sl ((l.take b.toNat).drop a.toNat)))
    | _ => .bad
   | _, _ => .bad
  | none => .bad
 | some m, some { tk := .slice e, .. } => match ti P e with
  | some j => match x with
   | .dat (.sl l) => match hi with
    | some h => match boundA 0 lo, boundA 0 (some h), boundA 0 (some m) with
     | some a, some b, some c => (((∀ d ∈ l, d.cells.length = j.size) ∧ 0 ≤ a) ∧ a ≤ b ∧ b ≤ c ∧ c ≤ l.length, .dat (.sl ((l.take b.toNat).drop a.toNat)))
     | _, _, _ => .bad
    | none => .bad
   | _ => .bad
  | none => .bad
 | _, _ => .bad
def z1y (β : zg) (S : Nat → Nat → Prop) (w : World) (x : Option AV) (v : Option Value) : Prop :=
 match x, v with
 | none, none => True
 | some x, some v => RepA β S w x v
 | _, _ => False
theorem Zi {β : zg} {S : Nat → Nat → Prop} {w : World} {x : Option AV} {v : Option Value} (h : z1y β S w x v) {d n : Int} (hb : boundA d x = some n) :
  (v = none ∧ n = d) ∨ ∃ k, v = some (.int k n) := by
 unfold boundA at hb
 split at hb
 ·cases v <;> simp_all [z1y]
 ·cases v
  ·simp [z1y] at h
  ·rename_i k n' u
   simp only [z1y, RepA, RepX] at h
   simp only [Option.some.injEq] at hb
   subst hb; subst h
   exact .inr ⟨k, rfl⟩
 ·simp at hb
theorem j8 {P : Program} {β : zg} {S : Nat → Nat → Prop} {w : World} {sl : Bool} {len cap : Nat} {lo hi : Option AV} {vlo vhi : Option Value} {a b : Int}
  (hlo : z1y β S w lo vlo) (hhi : z1y β S w hi vhi) (ha : boundA 0 lo = some a) (hb : boundA len hi = some b) (h0 : 0 ≤ a) (h1 : a ≤ b) (h2 : b ≤ cap) :
  (Instr.sliceBounds sl len cap vlo vhi none).run P w = .ok (a.toNat, b.toNat, cap) w := by
 have e1 : a ≤ (b.toNat : Int) := by omega
 have e2 : 0 ≤ b := by omega
 rcases Zi hhi hb with ⟨rfl, rfl⟩ | ⟨k, rfl⟩ <;> rcases Zi hlo ha with ⟨rfl, rfl⟩ | ⟨k', rfl⟩ <;>
  simp_all [Instr.sliceBounds, Instr.sliceBound, asIntOf]
theorem z4o {S : Nat → Nat → Prop} {w : World} {es b : Nat} : ∀ (n : Nat) {l : List Dat} {off : Nat}, RepS S w es l (some ⟨b, off, none⟩) → RepS S w es (l.drop n) (some ⟨b, off + n * es, none⟩) := fun n l off h => by
 refine Q4 fun i d hd => ?_
 rw [List.getElem?_drop] at hd
 obtain ⟨b', off', ha, hc, hr⟩ := v7 h hd
 simp only [Option.some.injEq, Addr.mk.injEq, and_true] at ha
 obtain ⟨rfl, rfl⟩ := ha
 exact ⟨hc, by rwa [Nat.add_mul, ← Nat.add_assoc] at hr⟩
theorem z4p {S : Nat → Nat → Prop} {w : World} {es b : Nat} (n : Nat) {l : List Dat} {off : Nat} (h : RepS S w es l (some ⟨b, off, none⟩)) : RepS S w es (l.take n) (some ⟨b, off, none⟩) := by
 refine Q4 fun i d hd => ?_
 rw [List.getElem?_take] at hd
 split at hd
 ·obtain ⟨b', off', ha, hc, hr⟩ := v7 h hd
  simp only [Option.some.injEq, Addr.mk.injEq, and_true] at ha
  obtain ⟨rfl, rfl⟩ := ha
  exact ⟨hc, hr⟩
 ·simp at hd
theorem zi0 {P : Program} {β : zg} {S : Nat → Nat → Prop} {w : World} {t : TypeId} {x : AV} {u : Value} {lo hi mx : Option AV} {vlo vhi vmx : Option Value}
  (hx : RepA β S w x u) (hlo : z1y β S w lo vlo) (hhi : z1y β S w hi vhi) (hmx : z1y β S w mx vmx) (h : (sliceA P t x lo hi mx).1) :
  ∃ r, (Instr.sliceAt t u vlo vhi vmx).run P w = .ok r w ∧ RepA β S w (sliceA P t x lo hi mx).2 r := by
 unfold sliceA at h ⊢
 split at h
 ·rename_i sz by_ z e hti
  have hm : vmx = none := by cases vmx <;> simp_all [z1y]
  subst hm
  obtain ⟨_, u', _, hu, _, _, _, hk⟩ := ti_info hti
  have hu' := wt hk.symm
  subst hu'
  split at h <;> try (simp [VR.bad] at h; done)
  rename_i j hj
  split at h <;> try (simp [VR.bad] at h; done)
  ·rename_i l
   split at h <;> try (simp [VR.bad] at h; done)
   rename_i a b ha hb
   obtain ⟨⟨hes, h0⟩, h1, h2⟩ := h
   simp only [RepA, RepX] at hx ⊢
   obtain ⟨es, ad, cap, rfl, hc, hr⟩ := hx
   have hbd := j8 (P := P) (w := w) (sl := true) (cap := cap) hlo hhi ha hb h0 h1 (by omega)
   refine ⟨_, by simp [Instr.sliceAt, run_underlying hu, Instr.slice, hbd, qe hj]; rfl, ?_⟩
   have hlen : ((l.take b.toNat).drop a.toNat).length = b.toNat - a.toNat := by simp; omega
   refine ⟨es, _, _, by rw [hlen], by omega, ?_⟩
   by_cases hemp : (l.take b.toNat).drop a.toNat = []
   ·rw [hemp]; simp [RepS]
   ·have hlt : a.toNat < b.toNat := by
     rcases Nat.lt_or_ge a.toNat b.toNat with h' | h'
     ·exact h'
     ·exact absurd (List.eq_nil_of_length_eq_zero (by omega)) hemp
    have hne : ¬ cap = a.toNat := by omega
    have hl0 : 0 < l.length := by omega
    obtain ⟨bb, oo, rfl, hcl, _⟩ := v7 hr (i := 0) (d := l[0]) (by simp [hl0])
    obtain rfl : es = j.size := by have := hes l[0] (List.getElem_mem hl0); omega
    simp only [hne, if_false, Option.map_some, wo]
    exact z4o _ (z4p _ hr)
  ·rename_i id es off len
   split at h <;> try (simp [VR.bad] at h; done)
   rename_i a b ha hb
   obtain ⟨⟨rfl, h0⟩, h1, h2⟩ := h
   simp only [RepA] at hx ⊢
   rcases hx with ⟨hn, rfl, ad, rfl⟩ | ⟨bb, s, cap, arr, e', ad, hbb, rfl, had, hc, hh, hz⟩
   ·have hbd := j8 (P := P) (w := w) (sl := true) (cap := 0) hlo hhi ha hb h0 h1 (by omega)
    refine ⟨_, by simp [Instr.sliceAt, run_underlying hu, Instr.slice, hbd, qe hj]; rfl, .inl ⟨hn, by omega, ?_⟩⟩
    have e1 : a.toNat = 0 := by omega
    have e2 : b.toNat = 0 := by omega
    simp [e1, e2]
   ·have hbd := j8 (P := P) (w := w) (sl := true) (cap := cap) hlo hhi ha hb h0 h1 (by omega)
    refine ⟨_, by simp [Instr.sliceAt, run_underlying hu, Instr.slice, hbd, qe hj]; rfl, .inr ⟨bb, s, cap - a.toNat, arr, e', _, hbb, rfl, fun hpos => ?_, by omega, hh, ?_⟩⟩
    ·have := had (by omega)
     subst this
     have hne : ¬ cap = a.toNat := by omega
     simp [hne, wo, Nat.add_mul, Nat.add_assoc]
    ·have : off + a.toNat + (cap - a.toNat) = off + cap := by omega
     rw [this]; exact hz
  ·split at h <;> try (simp [VR.bad] at h; done)
   rename_i a b ha hb
   obtain ⟨rfl, rfl⟩ := h
   simp only [RepA] at hx ⊢
   obtain ⟨ad, rfl⟩ := hx
   have hbd := j8 (P := P) (w := w) (sl := true) (len := 0) (cap := 0) hlo hhi ha hb (by omega) (by omega) (by omega)
   exact ⟨_, by simp [Instr.sliceAt, run_underlying hu, Instr.slice, hbd, qe hj], ad, rfl⟩
 ·rename_i sz by_ z hti
  have hm : vmx = none := by cases vmx <;> simp_all [z1y]
  subst hm
  obtain ⟨_, u', _, hu, _, _, _, hk⟩ := ti_info hti
  have hu' := z8c hk.symm
  subst hu'
  split at h <;> try (simp [VR.bad] at h; done)
  rename_i s
  split at h <;> try (simp [VR.bad] at h; done)
  rename_i a b ha hb
  obtain ⟨h0, h1, h2⟩ := h
  simp only [RepA, RepX] at hx ⊢
  subst hx
  have hbd := j8 (P := P) (w := w) (sl := false) (cap := s.size) hlo hhi ha hb h0 h1 (by omega)
  exact ⟨_, by simp [Instr.sliceAt, run_underlying hu, Instr.slice, hbd], rfl⟩
 ·rename_i sz by_ z n e hti
  have hm : vmx = none := by cases vmx <;> simp_all [z1y]
  subst hm
  obtain ⟨_, u', _, hu, _, _, _, hk⟩ := ti_info hti
  have hu' := Zy hk.symm
  subst hu'
  split at h <;> try (simp [VR.bad] at h; done)
  rename_i j hj
  split at h <;> try (simp [VR.bad] at h; done)
  rename_i a b ha hb
  split at h <;> try (simp [VR.bad] at h; done)
  ·rename_i id es k o
   obtain ⟨⟨hj1, h0⟩, ⟨h1, h2⟩, h3⟩ := h
   simp only [RepA] at hx ⊢
   obtain ⟨bb, s, hbb, rfl, hcl⟩ := hx
   have hbd := j8 (P := P) (w := w) (sl := false) (cap := n) hlo hhi ha hb h0 h1 h2
   have hne : ¬ n = a.toNat := by omega
   refine ⟨_, by simp [Instr.sliceAt, run_underlying hu, Instr.sureAddr, hbd, qe hj]; rfl, by omega, bb, s, hbb, ?_, hcl⟩
   simp [hne, hj1, wo, Nat.add_assoc]
  ·rename_i l
   obtain ⟨⟨hj1, h0⟩, ⟨h1, h2⟩, h3, h4⟩ := h
   simp only [RepA, RepX] at hx ⊢
   obtain ⟨bb, o, rfl, hr⟩ := hx
   have hbd := j8 (P := P) (w := w) (sl := false) (cap := n) hlo hhi ha hb h0 h1 h2
   have hne : ¬ n = a.toNat := by omega
   have hlen : ((l.take b.toNat).drop a.toNat).length = b.toNat - a.toNat := by simp; omega
   refine ⟨_, by simp [Instr.sliceAt, run_underlying hu, Instr.sureAddr, hbd, qe hj]; rfl, 1, _, _, by rw [hlen], by omega, ?_⟩
   simp only [hne, if_false, hj1, Nat.mul_one, wo]
   have hrc := (vn _ _ _).1 hr
   simp only [Dat.cells] at hrc
   have hfull : RepS S w 1 l (some ⟨bb, o, none⟩) := Q4 fun i d hd => by
    obtain ⟨hS, v, hv, hrv⟩ := z0q hrc hd
    have hcd : d.cells = [d] := by cases d <;> first | rfl | (simp only [Rep1] at hrv)
    refine ⟨by rw [hcd]; rfl, Q3 fun q c hq => ?_⟩
    rw [hcd] at hq
    cases q with
    | succ q => simp at hq
    | zero =>
     simp at hq
     subst hq
     exact ⟨by simpa using hS, v, by simpa using hv, hrv⟩
   have := z4o a.toNat (z4p b.toNat hfull)
   simpa using this
 ·rename_i m sz by_ z e hti
  obtain ⟨vm, rfl⟩ : ∃ vm, vmx = some vm := by cases vmx <;> simp_all [z1y]
  obtain ⟨_, u', _, hu, _, _, _, hk⟩ := ti_info hti
  have hu' := wt hk.symm
  subst hu'
  split at h <;> try (simp [VR.bad] at h; done)
  rename_i j hj
  split at h <;> try (simp [VR.bad] at h; done)
  rename_i l
  split at h <;> try (simp [VR.bad] at h; done)
  rename_i hb'
  obtain ⟨vh, rfl⟩ : ∃ vh, vhi = some vh := by cases vhi <;> simp_all [z1y]
  split at h <;> try (simp [VR.bad] at h; done)
  rename_i a b c ha hb hc'
  obtain ⟨⟨hes, h0⟩, h1, h2, h3⟩ := h
  simp only [RepA, RepX] at hx ⊢
  obtain ⟨es, ad, cap, rfl, hc, hr⟩ := hx
  have hbd : (Instr.sliceBounds true l.length cap vlo (some vh) (some vm)).run P w = .ok (a.toNat, b.toNat, c.toNat) w := by
   have e1 : a ≤ (b.toNat : Int) := by omega
   have e2 : 0 ≤ b := by omega
   have e3 : b ≤ (c.toNat : Int) := by omega
   have e4 : 0 ≤ c := by omega
   have e5 : c ≤ (cap : Int) := by omega
   rcases Zi hhi hb with ⟨hf, _⟩ | ⟨k, hk1⟩
   ·cases hf
   rcases Zi hmx hc' with ⟨hf, _⟩ | ⟨k2, hk2⟩
   ·cases hf
   simp only [Option.some.injEq] at hk1 hk2
   subst hk1; subst hk2
   rcases Zi hlo ha with ⟨rfl, rfl⟩ | ⟨k', rfl⟩ <;> simp_all [Instr.sliceBounds, Instr.sliceBound, asIntOf]
  refine ⟨_, by simp [Instr.sliceAt, run_underlying hu, Instr.slice, hbd, qe hj]; rfl, ?_⟩
  have hlen : ((l.take b.toNat).drop a.toNat).length = b.toNat - a.toNat := by simp; omega
  refine ⟨es, _, _, by rw [hlen], by omega, ?_⟩
  by_cases hemp : (l.take b.toNat).drop a.toNat = []
  ·rw [hemp]; simp [RepS]
  ·have hlt : a.toNat < b.toNat := by
    rcases Nat.lt_or_ge a.toNat b.toNat with h' | h'
    ·exact h'
    ·exact absurd (List.eq_nil_of_length_eq_zero (by omega)) hemp
   have hne : ¬ c.toNat = a.toNat := by omega
   have hl0 : 0 < l.length := by omega
   obtain ⟨bb, oo, rfl, hcl, _⟩ := v7 hr (i := 0) (d := l[0]) (by simp [hl0])
   obtain rfl : es = j.size := by have := hes l[0] (List.getElem_mem hl0); omega
   simp only [hne, if_false, Option.map_some, wo]
   exact z4o _ (z4p _ hr)
 ·simp [VR.bad] at h
theorem Zq {β : zg} {S : Nat → Nat → Prop} {w : World} : ∀ {l : List AV} {b o : Nat}, MemC β S w l b o →
  ∃ vs : List Value, vs.length = l.length ∧ (∀ (i : Nat) (v : Value), vs[i]? = some v → w.cell? ⟨b, o + i, none⟩ = some v ∧ v.oneCell' = true) ∧ RepAL β S w l vs
 | [], _, _, _ => ⟨[], rfl, by simp, by simp [RepAL]⟩
 | x :: l, b, o, h => by
  obtain ⟨v, hv, h1, hr⟩ := h 0 x (by simp)
  obtain ⟨vs, hl, hc, hrs⟩ := Zq (l := l) (b := b) (o := o + 1) (fun i c hi => by
   have := h (i + 1) c (by simpa using hi)
   rwa [show o + (i + 1) = o + 1 + i from by omega] at this)
  refine ⟨v :: vs, by simp [hl], fun i u hu => ?_, by simp only [RepAL]; exact ⟨v, vs, rfl, hr, hrs⟩⟩
  cases i with
  | zero => simp at hu; subst hu; exact ⟨by simpa using hv, h1⟩
  | succ i =>
   have := hc i u (by simpa using hu)
   rwa [show o + 1 + i = o + (i + 1) from by omega] at this
theorem z3e {β : zg} {S : Nat → Nat → Prop} {w : World} : ∀ {l : List Dat} {vs : List Value}, (∀ (i : Nat) (v : Value), vs[i]? = some v → v.oneCell' = true) → RepAL β S w (l.map .dat) vs → RepL S w l vs
 | [], _, _, h => by simpa [RepAL, RepL] using h
 | d :: ds, vs, h1, h => by
  simp only [List.map_cons, RepAL] at h
  obtain ⟨v, vs', rfl, hr, hrs⟩ := h
  simp only [RepL]
  have hv := h1 0 v (by simp)
  simp only [RepA] at hr
  refine ⟨v, vs', rfl, xf ?_ hr, z3e (fun i u hu => h1 (i + 1) u (by simpa using hu)) hrs⟩
  cases d <;> simp [Dat.isAgg]
  simp only [RepX] at hr
  obtain ⟨cs, rfl, _⟩ := hr
  simp [Value.oneCell'] at hv
theorem Q2 {β : zg} {S : Nat → Nat → Prop} {w : World} {l : List Dat} {b o : Nat} (h : RepC S w l b o) : MemC β S w (l.map .dat) b o := fun i c hc => by
 rw [List.getElem?_map] at hc
 cases hd : l[i]? with
 | none => simp [hd] at hc
 | some d =>
  simp only [hd, Option.map_some, Option.some.injEq] at hc
  subst hc
  obtain ⟨_, v, hv, hr⟩ := z0q h hd
  exact ⟨v, hv, Zu hr, by simp only [RepA]; exact Xo hr⟩
def loadW (i : TI) (off : Nat) (x : AV) : VR :=
 if x.cells.length = i.size ∧ x.isAgg = i.tk.isAgg then (off = 0, x) else partA i.tk.isAgg off i.size x.cells
theorem kb {P : Program} {w : World} {b o : Nat} {vs : List Value} (h : ∀ (i : Nat) (v : Value), vs[i]? = some v → w.cell? ⟨b, o + i, none⟩ = some v) (n : Nat) (hn : n = vs.length) :
  (loadCells ⟨b, o, none⟩ n).run P w = .ok vs.toArray w := by
 subst hn
 exact run_loadCells_list (P := P) w ⟨b, o, none⟩ vs fun j v hv => by rw [wo]; exact h j v hv
theorem z1c {P : Program} {β : zg} {S : Nat → Nat → Prop} {w : World} {t : TypeId} {i : TI} {x : AV} {b o off : Nat} (ht : ti P t = some i) (hm : MemC β S w x.cells b o) (h : (loadW i off x).1) :
  ∃ r, (loadVar t ⟨b, o + off, none⟩).run P w = .ok r w ∧ RepA β S w (loadW i off x).2 r := by
 obtain ⟨vs, hl, hc, hr⟩ := Zq hm
 unfold loadW at h ⊢
 split at h
 ·rename_i hcond
  have h : off = 0 := h
  subst h
  simp only [hcond, and_self, if_true, Nat.add_zero]
  obtain ⟨hlen, hagg⟩ := hcond
  cases ha : i.tk.isAgg
  ·rw [ha] at hagg
   have hcell : x.cells = [x] := by
    cases x <;> simp [AV.isAgg] at hagg <;> simp [AV.cells]
    rename_i d
    cases d <;> simp [Dat.isAgg] at hagg <;> simp [AV.cells]
   obtain ⟨v, hv, _, hrv⟩ := hm 0 x (by simp [hcell])
   exact ⟨v, by simp only [Nat.add_zero] at hv; simp [loadVar, Q8 ht, ha, hv], hrv⟩
  ·rw [ha] at hagg
   have hload := kb (P := P) (w := w) (b := b) (o := o) (vs := vs) (fun i v hv => (hc i v hv).1) i.size (by omega)
   refine ⟨.agg vs.toArray, by simp [loadVar, Q8 ht, ha, qe ht, hload], ?_⟩
   cases x <;> simp [AV.isAgg] at hagg
   ·rename_i d
    cases d <;> simp [Dat.isAgg] at hagg
    simp only [RepA, RepX]
    exact ⟨_, rfl, z3e (fun i v hv => (hc i v hv).2) (by simpa [AV.cells] using hr)⟩
   ·simp only [RepA]
    exact ⟨_, rfl, by simpa [AV.cells] using hr⟩
 ·rename_i hcond
  simp only [if_neg hcond]
  unfold partA at h ⊢
  cases ha : i.tk.isAgg
  ·simp only [ha, Bool.false_eq_true, if_false] at h ⊢
   have hlt : off < x.cells.length := h
   obtain ⟨v, hv, _, hrv⟩ := hm off x.cells[off] (by simp [hlt])
   exact ⟨v, by simp [loadVar, Q8 ht, ha, hv], by simpa [hlt] using hrv⟩
  ·simp only [ha, if_true] at h ⊢
   have hle : off + i.size ≤ x.cells.length := h
   have hload := kb (P := P) (w := w) (b := b) (o := o + off) (vs := (vs.drop off).take i.size) (fun k v hv => by
    rw [List.getElem?_take] at hv
    split at hv
    ·rw [List.getElem?_drop] at hv
     have := (hc _ v hv).1
     rwa [← Nat.add_assoc] at this
    ·simp at hv) i.size (by simp; omega)
   refine ⟨.agg ((vs.drop off).take i.size).toArray, by simp [loadVar, Q8 ht, ha, qe ht, hload], Zr ?_⟩
   simpa using z2d (z2c hr off) i.size
def Dat.flat : Dat → Bool
 | .int _ _ | .bool _ | .str _ | .nilp | .nilI => true
 | _ => false
theorem zag {S S' : Nat → Nat → Prop} {w w' : World} {d : Dat} {v : Value} (hf : d.flat = true) (h : Rep1 S w d v) : Rep1 S' w' d v := by
 cases d <;> simp_all [Dat.flat, Rep1]
def loadA (P : Program) (G : List (Nat × Dat)) (objs : Nat → Option AObj) (t : TypeId) (x : AV) : VR :=
 match ti P t with
 | some i => match x with
  | .ptr id es k o => match objs id with
   | some ob => ((ob.es = es ∧ k < ob.elems.length) ∧ (loadW i o ((ob.elems[k]?).getD .junk)).1, (loadW i o ((ob.elems[k]?).getD .junk)).2)
   | none => .bad
  | .rp d o => loadW i o (.dat d)
  | .dat (.ref d) => loadW i 0 (.dat d)
  | .gl g o => match G.lookup g with
   | some d => (d.cells.all Dat.flat = true ∧ (loadW i o (.dat d)).1, (loadW i o (.dat d)).2)
   | none => .bad
  | _ => .bad
 | none => .bad
theorem xt (d : Dat) : (AV.dat d).cells = d.cells.map .dat := by cases d <;> simp [AV.cells]
theorem z74 {α : Type} {g : Nat} {d : α} : ∀ {G : List (Nat × α)}, G.lookup g = some d → (g, d) ∈ G
 | [], h => by simp at h
 | (k, e) :: G, h => by
  simp only [List.lookup_cons] at h
  split at h
  ·rename_i hk
   simp only [Option.some.injEq] at h
   simp only [beq_iff_eq] at hk
   subst h; subst hk
   simp
  ·exact List.mem_cons_of_mem _ (z74 h)
theorem xe {w w' : World} {b i : Nat} (h : w'.heap[b]? = w.heap[b]?) : w'.cell? ⟨b, i, none⟩ = w.cell? ⟨b, i, none⟩ := by simp [World.cell?, h]
theorem z9z {F : FC} {β : zg} {S : Nat → Nat → Prop} {st : ASt} {tm : Array Value} {w : World} (hs : SimB F β S st tm w) {t : TypeId} {x : AV} {u : Value} (hx : RepA β S w x u) (h : (loadA F.P F.G st.objs t x).1) :
  ∃ r, (Instr.loadAt t u).run F.P w = .ok r w ∧ RepA β S w (loadA F.P F.G st.objs t x).2 r := by
 unfold loadA at h ⊢
 split at h <;> try (simp [VR.bad] at h; done)
 rename_i i hti
 split at h <;> try (simp [VR.bad] at h; done)
 ·rename_i id es k o
  split at h <;> try (simp [VR.bad] at h; done)
  rename_i ob hob
  simp only [hob]
  obtain ⟨⟨rfl, hk⟩, hl⟩ := h
  simp only [RepA] at hx
  obtain ⟨b, s, hb, rfl, hcl⟩ := hx
  rcases hs.obj id ob hob with ⟨hn, _⟩ | ⟨b', s', arr, e, hb', _, _, _, hel⟩ | hm
  ·rw [hn] at hb; cases hb
  ·rw [hb'] at hb
   simp only [Option.some.injEq, Prod.mk.injEq] at hb
   obtain ⟨rfl, rfl⟩ := hb
   have hm := (hel k _ (List.getElem?_eq_getElem hk)).2
   simp only [List.getElem?_eq_getElem hk, Option.getD_some] at hl ⊢
   obtain ⟨r, hr, hrep⟩ := z1c hti hm hl
   exact ⟨r, by simp [Instr.loadAt, Instr.sureAddr, hr], hrep⟩
  ·exact (hm.noCells hb hcl).elim
 ·rename_i d o
  simp only [RepA] at hx
  obtain ⟨b, o', rfl, hr⟩ := hx
  have hm : MemC β S w (AV.dat d).cells b o' := by rw [xt]; exact Q2 ((vn _ _ _).1 hr)
  obtain ⟨r, hrun, hrep⟩ := z1c hti hm h
  exact ⟨r, by simp [Instr.loadAt, Instr.sureAddr, hrun], hrep⟩
 ·rename_i d
  simp only [RepA, RepX] at hx
  obtain ⟨b, o', rfl, hr⟩ := hx
  have hm : MemC β S w (AV.dat d).cells b o' := by rw [xt]; exact Q2 ((vn _ _ _).1 hr)
  obtain ⟨r, hrun, hrep⟩ := z1c hti hm h
  exact ⟨r, by simp [Instr.loadAt, Instr.sureAddr]; simpa using hrun, hrep⟩
 ·rename_i g o
  split at h <;> try (simp [VR.bad] at h; done)
  rename_i d hd
  simp only [hd]
  obtain ⟨hf, hl⟩ := h
  simp only [RepA] at hx
  subst hx
  obtain ⟨h1, h2, h3⟩ := hs.glob (g, d) (z74 hd)
  have hcell : ∀ j, w.cell? ⟨g, j, none⟩ = F.w0.cell? ⟨g, j, none⟩ := fun j => xe (hs.ext.block g h1 h2)
  have hm : MemC β S w (AV.dat d).cells g 0 := by
   rw [xt]
   intro j c hc
   rw [List.getElem?_map] at hc
   cases hdj : d.cells[j]? with
   | none => simp [hdj] at hc
   | some dj =>
    simp only [hdj, Option.map_some, Option.some.injEq] at hc
    subst hc
    obtain ⟨_, v, hv, hr⟩ := z0q h3 hdj
    have hfl : dj.flat = true := List.all_eq_true.1 hf dj (List.mem_of_getElem? hdj)
    exact ⟨v, (hcell _).trans hv, Zu hr, by simp only [RepA]; exact Xo (zag hfl hr)⟩
  obtain ⟨r, hrun, hrep⟩ := z1c hti hm hl
  exact ⟨r, by simp [Instr.loadAt, Instr.sureAddr]; simpa using hrun, hrep⟩
def zck : List Dat → Option (List Int)
 | [] => some []
 | .int .u8 n :: l => (zck l).map (n :: ·)
 | _ => none
theorem z3l : ∀ l : List Int, zck (l.map (Dat.int .u8)) = some l
 | [] => rfl
 | n :: l => by simp [zck, z3l l]
theorem zjx : ∀ {l : List Dat} {ns : List Int}, zck l = some ns → l = ns.map (Dat.int .u8)
 | [], ns, h => by simp only [zck, Option.some.injEq] at h; subst h; rfl
 | d :: l, ns, h => by
  unfold zck at h
  split at h <;> try (simp at h; done)
  ·rename_i h1; cases h1
  ·rename_i n l' h1
   simp only [List.cons.injEq] at h1
   obtain ⟨rfl, rfl⟩ := h1
   cases hl : zck l with
   | none => simp [hl] at h
   | some ms =>
    simp only [hl, Option.map_some, Option.some.injEq] at h
    subst h
    rw [zjx hl, List.map_cons]
def vv (ns : List Int) : ByteArray := ⟨(ns.map fun n => UInt8.ofNat n.toNat).toArray⟩
theorem z93 (ns : List Int) : ns.foldl (fun r n => r.push (UInt8.ofNat n.toNat)) ByteArray.empty = vv ns := by
 have : ∀ (ns : List Int) (r : ByteArray), ns.foldl (fun r n => r.push (UInt8.ofNat n.toNat)) r = ⟨r.data ++ (ns.map fun n => UInt8.ofNat n.toNat).toArray⟩ := by
  intro ns
  induction ns with
  | nil => intro r; simp
  | cons n ns ih => intro r; rw [List.foldl_cons, ih]; simp [ByteArray.push]
 rw [this]
 simp [vv]
def convA (P : Program) (src dst : TypeId) (x : AV) : VR :=
 match ti P src, ti P dst, x with
 | some _, some { tk := .int k, .. }, .dat (.int _ n) => (True, .dat (.int k (k.wrap n)))
 | some _, some { tk := .str, .. }, .dat (.str s) => (True, .dat (.str s))
 | some { tk := .slice e, .. }, some { tk := .str, .. }, .dat (.sl l) => match ti P e, zck l with
  | some { tk := .int .u8, size := 1, .. }, some ns => (True, .dat (.str (vv ns)))
  | _, _ => .bad
 | _, _, _ => .bad
theorem z99 {P : Program} {β : zg} {S : Nat → Nat → Prop} {w : World} {s d : TypeId} {x : AV} {u : Value} (hx : RepA β S w x u) (h : (convA P s d x).1) :
  ∃ r, (convert s d u).run P w = .ok r w ∧ RepA β S w (convA P s d x).2 r := by
 unfold convA at h ⊢
 split at h <;> try (simp [VR.bad] at h; done)
 ·rename_i i1 sz by_ z k k' n hs hd
  obtain ⟨_, u1, _, hu1, _⟩ := ti_info hs
  obtain ⟨_, u2, _, hu2, _, _, _, hk⟩ := ti_info hd
  have := zci hk.symm
  subst this
  simp only [RepA, RepX] at hx ⊢
  subst hx
  exact ⟨_, by simp [convert, run_underlying hu1, run_underlying hu2, Conv.intToInt], rfl⟩
 ·rename_i i1 sz by_ z s' hs hd
  obtain ⟨_, u1, _, hu1, _⟩ := ti_info hs
  obtain ⟨_, u2, _, hu2, _, _, _, hk⟩ := ti_info hd
  have := z8c hk.symm
  subst this
  simp only [RepA, RepX] at hx ⊢
  subst hx
  exact ⟨_, by simp [convert, run_underlying hu1, run_underlying hu2], rfl⟩
 ·rename_i sz1 by1 z1 e sz by_ z l hs hd
  split at h <;> try (simp [VR.bad] at h; done)
  rename_i by2 z2 ns he hns
  obtain ⟨_, u1, _, hu1, _, _, _, hk1⟩ := ti_info hs
  obtain ⟨_, u2, _, hu2, _, _, _, hk2⟩ := ti_info hd
  obtain ⟨_, u3, _, hu3, _, _, _, hk3⟩ := ti_info he
  have := wt hk1.symm
  subst this
  have := z8c hk2.symm
  subst this
  have := zci hk3.symm
  subst this
  simp only [RepA, RepX] at hx
  obtain ⟨es, a, cap, rfl, _, hr⟩ := hx
  have hl := zjx hns
  subst hl
  refine ⟨.string (vv ns), ?_, by simp only [he, z3l, RepA, RepX]⟩
  rw [run_convert_bytes_string w _ _ _ _ _ _ hu1 hu3 hu2]
  cases ns with
  | nil =>
   cases a with
   | none => simp [Conv.bytesToString]; rfl
   | some a =>
    rw [run_bytesToString w a _ _ [] (by simp [loadCells, loadCellsFrom]), z93]
  | cons n ns =>
   obtain ⟨b, o, rfl, hcl, _⟩ := v7 hr (i := 0) (d := .int .u8 n) (by simp)
   rw [run_bytesToString w _ _ _ (n :: ns) ?_, z93]
   rw [List.length_map]
   refine (kb (b := b) (o := o) (vs := (n :: ns).map (Value.int .u8)) (fun i v hv => ?_) _ (by simp)).trans rfl
   rw [List.getElem?_map] at hv
   cases hi : (n :: ns)[i]? with
   | none => simp [hi] at hv
   | some m =>
    simp only [hi, Option.map_some, Option.some.injEq] at hv
    subst hv
    obtain ⟨b', o', ha, hc1, hrc⟩ := v7 hr (i := i) (d := .int .u8 m) (by rw [List.getElem?_map, hi]; rfl)
    simp only [Option.some.injEq, Addr.mk.injEq, and_true] at ha
    obtain ⟨rfl, rfl⟩ := ha
    obtain ⟨_, v, hv1, hv2⟩ := z0q hrc (i := 0) (d := .int .u8 m) (by simp)
    simp only [Rep1] at hv2
    subst hv2
    simp only [Dat.cells_int, List.length_cons, List.length_nil] at hc1
    subst hc1
    simpa using hv1
theorem z6p (tm : Array Value) (d n : Nat) (v : Value) : (tm.setIfInBounds d v).getD n undef = if n = d ∧ d < tm.size then v else tm.getD n undef := by
 simp only [Array.getD_eq_getD_getElem?, Array.getElem?_setIfInBounds]
 split
 ·rename_i h
  subst h
  split
  ·simp [*]
  ·rename_i h2
   simp [h2]
 ·rename_i h
  have : ¬ n = d := fun e => h e.symm
  simp [this]
theorem SimB.put {F : FC} {β : zg} {S : Nat → Nat → Prop} {st : ASt} {tm : Array Value} {w : World} (hs : SimB F β S st tm w) {d : Nat} {x : AV} {v : Value} (hd : d < F.N) (hx : RepA β S w x v) :
  SimB F β S (st.put (some d) x) (tm.setIfInBounds d v) w where
 ext := hs.ext
 glob := hs.glob
 sub := hs.sub
 lt := hs.lt
 sep := hs.sep
 inj := hs.inj
 obj := hs.obj
 env n := by
  simp only [ASt.put, z6p, zq]
  have := hs.size.1
  by_cases hn : n = d
  ·subst hn
   rw [if_pos rfl, if_pos ⟨rfl, by omega⟩]
   exact hx
  ·rw [if_neg hn, if_neg (fun h => hn h.1)]
   exact hs.env n
 size := ⟨by simpa using hs.size.1, hs.size.2⟩
theorem vo (id : Nat) (x : AV) : (x.kill id).cells = x.cells.map (AV.kill id) := by
 cases x with
 | dat d => cases d <;> simp [AV.kill, AV.cells]
 | osl i es off len => by_cases h : i = id <;> simp [AV.kill, AV.cells, h]
 | ptr i es k off => by_cases h : i = id <;> simp [AV.kill, AV.cells, h]
 | mp i => by_cases h : i = id <;> simp [AV.kill, AV.cells, h]
 | isl i es k off len cap => by_cases h : i = id <;> simp [AV.kill, AV.cells, h]
 | agg l => simp [AV.kill, AV.cells, yw]
 | _ => simp [AV.kill, AV.cells]
theorem MemC.moved {β β' : zg} {S : Nat → Nat → Prop} {w : World} {id : Nat} (hb : ∀ i, i ≠ id → β' i = β i) {l : List AV} {b o : Nat} (h : MemC β S w l b o) : MemC β' S w (l.map (AV.kill id)) b o := fun i c hc => by
 rw [List.getElem?_map] at hc
 cases hd : l[i]? with
 | none => simp [hd] at hc
 | some d =>
  simp only [hd, Option.map_some, Option.some.injEq] at hc
  subst hc
  obtain ⟨v, hv, h1, hr⟩ := h i d hd
  exact ⟨v, hv, h1, hr.moved hb⟩
theorem MemC.mono {β : zg} {S S' : Nat → Nat → Prop} {w w' : World} (hk : Keeps S S' w w') (hs : Shapes w w') {l : List AV} {b o : Nat} (hb : w'.heap[b]? = w.heap[b]?) (h : MemC β S w l b o) : MemC β S' w' l b o := fun i c hc => by
 obtain ⟨v, hv, h1, hr⟩ := h i c hc
 exact ⟨v, (xe hb).trans hv, h1, hr.mono hk hs⟩
theorem SimB.kill {F : FC} {β : zg} {S : Nat → Nat → Prop} {st : ASt} {tm : Array Value} {w : World} (hs : SimB F β S st tm w) (id : Nat) : SimB F β S (st.kill id) tm w where
 ext := hs.ext
 glob := hs.glob
 sub := hs.sub
 lt := hs.lt
 sep i o b s k ho hb := by
  simp only [ASt.kill] at ho
  split at ho
  ·simp at ho
  ·cases h : st.objs i with
   | none => simp [h] at ho
   | some o' => exact hs.sep i o' b s k h hb
 inj i i' o o' b s s' ho ho' hb hb' := by
  simp only [ASt.kill] at ho ho'
  split at ho
  ·simp at ho
  ·split at ho'
   ·simp at ho'
   ·cases h : st.objs i with
    | none => simp [h] at ho
    | some p => cases h' : st.objs i' with
     | none => simp [h'] at ho'
     | some p' => exact hs.inj i i' p p' b s s' h h' hb hb'
 obj i o ho := by
  simp only [ASt.kill] at ho
  split at ho
  ·simp at ho
  ·cases h : st.objs i with
   | none => simp [h] at ho
   | some p =>
    simp only [h, Option.map_some, Option.some.injEq] at ho
    subst ho
    rcases hs.obj i p h with ⟨hn, he⟩ | ⟨b, s, arr, e, hb, hw, hh, hz, hel⟩ | hm
    ·exact .inl ⟨hn, by simp [he]⟩
    ·refine .inr (.inl ⟨b, s, arr, e, hb, hw, hh, by simpa using hz, fun k x hx => ?_⟩)
     rw [List.getElem?_map] at hx
     cases hy : p.elems[k]? with
     | none => simp [hy] at hx
     | some y =>
      simp only [hy, Option.map_some, Option.some.injEq] at hx
      subst hx
      obtain ⟨hc, hm⟩ := hel k y hy
      rw [vo]
      exact ⟨by simpa using hc, hm.moved (fun _ _ => rfl)⟩
    ·exact .inr (.inr (hm.kill id))
 env n := (hs.env n).moved (fun _ _ => rfl)
 size := hs.size
theorem SimB.world {F : FC} {β : zg} {S S' : Nat → Nat → Prop} {st : ASt} {tm : Array Value} {w w' : World} (hs : SimB F β S st tm w) {M : Nat → Prop} (hext : Ext M w w')
  (hM : ∀ k, k < F.w0.heap.size → M k → F.M0 k) (hk : Keeps S S' w w') (hsub : ∀ b i, S' b i → F.S0 b i ∨ F.w0.heap.size ≤ b ∨ F.frb b) (hlt : ∀ b i, S' b i → b < w'.heap.size)
  (hsep : ∀ id o b s i, st.objs id = some o → β id = some (b, s) → ¬ S' b i) (hobj : ∀ id o b s, st.objs id = some o → β id = some (b, s) → w'.heap[b]? = w.heap[b]?) : SimB F β S' st tm w' where
 ext := hs.ext.trans hext hM
 glob := hs.glob
 sub := hsub
 lt := hlt
 sep := hsep
 inj := hs.inj
 obj id o ho := by
  rcases hs.obj id o ho with h | ⟨b, s, arr, e, hb, hw, hh, hz, hel⟩ | hm
  ·exact .inl h
  ·have hbb := hobj id o b s ho hb
   exact .inr (.inl ⟨b, s, arr, e, hb, hw, hbb.trans hh, hz, fun k x hx => ⟨(hel k x hx).1, (hel k x hx).2.mono hk hext.shape hbb⟩⟩)
  ·exact .inr (.inr (hm.mono rfl hk fun b hb => hobj id o b 0 ho hb))
 env n := (hs.env n).mono hk hext.shape
 size := hs.size
theorem SimB.block_lt {F : FC} {β : zg} {S : Nat → Nat → Prop} {st : ASt} {tm : Array Value} {w : World} (hs : SimB F β S st tm w) {id : Nat} {o : AObj} {b s : Nat} (ho : st.objs id = some o) (hb : β id = some (b, s)) : b < w.heap.size := by
 rcases hs.obj id o ho with ⟨hn, _⟩ | ⟨b', s', arr, e, hb', _, hh, _⟩ | hm
 ·rw [hn] at hb; cases hb
 ·rw [hb'] at hb
  simp only [Option.some.injEq, Prod.mk.injEq] at hb
  obtain ⟨rfl, rfl⟩ := hb
  exact (Array.getElem?_eq_some_iff.1 hh).1
 ·exact (hm.place hb).2
theorem ya {S S' : Nat → Nat → Prop} {w : World} (o : Obj) (h : ∀ b i, S b i → S' b i) (hlt : ∀ b i, S b i → b < w.heap.size) : Keeps S S' w (w.alloc o) := fun b i hs =>
 ⟨h b i hs, xe (RowKit.Below.heap_alloc w o b (hlt b i hs))⟩
theorem SimB.newDat {F : FC} {β : zg} {S : Nat → Nat → Prop} {st : ASt} {tm : Array Value} {w : World} (hs : SimB F β S st tm w) (o : Obj) :
  SimB F β (fun b i => S b i ∨ b = w.heap.size) st tm (w.alloc o) :=
 hs.world (Ext.alloc (fun _ => False) w o) (fun _ _ h => h.elim) (ya o (fun _ _ h => .inl h) hs.lt)
  (fun b i h => h.elim (hs.sub b i) (fun e => .inr (.inl (by rw [e]; exact hs.ext.size))))
  (fun b i h => by simp only [World.size_alloc]; exact h.elim (fun h => Nat.lt_succ_of_lt (hs.lt b i h)) (fun e => by omega))
  (fun id ob b s i ho hb h => h.elim (hs.sep id ob b s i ho hb) (fun e => by have := hs.block_lt ho hb; omega))
  (fun id ob b s ho hb => RowKit.Below.heap_alloc w o b (hs.block_lt ho hb))
theorem SimB.newObj {F : FC} {β : zg} {S : Nat → Nat → Prop} {st : ASt} {tm : Array Value} {w : World} (hs : SimB F β S st tm w) (d : Nat) (hdN : d < F.N) (arr : Array Value) (e : TypeId) (es : Nat) (elems : List AV)
  (hz : elems.length * es ≤ arr.size)
  (hel : ∀ (k : Nat) (x : AV), elems[k]? = some x → x.cells.length = es ∧ ∀ (j : Nat) (c : AV), x.cells[j]? = some c → ∃ v, arr[k * es + j]? = some v ∧ v.oneCell' = true ∧ RepA β S w c v) :
  SimB F (upd β d (some (w.heap.size, 0))) S ((st.kill d).obj d ⟨es, elems.map (AV.kill d)⟩) tm (w.alloc (.cells arr e)) := by
 have hk := hs.kill d
 have hmv : ∀ i, i ≠ d → (upd β d (some (w.heap.size, 0))) i = β i := fun i hi => qo β _ hi
 have hkeep : Keeps S S w (w.alloc (.cells arr e)) := ya _ (fun _ _ h => h) hs.lt
 have hext : Ext (fun _ => False) w (w.alloc (.cells arr e)) := Ext.alloc _ w _
 have hother : ∀ i o b s, ((st.kill d).obj d ⟨es, elems.map (AV.kill d)⟩).objs i = some o → i ≠ d → (upd β d (some (w.heap.size, 0))) i = some (b, s) → (st.kill d).objs i = some o ∧ β i = some (b, s) := fun i o b s ho hi hb => by
  simp only [ASt.obj, qo _ _ hi] at ho
  rw [hmv i hi] at hb
  exact ⟨ho, hb⟩
 refine ⟨hs.ext.trans hext (fun _ _ h => h.elim), hs.glob, hs.sub, fun b i h => by simp only [World.size_alloc]; exact Nat.lt_succ_of_lt (hs.lt b i h), ?_, ?_, ?_, ?_, ⟨hs.size.1, fun i hi => (hmv i (by omega)).trans (hs.size.2 i hi)⟩⟩
 ·intro i o b s k ho hb hS
  by_cases hi : i = d
  ·subst hi
   simp only [upd_same, Option.some.injEq, Prod.mk.injEq] at hb
   have := hs.lt b k hS
   omega
  ·obtain ⟨h1, h2⟩ := hother i o b s ho hi hb
   exact hk.sep i o b s k h1 h2 hS
 ·intro i i' o o' b s s' ho ho' hb hb'
  by_cases hi : i = d
  ·by_cases hi' : i' = d
   ·omega
   ·exfalso
    obtain ⟨h1, h2⟩ := hother i' o' b s' ho' hi' hb'
    subst hi
    simp only [upd_same, Option.some.injEq, Prod.mk.injEq] at hb
    have := hk.block_lt h1 h2
    omega
  ·by_cases hi' : i' = d
   ·exfalso
    obtain ⟨h1, h2⟩ := hother i o b s ho hi hb
    subst hi'
    simp only [upd_same, Option.some.injEq, Prod.mk.injEq] at hb'
    have := hk.block_lt h1 h2
    omega
   ·obtain ⟨h1, h2⟩ := hother i o b s ho hi hb
    obtain ⟨h1', h2'⟩ := hother i' o' b s' ho' hi' hb'
    exact hk.inj i i' o o' b s s' h1 h1' h2 h2'
 ·intro i o ho
  by_cases hi : i = d
  ·subst hi
   simp only [ASt.obj, upd_same, Option.some.injEq] at ho
   subst ho
   refine .inr (.inl ⟨w.heap.size, 0, arr, e, upd_same _ _ _, .inl hs.ext.size, heap_alloc_new w _, by simpa using hz, fun k x hx => ?_⟩)
   rw [List.getElem?_map] at hx
   cases hy : elems[k]? with
   | none => simp [hy] at hx
   | some y =>
    simp only [hy, Option.map_some, Option.some.injEq] at hx
    subst hx
    obtain ⟨hc, hm⟩ := hel k y hy
    rw [vo]
    refine ⟨by simpa using hc, fun j c hj => ?_⟩
    rw [List.getElem?_map] at hj
    cases hcj : y.cells[j]? with
    | none => simp [hcj] at hj
    | some c' =>
     simp only [hcj, Option.map_some, Option.some.injEq] at hj
     subst hj
     obtain ⟨v, hv, h1, hr⟩ := hm j c' hcj
     exact ⟨v, by simpa [Nat.zero_add] using hv, h1, (hr.moved hmv).mono hkeep hext.shape⟩
  ·simp only [ASt.obj, qo _ _ hi] at ho
   rcases hk.obj i o ho with ⟨hn, he⟩ | ⟨b, s, arr', e', hb, hw, hh, hz', hel'⟩ | hm
   rotate_left 2
   ·exact .inr (.inr (hm.mono (hmv i hi) hkeep fun b hb => RowKit.Below.heap_alloc w _ b (hk.block_lt ho hb)))
   ·exact .inl ⟨(hmv i hi).trans hn, he⟩
   ·have hlt := hk.block_lt ho hb
    refine .inr (.inl ⟨b, s, arr', e', (hmv i hi).trans hb, hw, (RowKit.Below.heap_alloc w _ b hlt).trans hh, hz', fun k x hx => ⟨(hel' k x hx).1, ?_⟩⟩)
    -- the elements have been struck already: once more changes nothing of what they are
    have hm := (hel' k x hx).2
    intro j c hj
    obtain ⟨v, hv, h1, hr⟩ := hm j c hj
    refine ⟨v, (xe (RowKit.Below.heap_alloc w _ b hlt)).trans hv, h1, ?_⟩
    have hkk : c.kill d = c := by
     simp only [ASt.kill, if_neg hi] at ho
     cases hp : st.objs i with
     | none => simp [hp] at ho
     | some p =>
      simp only [hp, Option.map_some, Option.some.injEq] at ho
      subst ho
      rw [List.getElem?_map] at hx
      cases hy : p.elems[k]? with
      | none => simp [hy] at hx
      | some y =>
       simp only [hy, Option.map_some, Option.some.injEq] at hx
       subst hx
       rw [vo, List.getElem?_map] at hj
       cases hcj : y.cells[j]? with
       | none => simp [hcj] at hj
       | some c' =>
        simp only [hcj, Option.map_some, Option.some.injEq] at hj
        subst hj
        exact jd d c'
    rw [← hkk]
    exact (hr.moved hmv).mono hkeep hext.shape
 ·intro n
  have := hk.env n
  have hkk : (((st.kill d).obj d ⟨es, elems.map (AV.kill d)⟩).env n) = (st.env n).kill d := rfl
  rw [hkk]
  exact ((hs.env n).moved hmv).mono hkeep hext.shape
def nilA : AV → VR
 | .ptr id es k off => (True, .ptr id es k off)
 | .rp d off => (True, .rp d off)
 | .dat (.ref d) => (True, .dat (.ref d))
 | _ => .bad
theorem zq7 {β : zg} {S : Nat → Nat → Prop} {w : World} {x : AV} {u : Value} (hx : RepA β S w x u) (h : (nilA x).1) : (∃ a, u = .pointer (some a)) ∧ (nilA x).2 = x := by
 unfold nilA at h ⊢
 split at h
 ·simp only [RepA] at hx
  refine ⟨?_, rfl⟩
  first | (obtain ⟨b, s, _, rfl, _⟩ := hx; exact ⟨_, rfl⟩) | (obtain ⟨b, s, _, rfl⟩ := hx; exact ⟨_, rfl⟩)
 ·simp only [RepA] at hx
  refine ⟨?_, rfl⟩
  first | (obtain ⟨b, s, rfl, _⟩ := hx; exact ⟨_, rfl⟩) | (obtain ⟨b, s, rfl⟩ := hx; exact ⟨_, rfl⟩)
 ·simp only [RepA, RepX] at hx
  obtain ⟨b, s, rfl, _⟩ := hx
  exact ⟨⟨_, rfl⟩, rfl⟩
 ·simp [VR.bad] at h
def arrA (P : Program) (t : TypeId) (x : AV) : VR :=
 match ti P t, x with
 | some { tk := .array n _, .. }, .isl id es k off len _ => (n ≤ len, .ptr id es k off)
 | _, _ => .bad
theorem zn9 {P : Program} {β : zg} {S : Nat → Nat → Prop} {w : World} {t : TypeId} {x : AV} {u : Value} (hx : RepA β S w x u) (h : (arrA P t x).1) :
  ∃ r, (Instr.arrayAt t u).run P w = .ok r w ∧ RepA β S w (arrA P t x).2 r := by
 unfold arrA at h ⊢
 split at h
 ·rename_i sz by_ z n e id es k off len cap hti
  obtain ⟨_, u', _, hu, _, _, _, hk⟩ := ti_info hti
  have hu' := Zy hk.symm
  subst hu'
  simp only [RepA] at hx ⊢
  obtain ⟨hl, b, s, hb, rfl, hcl⟩ := hx
  have hn : ¬ len < n := Nat.not_lt.2 h
  exact ⟨_, by simp [Instr.arrayAt, run_underlying hu, hn], b, s, hb, rfl, hcl⟩
 ·simp [VR.bad] at h
def opV (F : FC) (objs : Nat → Option AObj) (ρ : Operand → AV) (op : Op) : VR :=
 match op with
 | .move x => (True, ρ x)
 | .assign x => (True, ρ x)
 | .binOp b t x y _ => binA F.P b t (ρ x) (ρ y)
 | .unOp u _ x => unA u (ρ x)
 | .convert s d x => convA F.P s d (ρ x)
 | .fieldAddr s x f => fieldAddrA F.P s (ρ x) f
 | .field s x f => fieldA F.P s (ρ x) f
 | .indexAddr t x i => indexAddrA F.P t (ρ x) (ρ i)
 | .index t x i => indexA F.P t (ρ x) (ρ i)
 | .extract x i => extractA (ρ x) i
 | .build t parts => buildA F.P t (parts.toList.map fun p => (p.1, ρ p.2))
 | .slice t x lo hi mx => sliceA F.P t (ρ x) (lo.map ρ) (hi.map ρ) (mx.map ρ)
 | .load t x => loadA F.P F.G objs t (ρ x)
 | .nilCheck x => nilA (ρ x)
 | .sliceToArrayPointer t x => arrA F.P t (ρ x)
 | .makeFunc (.func f) ⟨[]⟩ caps => (True, .fn f (caps.toList.map ρ))
 | .call ⟨.builtin .len, ⟨[x]⟩, ⟨[t]⟩⟩ => lenA F.P t (ρ x)
 | .call ⟨.builtin .min, xs, _⟩ => minA (xs.toList.map ρ)
 | .call ⟨.builtin .max, xs, _⟩ => maxA (xs.toList.map ρ)
 | _ => .bad
theorem k9 {β : zg} {S : Nat → Nat → Prop} {w : World} {ρ : Operand → AV} {a : Act} : ∀ (l : List Operand), (∀ x ∈ l, RepA β S w (ρ x) (a.eval x)) → RepAL β S w (l.map ρ) (l.map a.eval)
 | [], _ => by simp [RepAL]
 | x :: l, h => by simp only [List.map_cons, RepAL]; exact ⟨_, _, rfl, h x (by simp), k9 l fun y hy => h y (by simp [hy])⟩
theorem z7o {β : zg} {S : Nat → Nat → Prop} {w : World} {ρ : Operand → AV} {a : Act} (l : Option Operand) (h : ∀ x ∈ l.toArray.toList, RepA β S w (ρ x) (a.eval x)) : z1y β S w (l.map ρ) (l.map a.eval) := by
 cases l with
 | none => trivial
 | some x => exact h x (by simp)
theorem zjf {F : FC} {β : zg} {S : Nat → Nat → Prop} {st : ASt} {a : Act} {w : World} (hs : SimB F β S st a.tmps w) {ρ : Operand → AV} {o : Oper}
  (hρ : ∀ x ∈ o.op.operands.toList, RepA β S w (ρ x) (a.eval x)) (h : (opV F st.objs ρ o.op).1) :
  ∃ r, (execOp a.eval o).run F.P w = .ok (.value r) w ∧ RepA β S w (opV F st.objs ρ o.op).2 r := by
 have fin : ∀ {m : Sem Value} {r : Value} {x : AV}, m.run F.P w = .ok r w → RepA β S w x r → ∃ q, (do pure (Next.value (← m)) : Sem Next).run F.P w = .ok (.value q) w ∧ RepA β S w x q := fun {m r x} h1 h2 => ⟨r, by simp [h1], h2⟩
 have fin' : ∀ {m : Sem Value} {x : AV}, (∃ r, m.run F.P w = .ok r w ∧ RepA β S w x r) → ∃ q, (do pure (Next.value (← m)) : Sem Next).run F.P w = .ok (.value q) w ∧ RepA β S w x q := fun {m x} ⟨r, h1, h2⟩ => fin h1 h2
 obtain ⟨dst, op, ty, pos, aft, gd⟩ := o
 simp only at hρ h ⊢
 unfold opV at h ⊢
 unfold execOp
 split at h <;> simp only at h ⊢
 ·exact ⟨_, rfl, hρ _ (by simp [Op.operands])⟩
 ·exact ⟨_, rfl, hρ _ (by simp [Op.operands])⟩
 ·rename_i b t x y yt
  exact fin' (zni (op := b) (t := t) x y (hρ x (by simp [Op.operands])) (hρ y (by simp [Op.operands])) h)
 ·exact fin' (zv6 (hρ _ (by simp [Op.operands])) h)
 ·exact fin' (z99 (hρ _ (by simp [Op.operands])) h)
 ·exact fin' (z6l (hρ _ (by simp [Op.operands])) h)
 ·exact fin' (zgo (hρ _ (by simp [Op.operands])) h)
 ·exact fin' (z6u (hρ _ (by simp [Op.operands])) (hρ _ (by simp [Op.operands])) h)
 ·exact fin' (zgw (hρ _ (by simp [Op.operands])) (hρ _ (by simp [Op.operands])) h)
 ·exact fin' (zbm (hρ _ (by simp [Op.operands])) h)
 ·rename_i t parts
  refine fin' (zfz (vparts := parts.map fun (i, x) => (i, a.eval x)) ?_ ?_ h)
  ·simp [Function.comp_def]
  ·intro j x y hx hy
   simp only [Array.toList_map, List.getElem?_map] at hx hy
   cases hp : parts.toList[j]? with
   | none => simp [hp] at hx
   | some p =>
    simp only [hp, Option.map_some, Option.some.injEq] at hx hy
    subst hx; subst hy
    exact hρ p.2 (by simp only [Op.operands]; exact List.mem_map.2 ⟨p, List.mem_of_getElem? hp, rfl⟩)
 ·rename_i t x lo hi mx
  exact fin' (zi0 (hρ x (by simp [Op.operands])) (z7o lo fun y hy => hρ y (by simp only [Op.operands]; simp; simp at hy; simp [hy])) (z7o hi fun y hy => hρ y (by simp only [Op.operands]; simp; simp at hy; simp [hy]))
   (z7o mx fun y hy => hρ y (by simp only [Op.operands]; simp; simp at hy; simp [hy])) h)
 ·exact fin' (z9z hs (hρ _ (by simp [Op.operands])) h)
 ·rename_i x
  have hx := hρ x (by simp [Op.operands])
  obtain ⟨⟨ad, he⟩, h2⟩ := zq7 hx h
  exact ⟨_, by simp only [he]; rfl, by rw [h2, ← he]; exact hx⟩
 ·exact fin' (zn9 (hρ _ (by simp [Op.operands])) h)
 ·rename_i f caps
  refine fin' ⟨_, rfl, ?_⟩
  simp only [RepA]
  exact ⟨caps.map a.eval, by simp, by simpa using k9 caps.toList fun x hx => hρ x (by simp only [Op.operands]; simpa using hx)⟩
 ·rename_i x t
  simpa [resolve, invoke, builtin] using fin' (zph (ty := ty) (hρ x (by simp [Op.operands, Call.operands])) h)
 ·rename_i xs ts
  have := zpy (P := F.P) (ts := ts) (ty := ty) (vs := xs.map a.eval) (by simpa using k9 xs.toList fun x hx => hρ x (by simpa [Op.operands, Call.operands] using hx)) h
  simpa [resolve, invoke, builtin] using fin' this
 ·rename_i xs ts
  have := zpx (P := F.P) (ts := ts) (ty := ty) (vs := xs.map a.eval) (by simpa using k9 xs.toList fun x hx => hρ x (by simpa [Op.operands, Call.operands] using hx)) h
  simpa [resolve, invoke, builtin] using fin' this
 ·simp [VR.bad] at h
theorem SimB.drew {F : FC} {β : zg} {S : Nat → Nat → Prop} {st : ASt} {tm : Array Value} {w : World} (hs : SimB F β S st tm w) : SimB F β S st tm w.drew :=
 hs.world (Ext.drew (fun _ => False) w) (fun _ _ h => h.elim) (fun _ _ h => ⟨h, rfl⟩) hs.sub hs.lt hs.sep (fun _ _ _ _ _ _ => rfl)
def AV.unit : AV → Bool
 | .dat d => !d.isAgg
 | .osl _ _ _ _ | .nils | .ptr _ _ _ _ | .gl _ _ | .rp _ _ | .fn _ _ | .raw _ | .mp _ | .isl _ _ _ _ _ _ => true
 | _ => false
def AV.storable : AV → Bool
 | .dat _ => true
 | x => x.cells.all AV.unit
theorem zfm {β : zg} {S : Nat → Nat → Prop} {w : World} {x : AV} {v : Value} (hu : x.unit = true) (h : RepA β S w x v) : v.oneCell' = true := by
 cases x <;> simp [AV.unit] at hu
 ·simp only [RepA] at h; exact Zu (xf hu h)
 ·simp only [RepA] at h
  rcases h with ⟨_, _, a, rfl⟩ | ⟨b, s, cap, arr, e, a, _, rfl, _⟩ <;> rfl
 ·simp only [RepA] at h; obtain ⟨a, rfl⟩ := h; rfl
 ·simp only [RepA] at h; obtain ⟨b, s, _, rfl, _⟩ := h; rfl
 ·simp only [RepA] at h; subst h; rfl
 ·simp only [RepA] at h; obtain ⟨b, o, rfl, _⟩ := h; rfl
 ·simp only [RepA] at h; obtain ⟨vs, rfl, _⟩ := h; rfl
 ·simp only [RepA] at h; exact h.2
 ·simp only [RepA] at h; obtain ⟨b, _, rfl⟩ := h; rfl
 ·simp only [RepA] at h; obtain ⟨_, b, s, _, rfl, _⟩ := h; rfl
theorem zqt {S : Nat → Nat → Prop} {w : World} {l : List Dat} {vs : List Value} (h : RepL S w l vs) : ∀ v ∈ vs, v.oneCell' = true := fun v hv => by
 obtain ⟨i, hi⟩ := List.getElem?_of_mem hv
 have hl := z0r h
 have hlt : i < l.length := by
  have := (List.getElem?_eq_some_iff.1 hi).1
  omega
 obtain ⟨v', hv', hr⟩ := z3d h (List.getElem?_eq_getElem hlt)
 rw [hi] at hv'
 simp only [Option.some.injEq] at hv'
 exact hv' ▸ Zu hr
theorem jr {β : zg} {S : Nat → Nat → Prop} {w : World} {x : AV} {v : Value} (hx : x.storable = true) (h : RepA β S w x v) : RepAL β S w x.cells v.cells.toList ∧ ∀ u ∈ v.cells.toList, u.oneCell' = true := by
 have hc : RepAL β S w x.cells v.cells.toList := by
  refine z7n h ?_ ?_ ?_ <;> intros <;> intro e <;> subst e <;> simp [AV.storable, AV.cells, AV.unit] at hx
 refine ⟨hc, ?_⟩
 intro u hu
 obtain ⟨i, hi⟩ := List.getElem?_of_mem hu
 have hlt : i < x.cells.length := by
  have := (List.getElem?_eq_some_iff.1 hi).1
  have := zy hc
  omega
 obtain ⟨u', hu', hr⟩ := xu hc (List.getElem?_eq_getElem hlt)
 rw [hi] at hu'
 simp only [Option.some.injEq] at hu'
 subst hu'
 by_cases hd : ∃ d, x = .dat d
 ·obtain ⟨d, rfl⟩ := hd
  simp only [RepA] at h
  by_cases ha : d.isAgg = false
  ·have h1 := Zu (xf ha h)
   have : v.cells = #[v] := by cases v <;> simp_all [Value.cells, Value.oneCell']
   rw [this] at hu
   simp at hu
   exact hu ▸ h1
  ·cases d <;> simp_all [Dat.isAgg]
   simp only [RepX] at h
   obtain ⟨cs, rfl, hl⟩ := h
   exact zqt hl u (by simpa [Value.cells] using hu)
 ·have hall : x.cells.all AV.unit = true := by
   cases x <;> simp_all [AV.storable]
  exact zfm (List.all_eq_true.1 hall _ (List.getElem_mem hlt)) hr
def FC.fence (F : FC) : Fence := { Fence.wide with round := F.rnd }
theorem z4b {P : Program} {ρ : Operand → Value} {o : Oper} {w w' : World} {r : Next} (h : (execOp ρ o).run P w = .ok r w') (hr : ∀ d, r ≠ .defer d) : ∀ c, o.op ≠ .defer c := by
 intro c hc
 unfold execOp at h
 rw [hc] at h
 simp only [Sem.run_bind] at h
 cases hq : (resolve ρ c o.type).run P w with
 | ok d w1 => rw [hq] at h; simp [Result.andThen] at h; exact hr d h.1.symm
 | halt x w1 => rw [hq] at h; simp [Result.andThen] at h
theorem za9 {F : FC} {o : Oper} {a : Act} {w w' : World} {v : Value} {K : Act → World → Prop} {Q : Exit → Act → World → Prop} (h : (execOp a.eval o).run F.P w = .ok (.value v) w') (k : K (a.put o.dst v) w') : o.wpIn F.fence 0 F.P a w K Q := by
 refine ⟨fun _ _ => trivial, ?_⟩
 rw [Oper.semAt_eq _ _ _ (z4b h (by simp)), h, Oper.uponIn_value]
 exact k
theorem zqm {F : FC} {o : Oper} {a : Act} {w w' : World} {K : Act → World → Prop} {Q : Exit → Act → World → Prop} (h : (execOp a.eval o).run F.P w = .ok .skip w') (k : K (a.put o.dst undef) w') : o.wpIn F.fence 0 F.P a w K Q := by
 refine ⟨fun _ _ => trivial, ?_⟩
 rw [Oper.semAt_eq _ _ _ (z4b h (by simp)), h, Oper.uponIn_skip]
 exact k
theorem zd3 {F : FC} {P : Program} {f : FuncId} {args : Array Value} {w : World} {R : Ending → World → Prop} (h : Calls P f args w R) : CallsIn F.fence 0 P f args w R := callsIn_wide.2 h
theorem z4i {F : FC} {o : Oper} {a : Act} {w w' : World} {f : FuncId} {args : Array Value} {K : Act → World → Prop} {Q : Exit → Act → World → Prop} (h : (execOp a.eval o).run F.P w = .ok (.enter f args) w')
  (k : Calls F.P f args w' fun
    | .returned v, w'' => K (a.put o.dst v) w''
    | .panicked chain, w'' => Q (.panic chain) a w''
    | .outgrown, _ => LetsOut Q) : o.wpIn F.fence 0 F.P a w K Q := by
 refine ⟨fun _ _ => trivial, ?_⟩
 rw [Oper.semAt_eq _ _ _ (z4b h (by simp)), h, Oper.uponIn_enter]
 exact ⟨fun hf => by simp [FC.fence, Fence.wide] at hf, zd3 k⟩
def StepOK (F : FC) (o : Oper) (st st' : ASt) : Prop :=
 ∀ (a : Act) (w : World), Sim F st a w → ∀ (K : Act → World → Prop) (Q : Exit → Act → World → Prop), (∀ a' w', Sim F st' a' w' → K a' w') → o.wpIn F.fence 0 F.P a w K Q
def dstOK (F : FC) : Option Nat → Prop
 | some d => d < F.N
 | none => True
theorem StepOK.of_value {F : FC} {o : Oper} {st st1 st' : ASt} {x : AV} (hd : dstOK F o.dst) (he : st' = st1.put o.dst x)
  (h : ∀ (β : zg) (S : Nat → Nat → Prop) (a : Act) (w : World), SimB F β S st a.tmps w → ∃ r w' β' S', (execOp a.eval o).run F.P w = .ok (.value r) w' ∧ RepA β' S' w' x r ∧ SimB F β' S' st1 a.tmps w') : StepOK F o st st' := by
 intro a w hsim K Q hK
 obtain ⟨hdf, β, S, hs⟩ := hsim
 obtain ⟨r, w', β', S', hrun, hrep, hs'⟩ := h β S a w hs
 refine za9 hrun ?_
 refine hK _ _ ?_
 subst he
 cases ho : o.dst with
 | none => exact ⟨hdf, β', S', by simpa [Act.put, ASt.put] using hs'⟩
 | some d =>
  rw [ho] at hd
  exact ⟨hdf, β', S', by simpa [Act.put] using hs'.put hd hrep⟩
theorem StepOK.of_skip {F : FC} {o : Oper} {st st' : ASt} (hd : o.dst = none)
  (h : ∀ (β : zg) (S : Nat → Nat → Prop) (a : Act) (w : World), SimB F β S st a.tmps w → ∃ w' β' S', (execOp a.eval o).run F.P w = .ok .skip w' ∧ SimB F β' S' st' a.tmps w') : StepOK F o st st' := by
 intro a w hsim K Q hK
 obtain ⟨hdf, β, S, hs⟩ := hsim
 obtain ⟨w', β', S', hrun, hs'⟩ := h β S a w hs
 refine zqm hrun ?_
 rw [hd]
 exact hK _ _ ⟨hdf, β', S', hs'⟩
def zeroA (i : TI) : Option AV :=
 match i.zero with
 | some z => if i.tk.isAgg then some (mkAgg z) else match z with
  | [x] => some x
  | _ => none
 | none => none
theorem Q9 {P : Program} {β : zg} {S : Nat → Nat → Prop} {w : World} {t : TypeId} {i : TI} {x : AV} (ht : ti P t = some i) (hz : zeroA i = some x) (hx : x.storable = true) :
  ∃ v, (zeroValue t).run P w = .ok v w ∧ RepAL β S w x.cells v.cells.toList ∧ ∀ u ∈ v.cells.toList, u.oneCell' = true := by
 unfold zeroA at hz
 split at hz <;> try (simp at hz; done)
 rename_i z hzz
 obtain ⟨v, hv, rfl⟩ := kh (w := w) ht hzz
 split at hz
 ·simp only [Option.some.injEq] at hz
  subst hz
  have hr : RepA β S w (mkAgg (v.cells.toList.map avOf)) (.agg v.cells) := Zr (Ql _)
  exact ⟨v, hv, by simpa [Value.cells] using jr hx hr⟩
 ·split at hz <;> try (simp at hz; done)
  rename_i y hy
  simp only [Option.some.injEq] at hz
  subst hz
  cases hc : v.cells.toList with
  | nil => simp [hc] at hy
  | cons u us =>
   simp only [hc, List.map_cons, List.cons.injEq, List.map_eq_nil_iff] at hy
   obtain ⟨rfl, rfl⟩ := hy
   have hr : RepA β S w (avOf u) u := z65 u
   have h1 := jr hx hr
   have hu : u.cells = #[u] ∨ ∃ cs, u = .agg cs := by cases u <;> simp [Value.cells]
   rcases hu with hu | ⟨cs, rfl⟩
   ·rw [hu] at h1
    exact ⟨v, hv, by rw [hc]; simpa using h1⟩
   ·exfalso
    simp [avOf, Value.oneCell', AV.storable, AV.cells, AV.unit] at hx
theorem z61 {F : FC} {o : Oper} {st : ASt} {d : Nat} {t : TypeId} {i : TI} {z : AV} (ho : o.op = .alloc t) (hdst : o.dst = some d) (hd : d < F.N) (ht : ti F.P t = some i) (hz : zeroA i = some z) (hs : z.storable = true) (hl : z.cells.length = i.size) :
  StepOK F o st (((st.kill d).obj d ⟨i.size, [z.kill d]⟩).put (some d) (.ptr d i.size 0 0)) := by
 refine StepOK.of_value (by rw [hdst]; exact hd) (by rw [hdst]) fun β S a w hsim => ?_
 obtain ⟨v, hv, hr, h1⟩ := Q9 (β := β) (S := S) (w := w) ht hz hs
 have hn := hsim.newObj d hd v.cells t i.size [z] (by have := zy hr; simp at this ⊢; omega) (fun k x hx => by
  cases k with
  | zero =>
   simp at hx; subst hx
   refine ⟨hl, fun j c hj => ?_⟩
   obtain ⟨u, hu, hru⟩ := xu hr hj
   exact ⟨u, by simpa using hu, h1 u (List.mem_of_getElem? hu), hru⟩
  | succ k => simp at hx)
 refine ⟨.pointer (some ⟨w.heap.size, 0, none⟩), w.alloc (.cells v.cells t), _, _, ?_, ?_, hn⟩
 ·simp [execOp, ho, Instr.alloc, hv, newVar, newRow]
 ·simp only [RepA]
  exact ⟨_, _, upd_same _ _ _, by simp, _, _, heap_alloc_new w _⟩
theorem zw3 {F : FC} {o : Oper} {st : ASt} {d : Nat} {t : TypeId} {y : Operand} (ho : o.op = .box t y) (hdst : o.dst = some d) (hd : d < F.N) (hs : (evA st.env y).storable = true) :
  StepOK F o st (((st.kill d).obj d ⟨(evA st.env y).cells.length, [(evA st.env y).kill d]⟩).put (some d) (.ptr d (evA st.env y).cells.length 0 0)) := by
 refine StepOK.of_value (by rw [hdst]; exact hd) (by rw [hdst]) fun β S a w hsim => ?_
 have hr0 := qj (a := a) hsim.env y
 obtain ⟨hr, h1⟩ := jr hs hr0
 have hn := hsim.newObj d hd (a.eval y).cells t (evA st.env y).cells.length [evA st.env y] (by have := zy hr; simp at this ⊢; omega) (fun k x hx => by
  cases k with
  | zero =>
   simp at hx; subst hx
   refine ⟨rfl, fun j c hj => ?_⟩
   obtain ⟨u, hu, hru⟩ := xu hr hj
   exact ⟨u, by simpa using hu, h1 u (List.mem_of_getElem? hu), hru⟩
  | succ k => simp at hx)
 refine ⟨.pointer (some ⟨w.heap.size, 0, none⟩), w.alloc (.cells (a.eval y).cells t), _, _, ?_, ?_, hn⟩
 ·simp [execOp, ho, Instr.box, newVar, newRow]
 ·simp only [RepA]
  exact ⟨_, _, upd_same _ _ _, by simp, _, _, heap_alloc_new w _⟩
theorem z83 {β : zg} {S : Nat → Nat → Prop} {w : World} {x : AV} {v : Value} (hx : x.storable = true) (h : RepA β S w x v) : ∀ c ∈ x.cells, c.unit = true := by
 by_cases hd : ∃ d, x = .dat d
 ·obtain ⟨d, rfl⟩ := hd
  simp only [RepA] at h
  intro c hc
  rw [xt] at hc
  obtain ⟨c', hc', rfl⟩ := List.mem_map.1 hc
  by_cases ha : d.isAgg = false
  ·have : d.cells = [d] := by cases d <;> simp_all [Dat.isAgg]
   rw [this] at hc'
   simp at hc'
   subst hc'
   simp [AV.unit, ha]
  ·cases d <;> simp_all [Dat.isAgg]
   simp only [RepX] at h
   obtain ⟨cs, rfl, hl⟩ := h
   obtain ⟨i, hi⟩ := List.getElem?_of_mem hc'
   obtain ⟨u, _, hu⟩ := z3d hl hi
   cases c' <;> simp_all [AV.unit, Dat.isAgg, Rep1]
 ·have hall : x.cells.all AV.unit = true := by cases x <;> simp_all [AV.storable]
  exact List.all_eq_true.1 hall
theorem z0e {α : Type} {n : Nat} : ∀ {L : List (List α)}, (∀ l ∈ L, l.length = n) → ∀ {k j : Nat} {l : List α}, L[k]? = some l → j < n → L.flatten[k * n + j]? = l[j]?
 | [], _, k, j, l, h, _ => by simp at h
 | x :: L, hL, k, j, l, h, hj => by
  have hx : x.length = n := hL x (by simp)
  cases k with
  | zero =>
   simp at h; subst h
   simp only [Nat.zero_mul, Nat.zero_add, List.flatten_cons]
   rw [List.getElem?_append_left (by omega)]
  | succ k =>
   simp only [List.flatten_cons]
   rw [List.getElem?_append_right (by rw [Nat.add_mul]; omega), show (k + 1) * n + j - x.length = k * n + j from by rw [Nat.add_mul]; omega]
   exact z0e (fun l hl => hL l (by simp [hl])) (by simpa using h) hj
theorem jh {α : Type} {n : Nat} : ∀ {L : List (List α)}, (∀ l ∈ L, l.length = n) → L.flatten.length = L.length * n
 | [], _ => by simp
 | x :: L, hL => by
  have ih := jh (n := n) (L := L) (fun l hl => hL l (List.mem_cons_of_mem _ hl))
  rw [List.flatten_cons, List.length_append, ih, hL x (by simp), List.length_cons, Nat.add_mul]
  omega
theorem z51 {size : Nat} : ∀ (parts : List (Nat × AV)) (k : Nat) (done cells : List AV), parts.map (·.1) = List.range' k parts.length → (∀ p ∈ parts, p.2.solid = true ∧ p.2.cells.length = size) → done.length = k * size → cells.length = parts.length * size →
  (zo (fun i => some (i * size, size)) (done ++ cells) parts).1 ∧ (zo (fun i => some (i * size, size)) (done ++ cells) parts).2 = done ++ (parts.map (·.2.cells)).flatten
 | [], k, done, cells, _, _, _, hl => by
  have : cells = [] := List.eq_nil_of_length_eq_zero (by simpa using hl)
  simp [zo, this]
 | (i, x) :: parts, k, done, cells, hm, hp, hd, hl => by
  simp only [List.map_cons, List.length_cons, List.range'_succ, List.cons.injEq] at hm
  obtain ⟨rfl, hm⟩ := hm
  obtain ⟨hs, hc⟩ := hp (i, x) (by simp)
  simp only at hs hc
  simp only [List.length_cons, Nat.add_mul, Nat.one_mul] at hl
  have e : (done ++ cells).take (i * size) ++ x.cells ++ (done ++ cells).drop (i * size + x.cells.length) = (done ++ x.cells) ++ cells.drop size := by
   rw [← hd, List.take_left, List.drop_append, hc, List.drop_of_length_le (by omega)]
   simp [show done.length + size - done.length = size from by omega]
  have ih := z51 parts (i + 1) (done ++ x.cells) (cells.drop size) hm (fun p h => hp p (by simp [h])) (by simp [hc, hd, Nat.add_mul]) (by simp; omega)
  simp only [zo, e]
  refine ⟨⟨⟨⟨hs, hc⟩, by simp; omega⟩, ih.1⟩, ?_⟩
  rw [ih.2]
  simp [List.append_assoc]
theorem Qp {P : Program} {β : zg} {S : Nat → Nat → Prop} {w : World} {t e : TypeId} {i j : TI} {z : List AV} (ht : ti P t = some i) (hk : i.tk = .slice e) (hj : ti P e = some j) (hz : j.zero = some z) (hzl : z.length = j.size)
  {len : Nat} {parts : List (Nat × AV)} {vparts : Array (Nat × Value)} (hlen : len = parts.length) (hbig : len * j.size ≤ 16777216) (hidx : parts.map (·.1) = List.range len)
  (hm : parts.map (·.1) = vparts.toList.map (·.1)) (hr : ∀ (k : Nat) (x : Nat × AV) (y : Nat × Value), parts[k]? = some x → vparts.toList[k]? = some y → RepA β S w x.2 y.2)
  (hp : ∀ p ∈ parts, p.2.storable = true ∧ p.2.cells.length = j.size) :
  ∃ out : Array Value, (Instr.buildSlice t len vparts).run P w = .ok (.slice (some ⟨w.heap.size, 0, none⟩) len len) (w.alloc (.cells out e)) ∧ out.size = len * j.size ∧
   ∀ (k : Nat) (x : AV), (parts.map (·.2))[k]? = some x → x.cells.length = j.size ∧ ∀ (m : Nat) (c : AV), x.cells[m]? = some c → ∃ v, out[k * j.size + m]? = some v ∧ v.oneCell' = true ∧ RepA β S w c v := by
 subst hlen
 obtain ⟨_, u, _, hu, _, _, _, hkk⟩ := ti_info ht
 rw [hk] at hkk
 have hu' := wt hkk.symm
 subst hu'
 obtain ⟨zv, hzr, hze⟩ := kh (w := w) hj hz
 have hzs : zv.cells.size = j.size := by have := congrArg List.length hze; simp at this; omega
 let zero : Array Value := (Array.range (parts.length * j.size)).map (fun q => (if parts.length * j.size = 0 then #[] else zv.cells)[q % (if parts.length * j.size = 0 then #[] else zv.cells).size]!)
 have hzl0 : zero.size = parts.length * j.size := by simp [zero]
 have hzrep : RepAL β S w (zero.toList.map avOf) zero.toList := Ql _
 have hsol : ∀ p ∈ parts, p.2.solid = true ∧ p.2.cells.length = j.size := fun p hpp => by
  obtain ⟨h1, h2⟩ := hp p hpp
  refine ⟨?_, h2⟩
  cases hx : p.2 <;> simp [hx, AV.storable, AV.cells, AV.unit, AV.solid] at h1 ⊢
 obtain ⟨hf1, hf2⟩ := z51 (size := j.size) parts 0 [] (zero.toList.map avOf) (by rw [hidx, List.range_eq_range']) hsol (by simp) (by simp [hzl0])
 simp only [List.nil_append] at hf1 hf2
 obtain ⟨out, ho, hout⟩ := z18 (fun q => some (q * j.size, j.size)) parts vparts.toList _ zero.toList hm hr hzrep hf1
 rw [hf2] at hout
 have hunif : ∀ l ∈ parts.map (·.2.cells), l.length = j.size := fun l hl => by
  obtain ⟨p, hpp, rfl⟩ := List.mem_map.1 hl
  exact (hp p hpp).2
 refine ⟨out, ?_, ?_, ?_⟩
 ·have hb : ¬ (parts.length * j.size > 16777216) := by omega
  by_cases h0 : parts.length * j.size = 0
  ·have hzero : zero.toList.toArray = (Array.range (parts.length * j.size)).map (fun q => (#[] : Array Value)[q % (#[] : Array Value).size]!) := by rw [Array.toArray_toList]; simp only [zero, h0, if_true]
   rw [hzero] at ho
   have hb' : ¬ (2 ^ 24 < parts.length * j.size) := by omega
   simp only [h0] at ho hb'
   simp only [Instr.buildSlice, Sem.run_bind, run_underlying hu, Result.andThen_ok, qe hj, gt_iff_lt, h0, hb', if_false, Sem.run_pure, if_true]
   simp only [ho]
   simp [newRow]
  ·have hzero : zero.toList.toArray = (Array.range (parts.length * j.size)).map (fun q => zv.cells[q % zv.cells.size]!) := by apply Array.toList_inj.1; simp [zero, h0]
   rw [hzero] at ho
   have hb' : ¬ (2 ^ 24 < parts.length * j.size) := by omega
   simp only [Instr.buildSlice, Sem.run_bind, run_underlying hu, Result.andThen_ok, qe hj, gt_iff_lt, hb', if_false, Sem.run_pure, h0, hzr]
   simp only [ho]
   simp [newRow]
 ·have := zy hout
  rw [jh hunif] at this
  simpa using this
 ·intro k x hx
  rw [List.getElem?_map] at hx
  cases hpk : parts[k]? with
  | none => simp [hpk] at hx
  | some p =>
   simp only [hpk, Option.map_some, Option.some.injEq] at hx
   subst hx
   obtain ⟨hst, hcl⟩ := hp p (List.mem_of_getElem? hpk)
   refine ⟨hcl, fun m c hc => ?_⟩
   have hmlt : m < j.size := by
    have := (List.getElem?_eq_some_iff.1 hc).1
    omega
   have hfl := z0e hunif (k := k) (j := m) (l := p.2.cells) (by simp [hpk]) hmlt
   rw [hc] at hfl
   obtain ⟨v, hv, hrv⟩ := xu hout hfl
   have hvp : ∃ y, vparts.toList[k]? = some y := by
    have hl := congrArg List.length hm
    simp only [List.length_map] at hl
    have hlt : k < vparts.toList.length := by
     have := (List.getElem?_eq_some_iff.1 hpk).1
     omega
    exact ⟨_, List.getElem?_eq_getElem hlt⟩
   obtain ⟨y, hy⟩ := hvp
   exact ⟨v, by simpa using hv, zfm (z83 hst (hr k p y hpk hy) c (List.mem_of_getElem? hc)) hrv, hrv⟩
def vz : List AV → Option (List Dat)
 | [] => some []
 | .dat d :: l => (vz l).map (d :: ·)
 | _ :: _ => none
@[simp] theorem datE_map (l : List Dat) : vz (l.map .dat) = some l := by induction l <;> simp_all [vz]
theorem z2p : ∀ {l : List AV} {ds : List Dat}, vz l = some ds → l = ds.map .dat
 | [], ds, h => by simp [vz] at h; subst h; rfl
 | x :: l, ds, h => by
  cases x <;> simp only [vz] at h <;> try (simp at h; done)
  cases hl : vz l with
  | none => simp [hl] at h
  | some ds' =>
   simp only [hl, Option.map_some, Option.some.injEq] at h
   subst h
   simp [z2p hl]
theorem z7p {S S' : Nat → Nat → Prop} {w w' : World} {es b : Nat} {β : zg} {ds : List Dat} {arr : Array Value} {e : TypeId} {fr : Nat × Nat} (hk : Keeps S S' w w') (hsh : Shapes w w') (hb : w'.heap[b]? = some (.cells arr e fr)) (hS : ∀ i, S' b i) (s : Nat)
  (h : ∀ (k : Nat) (x : AV), (ds.map AV.dat)[k]? = some x → x.cells.length = es ∧ ∀ (m : Nat) (c : AV), x.cells[m]? = some c → ∃ v, arr[s + k * es + m]? = some v ∧ v.oneCell' = true ∧ RepA β S w c v) :
  RepS S' w' es ds (some ⟨b, s, none⟩) := by
 refine Q4 fun k d hd => ?_
 obtain ⟨hc, hm⟩ := h k (.dat d) (by simp [hd])
 rw [xt, List.length_map] at hc
 refine ⟨hc, Q3 fun m c hcm => ?_⟩
 obtain ⟨v, hv, h1, hr⟩ := hm m (.dat c) (by rw [xt]; simp [hcm])
 refine ⟨hS _, v, by rw [cell_of_row w' b _ arr e fr hb]; exact hv, ?_⟩
 simp only [RepA] at hr
 refine Rep1.mono hk c v (xf ?_ hr)
 cases c <;> simp [Dat.isAgg]
 simp only [RepX] at hr
 obtain ⟨cs, rfl, _⟩ := hr
 simp [Value.oneCell'] at h1
theorem z8p {F : FC} {o : Oper} {st : ASt} {d : Nat} {t e : TypeId} {i j : TI} {z : List AV} {len : Nat} {parts : Array (Nat × Operand)} {ds : List Dat}
  (ho : o.op = .buildSlice t len parts) (hdst : o.dst = some d) (hd : d < F.N) (ht : ti F.P t = some i) (hk : i.tk = .slice e) (hj : ti F.P e = some j) (hz : j.zero = some z) (hzl : z.length = j.size)
  (hlen : len = parts.size) (hbig : len * j.size ≤ 16777216) (hidx : parts.toList.map (·.1) = List.range len)
  (hdat : vz (parts.toList.map fun p => evA st.env p.2) = some ds) (hp : ∀ d ∈ ds, d.cells.length = j.size) :
  StepOK F o st (st.put (some d) (.dat (.sl ds))) ∧ StepOK F o st (st.put (some d) (.lits ds)) := by
 have both : ∀ (β : zg) (S : Nat → Nat → Prop) (a : Act) (w : World), SimB F β S st a.tmps w → ∃ r w' β' S', (execOp a.eval o).run F.P w = .ok (.value r) w' ∧ (RepA β' S' w' (.dat (.sl ds)) r ∧ RepA β' S' w' (.lits ds) r) ∧ SimB F β' S' st a.tmps w' := by
  intro β S a w hsim
  have hel := z2p hdat
  have hlds : ds.length = len := by have := congrArg List.length hel; simp at this; omega
  obtain ⟨out, hrun, hsz, hcells⟩ := Qp (P := F.P) (β := β) (S := S) (w := w) ht hk hj hz hzl (len := len) (parts := parts.toList.map fun p => (p.1, evA st.env p.2)) (vparts := parts.map fun (i, x) => (i, a.eval x))
   (by simpa using hlen) hbig (by simpa [Function.comp_def] using hidx) (by simp [Function.comp_def])
   (fun k x y hx hy => by
     simp only [Array.toList_map, List.getElem?_map] at hx hy
     cases hpk : parts.toList[k]? with
     | none => simp [hpk] at hx
     | some p =>
      simp only [hpk, Option.map_some, Option.some.injEq] at hx hy
      subst hx; subst hy
      exact qj hsim.env p.2)
   (fun p hpp => by
     obtain ⟨q, hq, rfl⟩ := List.mem_map.1 hpp
     have : evA st.env q.2 ∈ ds.map AV.dat := by rw [← hel]; exact List.mem_map.2 ⟨q, hq, rfl⟩
     obtain ⟨x, hx, hxe⟩ := List.mem_map.1 this
     simp only [← hxe]
     exact ⟨rfl, by rw [xt]; simpa using hp x hx⟩)
  have hn := hsim.newDat (.cells out e)
  refine ⟨.slice (some ⟨w.heap.size, 0, none⟩) len len, w.alloc (.cells out e), _, _, ?_, ?_, hn⟩
  ·simp only [execOp, ho, Sem.run_bind, hrun, Result.andThen_ok, Sem.run_pure]
  ·have hrs : RepS (fun b i => S b i ∨ b = w.heap.size) (w.alloc (.cells out e)) j.size ds (some ⟨w.heap.size, 0, none⟩) := ?_
   ·simp only [RepA, RepX]
    exact ⟨⟨j.size, _, len, by rw [hlds], by omega, hrs⟩, ⟨j.size, _, by rw [hlds], hrs⟩⟩
   refine z7p (β := β) (S := S) (w := w) (arr := out) (e := e) (fr := (0, 0)) (ya _ (fun _ _ h => .inl h) hsim.lt) (Shapes.alloc w _) (heap_alloc_new w _) (fun _ => .inr rfl) 0 fun k x hx => ?_
   have hmm : (List.map (fun x => x.snd) (List.map (fun p => (p.1, evA st.env p.2)) parts.toList)) = ds.map AV.dat := by rw [← hel]; simp [Function.comp_def]
   obtain ⟨h1, h2⟩ := hcells k x (by rw [hmm]; exact hx)
   exact ⟨h1, by simpa using h2⟩
 exact ⟨StepOK.of_value (by rw [hdst]; exact hd) (by rw [hdst]) fun β S a w hsim => by
   obtain ⟨r, w', β', S', h1, h2, h3⟩ := both β S a w hsim
   exact ⟨r, w', β', S', h1, h2.1, h3⟩,
  StepOK.of_value (by rw [hdst]; exact hd) (by rw [hdst]) fun β S a w hsim => by
   obtain ⟨r, w', β', S', h1, h2, h3⟩ := both β S a w hsim
   exact ⟨r, w', β', S', h1, h2.2, h3⟩⟩
theorem z2n {F : FC} {o : Oper} {st : ASt} {d : Nat} {t e : TypeId} {i j : TI} {z : List AV} {len : Nat} {parts : Array (Nat × Operand)}
  (ho : o.op = .buildSlice t len parts) (hdst : o.dst = some d) (hd : d < F.N) (ht : ti F.P t = some i) (hk : i.tk = .slice e) (hj : ti F.P e = some j) (hz : j.zero = some z) (hzl : z.length = j.size)
  (hlen : len = parts.size) (hbig : len * j.size ≤ 16777216) (hidx : parts.toList.map (·.1) = List.range len)
  (hp : ∀ x ∈ parts.toList.map (fun p => evA st.env p.2), x.storable = true ∧ x.cells.length = j.size) :
  StepOK F o st (((st.kill d).obj d ⟨j.size, (parts.toList.map fun p => evA st.env p.2).map (AV.kill d)⟩).put (some d) (.osl d j.size 0 len)) := by
 refine StepOK.of_value (by rw [hdst]; exact hd) (by rw [hdst]) fun β S a w hsim => ?_
 obtain ⟨out, hrun, hsz, hcells⟩ := Qp (P := F.P) (β := β) (S := S) (w := w) ht hk hj hz hzl (len := len) (parts := parts.toList.map fun p => (p.1, evA st.env p.2)) (vparts := parts.map fun (i, x) => (i, a.eval x))
  (by simpa using hlen) hbig (by simpa [Function.comp_def] using hidx) (by simp [Function.comp_def])
  (fun k x y hx hy => by
    simp only [Array.toList_map, List.getElem?_map] at hx hy
    cases hpk : parts.toList[k]? with
    | none => simp [hpk] at hx
    | some p =>
     simp only [hpk, Option.map_some, Option.some.injEq] at hx hy
     subst hx; subst hy
     exact qj hsim.env p.2)
  (fun p hpp => by
    obtain ⟨q, hq, rfl⟩ := List.mem_map.1 hpp
    exact hp _ (List.mem_map.2 ⟨q, hq, rfl⟩))
 have hmm : (List.map (fun x => x.snd) (List.map (fun p => (p.1, evA st.env p.2)) parts.toList)) = parts.toList.map fun p => evA st.env p.2 := by simp [Function.comp_def]
 rw [hmm] at hcells
 have hn := hsim.newObj d hd out e j.size (parts.toList.map fun p => evA st.env p.2) (by simp [hsz, hlen]) hcells
 refine ⟨.slice (some ⟨w.heap.size, 0, none⟩) len len, w.alloc (.cells out e), _, _, ?_, ?_, hn⟩
 ·simp only [execOp, ho, Sem.run_bind, hrun, Result.andThen_ok, Sem.run_pure]
 ·simp only [RepA]
  exact .inr ⟨w.heap.size, 0, len, out, e, _, upd_same _ _ _, rfl, fun _ => by simp, Nat.le_refl _, heap_alloc_new w _, by simp [hsz]⟩
theorem zfp {z : Array Value} {n k m : Nat} (hk : k < n) (hm : m < z.size) : ((Array.range (n * z.size)).map (z[· % z.size]!))[k * z.size + m]? = z[m]? := by
 have hlt : k * z.size + m < n * z.size := by
  have : (k + 1) * z.size ≤ n * z.size := Nat.mul_le_mul_right _ hk
  rw [Nat.add_mul] at this
  omega
 have hmod : (k * z.size + m) % z.size = m := by rw [Nat.mul_comm, Nat.mul_add_mod]; exact Nat.mod_eq_of_lt hm
 simp [hlt, hmod, hm]
theorem zbu {F : FC} {o : Oper} {st : ASt} {d : Nat} {t e : TypeId} {i j : TI} {z : AV} {ln cp : Operand} {k k' : IntKind} {n m : Int}
  (ho : o.op = .makeSlice t ln cp) (hdst : o.dst = some d) (hd : d < F.N) (ht : ti F.P t = some i) (hk : i.tk = .slice e) (hj : ti F.P e = some j) (hz : zeroA j = some z) (hzs : z.storable = true) (hzl : z.cells.length = j.size)
  (hln : evA st.env ln = .dat (.int k n)) (hcp : evA st.env cp = .dat (.int k' m)) (h0 : 0 ≤ n) (h1 : n ≤ m) (h2 : m * j.bytes ≤ 281474976710656) (h3 : m ≤ 9223372036854775807) :
  StepOK F o st (((st.kill d).obj d ⟨j.size, (List.replicate n.toNat z).map (AV.kill d)⟩).put (some d) (.osl d j.size 0 n.toNat)) := by
 refine StepOK.of_value (by rw [hdst]; exact hd) (by rw [hdst]) fun β S a w hsim => ?_
 obtain ⟨j', u, hj', _, hjs, hjb, _, _⟩ := ti_info hj
 obtain ⟨_, u', _, hu, _, _, _, hkk⟩ := ti_info ht
 rw [hk] at hkk
 have hu' := wt hkk.symm
 subst hu'
 obtain ⟨zv, hzr, hzrep, hz1⟩ := Q9 (β := β) (S := S) (w := w) hj hz hzs
 have hzsz : zv.cells.size = j.size := by have := zy hzrep; simp at this; omega
 have eln := qj (a := a) hsim.env ln
 have ecp := qj (a := a) hsim.env cp
 rw [hln] at eln
 rw [hcp] at ecp
 simp only [RepA, RepX] at eln ecp
 let arr : Array Value := (Array.range (m.toNat * j.size)).map (zv.cells[· % zv.cells.size]!)
 have hasz : arr.size = m.toNat * j.size := by simp [arr]
 have hn := hsim.newObj d hd arr e j.size (List.replicate n.toNat z) (by simp only [List.length_replicate, hasz]; exact Nat.mul_le_mul_right _ (by omega)) (fun q x hx => by
  obtain ⟨hq, hxe⟩ := List.getElem?_eq_some_iff.1 hx
  simp at hq hxe
  subst hxe
  refine ⟨hzl, fun r c hc => ?_⟩
  obtain ⟨v, hv, hrv⟩ := xu hzrep hc
  have hrlt : r < zv.cells.size := by simpa using (List.getElem?_eq_some_iff.1 hv).1
  refine ⟨v, ?_, hz1 v (List.mem_of_getElem? hv), hrv⟩
  have := zfp (z := zv.cells) (n := m.toNat) (k := q) (m := r) (by omega) hrlt
  rw [hzsz] at this
  simp only [arr, hzsz]
  rw [this]
  simpa using hv)
 have w1 : IntKind.i64.wrap n = n := IntWalk.i64_in _ (by constructor <;> omega)
 have w2 : IntKind.i64.wrap m = m := IntWalk.i64_in _ (by constructor <;> omega)
 have b1 : ¬ (n < 0) := by omega
 have b2 : ¬ (m < 0) := by omega
 have b3 : ¬ (m < n) := by omega
 have b4 : ¬ (281474976710656 < (j'.bytes : Int) * m) := by rw [Int.mul_comm, ← hjb]; omega
 refine ⟨.slice (some ⟨w.heap.size, 0, none⟩) n.toNat m.toNat, w.alloc (.cells arr e), _, _, ?_, ?_, hn⟩
 ·simp only [execOp, ho, Instr.makeSlice, Sem.run_bind, run_underlying hu, Result.andThen_ok, eln, ecp, asInt, asIntOf, Sem.run_pure, typeInfo, run_program, hj', w1, w2, gt_iff_lt, b1, b2, b3, decide_false, Bool.false_or,
   b4, Bool.false_eq_true, if_false, run_askRoom, qe hj]
  by_cases hz0 : m.toNat * j.size = 0
  ·have harr : arr = #[] := by apply Array.eq_empty_of_size_eq_zero; omega
   simp [hz0, b4, qe hj, newRow, harr]
   congr 2
   apply Array.eq_empty_of_size_eq_zero
   simp
  ·simp [hz0, b4, qe hj, hzr, newRow, arr]
 ·simp only [RepA]
  exact .inr ⟨w.heap.size, 0, m.toNat, arr, e, _, upd_same _ _ _, rfl, fun _ => by simp, by omega, heap_alloc_new w _, by simp [hasz]⟩
theorem z2q : ∀ {l : List AV} {ds : List Dat}, zk l = some ds → l = ds.map .dat
 | [], ds, h => by simp [zk] at h; subst h; rfl
 | x :: l, ds, h => by
  cases x <;> simp only [zk] at h <;> try (simp at h; done)
  split at h
  ·simp at h
  ·cases hl : zk l with
   | none => simp [hl] at h
   | some ds' =>
    simp only [hl, Option.map_some, Option.some.injEq] at h
    subst h
    simp [z2q hl]
@[simp] theorem mkAgg_cells (l : List AV) : (mkAgg l).cells = l := by
 unfold mkAgg
 split
 ·rename_i ds h
  rw [xt]
  simpa using (z2q h).symm
 ·rfl
def storeW (x : AV) (off : Nat) (old : AV) : AV :=
 if x.cells.length = old.cells.length then x else mkAgg (old.cells.take off ++ x.cells ++ old.cells.drop (off + x.cells.length))
theorem z3j {x old : AV} {off : Nat} (h : off + x.cells.length ≤ old.cells.length) : (storeW x off old).cells = old.cells.take off ++ x.cells ++ old.cells.drop (off + x.cells.length) := by
 unfold storeW
 split
 ·rename_i e
  have : off = 0 := by omega
  subst this
  simp [e]
 ·simp
theorem Z4 {arr : Array Value} {vs : List Value} {o i : Nat} (h : o + vs.length ≤ arr.size) :
  (arr.toList.take o ++ vs ++ arr.toList.drop (o + vs.length)).toArray[i]? = if i < o then arr[i]? else if i < o + vs.length then vs[i - o]? else arr[i]? := by
 simp only [List.getElem?_toArray]
 by_cases h1 : i < o
 ·rw [if_pos h1, List.append_assoc, List.getElem?_append_left (by simp; omega), List.getElem?_take, if_pos h1]
  simp
 ·rw [if_neg h1]
  by_cases h2 : i < o + vs.length
  ·rw [if_pos h2, List.getElem?_append_left (by simp; omega), List.getElem?_append_right (by simp; omega)]
   simp [show min o arr.size = o from by omega]
  ·rw [if_neg h2, List.getElem?_append_right (by simp; omega), List.getElem?_drop]
   simp only [List.length_append, List.length_take, Array.length_toList, show min o arr.size = o from by omega, Array.getElem?_toList]
   congr 1
   omega
theorem Ext.setRow (M : Nat → Prop) (w : World) (g : Nat) (cs old : Array Value) (e : TypeId) (hg : w.heap[g]? = some (.cells old e (0, 0))) (hsz : cs.size = old.size) (hm : M g) : Ext M w (w.setRow g cs) := by
 refine ⟨rfl, rfl, rfl, by simp, fun k hk hn => setRow_other w g k cs (fun e => hn (e ▸ hm)), fun b arr e' h => ?_⟩
 by_cases hb : b = g
 ·subst hb
  rw [hg] at h
  simp only [Option.some.injEq, Obj.cells.injEq, and_true] at h
  obtain ⟨rfl, rfl⟩ := h
  exact ⟨cs, setRow_heap w b old cs e _ hg, hsz⟩
 ·exact ⟨arr, (setRow_other w g b cs hb).trans h, rfl⟩
theorem SimB.setElems {F : FC} {β : zg} {S : Nat → Nat → Prop} {st : ASt} {tm : Array Value} {w : World} (hs : SimB F β S st tm w) {id b s : Nat} {o : AObj} {arr cs : Array Value} {e : TypeId} {elems : List AV}
  (ho : st.objs id = some o) (hb : β id = some (b, s)) (hh : w.heap[b]? = some (.cells arr e (0, 0))) (hsz : cs.size = arr.size) (hz : s + elems.length * o.es ≤ arr.size)
  (hel : ∀ (k : Nat) (x : AV), elems[k]? = some x → x.cells.length = o.es ∧ ∀ (j : Nat) (c : AV), x.cells[j]? = some c → ∃ v, cs[s + k * o.es + j]? = some v ∧ v.oneCell' = true ∧ RepA β S w c v) :
  SimB F β S (st.obj id ⟨o.es, elems⟩) tm (w.setRow b cs) := by
 have hnew : F.w0.heap.size ≤ b ∨ F.M0 b := by
  rcases hs.obj id o ho with ⟨hn, _⟩ | ⟨b', s', arr', e', hb', hw, _⟩ | hm
  ·rw [hn] at hb; cases hb
  ·rw [hb'] at hb
   simp only [Option.some.injEq, Prod.mk.injEq] at hb
   obtain ⟨rfl, rfl⟩ := hb
   exact hw
  ·exact (hm.place hb).1
 have hext : Ext (fun k => k = b) w (w.setRow b cs) := Ext.setRow _ w b cs arr e hh hsz rfl
 have hkeep : Keeps S S w (w.setRow b cs) := fun b' i hS => ⟨hS, xe (setRow_other w b b' cs (fun e => hs.sep id o b s i ho hb (e ▸ hS)))⟩
 have hother : ∀ i o' b' s', st.objs i = some o' → i ≠ id → β i = some (b', s') → b' ≠ b := fun i o' b' s' h hi hb' e => hi (hs.inj i id o' o b s' s h ho (e ▸ hb') hb)
 refine ⟨hs.ext.trans hext (fun k hk he => ?_), hs.glob, hs.sub, fun b' i h => by simpa using hs.lt b' i h, ?_, ?_, ?_, fun n => (hs.env n).mono hkeep hext.shape, hs.size⟩
 ·rcases hnew with h | h
  ·omega
  ·exact he ▸ h
 ·intro i o' b' s' k hi hb'
  by_cases h : i = id
  ·subst h; exact hs.sep i o b' s' k ho hb'
  ·simp only [ASt.obj, qo _ _ h] at hi
   exact hs.sep i o' b' s' k hi hb'
 ·have back : ∀ i o', (st.obj id ⟨o.es, elems⟩).objs i = some o' → ∃ o'', st.objs i = some o'' := fun i o' hi => by
   by_cases h : i = id
   ·subst h; exact ⟨o, ho⟩
   ·simp only [ASt.obj, qo _ _ h] at hi; exact ⟨o', hi⟩
  intro i i' o1 o2 b' s1 s2 h1 h2 hb1 hb2
  obtain ⟨p1, hp1⟩ := back i o1 h1
  obtain ⟨p2, hp2⟩ := back i' o2 h2
  exact hs.inj i i' p1 p2 b' s1 s2 hp1 hp2 hb1 hb2
 ·intro i o' hi
  by_cases h : i = id
  ·subst h
   simp only [ASt.obj, upd_same, Option.some.injEq] at hi
   subst hi
   refine .inr (.inl ⟨b, s, cs, e, hb, hnew, setRow_heap w b arr cs e _ hh, by rw [hsz]; exact hz, fun k x hx => ⟨(hel k x hx).1, fun j c hj => ?_⟩⟩)
   obtain ⟨v, hv, h1, hr⟩ := (hel k x hx).2 j c hj
   exact ⟨v, by rw [cell_of_row _ b _ cs e _ (setRow_heap w b arr cs e _ hh)]; exact hv, h1, hr.mono hkeep hext.shape⟩
  ·simp only [ASt.obj, qo _ _ h] at hi
   rcases hs.obj i o' hi with h' | ⟨b', s', arr', e', hb', hw', hh', hz', hel'⟩ | hm
   rotate_left 2
   ·exact .inr (.inr (hm.mono rfl hkeep fun b' hb' => setRow_other w b b' cs (hother i o' b' 0 hi h hb')))
   ·exact .inl h'
   ·have hne := hother i o' b' s' hi h hb'
    have hbb : (w.setRow b cs).heap[b']? = w.heap[b']? := setRow_other w b b' cs hne
    exact .inr (.inl ⟨b', s', arr', e', hb', hw', hbb.trans hh', hz', fun k x hx => ⟨(hel' k x hx).1, (hel' k x hx).2.mono hkeep hext.shape hbb⟩⟩)
theorem z84 {F : FC} {o : Oper} {st : ASt} {t : TypeId} {i : TI} {ad x : Operand} {id es k off : Nat} {ob : AObj} (ho : o.op = .store t ad x) (hdst : o.dst = none) (ht : ti F.P t = some i)
  (had : evA st.env ad = .ptr id es k off) (hob : st.objs id = some ob) (hes : ob.es = es) (hk : k < ob.elems.length) (hs : (evA st.env x).storable = true) (hsz : (evA st.env x).cells.length = i.size)
  (hoff : off + i.size ≤ ((ob.elems[k]?).getD .junk).cells.length) :
  StepOK F o st (st.obj id ⟨es, ob.elems.set k (storeW (evA st.env x) off ((ob.elems[k]?).getD .junk))⟩) := by
 refine StepOK.of_skip hdst fun β S a w hsim => ?_
 have ead := qj (a := a) hsim.env ad
 have ex := qj (a := a) hsim.env x
 rw [had] at ead
 simp only [RepA] at ead
 obtain ⟨b, s, hb, hadv, hcl⟩ := ead
 obtain ⟨hxc, hx1⟩ := jr hs ex
 subst hes
 rcases hsim.obj id ob hob with ⟨hn, _⟩ | ⟨b', s', arr, e, hb', hw, hh, hz, hel⟩ | hm
 rotate_left 2
 ·exact (hm.noCells hb hcl).elim
 ·rw [hn] at hb; cases hb
 rw [hb'] at hb
 simp only [Option.some.injEq, Prod.mk.injEq] at hb
 obtain ⟨rfl, rfl⟩ := hb
 rw [List.getElem?_eq_getElem hk, Option.getD_some] at hoff ⊢
 have hold := hel k _ (List.getElem?_eq_getElem hk)
 have hvl : (a.eval x).cells.toList.length = i.size := by rw [zy hxc, hsz]
 have hkz : s' + k * ob.es + ob.es ≤ arr.size := by
  have : (k + 1) * ob.es ≤ ob.elems.length * ob.es := Nat.mul_le_mul_right _ hk
  rw [Nat.add_mul] at this
  omega
 have hstl : s' + k * ob.es + off + (a.eval x).cells.toList.length ≤ arr.size := by have := hold.1; omega
 have hst := run_storeCells_at F.P b' (s' + k * ob.es + off) e (a.eval x).cells.toList 0 arr w hh (by simpa using hstl) hx1
 simp only [Nat.add_zero] at hst
 let cs : Array Value := (arr.toList.take (s' + k * ob.es + off) ++ (a.eval x).cells.toList ++ arr.toList.drop (s' + k * ob.es + off + (a.eval x).cells.toList.length)).toArray
 have hcs : cs.size = arr.size := by simp only [cs, List.size_toArray, List.length_append, List.length_take, List.length_drop, Array.length_toList] at hstl ⊢; omega
 refine ⟨w.setRow b' cs, β, S, ?_, hsim.setElems hob hb' hh hcs (by simpa using hz) fun q y hy => ?_⟩
 ·have hsz' : (a.eval x).cells.size = i.size := by simpa using hvl
  simp only [execOp, ho, hadv, Instr.storeAt, Instr.sureAddr, Sem.run_bind, Sem.run_pure, Result.andThen_ok, storeVar, qe ht, hsz', ne_eq, not_true_eq_false, if_false, hst]
  rfl
 ·rw [List.getElem?_set] at hy
  have hnew : ∀ j c, (storeW (evA st.env x) off ob.elems[k]).cells[j]? = some c → ∃ v, cs[s' + k * ob.es + j]? = some v ∧ v.oneCell' = true ∧ RepA β S w c v := fun j c hj => by
   rw [z3j (by omega), hsz] at hj
   simp only [cs]
   rw [Z4 (by simpa using hstl)]
   by_cases h1 : j < off
   ·rw [if_pos (by omega)]
    rw [List.append_assoc, List.getElem?_append_left (by simp; omega), List.getElem?_take, if_pos h1] at hj
    obtain ⟨v, hv, h2, hr⟩ := hold.2 j c hj
    rw [cell_of_row w b' _ arr e _ hh] at hv
    exact ⟨v, hv, h2, hr⟩
   ·by_cases h2 : j < off + i.size
    ·rw [if_neg (by omega), if_pos (by omega)]
     rw [List.getElem?_append_left (by simp; omega), List.getElem?_append_right (by simp; omega)] at hj
     simp only [List.length_take, show min off ob.elems[k].cells.length = off from by omega] at hj
     obtain ⟨v, hv, hr⟩ := xu hxc hj
     exact ⟨v, by rw [show s' + k * ob.es + j - (s' + k * ob.es + off) = j - off from by omega]; exact hv, hx1 v (List.mem_of_getElem? hv), hr⟩
    ·rw [if_neg (by omega), if_neg (by omega)]
     rw [List.getElem?_append_right (by simp; omega), List.getElem?_drop] at hj
     simp only [List.length_append, List.length_take, show min off ob.elems[k].cells.length = off from by omega, hsz] at hj
     rw [show off + i.size + (j - (off + i.size)) = j from by omega] at hj
     obtain ⟨v, hv, h2, hr⟩ := hold.2 j c hj
     rw [cell_of_row w b' _ arr e _ hh] at hv
     exact ⟨v, hv, h2, hr⟩
  split at hy
  ·rename_i hkq
   subst hkq
   simp only [hk, if_true, Option.some.injEq] at hy
   subst hy
   refine ⟨?_, hnew⟩
   rw [z3j (by omega), hsz]
   simp only [List.length_append, List.length_take, List.length_drop, hsz]
   have := hold.1
   omega
  ·rename_i hkq
   obtain ⟨h1, h2⟩ := hel q y hy
   refine ⟨h1, fun j c hj => ?_⟩
   obtain ⟨v, hv, h3, hr⟩ := h2 j c hj
   rw [cell_of_row w b' _ arr e _ hh] at hv
   refine ⟨v, ?_, h3, hr⟩
   have hjl : j < ob.es := by have := (List.getElem?_eq_some_iff.1 hj).1; omega
   have hol := hold.1
   simp only [cs]
   rw [Z4 (by simpa using hstl)]
   have hsep : s' + q * ob.es + j < s' + k * ob.es + off ∨ s' + k * ob.es + off + (a.eval x).cells.toList.length ≤ s' + q * ob.es + j := by
    rcases Nat.lt_or_ge q k with h | h
    ·left
     have : (q + 1) * ob.es ≤ k * ob.es := Nat.mul_le_mul_right _ h
     rw [Nat.add_mul] at this
     omega
    ·right
     have : (k + 1) * ob.es ≤ q * ob.es := Nat.mul_le_mul_right _ (by omega)
     rw [Nat.add_mul] at this
     omega
   rcases hsep with h | h
   ·rw [if_pos h]; exact hv
   ·rw [if_neg (by omega), if_neg (by omega)]; exact hv
def ASt.drop (st : ASt) (id : Nat) : ASt := { st with objs := upd st.objs id none }
def ASt.dropO (st : ASt) : Option Nat → ASt
 | some id => st.drop id
 | none => st
theorem SimB.drop {F : FC} {β : zg} {S : Nat → Nat → Prop} {st : ASt} {tm : Array Value} {w : World} (hs : SimB F β S st tm w) (id : Nat) : SimB F β S (st.drop id) tm w := by
 have back : ∀ i o, (st.drop id).objs i = some o → st.objs i = some o := fun i o h => by
  by_cases hi : i = id
  ·subst hi; simp [ASt.drop] at h
  ·simpa [ASt.drop, qo _ _ hi] using h
 exact ⟨hs.ext, hs.glob, hs.sub, hs.lt, fun i o b s k h => hs.sep i o b s k (back i o h), fun i i' o o' b s s' h h' => hs.inj i i' o o' b s s' (back i o h) (back i' o' h'), fun i o h => hs.obj i o (back i o h), hs.env, hs.size⟩
theorem SimB.introObj {F : FC} {β : zg} {S : Nat → Nat → Prop} {st : ASt} {tm : Array Value} {w : World} (hs : SimB F β S st tm w) (d b s : Nat) (hdN : d < F.N) (arr : Array Value) (e : TypeId) (es : Nat) (elems : List AV)
  (hh : w.heap[b]? = some (.cells arr e (0, 0))) (hnew : F.w0.heap.size ≤ b ∨ F.M0 b) (hS : ∀ i, ¬ S b i) (hfree : ∀ i o b' s', (st.kill d).objs i = some o → β i = some (b', s') → b' ≠ b) (hz : s + elems.length * es ≤ arr.size)
  (hel : ∀ (k : Nat) (x : AV), elems[k]? = some x → x.cells.length = es ∧ ∀ (j : Nat) (c : AV), x.cells[j]? = some c → ∃ v, arr[s + k * es + j]? = some v ∧ v.oneCell' = true ∧ RepA β S w c v) :
  SimB F (upd β d (some (b, s))) S ((st.kill d).obj d ⟨es, elems.map (AV.kill d)⟩) tm w := by
 have hk := hs.kill d
 have hmv : ∀ i, i ≠ d → (upd β d (some (b, s))) i = β i := fun i hi => qo β _ hi
 have hother : ∀ i o b' s', ((st.kill d).obj d ⟨es, elems.map (AV.kill d)⟩).objs i = some o → i ≠ d → (upd β d (some (b, s))) i = some (b', s') → (st.kill d).objs i = some o ∧ β i = some (b', s') := fun i o b' s' ho hi hb => by
  simp only [ASt.obj, qo _ _ hi] at ho
  rw [hmv i hi] at hb
  exact ⟨ho, hb⟩
 refine ⟨hs.ext, hs.glob, hs.sub, hs.lt, ?_, ?_, ?_, ?_, ⟨hs.size.1, fun i hi => (hmv i (by omega)).trans (hs.size.2 i hi)⟩⟩
 ·intro i o b' s' k ho hb hSb
  by_cases hi : i = d
  ·subst hi
   simp only [upd_same, Option.some.injEq, Prod.mk.injEq] at hb
   obtain ⟨rfl, rfl⟩ := hb
   exact hS k hSb
  ·obtain ⟨h1, h2⟩ := hother i o b' s' ho hi hb
   exact hk.sep i o b' s' k h1 h2 hSb
 ·intro i i' o o' b' s1 s2 ho ho' hb hb'
  by_cases hi : i = d
  ·by_cases hi' : i' = d
   ·omega
   ·exfalso
    obtain ⟨h1, h2⟩ := hother i' o' b' s2 ho' hi' hb'
    subst hi
    simp only [upd_same, Option.some.injEq, Prod.mk.injEq] at hb
    exact hfree i' o' b' s2 h1 h2 hb.1.symm
  ·by_cases hi' : i' = d
   ·exfalso
    obtain ⟨h1, h2⟩ := hother i o b' s1 ho hi hb
    subst hi'
    simp only [upd_same, Option.some.injEq, Prod.mk.injEq] at hb'
    exact hfree i o b' s1 h1 h2 hb'.1.symm
   ·obtain ⟨h1, h2⟩ := hother i o b' s1 ho hi hb
    obtain ⟨h1', h2'⟩ := hother i' o' b' s2 ho' hi' hb'
    exact hk.inj i i' o o' b' s1 s2 h1 h1' h2 h2'
 ·intro i o ho
  by_cases hi : i = d
  ·subst hi
   simp only [ASt.obj, upd_same, Option.some.injEq] at ho
   subst ho
   refine .inr (.inl ⟨b, s, arr, e, upd_same _ _ _, hnew, hh, by simpa using hz, fun k x hx => ?_⟩)
   rw [List.getElem?_map] at hx
   cases hy : elems[k]? with
   | none => simp [hy] at hx
   | some y =>
    simp only [hy, Option.map_some, Option.some.injEq] at hx
    subst hx
    obtain ⟨hc, hm⟩ := hel k y hy
    rw [vo]
    refine ⟨by simpa using hc, fun j c hj => ?_⟩
    rw [List.getElem?_map] at hj
    cases hcj : y.cells[j]? with
    | none => simp [hcj] at hj
    | some c' =>
     simp only [hcj, Option.map_some, Option.some.injEq] at hj
     subst hj
     obtain ⟨v, hv, h1, hr⟩ := hm j c' hcj
     exact ⟨v, by rw [cell_of_row w b _ arr e _ hh]; exact hv, h1, hr.moved hmv⟩
  ·simp only [ASt.obj, qo _ _ hi] at ho
   rcases hk.obj i o ho with ⟨hn, he⟩ | ⟨b', s', arr', e', hb, hw, hh', hz', hel'⟩ | hm
   rotate_left 2
   ·exact .inr (.inr (hm.mono (hmv i hi) (Keeps.refl S w) fun _ _ => rfl))
   ·exact .inl ⟨(hmv i hi).trans hn, he⟩
   ·refine .inr (.inl ⟨b', s', arr', e', (hmv i hi).trans hb, hw, hh', hz', fun k x hx => ⟨(hel' k x hx).1, ?_⟩⟩)
    have hm := (hel' k x hx).2
    intro j c hj
    obtain ⟨v, hv, h1, hr⟩ := hm j c hj
    refine ⟨v, hv, h1, ?_⟩
    have hkk : c.kill d = c := by
     simp only [ASt.kill, if_neg hi] at ho
     cases hp : st.objs i with
     | none => simp [hp] at ho
     | some p =>
      simp only [hp, Option.map_some, Option.some.injEq] at ho
      subst ho
      rw [List.getElem?_map] at hx
      cases hy : p.elems[k]? with
      | none => simp [hy] at hx
      | some y =>
       simp only [hy, Option.map_some, Option.some.injEq] at hx
       subst hx
       rw [vo, List.getElem?_map] at hj
       cases hcj : y.cells[j]? with
       | none => simp [hcj] at hj
       | some c' =>
        simp only [hcj, Option.map_some, Option.some.injEq] at hj
        subst hj
        exact jd d c'
    rw [← hkk]
    exact hr.moved hmv
 ·intro n
  exact (hs.env n).moved hmv
theorem SimB.introNil {F : FC} {β : zg} {S : Nat → Nat → Prop} {st : ASt} {tm : Array Value} {w : World} (hs : SimB F β S st tm w) (d es : Nat) (hdN : d < F.N) :
  SimB F (upd β d none) S ((st.kill d).obj d ⟨es, []⟩) tm w := by
 have hk := hs.kill d
 have hmv : ∀ i, i ≠ d → (upd β d none) i = β i := fun i hi => qo β _ hi
 refine ⟨hs.ext, hs.glob, hs.sub, hs.lt, ?_, ?_, ?_, ?_, ⟨hs.size.1, fun i hi => (hmv i (by omega)).trans (hs.size.2 i hi)⟩⟩
 ·intro i o b' s' k ho hb hSb
  by_cases hi : i = d
  ·subst hi; simp at hb
  ·simp only [ASt.obj, qo _ _ hi] at ho
   rw [hmv i hi] at hb
   exact hk.sep i o b' s' k ho hb hSb
 ·intro i i' o o' b' s1 s2 ho ho' hb hb'
  by_cases hi : i = d
  ·subst hi; simp at hb
  ·by_cases hi' : i' = d
   ·subst hi'; simp at hb'
   ·simp only [ASt.obj, qo _ _ hi] at ho
    simp only [ASt.obj, qo _ _ hi'] at ho'
    rw [hmv i hi] at hb
    rw [hmv i' hi'] at hb'
    exact hk.inj i i' o o' b' s1 s2 ho ho' hb hb'
 ·intro i o ho
  by_cases hi : i = d
  ·subst hi
   simp only [ASt.obj, upd_same, Option.some.injEq] at ho
   subst ho
   exact .inl ⟨upd_same _ _ _, rfl⟩
  ·simp only [ASt.obj, qo _ _ hi] at ho
   rcases hk.obj i o ho with ⟨hn, he⟩ | ⟨b', s', arr', e', hb, hw, hh', hz', hel'⟩ | hm
   rotate_left 2
   ·exact .inr (.inr (hm.mono (hmv i hi) (Keeps.refl S w) fun _ _ => rfl))
   ·exact .inl ⟨(hmv i hi).trans hn, he⟩
   ·refine .inr (.inl ⟨b', s', arr', e', (hmv i hi).trans hb, hw, hh', hz', fun k x hx => ⟨(hel' k x hx).1, ?_⟩⟩)
    intro j c hj
    obtain ⟨v, hv, h1, hr⟩ := (hel' k x hx).2 j c hj
    refine ⟨v, hv, h1, ?_⟩
    have hkk : c.kill d = c := by
     simp only [ASt.kill, if_neg hi] at ho
     cases hp : st.objs i with
     | none => simp [hp] at ho
     | some p =>
      simp only [hp, Option.map_some, Option.some.injEq] at ho
      subst ho
      rw [List.getElem?_map] at hx
      cases hy : p.elems[k]? with
      | none => simp [hy] at hx
      | some y =>
       simp only [hy, Option.map_some, Option.some.injEq] at hx
       subst hx
       rw [vo, List.getElem?_map] at hj
       cases hcj : y.cells[j]? with
       | none => simp [hcj] at hj
       | some c' =>
        simp only [hcj, Option.map_some, Option.some.injEq] at hj
        subst hj
        exact jd d c'
    rw [← hkk]
    exact hr.moved hmv
 ·intro n
  exact (hs.env n).moved hmv
theorem jm {β : zg} {S : Nat → Nat → Prop} {w : World} {n b : Nat} : ∀ {xs : List AV} {o : Nat}, (∀ (k : Nat) (y : AV), xs[k]? = some y → y.cells.length = n ∧ MemC β S w y.cells b (o + k * n)) → MemC β S w (xs.map AV.cells).flatten b o
 | [], o, _ => fun i c hc => by simp at hc
 | x :: xs, o, h => by
  obtain ⟨h0, hm0⟩ := h 0 x (by simp)
  have ih := jm (xs := xs) (o := o + n) (fun k y hy => by
   have := h (k + 1) y (by simpa using hy)
   rwa [Nat.add_mul, Nat.one_mul, show o + (k * n + n) = o + n + k * n from by omega] at this)
  intro i c hc
  simp only [List.map_cons, List.flatten_cons] at hc
  by_cases hi : i < n
  ·rw [List.getElem?_append_left (by omega)] at hc
   simpa using hm0 i c hc
  ·rw [List.getElem?_append_right (by omega)] at hc
   have := ih _ c hc
   rwa [show o + n + (i - x.cells.length) = o + i from by omega] at this
def vj (s : ByteArray) : List Int := s.data.toList.map fun b => (b.toNat : Int)
theorem yf (s : ByteArray) : (vj s).length = s.size := by simp [vj]
def srcA (objs : Nat → Option AObj) (x : AV) : Option (List AV) :=
 match x with
 | .dat (.sl l) => some (l.map .dat)
 | .osl id _ off len => (objs id).map fun o => (o.elems.drop off).take len
 | .nils => some []
 | .dat (.str s) => some (((vj s).map (Dat.int .u8)).map .dat)
 | _ => none
structure Src (P : Program) (β : zg) (S : Nat → Nat → Prop) (w : World) (size : Nat) (xs : List AV) (v : Value) (news : List Value) : Prop where
 lenr : ∀ w : World, (Builtin.lenOf v).run P w = .ok xs.length w
 run : (Builtin.firstCells size xs.length v).run P w = .ok news.toArray w
 rund : (Builtin.firstCells size xs.length v).run P w.drew = .ok news.toArray w.drew
 rep : RepAL β S w (xs.map AV.cells).flatten news
 one : ∀ u ∈ news, u.oneCell' = true
theorem zjs {F : FC} {β : zg} {S : Nat → Nat → Prop} {st : ASt} {tm : Array Value} {w : World} (hs : SimB F β S st tm w) {x : AV} {v : Value} {xs : List AV} {size : Nat} (hx : RepA β S w x v) (hsrc : srcA st.objs x = some xs)
  (hsz : ∀ y ∈ xs, y.cells.length = size) (hes : ∀ id es off len, x = .osl id es off len → es = size ∧ xs.length = len ∧ ∃ o, st.objs id = some o ∧ o.es = size) : ∃ news, Src F.P β S w size xs v news := by
 -- from memory that holds the elements
 have go : ∀ (b o len cap : Nat), len = xs.length → MemC β S w (xs.map AV.cells).flatten b o → ∃ news, Src F.P β S w size xs (.slice (some ⟨b, o, none⟩) len cap) news := fun b o len cap hl hm => by
  subst hl
  obtain ⟨vs, hvl, hvc, hvr⟩ := Zq hm
  have hfl : (xs.map AV.cells).flatten.length = xs.length * size := by
   rw [jh (n := size) (fun l hl => by obtain ⟨y, hy, rfl⟩ := List.mem_map.1 hl; exact hsz y hy)]; simp
  refine ⟨vs, fun _ => rfl, ?_, run_firstCells_some (P := F.P) w.drew size xs.length ⟨b, o, none⟩ xs.length cap vs (by omega) (fun j u hu => by rw [wo, World.cell?_drew]; exact (hvc j u hu).1), hvr, fun u hu => by obtain ⟨i, hi⟩ := List.getElem?_of_mem hu; exact (hvc i u hi).2⟩
  exact run_firstCells_some (P := F.P) w size xs.length ⟨b, o, none⟩ xs.length cap vs (by omega) (fun j u hu => by rw [wo]; exact (hvc j u hu).1)
 have nil : ∀ (a : Option Addr) (cap : Nat), xs = [] → ∃ news, Src F.P β S w size xs (.slice a 0 cap) news := fun a cap hxs => by
  subst hxs
  refine ⟨[], fun _ => rfl, ?_, ?_, by simp [RepAL], by simp⟩ <;> cases a <;> simp [Builtin.firstCells, loadCells, loadCellsFrom]
 unfold srcA at hsrc
 split at hsrc <;> try (simp at hsrc; done)
 ·rename_i l
  simp only [Option.some.injEq] at hsrc
  subst hsrc
  simp only [RepA, RepX] at hx
  obtain ⟨es, a, cap, rfl, hc, hr⟩ := hx
  cases hl : l with
  | nil => subst hl; exact nil a cap rfl
  | cons d0 l0 =>
   obtain ⟨b, o, rfl, hcl, _⟩ := v7 hr (i := 0) (d := d0) (by simp [hl])
   have h0 := hsz (.dat d0) (by simp [hl])
   rw [xt, List.length_map] at h0
   obtain rfl : es = size := by omega
   rw [← hl]
   refine go b o l.length cap (by simp) (jm (n := es) fun k y hy => ?_)
   rw [List.getElem?_map] at hy
   cases hd : l[k]? with
   | none => simp [hd] at hy
   | some d =>
    simp only [hd, Option.map_some, Option.some.injEq] at hy
    subst hy
    obtain ⟨b', o', ha, hcl', hrc⟩ := v7 hr hd
    simp only [Option.some.injEq, Addr.mk.injEq, and_true] at ha
    obtain ⟨rfl, rfl⟩ := ha
    rw [xt]
    exact ⟨by simpa using hcl', Q2 hrc⟩
 ·rename_i id es off len
  obtain ⟨rfl, hlen, o, ho, hoes⟩ := hes id es off len rfl
  simp only [ho, Option.map_some, Option.some.injEq] at hsrc
  subst hsrc
  simp only [RepA] at hx
  rcases hx with ⟨hn, rfl, a, rfl⟩ | ⟨b, s, cap, arr, e, a, hb, rfl, ha, hc, hh, hz⟩
  ·exact nil a 0 (by simp)
  ·by_cases hl0 : len = 0
   ·subst hl0; exact nil a cap (by simp)
   ·have ha' := ha (by omega)
    subst ha'
    rcases hs.obj id o ho with ⟨hn, _⟩ | ⟨b', s', arr', e', hb', hw, hh', hz', hel⟩ | hm
    rotate_left 2
    ·exact (hm.noCells hb ⟨_, _, hh⟩).elim
    ·rw [hn] at hb; cases hb
    rw [hb'] at hb
    simp only [Option.some.injEq, Prod.mk.injEq] at hb
    obtain ⟨rfl, rfl⟩ := hb
    refine go b' (s' + off * es) len cap (by omega) (jm (n := es) fun k y hy => ?_)
    rw [List.getElem?_take] at hy
    split at hy
    ·rw [List.getElem?_drop] at hy
     obtain ⟨h1, h2⟩ := hel _ y hy
     rw [hoes] at h1 h2
     refine ⟨h1, ?_⟩
     rwa [Nat.add_mul, ← Nat.add_assoc] at h2
    ·simp at hy
 ·simp only [Option.some.injEq] at hsrc
  subst hsrc
  simp only [RepA] at hx
  obtain ⟨a, rfl⟩ := hx
  exact nil a 0 rfl
 ·rename_i s
  simp only [Option.some.injEq] at hsrc
  subst hsrc
  simp only [RepA, RepX] at hx
  subst hx
  have hl : (((vj s).map (Dat.int .u8)).map AV.dat).length = s.size := by simp [yf]
  refine ⟨(vj s).map (Value.int .u8), fun _ => by rw [hl]; rfl, ?_, ?_, ?_, fun u hu => by obtain ⟨n, _, rfl⟩ := List.mem_map.1 hu; rfl⟩
  ·rw [hl]
   simp only [Builtin.firstCells, Sem.run_pure]
   congr 1
   apply Array.ext'
   simp [vj, ByteArray.extract_zero_size, List.map_map, Function.comp_def]
  ·rw [hl]
   simp only [Builtin.firstCells, Sem.run_pure]
   congr 1
   apply Array.ext'
   simp [vj, ByteArray.extract_zero_size, List.map_map, Function.comp_def]
  ·have hfl : ∀ l : List Int, RepAL β S w ((((l.map (Dat.int .u8)).map AV.dat).map AV.cells).flatten) (l.map (Value.int .u8)) := fun l => by
    induction l with
    | nil => simp [RepAL]
    | cons n l ih =>
     simp only [List.map_cons, List.flatten_cons, AV.cells, List.singleton_append, RepAL]
     exact ⟨_, _, rfl, by simp only [RepA, RepX], ih⟩
   exact hfl _
theorem ka {P : Program} {w : World} {t t' ty e : TypeId} {u' : TypeDesc} {i : TypeInfo} (ht : P.underlying t = some (.slice e)) (ht' : P.underlying t' = some u') (hu' : (∃ e', u' = .slice e') ∨ u' = .string) (hi : P.info? e = some i)
  {a : Option Addr} {sLen sCap : Nat} {xv : Value} {n : Nat} {news : List Value} (hlen : (Builtin.lenOf xv).run P w = .ok n w) (hnews : (Builtin.firstCells i.size n xv).run P w = .ok news.toArray w)
  (hroom : sLen + n ≤ sCap) {w' : World} (hst : ∀ ad, a = some ad → (storeCells (ad.add (sLen * i.size)) news).run P w = .ok () w') (hnone : a = none → w' = w) :
  (Builtin.append_ #[t, t'] ty #[.slice a sLen sCap, xv]).run P w = .ok (.slice a (sLen + n) sCap) w' := by
 rcases hu' with ⟨e', rfl⟩ | rfl
 all_goals
  cases a with
  | none => simp [Builtin.append_, run_underlying ht, run_underlying ht', sizeOf, typeInfo, hi, hlen, hroom, hnews, hnone rfl]
  | some ad => simp [Builtin.append_, run_underlying ht, run_underlying ht', sizeOf, typeInfo, hi, hlen, hroom, hnews, hst ad rfl]
theorem Zv {P : Program} {w : World} {t t' ty e : TypeId} {u' : TypeDesc} {i : TypeInfo} {z : Value} (ht : P.underlying t = some (.slice e)) (ht' : P.underlying t' = some u') (hu' : (∃ e', u' = .slice e') ∨ u' = .string) (hi : P.info? e = some i) (hz : i.zero = some z)
  {a : Option Addr} {sLen sCap : Nat} {xv : Value} {n : Nat} {olds news : List Value} (hlen : (Builtin.lenOf xv).run P w = .ok n w) (hnews : (Builtin.firstCells i.size n xv).run P w.drew = .ok news.toArray w.drew)
  (holds : (Builtin.firstCells i.size sLen (.slice a sLen sCap)).run P w.drew = .ok olds.toArray w.drew)
  (hgrow : sCap < sLen + n) (h63 : sLen + n ≤ 9223372036854775807) (hfit : (sLen + n) * i.bytes ≤ 140737488355328) :
  (Builtin.append_ #[t, t'] ty #[.slice a sLen sCap, xv]).run P w =
   .ok (.slice (some ⟨w.heap.size, 0, none⟩) (sLen + n) (grownCap w (sLen + n) sCap e)) (w.drew.alloc (.cells (olds.toArray ++ news.toArray ++ Builtin.zeroCells z.cells (grownCap w (sLen + n) sCap e - (sLen + n))) e)) := by
 have hn : ¬ (sLen + n ≤ sCap) := by omega
 have h63' : ¬ (9223372036854775807 < ((sLen : Int) + (n : Int))) := by omega
 have hf48 := growslice_fits hgrow hfit
 have h48' : ¬ (281474976710656 < Builtin.nextslicecap (sLen + n) sCap * i.bytes) := by omega
 rcases hu' with ⟨e', rfl⟩ | rfl
 all_goals
  simp [Builtin.append_, run_underlying ht, run_underlying ht', sizeOf, typeInfo, zeroValue, hi, hz, hlen, hn, h63', h48', Question.forced, holds, hnews, newRow, grownCap]
  congr 2
  apply Array.ext'
  simp [List.append_assoc]
theorem ky {β : zg} {S : Nat → Nat → Prop} {w : World} {size : Nat} {xs : List AV} {news : List Value} (hsz : ∀ y ∈ xs, y.cells.length = size) (hrep : RepAL β S w (xs.map AV.cells).flatten news) (h1 : ∀ u ∈ news, u.oneCell' = true) :
  news.length = xs.length * size ∧ ∀ (k : Nat) (y : AV), xs[k]? = some y → ∀ (j : Nat) (c : AV), y.cells[j]? = some c → ∃ v, news[k * size + j]? = some v ∧ v.oneCell' = true ∧ RepA β S w c v := by
 have hunif : ∀ l ∈ xs.map AV.cells, l.length = size := fun l hl => by obtain ⟨y, hy, rfl⟩ := List.mem_map.1 hl; exact hsz y hy
 refine ⟨by rw [zy hrep, jh hunif]; simp, fun k y hy j c hc => ?_⟩
 have hjl : j < size := by
  have := (List.getElem?_eq_some_iff.1 hc).1
  have := hsz y (List.mem_of_getElem? hy)
  omega
 have hfl := z0e hunif (k := k) (j := j) (l := y.cells) (by simp [hy]) hjl
 rw [hc] at hfl
 obtain ⟨v, hv, hr⟩ := xu hrep hfl
 exact ⟨v, hv, h1 v (List.mem_of_getElem? hv), hr⟩
def appSt (st : ASt) (d : Nat) (size : Nat) (old : Option Nat) (elems : List AV) : ASt :=
 (((st.dropO old).kill d).obj d ⟨size, elems.map (AV.kill d)⟩).put (some d) (.osl d size 0 elems.length)
def baseA (objs : Nat → Option AObj) (size : Nat) (x : AV) : Option (Option Nat × List AV) :=
 match x with
 | .nils => some (none, [])
 | .osl id es off len => match objs id with
  | some o => if o.es = size ∧ es = size ∧ off + len ≤ o.elems.length then some (some id, (o.elems.drop off).take len) else none
  | none => none
 | _ => none
theorem zk4 {F : FC} {o : Oper} {st : ASt} {d : Nat} {s x : Operand} {t t' e e' : TypeId} {i i' j : TI} {z : AV} {old : Option Nat} {olds xs : List AV}
  (ho : o.op = .call { callee := .builtin .append, args := #[s, x], argTypes := #[t, t'] }) (hdst : o.dst = some d) (hd : d < F.N) (ht : ti F.P t = some i) (hk : i.tk = .slice e) (ht' : ti F.P t' = some i') (hk' : i'.tk.srcK = .slice e')
  (hj : ti F.P e = some j) (hz : zeroA j = some z) (hzs : z.storable = true) (hzl : z.cells.length = j.size)
  (hb : baseA st.objs j.size (evA st.env s) = some (old, olds)) (hx : srcA st.objs (evA st.env x) = some xs) (hsz : ∀ y ∈ xs, y.cells.length = j.size)
  (hes : ∀ id es off len, evA st.env x = .osl id es off len → es = j.size ∧ xs.length = len ∧ ∃ o, st.objs id = some o ∧ o.es = j.size)
  (hfit : (olds.length + xs.length) * j.bytes ≤ 140737488355328) (h63 : olds.length + xs.length ≤ 9223372036854775807) :
  StepOK F o st (appSt st d j.size old (olds ++ xs)) := by
 refine StepOK.of_value (st1 := (((st.dropO old).kill d).obj d ⟨j.size, (olds ++ xs).map (AV.kill d)⟩)) (x := .osl d j.size 0 (olds ++ xs).length) (by rw [hdst]; exact hd) (by rw [hdst]; rfl) fun β S a w hsim => ?_
 have es := qj (a := a) hsim.env s
 have ex := qj (a := a) hsim.env x
 obtain ⟨news, hsrc⟩ := zjs hsim ex hx hsz hes
 obtain ⟨_, u1, _, hu1, _, _, _, hk1⟩ := ti_info ht
 rw [hk] at hk1
 have hu1' := wt hk1.symm
 subst hu1'
 obtain ⟨_, u2, _, hu2, _, _, _, hk2⟩ := ti_info ht'
 have hu' : (∃ e', u2 = .slice e') ∨ u2 = .string := by
  rw [hk2] at hk'
  cases u2 <;> first | exact .inl ⟨_, rfl⟩ | exact .inr rfl | (simp [z02, TK.srcK] at hk')
 obtain ⟨j', u3, hj', _, hjs, hjb, hjz, _⟩ := ti_info hj
 obtain ⟨zv, hzr, hzrep, hz1⟩ := Q9 (β := β) (S := S) (w := w) hj hz hzs
 have hzsz : zv.cells.size = j.size := by have := zy hzrep; simp at this; omega
 have hjzero : j'.zero = some zv := by
  simp only [zeroValue, typeInfo, Sem.run_bind, run_program, Result.andThen_ok, hj', Sem.run_pure] at hzr
  cases hh : j'.zero with
  | none => simp [hh] at hzr
  | some q => simp [hh] at hzr; rw [hzr]
 have hlenOf : ∀ w : World, (Builtin.lenOf (a.eval x)).run F.P w = .ok xs.length w := hsrc.lenr
 obtain ⟨hnl, hnget⟩ := ky hsz hsrc.rep hsrc.one
 -- the two ways that an append may go, once the row that was there is known
 generalize hst1 : st.dropO old = st1
 have hsim1 : SimB F β S st1 a.tmps w := by
  subst hst1
  cases old with
  | none => exact hsim
  | some id => exact hsim.drop id
 have main : ∀ (ab : Option Addr) (len cap : Nat), a.eval s = .slice ab len cap → len = olds.length → len ≤ cap →
   -- the old elements
   (∃ oldv : List Value, (Builtin.firstCells j.size len (.slice ab len cap)).run F.P w.drew = .ok oldv.toArray w.drew ∧ oldv.length = len * j.size ∧ ∀ (k : Nat) (y : AV), olds[k]? = some y → y.cells.length = j.size ∧ ∀ (m : Nat) (c : AV), y.cells[m]? = some c → ∃ v, oldv[k * j.size + m]? = some v ∧ v.oneCell' = true ∧ RepA β S w c v) →
   -- the source, a draw later
   ((Builtin.firstCells j.size xs.length (a.eval x)).run F.P w.drew = .ok news.toArray w.drew) →
   -- where the old row lies, if it has room
   (∀ (hroom : len + xs.length ≤ cap), (cap = 0 ∧ True) ∨ ∃ b s0 arr e0, ab = some ⟨b, s0, none⟩ ∧ w.heap[b]? = some (.cells arr e0 (0, 0)) ∧ (F.w0.heap.size ≤ b ∨ F.M0 b) ∧ (∀ i, ¬ S b i) ∧ (∀ i o b' s', st1.objs i = some o → β i = some (b', s') → b' ≠ b) ∧ s0 + cap * j.size ≤ arr.size ∧
     ∀ (k : Nat) (y : AV), olds[k]? = some y → y.cells.length = j.size ∧ ∀ (m : Nat) (c : AV), y.cells[m]? = some c → ∃ v, arr[s0 + k * j.size + m]? = some v ∧ v.oneCell' = true ∧ RepA β S w c v) →
   ∃ r w' β' S', (execOp a.eval o).run F.P w = .ok (.value r) w' ∧ RepA β' S' w' (.osl d j.size 0 (olds ++ xs).length) r ∧ SimB F β' S' ((st1.kill d).obj d ⟨j.size, (olds ++ xs).map (AV.kill d)⟩) a.tmps w' := by
  intro ab len cap hsv hlen hlc hold hnewd hroomy
  have hexec : ∀ {r w'}, (Builtin.append_ #[t, t'] o.type #[.slice ab len cap, a.eval x]).run F.P w = .ok r w' → (execOp a.eval o).run F.P w = .ok (.value r) w' := fun {r w'} h => by
   simp only [execOp, ho, resolve, Sem.run_bind, Sem.run_pure, Result.andThen_ok, invoke, builtin, List.map_toArray, List.map_cons, List.map_nil, hsv, h]
  by_cases hroom : len + xs.length ≤ cap
  ·rcases hroomy hroom with ⟨hcap0, _⟩ | ⟨b, s0, arr, e0, rfl, hh, hnew, hS, hfree, hz', hel⟩
   ·-- no room at all: nothing is appended to nothing
    have hl0 : olds = [] := List.eq_nil_of_length_eq_zero (by omega)
    have hx0 : xs = [] := List.eq_nil_of_length_eq_zero (by omega)
    have hn0 : news = [] := List.eq_nil_of_length_eq_zero (by rw [hnl, hx0]; simp)
    have hrun := ka (P := F.P) (w := w) (ty := o.type) (a := ab) (sLen := len) (sCap := cap) (w' := w) hu1 hu2 hu' hj' (hlenOf w) (by rw [← hjs]; exact hsrc.run) hroom (fun ad _ => by rw [hn0]; simp [storeCells]) (fun _ => rfl)
    refine ⟨_, w, upd β d none, S, hexec hrun, ?_, ?_⟩
    ·simp only [RepA]
     refine .inl ⟨upd_same _ _ _, by simp [hl0, hx0], ab, ?_⟩
     have e1 : len = 0 := by omega
     simp [e1, hx0, hcap0]
    ·rw [hl0, hx0]
     exact hsim1.introNil d j.size hd
   ·-- in place
    have hstl : s0 + len * j.size + news.length ≤ arr.size := by
     have : (len + xs.length) * j.size ≤ cap * j.size := Nat.mul_le_mul_right _ hroom
     rw [Nat.add_mul] at this
     omega
    have hst := run_storeCells_at F.P b (s0 + len * j.size) e0 news 0 arr w hh (by simpa using hstl) hsrc.one
    simp only [Nat.add_zero] at hst
    let cs : Array Value := (arr.toList.take (s0 + len * j.size) ++ news ++ arr.toList.drop (s0 + len * j.size + news.length)).toArray
    have hcs : cs.size = arr.size := by simp only [cs, List.size_toArray, List.length_append, List.length_take, List.length_drop, Array.length_toList]; omega
    have hrun := ka (P := F.P) (w := w) (ty := o.type) (a := some ⟨b, s0, none⟩) (sLen := len) (sCap := cap) (w' := w.setRow b cs) hu1 hu2 hu' hj' (hlenOf w) (by rw [← hjs]; exact hsrc.run) hroom
     (fun ad hadd => by
       simp only [Option.some.injEq] at hadd
       subst hadd
       rw [wo, ← hjs]
       exact hst) (fun h => by cases h)
    have hext : Ext (fun k => k = b) w (w.setRow b cs) := Ext.setRow _ w b cs arr e0 hh hcs rfl
    have hkeep : Keeps S S w (w.setRow b cs) := fun b' i hSb => ⟨hSb, xe (setRow_other w b b' cs (fun e => hS i (e ▸ hSb)))⟩
    have hsim2 : SimB F β S st1 a.tmps (w.setRow b cs) := hsim1.world hext (fun k hk he => by
      rcases hnew with h | h
      ·omega
      ·exact he ▸ h) hkeep hsim1.sub (fun b' i h => by simpa using hsim1.lt b' i h) hsim1.sep (fun i o b' s' hio hb' => setRow_other w b b' cs (hfree i o b' s' hio hb'))
    refine ⟨_, _, _, _, hexec hrun, ?_, hsim2.introObj d b s0 hd cs e0 j.size (olds ++ xs) (setRow_heap w b arr cs e0 _ hh) hnew hS (fun i o b' s' hio hb' => ?_) ?_ ?_⟩
    ·simp only [RepA]
     refine .inr ⟨b, s0, cap, cs, e0, some ⟨b, s0, none⟩, upd_same _ _ _, by simp [hlen], fun _ => by simp, by simp; omega, setRow_heap w b arr cs e0 _ hh, by rw [hcs]; simpa using hz'⟩
    ·simp only [ASt.kill] at hio
     split at hio
     ·simp at hio
     ·cases hq : st1.objs i with
      | none => simp [hq] at hio
      | some q => exact hfree i q b' s' hq hb'
    ·rw [hcs, List.length_append, ← hlen]
     have : (len + xs.length) * j.size ≤ cap * j.size := Nat.mul_le_mul_right _ hroom
     omega
    ·intro k y hy
     by_cases hkl : k < olds.length
     ·rw [List.getElem?_append_left hkl] at hy
      obtain ⟨h1, h2⟩ := hel k y hy
      refine ⟨h1, fun m c hc => ?_⟩
      obtain ⟨v, hv, h3, hr⟩ := h2 m c hc
      refine ⟨v, ?_, h3, hr.mono hkeep hext.shape⟩
      have hml : m < j.size := by have := (List.getElem?_eq_some_iff.1 hc).1; omega
      have : (k + 1) * j.size ≤ olds.length * j.size := Nat.mul_le_mul_right _ hkl
      rw [Nat.add_mul] at this
      simp only [cs]
      rw [Z4 hstl, if_pos (by rw [hlen]; omega)]
      exact hv
     ·rw [List.getElem?_append_right (by omega)] at hy
      refine ⟨hsz y (List.mem_of_getElem? hy), fun m c hc => ?_⟩
      obtain ⟨v, hv, h3, hr⟩ := hnget _ y hy m c hc
      refine ⟨v, ?_, h3, hr.mono hkeep hext.shape⟩
      have hml : m < j.size := by
       have h4 := hsz y (List.mem_of_getElem? hy)
       have := (List.getElem?_eq_some_iff.1 hc).1
       omega
      have hkx : k - olds.length < xs.length := (List.getElem?_eq_some_iff.1 hy).1
      have e1 : k * j.size = olds.length * j.size + (k - olds.length) * j.size := by rw [← Nat.add_mul]; congr 1; omega
      have e2 : (k - olds.length + 1) * j.size ≤ xs.length * j.size := Nat.mul_le_mul_right _ hkx
      rw [Nat.add_mul] at e2
      simp only [cs]
      rw [Z4 hstl, if_neg (by rw [hlen]; omega), if_pos (by rw [hlen, hnl]; omega)]
      rw [show s0 + k * j.size + m - (s0 + len * j.size) = (k - olds.length) * j.size + m from by rw [hlen]; omega]
      exact hv
  ·-- a new row
   obtain ⟨oldv, hov, hol, hoget⟩ := hold
   have hrun := Zv (P := F.P) (w := w) (ty := o.type) (a := ab) (sLen := len) (sCap := cap) hu1 hu2 hu' hj' hjzero (hlenOf w) (by rw [← hjs]; exact hnewd) (by rw [← hjs]; exact hov) (by omega) (by omega) (by rw [← hjb, hlen]; exact hfit)
   let NC := grownCap w (len + xs.length) cap e
   have hNC : len + xs.length ≤ NC := grownCap_ge w _ _ _
   let arr : Array Value := oldv.toArray ++ news.toArray ++ Builtin.zeroCells zv.cells (NC - (len + xs.length))
   have hasz : arr.size = NC * j.size := by
    simp only [arr, Array.size_append, List.size_toArray, size_zeroCells, hzsz, hol, hnl, ← Nat.add_mul]
    congr 1
    omega
   have hkeep : Keeps S S w (w.drew.alloc (.cells arr e)) := ya (w := w.drew) _ (fun _ _ h => h) hsim.lt
   have hshape : Shapes w (w.drew.alloc (.cells arr e)) := Shapes.alloc w.drew _
   have hsim2 : SimB F β S st1 a.tmps (w.drew.alloc (.cells arr e)) := hsim1.drew.world (Ext.alloc (fun _ => False) w.drew _) (fun _ _ h => h.elim) hkeep hsim1.sub (fun b i h => by simp only [World.size_alloc]; exact Nat.lt_succ_of_lt (hsim1.lt b i h)) hsim1.sep
    (fun i o b s hio hb => RowKit.Below.heap_alloc w.drew _ b (hsim1.block_lt hio hb))
   have hnewb : (w.drew.alloc (.cells arr e)).heap[w.heap.size]? = some (.cells arr e (0, 0)) := heap_alloc_new w.drew _
   refine ⟨_, _, _, _, hexec hrun, ?_, hsim2.introObj d w.heap.size 0 hd arr e j.size (olds ++ xs) hnewb (.inl hsim.ext.size) (fun i h => by have := hsim.lt _ i h; omega) (fun i o b' s' hio hb' => ?_) ?_ ?_⟩
   ·simp only [RepA]
    refine .inr ⟨w.heap.size, 0, NC, arr, e, _, upd_same _ _ _, by rw [List.length_append, ← hlen], fun _ => by simp, by rw [List.length_append, ← hlen]; exact hNC, hnewb, by rw [hasz, Nat.zero_add, Nat.zero_add]; exact Nat.le_refl _⟩
   ·simp only [ASt.kill] at hio
    split at hio
    ·simp at hio
    ·cases hq : st1.objs i with
     | none => simp [hq] at hio
     | some q => have := hsim1.block_lt hq hb'; omega
   ·rw [hasz, List.length_append, ← hlen, Nat.zero_add]
    exact Nat.mul_le_mul_right _ hNC
   ·have hget : ∀ q v, (oldv ++ news)[q]? = some v → arr[q]? = some v := fun q v hq => by
     have hql : q < (oldv ++ news).length := (List.getElem?_eq_some_iff.1 hq).1
     simp only [arr]
     rw [Array.getElem?_append_left (by simpa using hql)]
     simpa using hq
    intro k y hy
    by_cases hkl : k < olds.length
    ·rw [List.getElem?_append_left hkl] at hy
     obtain ⟨h1, h2⟩ := hoget k y hy
     refine ⟨h1, fun m c hc => ?_⟩
     obtain ⟨v, hv, h3, hr⟩ := h2 m c hc
     refine ⟨v, ?_, h3, hr.mono hkeep hshape⟩
     have hvl : k * j.size + m < oldv.length := (List.getElem?_eq_some_iff.1 hv).1
     rw [Nat.zero_add]
     exact hget _ v (by rw [List.getElem?_append_left hvl]; exact hv)
    ·rw [List.getElem?_append_right (by omega)] at hy
     refine ⟨hsz y (List.mem_of_getElem? hy), fun m c hc => ?_⟩
     obtain ⟨v, hv, h3, hr⟩ := hnget _ y hy m c hc
     refine ⟨v, ?_, h3, hr.mono hkeep hshape⟩
     have e1 : k * j.size = olds.length * j.size + (k - olds.length) * j.size := by rw [← Nat.add_mul]; congr 1; omega
     rw [Nat.zero_add]
     refine hget _ v ?_
     rw [List.getElem?_append_right (by rw [hol, hlen]; omega), hol, hlen]
     rw [show k * j.size + m - olds.length * j.size = (k - olds.length) * j.size + m from by omega]
     exact hv
 have hnewd := hsrc.rund
 -- the row that was there
 unfold baseA at hb
 split at hb <;> try (simp at hb; done)
 ·rename_i hsn
  simp only [Option.some.injEq, Prod.mk.injEq] at hb
  obtain ⟨rfl, rfl⟩ := hb
  rw [hsn] at es
  simp only [RepA] at es
  obtain ⟨ab, hsv⟩ := es
  refine main ab 0 0 hsv rfl (Nat.le_refl _) ⟨[], by cases ab <;> simp [Builtin.firstCells, loadCells, loadCellsFrom], by simp, fun k y hy => by simp at hy⟩ hnewd fun _ => .inl ⟨rfl, trivial⟩
 ·rename_i id es' off len hsn
  split at hb <;> try (simp at hb; done)
  rename_i ob hob
  split at hb <;> try (simp at hb; done)
  rename_i hcond
  obtain ⟨hoes, rfl, hofl⟩ := hcond
  simp only [Option.some.injEq, Prod.mk.injEq] at hb
  obtain ⟨rfl, rfl⟩ := hb
  rw [hsn] at es
  have holdl : len = ((ob.elems.drop off).take len).length := by simp; omega
  simp only [RepA] at es
  rcases es with ⟨hn, rfl, ab, hsv⟩ | ⟨b, s0, cap, arr, e0, ab, hbb, hsv, had, hlc, hh, hzc⟩
  ·refine main ab 0 0 hsv (by simp) (Nat.le_refl _) ⟨[], by cases ab <;> simp [Builtin.firstCells, loadCells, loadCellsFrom], by simp, fun k y hy => by simp at hy⟩ hnewd fun _ => .inl ⟨rfl, trivial⟩
  ·rcases hsim.obj id ob hob with ⟨hn, _⟩ | ⟨b', s', arr', e', hb', hw, hh', hz', hel⟩ | hm
   rotate_left 2
   ·exact (hm.noCells hbb ⟨_, _, hh⟩).elim
   ·rw [hn] at hbb; cases hbb
   rw [hb'] at hbb
   simp only [Option.some.injEq, Prod.mk.injEq] at hbb
   obtain ⟨rfl, rfl⟩ := hbb
   rw [hh'] at hh
   simp only [Option.some.injEq, Obj.cells.injEq, and_true] at hh
   obtain ⟨rfl, rfl⟩ := hh
   rw [hoes] at hel
   have helold : ∀ (k : Nat) (y : AV), ((ob.elems.drop off).take len)[k]? = some y → y.cells.length = j.size ∧ ∀ (m : Nat) (c : AV), y.cells[m]? = some c → ∃ v, arr'[s' + off * j.size + k * j.size + m]? = some v ∧ v.oneCell' = true ∧ RepA β S w c v := fun k y hy => by
    rw [List.getElem?_take] at hy
    split at hy
    ·rw [List.getElem?_drop] at hy
     obtain ⟨h1, h2⟩ := hel _ y hy
     refine ⟨h1, fun m c hc => ?_⟩
     obtain ⟨v, hv, h3, hr⟩ := h2 m c hc
     rw [cell_of_row w b' _ arr' e' _ hh'] at hv
     rw [Nat.add_mul, ← Nat.add_assoc] at hv
     exact ⟨v, hv, h3, hr⟩
    ·simp at hy
   by_cases hcap : cap = 0
   ·subst hcap
    have hl0 : len = 0 := by omega
    subst hl0
    refine main ab 0 0 hsv (by simp) (Nat.le_refl _) ⟨[], by cases ab <;> simp [Builtin.firstCells, loadCells, loadCellsFrom], by simp, fun k y hy => by simp at hy⟩ hnewd fun _ => .inl ⟨rfl, trivial⟩
   ·have had' := had (by omega)
    subst had'
    have hmc : MemC β S w (((ob.elems.drop off).take len).map AV.cells).flatten b' (s' + off * j.size) := jm (n := j.size) fun k y hy => by
     obtain ⟨h1, h2⟩ := helold k y hy
     refine ⟨h1, fun m c hc => ?_⟩
     obtain ⟨v, hv, h3, hr⟩ := h2 m c hc
     exact ⟨v, by rw [cell_of_row w b' _ arr' e' _ hh']; exact hv, h3, hr⟩
    obtain ⟨vs, hvl, hvc, hvr⟩ := Zq hmc
    have hszo : ∀ y ∈ (ob.elems.drop off).take len, y.cells.length = j.size := fun y hy => by
     obtain ⟨k, hk⟩ := List.getElem?_of_mem hy
     exact (helold k y hk).1
    obtain ⟨hol, hoget⟩ := ky hszo hvr (fun u hu => by obtain ⟨q, hq⟩ := List.getElem?_of_mem hu; exact (hvc q u hq).2)
    rw [← holdl] at hol
    refine main _ len cap hsv holdl hlc ⟨vs, run_firstCells_some (P := F.P) w.drew j.size len ⟨b', s' + off * j.size, none⟩ len cap vs hol (fun q u hu => by rw [wo, World.cell?_drew]; exact (hvc q u hu).1), hol, fun k y hy => ⟨(helold k y hy).1, hoget k y hy⟩⟩ hnewd fun _ => .inr ?_
    refine ⟨b', s' + off * j.size, arr', e', rfl, hh', hw, fun q => hsim.sep id ob b' s' q hob hb', fun i o b1 s1 hio hb1 e1 => ?_, ?_, helold⟩
    ·subst e1
     subst hst1
     simp only [ASt.dropO, ASt.drop] at hio
     by_cases hi : i = id
     ·subst hi; simp at hio
     ·rw [qo _ _ hi] at hio
      exact hi (hsim.inj i id o ob b1 s1 s' hio hob hb1 hb')
    ·rw [Nat.add_mul] at hzc
     omega
theorem zfv {F : FC} {o : Oper} {st : ASt} {d : Nat} {s x : Operand} {t t' e e' : TypeId} {i i' j : TI} {z : AV} {l ds : List Dat}
  (ho : o.op = .call { callee := .builtin .append, args := #[s, x], argTypes := #[t, t'] }) (hdst : o.dst = some d) (hd : d < F.N) (ht : ti F.P t = some i) (hk : i.tk = .slice e) (ht' : ti F.P t' = some i') (hk' : i'.tk.srcK = .slice e')
  (hj : ti F.P e = some j) (hz : zeroA j = some z) (hzs : z.storable = true) (hzl : z.cells.length = j.size)
  (hb : evA st.env s = .lits l) (hx : srcA st.objs (evA st.env x) = some (ds.map .dat)) (hl : ∀ y ∈ l, y.cells.length = j.size) (hsz : ∀ y ∈ ds, y.cells.length = j.size)
  (hes : ∀ id es off len, evA st.env x = .osl id es off len → es = j.size ∧ ds.length = len ∧ ∃ o, st.objs id = some o ∧ o.es = j.size)
  (hfit : (l.length + ds.length) * j.bytes ≤ 140737488355328) (h63 : l.length + ds.length ≤ 9223372036854775807) :
  StepOK F o st (st.put (some d) (.dat (.sl (l ++ ds)))) := by
 refine StepOK.of_value (st1 := st) (by rw [hdst]; exact hd) (by rw [hdst]) fun β S a w hsim => ?_
 have es := qj (a := a) hsim.env s
 have ex := qj (a := a) hsim.env x
 rw [hb] at es
 simp only [RepA] at es
 obtain ⟨esz, ab, hsv, hrs⟩ := es
 have hszA : ∀ y ∈ ds.map AV.dat, y.cells.length = j.size := fun y hy => by
  obtain ⟨q, hq, rfl⟩ := List.mem_map.1 hy
  rw [xt]; simpa using hsz q hq
 obtain ⟨news, hsrc⟩ := zjs hsim ex hx hszA (fun id es off len h => by
  obtain ⟨h1, h2, h3⟩ := hes id es off len h
  exact ⟨h1, by simpa using h2, h3⟩)
 obtain ⟨_, u1, _, hu1, _, _, _, hk1⟩ := ti_info ht
 rw [hk] at hk1
 have hu1' := wt hk1.symm
 subst hu1'
 obtain ⟨_, u2, _, hu2, _, _, _, hk2⟩ := ti_info ht'
 have hu' : (∃ e', u2 = .slice e') ∨ u2 = .string := by
  rw [hk2] at hk'
  cases u2 <;> first | exact .inl ⟨_, rfl⟩ | exact .inr rfl | (simp [z02, TK.srcK] at hk')
 obtain ⟨j', u3, hj', _, hjs, hjb, hjz, _⟩ := ti_info hj
 obtain ⟨zv, hzr, hzrep, hz1⟩ := Q9 (β := β) (S := S) (w := w) hj hz hzs
 have hzsz : zv.cells.size = j.size := by have := zy hzrep; simp at this; omega
 have hjzero : j'.zero = some zv := by
  simp only [zeroValue, typeInfo, Sem.run_bind, run_program, Result.andThen_ok, hj', Sem.run_pure] at hzr
  cases hh : j'.zero with
  | none => simp [hh] at hzr
  | some q => simp [hh] at hzr; rw [hzr]
 have hlenOf : ∀ w : World, (Builtin.lenOf (a.eval x)).run F.P w = .ok ds.length w := fun w => by have := hsrc.lenr w; simpa using this
 obtain ⟨hnl, hnget⟩ := ky hszA hsrc.rep hsrc.one
 rw [List.length_map] at hnl
 have hrun0 := hsrc.run
 have hrund0 := hsrc.rund
 rw [List.length_map] at hrun0 hrund0
 have hexec : ∀ {r w'}, (Builtin.append_ #[t, t'] o.type #[.slice ab l.length l.length, a.eval x]).run F.P w = .ok r w' → (execOp a.eval o).run F.P w = .ok (.value r) w' := fun {r w'} h => by
  simp only [execOp, ho, resolve, Sem.run_bind, Sem.run_pure, Result.andThen_ok, invoke, builtin, List.map_toArray, List.map_cons, List.map_nil, hsv, h]
 by_cases hn0 : ds = []
 ·subst hn0
  have hnn : news = [] := List.eq_nil_of_length_eq_zero (by rw [hnl]; simp)
  have hrun := ka (P := F.P) (w := w) (ty := o.type) (a := ab) (sLen := l.length) (sCap := l.length) (w' := w) hu1 hu2 hu' hj' (hlenOf w) (by rw [← hjs]; exact hrun0) (by simp) (fun ad _ => by rw [hnn]; simp [storeCells]) (fun _ => rfl)
  refine ⟨_, w, β, S, hexec hrun, ?_, hsim⟩
  simp only [RepA, RepX, List.append_nil]
  exact ⟨esz, ab, l.length, by simp, Nat.le_refl _, hrs⟩
 ·have hpos : 0 < ds.length := List.length_pos_iff.2 hn0
  -- the literal's cells
  have hmemL : ∃ oldv : List Value, (Builtin.firstCells j.size l.length (.slice ab l.length l.length)).run F.P w.drew = .ok oldv.toArray w.drew ∧ oldv.length = l.length * j.size ∧
    ∀ (k : Nat) (y : AV), (l.map AV.dat)[k]? = some y → ∀ (m : Nat) (c : AV), y.cells[m]? = some c → ∃ v, oldv[k * j.size + m]? = some v ∧ v.oneCell' = true ∧ RepA β S w c v := by
   cases hl0 : l with
   | nil => exact ⟨[], by cases ab <;> simp [Builtin.firstCells, loadCells, loadCellsFrom], by simp, fun k y hy => by simp at hy⟩
   | cons d0 l0 =>
    obtain ⟨b, off, rfl, hcl, _⟩ := v7 hrs (i := 0) (d := d0) (by simp [hl0])
    obtain rfl : esz = j.size := by have := hl d0 (by simp [hl0]); omega
    rw [← hl0]
    have hmc : MemC β S w ((l.map AV.dat).map AV.cells).flatten b off := jm (n := j.size) fun k y hy => by
     rw [List.getElem?_map] at hy
     cases hdk : l[k]? with
     | none => simp [hdk] at hy
     | some dk =>
      simp only [hdk, Option.map_some, Option.some.injEq] at hy
      subst hy
      obtain ⟨b', o', ha, hcl', hrc⟩ := v7 hrs hdk
      simp only [Option.some.injEq, Addr.mk.injEq, and_true] at ha
      obtain ⟨rfl, rfl⟩ := ha
      rw [xt]
      exact ⟨by simpa using hcl', Q2 hrc⟩
    obtain ⟨vs, hvl, hvc, hvr⟩ := Zq hmc
    have hszL : ∀ y ∈ l.map AV.dat, y.cells.length = j.size := fun y hy => by
     obtain ⟨q, hq, rfl⟩ := List.mem_map.1 hy
     rw [xt]; simpa using hl q hq
    obtain ⟨hol, hoget⟩ := ky hszL hvr (fun u hu => by obtain ⟨q, hq⟩ := List.getElem?_of_mem hu; exact (hvc q u hq).2)
    rw [List.length_map] at hol
    exact ⟨vs, run_firstCells_some (P := F.P) w.drew j.size l.length ⟨b, off, none⟩ l.length l.length vs hol (fun q u hu => by rw [wo, World.cell?_drew]; exact (hvc q u hu).1), hol, hoget⟩
  obtain ⟨oldv, hov, hol, hoget⟩ := hmemL
  have hrun := Zv (P := F.P) (w := w) (ty := o.type) (a := ab) (sLen := l.length) (sCap := l.length) hu1 hu2 hu' hj' hjzero (hlenOf w) (by rw [← hjs]; exact hrund0) (by rw [← hjs]; exact hov) (by omega) (by omega) (by rw [← hjb]; exact hfit)
  let NC := grownCap w (l.length + ds.length) l.length e
  have hNC : l.length + ds.length ≤ NC := grownCap_ge w _ _ _
  let arr : Array Value := oldv.toArray ++ news.toArray ++ Builtin.zeroCells zv.cells (NC - (l.length + ds.length))
  have hsim2 := hsim.drew.newDat (.cells arr e)
  have hnewb : (w.drew.alloc (.cells arr e)).heap[w.heap.size]? = some (.cells arr e (0, 0)) := heap_alloc_new w.drew _
  have hkeep : Keeps S (fun b i => S b i ∨ b = w.heap.size) w (w.drew.alloc (.cells arr e)) := ya (w := w.drew) _ (fun _ _ h => .inl h) hsim.lt
  refine ⟨_, _, _, _, hexec hrun, ?_, hsim2⟩
  simp only [RepA, RepX]
  refine ⟨j.size, _, NC, by rw [List.length_append], by rw [List.length_append]; exact hNC, ?_⟩
  have hget : ∀ q v, (oldv ++ news)[q]? = some v → arr[q]? = some v := fun q v hq => by
   have hql : q < (oldv ++ news).length := (List.getElem?_eq_some_iff.1 hq).1
   simp only [arr]
   rw [Array.getElem?_append_left (by simpa using hql)]
   simpa using hq
  refine z7p (β := β) (S := S) (w := w) (arr := arr) (e := e) (fr := (0, 0)) hkeep (Shapes.alloc w.drew _) hnewb (fun _ => .inr rfl) 0 fun k y hy => ?_
  rw [List.map_append] at hy
  by_cases hkl : k < l.length
  ·rw [List.getElem?_append_left (by simpa using hkl)] at hy
   refine ⟨?_, fun m c hc => ?_⟩
   ·obtain ⟨q, hq, rfl⟩ := List.mem_map.1 (List.mem_of_getElem? hy)
    rw [xt]; simpa using hl q hq
   ·obtain ⟨v, hv, h3, hr⟩ := hoget k y hy m c hc
    have hvl : k * j.size + m < oldv.length := (List.getElem?_eq_some_iff.1 hv).1
    exact ⟨v, by rw [Nat.zero_add]; exact hget _ v (by rw [List.getElem?_append_left hvl]; exact hv), h3, hr⟩
  ·rw [List.getElem?_append_right (by simp; omega), List.length_map] at hy
   refine ⟨hszA y (List.mem_of_getElem? hy), fun m c hc => ?_⟩
   obtain ⟨v, hv, h3, hr⟩ := hnget _ y hy m c hc
   have e1 : k * j.size = l.length * j.size + (k - l.length) * j.size := by rw [← Nat.add_mul]; congr 1; omega
   refine ⟨v, ?_, h3, hr⟩
   rw [Nat.zero_add]
   refine hget _ v ?_
   rw [List.getElem?_append_right (by rw [hol]; omega), hol]
   rw [show k * j.size + m - l.length * j.size = (k - l.length) * j.size + m from by omega]
   exact hv
def km (f : AV → Option Dat) : List AV → Option (List Dat)
 | [] => some []
 | x :: l => match f x, km f l with
  | some d, some ds => some (d :: ds)
  | _, _ => none
def xx (f : AV → Option Dat) (l : List AV) : Option (List Dat) :=
 match vz l with
 | some ds => some ds
 | none => km f l
def wb (objs : Nat → Option AObj) : Nat → AV → Option Dat
 | 0, x => match x with
  | .dat d => some d
  | .nils => some (.sl [])
  | .rp d 0 => some (.ref d)
  | _ => none
 | n + 1, x => match x with
  | .dat d => some d
  | .nils => some (.sl [])
  | .rp d 0 => some (.ref d)
  | .osl id es off len => match objs id with
   | some o => if o.es = es ∧ off + len ≤ o.elems.length then (xx (wb objs n) ((o.elems.drop off).take len)).map .sl else none
   | none => none
  | .ptr id es k 0 => match objs id with
   | some o => if o.es = es then (match o.elems[k]? with
    | some x => (wb objs n x).map .ref
    | none => none) else none
   | none => none
  | .agg l => match xx (wb objs n) l with
   | some ds => if ds.all (fun d => !d.isAgg) then some (.agg ds) else none
   | none => none
  | .fn f caps => (xx (wb objs n) caps).map (.fn f)
  | .isl id es k off len _ => match objs id with
   | some o => if o.es = es then (match o.elems[k]? with
    | some (.dat (.agg l)) => if off + len ≤ l.length then some (.sl ((l.drop off).take len)) else none
    | _ => none) else none
   | none => none
  | _ => none
theorem zed {f : AV → Option Dat} : ∀ {l : List AV} {ds : List Dat}, km f l = some ds → ds.length = l.length ∧ ∀ (i : Nat) (x : AV), l[i]? = some x → ∃ d, ds[i]? = some d ∧ f x = some d
 | [], ds, h => by simp [km] at h; subst h; simp
 | x :: l, ds, h => by
  simp only [km] at h
  split at h <;> try (simp at h; done)
  rename_i d ds' hd hds
  simp only [Option.some.injEq] at h
  subst h
  obtain ⟨h1, h2⟩ := zed hds
  refine ⟨by simp [h1], fun i y hy => ?_⟩
  cases i with
  | zero => simp at hy; subst hy; exact ⟨d, by simp, hd⟩
  | succ i => simpa using h2 i y (by simpa using hy)
theorem z4y {f : AV → Option Dat} (hf : ∀ d, f (.dat d) = some d) {l : List AV} {ds : List Dat} (h : xx f l = some ds) : ds.length = l.length ∧ ∀ (i : Nat) (x : AV), l[i]? = some x → ∃ d, ds[i]? = some d ∧ f x = some d := by
 unfold xx at h
 split at h
 ·rename_i ds' hds
  simp only [Option.some.injEq] at h
  subst h
  have := z2p hds
  subst this
  refine ⟨by simp, fun i x hx => ?_⟩
  rw [List.getElem?_map] at hx
  cases hd : ds'[i]? with
  | none => simp [hd] at hx
  | some d =>
   simp only [hd, Option.map_some, Option.some.injEq] at hx
   subst hx
   exact ⟨d, rfl, hf d⟩
 ·exact zed h
theorem z4x (objs : Nat → Option AObj) (n : Nat) (d : Dat) : wb objs n (.dat d) = some d := by cases n <;> rfl
theorem zjm {S : Nat → Nat → Prop} {w : World} : ∀ {l : List Dat} {vs : List Value}, vs.length = l.length → (∀ (i : Nat) (d : Dat), l[i]? = some d → ∃ v, vs[i]? = some v ∧ RepX S w d v) → RepV S w l vs
 | [], vs, hl, _ => by simp [RepV]; exact List.eq_nil_of_length_eq_zero (by simpa using hl)
 | x :: ds, vs, hl, h => by
  simp only [RepV]
  cases vs with
  | nil => simp at hl
  | cons v vs' =>
   refine ⟨v, vs', rfl, ?_, zjm (by simpa using hl) fun i d hd => by simpa using h (i + 1) d (by simpa using hd)⟩
   obtain ⟨v', hv', hr⟩ := h 0 x (by simp)
   simp at hv'
   exact hv' ▸ hr
def Ze (st : ASt) (β : zg) (S : Nat → Nat → Prop) : Nat → Nat → Prop := fun b i => S b i ∨ ∃ id o s, st.objs id = some o ∧ β id = some (b, s)
theorem z8h {β : zg} {S S1 : Nat → Nat → Prop} {w : World} {x : AV} {d : Dat} {b o : Nat} (hk : Keeps S S1 w w) (hd : (∃ d', x = .dat d' ∧ d = d') ∨ (∃ l ds, x = .agg l ∧ d = .agg ds ∧ ds.length = l.length ∧ (∀ d ∈ ds, d.isAgg = false) ∧ ∀ (i : Nat) (c : AV), l[i]? = some c → ∃ dc, ds[i]? = some dc ∧ ∀ v, RepA β S w c v → RepX S1 w dc v) ∨
   (x.cells = [x] ∧ d.isAgg = false ∧ ∀ v, RepA β S w x v → RepX S1 w d v))
  (hm : MemC β S w x.cells b o) (hb : ∀ i, S1 b i) : d.cells.length = x.cells.length ∧ RepC S1 w d.cells b o := by
 rcases hd with ⟨d', rfl, rfl⟩ | ⟨l, ds, rfl, rfl, hl, hna, hc⟩ | ⟨hcell, hna, hr⟩
 ·rw [xt] at hm ⊢
  refine ⟨by simp, Q3 fun i c hci => ⟨hb _, ?_⟩⟩
  obtain ⟨v, hv, h1, hrv⟩ := hm i (.dat c) (by simp [hci])
  simp only [RepA] at hrv
  refine ⟨v, hv, Rep1.mono hk c v (xf ?_ hrv)⟩
  cases c <;> simp [Dat.isAgg]
  simp only [RepX] at hrv
  obtain ⟨cs, rfl, _⟩ := hrv
  simp [Value.oneCell'] at h1
 ·simp only [AV.cells, Dat.cells] at hm ⊢
  refine ⟨hl, Q3 fun i dc hdc => ⟨hb _, ?_⟩⟩
  have hlt : i < l.length := by have := (List.getElem?_eq_some_iff.1 hdc).1; omega
  obtain ⟨v, hv, h1, hrv⟩ := hm i l[i] (List.getElem?_eq_getElem hlt)
  obtain ⟨dc', hdc', hr⟩ := hc i l[i] (List.getElem?_eq_getElem hlt)
  rw [hdc] at hdc'
  simp only [Option.some.injEq] at hdc'
  subst hdc'
  exact ⟨v, hv, xf (hna _ (List.mem_of_getElem? hdc)) (hr v hrv)⟩
 ·have hdc : d.cells = [d] := by cases d <;> simp_all [Dat.isAgg]
  rw [hcell] at hm ⊢
  rw [hdc]
  refine ⟨rfl, Q3 fun i dc hi => ⟨hb _, ?_⟩⟩
  cases i with
  | zero =>
   simp at hi; subst hi
   obtain ⟨v, hv, h1, hrv⟩ := hm 0 x (by simp)
   exact ⟨v, hv, xf hna (hr v hrv)⟩
  | succ i => simp at hi
theorem kd {F : FC} {β : zg} {S : Nat → Nat → Prop} {st : ASt} {tm : Array Value} {w : World} (hs : SimB F β S st tm w) : ∀ (n : Nat) (x : AV) (d : Dat), wb st.objs n x = some d →
  (∀ v, RepA β S w x v → RepX (Ze st β S) w d v) ∧ (∀ b o, MemC β S w x.cells b o → (∀ i, Ze st β S b i) → d.cells.length = x.cells.length ∧ RepC (Ze st β S) w d.cells b o) := by
 have hk : Keeps S (Ze st β S) w w := Keeps.wider w fun b i h => .inl h
 have kdat : ∀ (d : Dat), (∀ v, RepA β S w (.dat d) v → RepX (Ze st β S) w d v) ∧ (∀ b o, MemC β S w (AV.dat d).cells b o → (∀ i, Ze st β S b i) → d.cells.length = (AV.dat d).cells.length ∧ RepC (Ze st β S) w d.cells b o) := fun d =>
  ⟨fun v h => by simp only [RepA] at h; exact RepX.mono hk d v h, fun b o hm hb => z8h hk (.inl ⟨d, rfl, rfl⟩) hm hb⟩
 have single : ∀ (x : AV) (d : Dat), x.cells = [x] → d.isAgg = false → (∀ v, RepA β S w x v → RepX (Ze st β S) w d v) → (∀ v, RepA β S w x v → RepX (Ze st β S) w d v) ∧ (∀ b o, MemC β S w x.cells b o → (∀ i, Ze st β S b i) → d.cells.length = x.cells.length ∧ RepC (Ze st β S) w d.cells b o) := fun x d h1 h2 h3 =>
  ⟨h3, fun b o hm hb => z8h hk (.inr (.inr ⟨h1, h2, h3⟩)) hm hb⟩
 have knils : (∀ v, RepA β S w .nils v → RepX (Ze st β S) w (.sl []) v) := fun v h => by
  simp only [RepA] at h
  obtain ⟨a, rfl⟩ := h
  simp only [RepX]
  exact ⟨0, a, 0, rfl, Nat.le_refl _, by simp [RepS]⟩
 have krp : ∀ d, (∀ v, RepA β S w (.rp d 0) v → RepX (Ze st β S) w (.ref d) v) := fun d v h => by
  simp only [RepA] at h
  obtain ⟨b, o, rfl, hr⟩ := h
  simp only [RepX]
  exact ⟨b, o, by simp, RepAt.mono hk d b o hr⟩
 intro n
 induction n with
 | zero =>
  intro x d h
  unfold wb at h
  split at h <;> simp at h <;> subst h
  ·exact kdat _
  ·exact single _ _ rfl rfl knils
  ·exact single _ _ rfl rfl (krp _)
 | succ n ih =>
  intro x d h
  unfold wb at h
  split at h
  ·simp at h; subst h; exact kdat _
  ·simp at h; subst h; exact single _ _ rfl rfl knils
  ·simp at h; subst h; exact single _ _ rfl rfl (krp _)
  ·rename_i id es off len
   split at h <;> try (simp at h; done)
   rename_i ob hob
   split at h <;> try (simp at h; done)
   rename_i hcond
   obtain ⟨rfl, hol⟩ := hcond
   cases hv : xx (wb st.objs n) ((ob.elems.drop off).take len) with
   | none => simp [hv] at h
   | some ds =>
    simp only [hv, Option.map_some, Option.some.injEq] at h
    subst h
    obtain ⟨hdl, hget⟩ := z4y (z4x st.objs n) hv
    have hlen : ds.length = len := by rw [hdl]; simp; omega
    refine single _ _ rfl rfl fun v hr => ?_
    simp only [RepA] at hr
    simp only [RepX]
    rcases hr with ⟨hn, rfl, a, rfl⟩ | ⟨b, s, cap, arr, e, a, hb, rfl, ha, hc, hh, hz⟩
    ·have : ds = [] := List.eq_nil_of_length_eq_zero hlen
     subst this
     exact ⟨0, a, 0, rfl, Nat.le_refl _, by simp [RepS]⟩
    ·refine ⟨ob.es, a, cap, by rw [hlen], by omega, ?_⟩
     by_cases hl0 : len = 0
     ·have : ds = [] := List.eq_nil_of_length_eq_zero (by omega)
      subst this
      simp [RepS]
     ·have ha' := ha (by omega)
      subst ha'
      rcases hs.obj id ob hob with ⟨hn, _⟩ | ⟨b', s', arr', e', hb', hw, hh', hz', hel⟩ | hm
      rotate_left 2
      ·exact (hm.noCells hb ⟨_, _, hh⟩).elim
      ·rw [hn] at hb; cases hb
      rw [hb'] at hb
      simp only [Option.some.injEq, Prod.mk.injEq] at hb
      obtain ⟨rfl, rfl⟩ := hb
      refine Q4 fun i dc hdc => ?_
      have hil : i < len := by have := (List.getElem?_eq_some_iff.1 hdc).1; omega
      have hoi : off + i < ob.elems.length := by omega
      obtain ⟨dc', hdc', hview⟩ := hget i ob.elems[off + i] (by rw [List.getElem?_take, if_pos hil, List.getElem?_drop]; exact List.getElem?_eq_getElem hoi)
      rw [hdc] at hdc'
      simp only [Option.some.injEq] at hdc'
      subst hdc'
      obtain ⟨h1, h2⟩ := hel (off + i) _ (List.getElem?_eq_getElem hoi)
      obtain ⟨h3, h4⟩ := (ih _ _ hview).2 b' _ h2 (fun i => .inr ⟨id, ob, s', hob, hb'⟩)
      refine ⟨by omega, ?_⟩
      rwa [Nat.add_mul, ← Nat.add_assoc] at h4
  ·rename_i id es k
   split at h <;> try (simp at h; done)
   rename_i ob hob
   split at h <;> try (simp at h; done)
   rename_i hes
   subst hes
   split at h <;> try (simp at h; done)
   rename_i y hy
   cases hv : wb st.objs n y with
   | none => simp [hv] at h
   | some dy =>
    simp only [hv, Option.map_some, Option.some.injEq] at h
    subst h
    refine single _ _ rfl rfl fun v hr => ?_
    simp only [RepA] at hr
    obtain ⟨b, s, hb, rfl, hcl⟩ := hr
    simp only [RepX]
    rcases hs.obj id ob hob with ⟨hn, _⟩ | ⟨b', s', arr', e', hb', hw, hh', hz', hel⟩ | hm
    rotate_left 2
    ·exact (hm.noCells hb hcl).elim
    ·rw [hn] at hb; cases hb
    rw [hb'] at hb
    simp only [Option.some.injEq, Prod.mk.injEq] at hb
    obtain ⟨rfl, rfl⟩ := hb
    obtain ⟨h3, h4⟩ := (ih _ _ hv).2 b' _ (hel k y hy).2 (fun i => .inr ⟨id, ob, s', hob, hb'⟩)
    exact ⟨b', s' + k * ob.es, by simp, (vn _ _ _).2 h4⟩
  ·rename_i l
   split at h <;> try (simp at h; done)
   rename_i ds hv
   split at h <;> try (simp at h; done)
   rename_i hall
   simp only [Option.some.injEq] at h
   subst h
   obtain ⟨hdl, hget⟩ := z4y (z4x st.objs n) hv
   have hna : ∀ d ∈ ds, d.isAgg = false := fun d hd => by simpa using List.all_eq_true.1 hall d hd
   have hcell : ∀ (i : Nat) (c : AV), l[i]? = some c → ∃ dc, ds[i]? = some dc ∧ ∀ v, RepA β S w c v → RepX (Ze st β S) w dc v := fun i c hc => by
    obtain ⟨dc, h1, h2⟩ := hget i c hc
    exact ⟨dc, h1, (ih _ _ h2).1⟩
   refine ⟨fun v hr => ?_, fun b o hm hb => z8h hk (.inr (.inl ⟨l, ds, rfl, rfl, hdl, hna, hcell⟩)) hm hb⟩
   simp only [RepA] at hr
   obtain ⟨cs, rfl, hr⟩ := hr
   simp only [RepX]
   refine ⟨cs, rfl, zc4 (by rw [zy hr, hdl]) fun i dc hdc => ?_⟩
   have hlt : i < l.length := by have := (List.getElem?_eq_some_iff.1 hdc).1; omega
   obtain ⟨u, hu, hru⟩ := xu hr (List.getElem?_eq_getElem hlt)
   obtain ⟨dc', h1, h2⟩ := hcell i _ (List.getElem?_eq_getElem hlt)
   rw [hdc] at h1
   simp only [Option.some.injEq] at h1
   subst h1
   exact ⟨u, hu, xf (hna _ (List.mem_of_getElem? hdc)) (h2 u hru)⟩
  ·rename_i f caps
   cases hv : xx (wb st.objs n) caps with
   | none => simp [hv] at h
   | some ds =>
    simp only [hv, Option.map_some, Option.some.injEq] at h
    subst h
    obtain ⟨hdl, hget⟩ := z4y (z4x st.objs n) hv
    refine single _ _ rfl rfl fun v hr => ?_
    simp only [RepA] at hr
    obtain ⟨vs, rfl, hr⟩ := hr
    simp only [RepX]
    refine ⟨vs, rfl, zjm (by rw [zy hr, hdl]) fun i dc hdc => ?_⟩
    have hlt : i < caps.length := by have := (List.getElem?_eq_some_iff.1 hdc).1; omega
    obtain ⟨u, hu, hru⟩ := xu hr (List.getElem?_eq_getElem hlt)
    obtain ⟨dc', h1, h2⟩ := hget i _ (List.getElem?_eq_getElem hlt)
    rw [hdc] at h1
    simp only [Option.some.injEq] at h1
    subst h1
    exact ⟨u, hu, (ih _ _ h2).1 u hru⟩
  ·rename_i id es k off len cap
   split at h <;> try (simp at h; done)
   rename_i ob hob
   split at h <;> try (simp at h; done)
   rename_i hes
   subst hes
   split at h <;> try (simp at h; done)
   rename_i l hy
   split at h <;> try (simp at h; done)
   rename_i hlen
   simp only [Option.some.injEq] at h
   subst h
   refine single _ _ rfl rfl fun v hr => ?_
   simp only [RepA] at hr
   obtain ⟨hlc, b, s, hb, rfl, hcl⟩ := hr
   simp only [RepX]
   rcases hs.obj id ob hob with ⟨hn, _⟩ | ⟨b', s', arr', e', hb', hw, hh', hz', hel⟩ | hm
   rotate_left 2
   ·exact (hm.noCells hb hcl).elim
   ·rw [hn] at hb; cases hb
   rw [hb'] at hb
   simp only [Option.some.injEq, Prod.mk.injEq] at hb
   obtain ⟨rfl, rfl⟩ := hb
   have hl2 : ((l.drop off).take len).length = len := by simp; omega
   refine ⟨1, _, cap, by rw [hl2], by omega, Q4 fun i dc hdc => ?_⟩
   have hil : i < len := by have := (List.getElem?_eq_some_iff.1 hdc).1; omega
   rw [List.getElem?_take, if_pos hil, List.getElem?_drop] at hdc
   obtain ⟨u, hu, h1, hru⟩ := (hel k _ hy).2 (off + i) (.dat dc) (by simp [AV.cells, hdc])
   have hna : dc.isAgg = false := by
    cases dc <;> simp [Dat.isAgg]
    simp only [RepA, RepX] at hru
    obtain ⟨cs, rfl, _⟩ := hru
    simp [Value.oneCell'] at h1
   have hcd : dc.cells = [dc] := by cases dc <;> simp_all [Dat.isAgg]
   refine ⟨by rw [hcd]; rfl, Q3 fun q c hq => ⟨.inr ⟨id, ob, s', hob, hb'⟩, ?_⟩⟩
   rw [hcd] at hq
   cases q with
   | succ q => simp at hq
   | zero =>
    simp at hq
    subst hq
    simp only [RepA] at hru
    exact ⟨u, by simpa [Nat.add_assoc] using hu, Rep1.mono hk _ _ (xf hna hru)⟩
  ·simp at h
def Dat.pf : Dat → Bool
 | .agg l => l.all Dat.flat
 | d => d.flat
theorem zjn {S S' : Nat → Nat → Prop} {w w' : World} {d : Dat} {v : Value} (hf : d.pf = true) (h : RepX S w d v) : RepX S' w' d v := by
 cases d with
 | agg l =>
  simp only [Dat.pf] at hf
  simp only [RepX] at h ⊢
  obtain ⟨cs, rfl, hr⟩ := h
  refine ⟨cs, rfl, zc4 (z0r hr) fun i d hd => ?_⟩
  obtain ⟨u, hu, hru⟩ := z3d hr hd
  exact ⟨u, hu, zag (List.all_eq_true.1 hf d (List.mem_of_getElem? hd)) hru⟩
 | _ => simp_all [Dat.pf, Dat.flat, RepX]
def GOK (G : List (Nat × Dat)) (w : World) : Prop := ∀ p ∈ G, p.1 < w.heap.size ∧ RepC (fun b _ => b = p.1) w p.2.cells p.1 0
def Qa (S : Nat → Nat → Prop) (w : World) (rs : List Dat) (v : Value) : Prop :=
 match rs with
 | [r] => RepX S w r v
 | rs => ∃ vs, v = .tuple vs ∧ RepV S w rs vs.toList
def zl (P : Program) (G : List (Nat × Dat)) (f : FuncId) (args rs : List Dat) : Prop :=
 (∃ fn c, P.funcs[f]? = some fn ∧ fn.body = some c ∧ (fn.name == "runtime.NumGoroutine") = false) ∧
 ∀ (w : World) (S : Nat → Nat → Prop) (vals : Array Value), (∀ b i, S b i → b < w.heap.size) → GOK G w → RepV S w args vals.toList →
  Calls P f vals w fun e w' => ∃ v, e = .returned v ∧ Ext (fun _ => False) w w' ∧ Qa (fun b i => S b i ∨ (w.heap.size ≤ b ∧ b < w'.heap.size)) w' rs v
def retA (rs : List Dat) : AV :=
 match rs with
 | [r] => .dat r
 | rs => .tup (rs.map .dat)
theorem z7s {β : zg} {S : Nat → Nat → Prop} {w : World} {rs : List Dat} {v : Value} (h : Qa S w rs v) : RepA β S w (retA rs) v := by
 unfold retA
 unfold Qa at h
 split at h
 ·simpa only [RepA] using h
 ··simp only [RepA]
   obtain ⟨vs, rfl, hr⟩ := h
   refine ⟨vs, rfl, ?_⟩
   have : ∀ {l : List Dat} {us : List Value}, RepV S w l us → RepAL β S w (l.map .dat) us := by
    intro l
    induction l with
    | nil => intro us h; simpa [RepV, RepAL] using h
    | cons d l ih =>
     intro us h
     simp only [RepV] at h
     obtain ⟨u, us', rfl, h1, h2⟩ := h
     simp only [List.map_cons, RepAL]
     exact ⟨u, us', rfl, by simpa only [RepA] using h1, ih h2⟩
   exact this hr
theorem zlr {S S' : Nat → Nat → Prop} {w : World} {rs : List Dat} {v : Value} (hf : rs.all Dat.pf = true) (h : Qa S w rs v) : Qa S' w rs v := by
 unfold Qa at h ⊢
 split at h
 ·simp at hf; exact zjn hf h
 ·obtain ⟨vs, rfl, hr⟩ := h
  ·refine ⟨vs, rfl, ?_⟩
   have : ∀ {l : List Dat} {us : List Value}, l.all Dat.pf = true → RepV S w l us → RepV S' w l us := by
    intro l
    induction l with
    | nil => intro us _ h; simpa [RepV] using h
    | cons d l ih =>
     intro us hf h
     simp only [List.all_cons, Bool.and_eq_true] at hf
     simp only [RepV] at h ⊢
     obtain ⟨u, us', rfl, h1, h2⟩ := h
     exact ⟨u, us', rfl, zjn hf.1 h1, ih hf.2 h2⟩
   exact this hf hr
def qu (objs : Nat → Option AObj) (xs : List AV) (rs : List Dat) : Option (List Dat) :=
 match km (wb (fun _ => none) 4) xs with
 | some ds => some ds
 | none => if rs.all Dat.pf then km (wb objs 6) xs else none
theorem Xn {β : zg} {S S1 : Nat → Nat → Prop} {w : World} {f : AV → Option Dat} (hf : ∀ x d, f x = some d → ∀ v, RepA β S w x v → RepX S1 w d v) : ∀ {xs : List AV} {vs : List Value} {ds : List Dat}, km f xs = some ds → RepAL β S w xs vs → RepV S1 w ds vs
 | [], vs, ds, h, hr => by
  simp [km] at h
  subst h
  simpa [RepV, RepAL] using hr
 | x :: xs, vs, ds, h, hr => by
  simp only [km] at h
  split at h <;> try (simp at h; done)
  rename_i d ds' hd hds
  simp only [Option.some.injEq] at h
  subst h
  simp only [RepAL] at hr
  obtain ⟨v, vs', rfl, h1, h2⟩ := hr
  simp only [RepV]
  exact ⟨v, vs', rfl, hf x d hd v h1, Xn hf hds h2⟩
theorem SimB.noObjs {F : FC} {β : zg} {S : Nat → Nat → Prop} {st : ASt} {tm : Array Value} {w : World} (hs : SimB F β S st tm w) : SimB F β S ⟨st.env, fun _ => none⟩ tm w :=
 ⟨hs.ext, hs.glob, hs.sub, hs.lt, fun _ _ _ _ _ h => by simp at h, fun _ _ _ _ _ _ _ h => by simp at h, fun _ _ h => by simp at h, hs.env, hs.size⟩
theorem SimB.gok {F : FC} {β : zg} {S : Nat → Nat → Prop} {st : ASt} {tm : Array Value} {w : World} (hs : SimB F β S st tm w) : GOK F.G w := fun p hp => by
 obtain ⟨h1, h2, h3⟩ := hs.glob p hp
 refine ⟨Nat.lt_of_lt_of_le h1 hs.ext.size, RepC.mono (fun b i hb => ⟨hb, ?_⟩) _ _ _ h3⟩
 subst hb
 exact xe (hs.ext.block _ h1 h2)
theorem SimB.called {F : FC} {β : zg} {S : Nat → Nat → Prop} {st : ASt} {tm : Array Value} {w w' : World} (hs : SimB F β S st tm w) (hext : Ext (fun _ => False) w w') :
  SimB F β (fun b i => S b i ∨ (w.heap.size ≤ b ∧ b < w'.heap.size)) st tm w' :=
 hs.world hext (fun _ _ h => h.elim) (fun b i h => ⟨.inl h, xe (hext.block b (hs.lt b i h) (fun f => f))⟩)
  (fun b i h => h.elim (hs.sub b i) (fun h => .inr (.inl (Nat.le_trans hs.ext.size h.1)))) (fun b i h => h.elim (fun h => Nat.lt_of_lt_of_le (hs.lt b i h) hext.size) (fun h => h.2))
  (fun id o b s i ho hb h => h.elim (hs.sep id o b s i ho hb) (fun h => by have := hs.block_lt ho hb; omega))
  (fun id o b s ho hb => hext.block b (hs.block_lt ho hb) (fun f => f))
def callee (env : Nat → AV) (f : Operand) (args : List Operand) : Option (FuncId × List AV) :=
 match evA env f with
 | .fn g caps => some (g, args.map (evA env) ++ caps)
 | _ => none
theorem zil {F : FC} {o : Oper} {β : zg} {S : Nat → Nat → Prop} {st : ASt} {a : Act} {w : World} {f : Operand} {args : Array Operand} {ts : Array TypeId} {g : FuncId} {xs : List AV} {ds rs : List Dat} (hs : SimB F β S st a.tmps w)
  (ho : o.op = .call { callee := .value f, args := args, argTypes := ts }) {ρ : Operand → AV} (hf : ∀ x ∈ o.op.operands.toList, RepA β S w (ρ x) (a.eval x)) {caps : List AV} (hg : ρ f = .fn g caps) (hxs : xs = args.toList.map ρ ++ caps)
  (hds : qu st.objs xs rs = some ds) (hc : zl F.P F.G g ds rs) {K : Act → World → Prop} {Q : Exit → Act → World → Prop}
  (hK : ∀ S' w' r, SimB F β S' st a.tmps w' → RepA β S' w' (retA rs) r → K (a.put o.dst r) w') : o.wpIn F.fence 0 F.P a w K Q := by
 obtain ⟨⟨fn, c, hfn, hbody, hname⟩, hcalls⟩ := hc
 have hrf := hf f (by simp [ho, Op.operands, Call.operands])
 rw [hg] at hrf
 simp only [RepA] at hrf
 obtain ⟨vs, hvf, hvs⟩ := hrf
 have hargs : RepAL β S w xs ((args.map a.eval) ++ vs).toList := by
  rw [hxs, Array.toList_append, Array.toList_map]
  exact yn (k9 args.toList fun x hx => hf x (by simp only [ho, Op.operands, Call.operands]; simp at hx ⊢; exact .inr hx)) hvs
 have hrun : (execOp a.eval o).run F.P w = .ok (.enter g (args.map a.eval ++ vs)) w := by
  have hn' : ¬ fn.name = "runtime.NumGoroutine" := by simpa using hname
  simp [execOp, ho, resolve, hvf, Deferred.ofValue, invoke, callFunc, hfn, hn', hbody]
 refine z4i hrun ?_
 unfold qu at hds
 split at hds
 ·rename_i ds' hds'
  simp only [Option.some.injEq] at hds
  subst hds
  have hv := Xn (S1 := S) (fun x d h v hr => RepX.mono (fun b i h => ⟨h.elim id (fun ⟨_, _, _, h, _⟩ => by simp at h), rfl⟩) d v ((kd hs.noObjs 4 x d h).1 v hr)) hds' hargs
  refine (hcalls w S _ hs.lt hs.gok hv).mono fun e w' h => ?_
  obtain ⟨r, rfl, hext, hret⟩ := h
  exact hK _ _ _ (hs.called hext) (z7s hret)
 ·split at hds <;> try (simp at hds; done)
  rename_i hpf
  have hv := Xn (S1 := Ze st β S) (fun x d h v hr => (kd hs 6 x d h).1 v hr) hds hargs
  refine (hcalls w (Ze st β S) _ (fun b i h => h.elim (hs.lt b i) (fun ⟨id, ob, s, h1, h2⟩ => hs.block_lt h1 h2)) hs.gok hv).mono fun e w' h => ?_
  obtain ⟨r, rfl, hext, hret⟩ := h
  exact hK _ _ _ (hs.called hext) (z7s (zlr hpf hret))
end Go.Av

