/-
  The symbolic executor Lx, part 7v: a state seen under other names.
-/
import Derived.Test.YtnehadffbelhnaaGreatDoorLx7x
namespace Go.Lx
open Go.RowKit

def memN : Nat → List Nat → Bool
  | _, [] => false
  | n, x :: xs => Nat.beq n x || memN n xs
theorem memN_iff {n : Nat} : ∀ {l : List Nat}, memN n l = true ↔ n ∈ l
  | [] => by simp [memN]
  | x :: xs => by
    simp only [memN, Bool.or_eq_true, memN_iff (l := xs), List.mem_cons]
    constructor
    · rintro (h | h)
      · exact .inl (Nat.eq_of_beq_eq_true h)
      · exact .inr h
    · rintro (rfl | h)
      · exact .inl (Nat.beq_refl _)
      · exact .inr h

/-! ### Views -/
def notGone : LB → Bool
  | .gone => false
  | _ => true
def viewTs (m : List Nat) (ts : TS) : TS → Prop
  | [] => True
  | (k, x) :: r => look (fun y => y = x.ren m) ts k ∧ viewTs m ts r
def viewH (m : List Nat) (H : List LB) : List LB → Nat → Prop
  | [], _ => True
  | B :: r, i => (match B with
    | .gone => True
    | B => getK (fun B' => B' = B.ren m) H (at_ m i)) ∧ viewH m H r (i + 1)
def ltAll (n : Nat) (m : List Nat) : Bool := m.all fun x => Nat.blt x n
def distinct : List Nat → Bool
  | [] => true
  | x :: xs => !memN x xs && distinct xs
mutual
def LV.scb (n : Nat) : LV → Bool
  | .v _ => true
  | .ptr l _ => Nat.blt l n
  | .at l _ _ _ => Nat.blt l n
  | .root l => Nat.blt l n
  | .sl l _ _ _ => Nat.blt l n
  | .sub l _ _ _ _ _ => Nat.blt l n
  | .func _ f c => scbL n f && scbL n c
  | .iface _ x => LV.scb n x
  | .agg cs => scbL n cs
  | .tuple cs => scbL n cs
def scbL (n : Nat) : List LV → Bool
  | [] => true
  | x :: xs => LV.scb n x && scbL n xs
end
mutual
theorem LV.scb_sc {n : Nat} : ∀ {x : LV}, x.scb n = true → x.sc n
  | .v _, _ => trivial
  | .ptr l _, h | .at l .., h | .root l, h | .sl l .., h | .sub l .., h => Nat.lt_of_succ_le (Nat.le_of_ble_eq_true h)
  | .func _ f c, h => by simp only [LV.scb, Bool.and_eq_true] at h; exact ⟨scbL_scL h.1, scbL_scL h.2⟩
  | .iface _ x, h => LV.scb_sc (x := x) h
  | .agg cs, h | .tuple cs, h => scbL_scL (l := cs) h
theorem scbL_scL {n : Nat} : ∀ {l : List LV}, scbL n l = true → scL n l
  | [], _ => trivial
  | x :: xs, h => by simp only [scbL, Bool.and_eq_true] at h; exact ⟨LV.scb_sc h.1, scbL_scL h.2⟩
end
def LB.scb (n : Nat) : LB → Bool
  | .cells cs _ => scbL n cs
  | .rows _ items _ => items.all (scbL n)
  | .map es _ => es.all fun m => m.val.scb n
  | _ => true
theorem LB.scb_sc {n : Nat} {B : LB} (h : B.scb n = true) : B.sc n := by
  cases B <;> first | trivial | exact scbL_scL h | exact fun it hit => scbL_scL (List.all_eq_true.1 h it hit) | exact fun m hm => LV.scb_sc (List.all_eq_true.1 h m hm)
def upTo (n0 : Nat) (m : List Nat) : Bool := (List.range n0).all fun i => Nat.beq (at_ m i) i
/-- The side conditions that do not hang on values. -/
def viewB (n0 : Nat) (m : List Nat) (H : List LB) (ts2 : TS) (H2 : List LB) : Bool :=
  Nat.beq m.length H2.length && Nat.ble n0 H2.length && ltAll H.length m && distinct m && upTo n0 m && ts2.all (fun q => q.2.scb H2.length) && H2.all (LB.scb H2.length)

structure ViewOk (n0 : Nat) (m : List Nat) (ts : TS) (H : List LB) (ts2 : TS) (H2 : List LB) : Prop where
  b : viewB n0 m H ts2 H2 = true
  t : viewTs m ts ts2
  h : viewH m H H2 0

theorem distinct_inj : ∀ {m : List Nat}, distinct m = true → ∀ (i j x : Nat), m[i]? = some x → m[j]? = some x → i = j
  | [], _, i, j, x, h, _ => by simp at h
  | y :: ys, hd, i, j, x, hi, hj => by
    simp only [distinct, Bool.and_eq_true, Bool.not_eq_true'] at hd
    have hno : ∀ k, ys[k]? = some y → False := fun k hk => by
      have := memN_iff.2 (List.mem_of_getElem? hk)
      rw [hd.1] at this; cases this
    cases i with
    | zero => cases j with
      | zero => rfl
      | succ j => simp at hi hj; subst hi; exact (hno j hj).elim
    | succ i => cases j with
      | zero => simp at hi hj; subst hj; exact (hno i hi).elim
      | succ j => simp at hi hj; rw [distinct_inj hd.2 i j x hi hj]

theorem at_of {m : List Nat} {i : Nat} (h : i < m.length) : m[i]? = some (at_ m i) := by
  simp [at_, h]

theorem viewH_spec {m : List Nat} {H : List LB} : ∀ {H2 : List LB} {n : Nat}, viewH m H H2 n → ∀ (i : Nat) (B : LB), H2[i]? = some B → notGone B = true → H[at_ m (n + i)]? = some (B.ren m)
  | [], _, _, i, B, h, _ => by simp at h
  | B0 :: r, n, h, 0, B, hB, hg => by
    simp at hB; subst hB
    have h1 := h.1
    cases B0 with
    | gone => cases hg
    | _ => 
      obtain ⟨x, hx, rfl⟩ := getK_spec h1
      exact hx
  | B0 :: r, n, h, i + 1, B, hB, hg => by
    have := viewH_spec (H2 := r) h.2 i B (by simpa using hB) hg
    rw [show n + (i + 1) = n + 1 + i by omega]; exact this

theorem viewTs_spec {m : List Nat} {ts : TS} : ∀ {ts2 : TS}, viewTs m ts ts2 → ∀ k x, ts2.lookup k = some x → ts.lookup k = some (x.ren m)
  | [], _, k, x, h => by simp at h
  | (k0, x0) :: r, hv, k, x, h => by
    simp only [List.lookup] at h
    by_cases hk : k = k0
    · subst hk
      simp at h; subst h
      obtain ⟨v, h1, rfl⟩ := look_spec hv.1
      exact h1
    · have : (k == k0) = false := by simpa using hk
      rw [this] at h
      exact viewTs_spec hv.2 k x h

theorem lookup_mem {ts : TS} : ∀ {k : Nat} {x : LV}, ts.lookup k = some x → ∃ q ∈ ts, q.2 = x := by
  induction ts with
  | nil => intro k x h; simp at h
  | cons p r ih =>
    intro k x h
    obtain ⟨k0, x0⟩ := p
    simp only [List.lookup] at h
    split at h
    · cases h; exact ⟨_, .head _, rfl⟩
    · obtain ⟨q, hq, h1⟩ := ih h; exact ⟨q, .tail _ hq, h1⟩

/-- What the names of a view own. -/
def ownVia (own : Nat → Nat → Prop) (m : List Nat) (H2 : List LB) : Nat → Nat → Prop := fun i k => ∃ B, H2[i]? = some B ∧ notGone B = true ∧ own (at_ m i) k

theorem rows_ren (e : Env) (m : List Nat) (items : List (List LV)) : (items.map (renL m)).map (denL e) = items.map (denL (e.via m)) := by
  rw [List.map_map]; exact List.map_congr_left fun it _ => denL_ren e m it
theorem map_ren (e : Env) (m : List Nat) (es : List ME) : (es.map (ME.ren m)).map (ME.den e) = es.map (ME.den (e.via m)) := by
  rw [List.map_map]; exact List.map_congr_left fun x _ => by simp only [Function.comp, ME.den, ME.ren, LV.den_ren]
theorem LB.sat_via {e : Env} {m : List Nat} {i : Nat} {own : Nat → Prop} {w : World} : ∀ {B : LB}, (B.ren m).sat e (at_ m i) own w → B.sat (e.via m) i own w
  | .cells cs ty, h => by simp only [LB.ren, LB.sat, denL_ren, Env.via] at h ⊢; exact h
  | .rows sz items ty, h => by simp only [LB.ren, LB.sat, rows_ren] at h ⊢; exact h
  | .map es c, h => by simp only [LB.ren, LB.sat, map_ren] at h ⊢; exact h
  | .list .., h | .res .., h | .gone, h => h

theorem Sat.view {M : Mem} {e : Env} {own : Nat → Nat → Prop} {w : World} {H H2 : List LB} {m : List Nat} (hs : Sat M e own w H) (hl : m.length = H2.length) (_hlt : ltAll H.length m = true)
    (hd : distinct m = true) (hsc : H2.all (LB.scb H2.length) = true) (hv : viewH m H H2 0) : Sat M (e.via m) (ownVia own m H2) w H2 := by
  refine ⟨fun i B hB => ?_, fun i j k hi hj => ?_, fun i k hi => ?_, fun i hi k hk => ?_, fun a u hu => ?_, fun i => hs.one _⟩
  · refine ⟨?_, LB.scb_sc (List.all_eq_true.1 hsc B (List.mem_of_getElem? hB))⟩
    cases hg : notGone B
    · have hB' : B = .gone := by cases B <;> first | rfl | cases hg
      subst hB'
      rintro k ⟨B', hB', hg', _⟩
      rw [hB] at hB'; cases hB'; cases hg'
    · have h1 := viewH_spec hv i B hB hg
      rw [Nat.zero_add] at h1
      have h2 := (hs.bl _ _ h1).1
      have : ownVia own m H2 i = own (at_ m i) := by
        funext k
        simp only [ownVia, eq_iff_iff]
        exact ⟨fun ⟨_, _, _, h⟩ => h, fun h => ⟨B, hB, hg, h⟩⟩
      rw [this]
      exact LB.sat_via h2
  · obtain ⟨B, hB, _, h1⟩ := hi
    obtain ⟨B', hB', _, h2⟩ := hj
    have hi := (List.getElem?_eq_some_iff.1 hB).1
    have hj := (List.getElem?_eq_some_iff.1 hB').1
    have := hs.dj _ _ _ h1 h2
    refine distinct_inj hd i j (at_ m i) (at_of (by omega)) ?_
    rw [this]; exact at_of (by omega)
  · obtain ⟨B, hB, _, h1⟩ := hi
    exact hs.lt _ _ h1
  · obtain ⟨B, hB, _, h1⟩ := hk
    rw [List.getElem?_eq_none hi] at hB; cases hB
  · obtain ⟨h1, h2⟩ := hs.ro a u hu
    exact ⟨h1, fun i ⟨_, _, _, h⟩ => h2 _ h⟩

theorem ViewOk.use {M : Mem} {e : Env} {own : Nat → Nat → Prop} {w : World} {a : Act} {n0 : Nat} {m : List Nat} {ts ts2 : TS} {H H2 : List LB} (h : ViewOk n0 m ts H ts2 H2) (hs : Sat M e own w H) (ht : Tm e H.length ts a) :
    n0 ≤ H2.length ∧ ∃ e' own', Agree e e' n0 ∧ Sat M e' own' w H2 ∧ Ext own w own' w ∧ Tm e' H2.length ts2 a := by
  have hb := h.b
  simp only [viewB, Bool.and_eq_true] at hb
  obtain ⟨⟨⟨⟨⟨⟨h1, h2⟩, h3⟩, h4⟩, h5⟩, h6⟩, h7⟩ := hb
  have hl : m.length = H2.length := Nat.eq_of_beq_eq_true h1
  refine ⟨Nat.le_of_ble_eq_true h2, e.via m, _, ⟨fun i hi => ?_, fun i hi => ?_⟩, hs.view hl h3 h4 h7 h.h, ⟨rfl, rfl, rfl, Nat.le_refl _, fun _ _ _ => rfl, fun i k ⟨_, _, _, hk⟩ _ => ⟨_, hk⟩⟩, ⟨fun k x hx => ?_⟩⟩
  · have := List.all_eq_true.1 h5 i (List.mem_range.2 hi)
    simp only [Env.via, Nat.eq_of_beq_eq_true this]
  · have := List.all_eq_true.1 h5 i (List.mem_range.2 hi)
    simp only [Env.via, Nat.eq_of_beq_eq_true this]
  · have h8 := viewTs_spec h.t k x hx
    obtain ⟨h9, h10⟩ := ht.tm k _ h8
    obtain ⟨q, hq, rfl⟩ := lookup_mem hx
    refine ⟨by rw [h9, LV.den_ren], LV.scb_sc (List.all_eq_true.1 h6 q hq)⟩


/-- So it is, or so it is seen. -/
def Seen (n0 : Nat) (K : TS → List LB → Prop) (ts : TS) (H : List LB) : Prop :=
  (∃ ts2, (∀ k x, ts2.lookup k = some x → ts.lookup k = some x) ∧ K ts2 H) ∨ ∃ m ts2 H2, ViewOk n0 m ts H ts2 H2 ∧ K ts2 H2
theorem Seen.same {n0 : Nat} {K : TS → List LB → Prop} {ts : TS} {H : List LB} (h : K ts H) : Seen n0 K ts H := .inl ⟨ts, fun _ _ h => h, h⟩
end Go.Lx
