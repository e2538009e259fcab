/-
  The symbolic executor Lx, part 7b: reslicing of what is only read; type assertions; copies; methods.
-/
import Derived.Test.YtnehadffbelhnaaGreatDoorLx7
import Derived.Laws.CopyRow
import Derived.Laws.IdiomCopy
namespace Go.Lx
open Go.RowKit

/-- A bound of a slice expression: at most y. -/
def boundK (x : Option LV) (d y : Nat) (K : Nat → Prop) : Prop :=
  match x with
  | none => K d
  | some v => intLK (fun _ i => forkB (decide (0 ≤ i) && decide (i ≤ y)) (K i.toNat) False) v

theorem boundK_spec {x : Option LV} {d y : Nat} {K : Nat → Prop} (h : boundK x d y K) : ∃ n, K n ∧ ((x = none ∧ n = d) ∨ ∃ k i, x = some (.v (.int k i)) ∧ 0 ≤ i ∧ i ≤ y ∧ n = i.toNat) := by
  cases x with
  | none => exact ⟨d, h, .inl ⟨rfl, rfl⟩⟩
  | some v =>
    obtain ⟨k, i, h9, rfl⟩ := intLK_spec h
    clear h
    unfold forkB at h9
    by_cases h0 : 0 ≤ i <;> by_cases h1 : i ≤ y <;> simp [h0, h1] at h9
    exact ⟨_, h9, .inr ⟨k, i, rfl, h0, h1, rfl⟩⟩

/-- A bound's value, in the model. -/
theorem run_sliceBound {P : Program} {w : World} {k : IntKind} {i : Int} {y : Nat} (c : BoundsCode) (h0 : 0 ≤ i) (h1 : i ≤ y) : (Instr.sliceBound (.int k i) y c).run P w = .ok i.toNat w := by
  simp only [Instr.sliceBound, asIntOf, Sem.run_bind, Sem.run_pure, Result.andThen_ok]
  rw [if_pos ⟨h0, h1⟩]; rfl

def sliceAt (a : Option Addr) (sz l m : Nat) : Option Addr := if m = l then a else a.map (·.add (l * sz))
def lowK (a : Option Addr) (sz len cap : Nat) (lo : Option LV) (m h : Nat) (K : LV → Prop) : Prop :=
  match lo with
  | none => K (.v (.slice a h m))
  | some _ => boundK lo 0 h fun l => K (.v (.slice (sliceAt a sz l m) (h - l) (m - l)))
def sliceK (P : Program) (t : TypeId) (x : LV) (lo hi mx : Option LV) (K : LV → Prop) : Prop :=
  match P.underlying t with
  | some (.slice el) => sizeK P el fun sz => (match x with
    | .v (.slice a len cap) => (match hi, mx with
      | none, some _ => False
      | hi, mx => boundK mx cap cap fun m => boundK hi len m fun h => lowK a sz len cap lo m h K)
    | _ => False)
  | some .string => (match x, mx with
    | .v (.string s), none => boundK hi s.size s.size fun h => boundK lo 0 h fun l => K (.v (.string (s.extract l h)))
    | _, _ => False)
  | _ => False

theorem add_zero_addr (a : Addr) : a.add 0 = a := by simp [Addr.add]

theorem sliceK_spec {P : Program} {M : Mem} {H : List LB} {t : TypeId} {x : LV} {lo hi mx : Option LV} {K : LV → Prop} (h : sliceK P t x lo hi mx K) :
    ValOk P M H True (fun e => Instr.slice t (x.den e) (lo.map (LV.den e)) (hi.map (LV.den e)) (mx.map (LV.den e))) K := by
  have run3 : ∀ (isSlice : Bool) (len cap m h l : Nat) (e : Env) (w : World),
      ((mx = none ∧ m = cap) ∨ ∃ k i, mx = some (.v (.int k i)) ∧ 0 ≤ i ∧ i ≤ cap ∧ m = i.toNat) →
      ((hi = none ∧ h = len ∧ mx = none) ∨ ∃ k i, hi = some (.v (.int k i)) ∧ 0 ≤ i ∧ i ≤ m ∧ h = i.toNat) →
      ((lo = none ∧ l = 0) ∨ ∃ k i, lo = some (.v (.int k i)) ∧ 0 ≤ i ∧ i ≤ h ∧ l = i.toNat) →
      (Instr.sliceBounds isSlice len cap (lo.map (LV.den e)) (hi.map (LV.den e)) (mx.map (LV.den e))).run P w = .ok (l, h, m) w := by
    intro isSlice len cap m h l e w hm hh hl
    rcases hm with ⟨rfl, rfl⟩ | ⟨k1, i1, rfl, a1, b1, rfl⟩ <;> rcases hh with ⟨rfl, rfl, hc⟩ | ⟨k2, i2, rfl, a2, b2, rfl⟩ <;> rcases hl with ⟨rfl, rfl⟩ | ⟨k3, i3, rfl, a3, b3, rfl⟩ <;>
      first
      | (cases hc; done)
      | (simp only [Instr.sliceBounds, LV.den, Option.map_some, Option.map_none, Sem.run_bind, Sem.run_pure, Result.andThen_ok, run_sliceBound _ a1 b1, run_sliceBound _ a2 b2, run_sliceBound _ a3 b3]; done)
      | (simp only [Instr.sliceBounds, LV.den, Option.map_some, Option.map_none, Sem.run_bind, Sem.run_pure, Result.andThen_ok, run_sliceBound _ a1 b1, run_sliceBound _ a2 b2]; done)
      | (simp only [Instr.sliceBounds, LV.den, Option.map_some, Option.map_none, Sem.run_bind, Sem.run_pure, Result.andThen_ok, run_sliceBound _ a2 b2, run_sliceBound _ a3 b3]; done)
      | (simp only [Instr.sliceBounds, LV.den, Option.map_some, Option.map_none, Sem.run_bind, Sem.run_pure, Result.andThen_ok, run_sliceBound _ a2 b2]; done)
      | (simp only [Instr.sliceBounds, LV.den, Option.map_some, Option.map_none, Sem.run_bind, Sem.run_pure, Result.andThen_ok, run_sliceBound _ a3 b3]; done)
      | (simp only [Instr.sliceBounds, LV.den, Option.map_some, Option.map_none, Sem.run_bind, Sem.run_pure, Result.andThen_ok]; done)
  unfold sliceK at h
  split at h
  · rename_i el hel
    obtain ⟨i, hi', h⟩ := sizeK_spec h
    match x, h with
    | .v (.slice a len cap), h =>
      have h : boundK mx cap cap (fun m => boundK hi len m fun h => lowK a i.size len cap lo m h K) ∧ (hi = none → mx = none) := by
        cases hi with
        | none => cases mx with
          | none => exact ⟨h, fun _ => rfl⟩
          | some _ => exact h.elim
        | some _ => exact ⟨h, fun hn => nomatch hn⟩
      obtain ⟨h, hcoh⟩ := h
      obtain ⟨m, h, hm⟩ := boundK_spec h
      obtain ⟨hh, h, hhi⟩ := boundK_spec h
      have hhi' : (hi = none ∧ hh = len ∧ mx = none) ∨ ∃ k i, hi = some (.v (.int k i)) ∧ 0 ≤ i ∧ i ≤ m ∧ hh = i.toNat := by
        rcases hhi with ⟨h1, h2⟩ | h1
        · exact .inl ⟨h1, h2, hcoh h1⟩
        · exact .inr h1
      have main : ∀ l, ((lo = none ∧ l = 0) ∨ ∃ k i, lo = some (.v (.int k i)) ∧ 0 ≤ i ∧ i ≤ hh ∧ l = i.toNat) → ∀ e w, (Instr.slice t (.slice a len cap) (lo.map (LV.den e)) (hi.map (LV.den e)) (mx.map (LV.den e))).run P w =
          .ok (.slice (sliceAt a i.size l m) (hh - l) (m - l)) w := by
        intro l hl e w
        simp only [Instr.slice, Sem.run_bind, run_underlying hel, Result.andThen_ok, run3 true len cap m hh l e w hm hhi' hl, run_sizeOf hi', Sem.run_pure, sliceAt]
      unfold lowK at h
      split at h
      · refine ⟨_, h, fun e own w _ _ => ⟨trivial, fun w => ?_⟩⟩
        have := main 0 (.inl ⟨rfl, rfl⟩) e w
        simp only [LV.den] at this ⊢
        rw [this]
        simp only [sliceAt, Nat.zero_mul, Nat.sub_zero]
        congr 2
        split
        · rfl
        · cases a <;> simp [add_zero_addr]
      · obtain ⟨l, h, hl⟩ := boundK_spec h
        refine ⟨_, h, fun e own w _ _ => ⟨trivial, fun w => ?_⟩⟩
        exact main l (by rcases hl with ⟨h1, _⟩ | h1; · cases h1
                         · exact .inr h1) e w
  · rename_i hel
    match x, mx, h with
    | .v (.string s), none, h =>
      obtain ⟨hh, h, hhi⟩ := boundK_spec h
      obtain ⟨l, h, hl⟩ := boundK_spec h
      refine ⟨_, h, fun e own w _ _ => ⟨trivial, fun w => ?_⟩⟩
      have hhi' : (hi = none ∧ hh = s.size ∧ (none : Option LV) = none) ∨ ∃ k i, hi = some (.v (.int k i)) ∧ 0 ≤ i ∧ i ≤ (s.size : Nat) ∧ hh = i.toNat := by
        rcases hhi with ⟨h1, h2⟩ | h1
        · exact .inl ⟨h1, h2, rfl⟩
        · exact .inr h1
      have := run3 false s.size s.size s.size hh l e w (.inl ⟨rfl, rfl⟩) hhi' hl
      simp only [Option.map_none] at this
      simp only [Instr.slice, Sem.run_bind, run_underlying hel, Result.andThen_ok, LV.den, Option.map_none, Option.isSome_none]
      simp [this]
  · exact h.elim

theorem sliceK_at {P : Program} {t : TypeId} {x : LV} {lo hi mx : Option LV} {K : LV → Prop} (h : sliceK P t x lo hi mx K) (X : Value) (l h' m : Option Value) (w : World) :
    (Instr.sliceAt t X l h' m).run P w = (Instr.slice t X l h' m).run P w := by
  unfold sliceK at h
  split at h
  · rename_i el hel; simp only [Instr.sliceAt, Sem.run_bind, run_underlying hel, Result.andThen_ok]
  · rename_i hel; simp only [Instr.sliceAt, Sem.run_bind, run_underlying hel, Result.andThen_ok]
  · exact h.elim

/-! ### Type assertions -/
def assertK (P : Program) (asserted : TypeId) (ok : Bool) (x : LV) (K : LV → Prop) : Prop :=
  match P.underlying asserted with
  | some (.interface _) => False
  | some _ => (match x with
    | .iface t v => bif Nat.beq t asserted then (bif ok then K (.tuple [v, .v (.bool true)]) else K v)
        else (bif ok then zeroVK P asserted (fun z => K (.tuple [z, .v (.bool false)])) else False)
    | .v .nilIface => bif ok then zeroVK P asserted (fun z => K (.tuple [z, .v (.bool false)])) else False
    | _ => False)
  | none => False
  where zeroVK (P : Program) (t : TypeId) (K : LV → Prop) : Prop := match P.info? t with
  | some i => (match i.zero with
    | some z => K (.v z)
    | none => False)
  | none => False
theorem zeroVK_spec {P : Program} {t : TypeId} {K : LV → Prop} (h : assertK.zeroVK P t K) : ∃ z, K (.v z) ∧ ∀ w, (zeroValue t).run P w = .ok z w := by
  unfold assertK.zeroVK at h
  split at h
  · rename_i i hi
    split at h
    · rename_i z hz
      exact ⟨z, h, fun w => by simp [zeroValue, typeInfo, hi, hz]⟩
    · exact h.elim
  · exact h.elim

theorem assertK_spec {P : Program} {M : Mem} {H : List LB} {xt asserted : TypeId} {ok : Bool} {x : LV} {K : LV → Prop} (h : assertK P asserted ok x K) :
    ValOk P M H (x.sc H.length) (fun e => Instr.typeAssert (x.den e) xt asserted ok) K := by
  unfold assertK at h
  split at h
  · exact h.elim
  · rename_i d hnot hd
    have hd' : ∀ ms, d ≠ .interface ms := fun ms he => hnot ms he
    match x, h with
    | .iface t v, h =>
      replace h : (bif Nat.beq t asserted then (bif ok then K (.tuple [v, .v (.bool true)]) else K v)
        else (bif ok then assertK.zeroVK P asserted (fun z => K (.tuple [z, .v (.bool false)])) else False)) := h
      cases hb : Nat.beq t asserted
      · rw [hb] at h
        have hne : t ≠ asserted := fun he => by subst he; rw [Nat.beq_refl] at hb; cases hb
        cases ok
        · exact h.elim
        · replace h : assertK.zeroVK P asserted (fun z => K (.tuple [z, .v (.bool false)])) := h
          obtain ⟨z, h, hz⟩ := zeroVK_spec h
          refine ⟨_, h, fun e own w _ _ => ⟨by simp [LV.sc, scL], fun w => ?_⟩⟩
          simp only [Instr.typeAssert, LV.den, Sem.run_bind, run_underlying hd, Result.andThen_ok]
          cases d <;> first | exact absurd rfl (hd' _) | simp [hne, hz, LV.den, denL]
      · rw [hb] at h
        have he := Nat.eq_of_beq_eq_true hb
        subst he
        cases ok
        · refine ⟨_, h, fun e own w _ hx => ⟨hx, fun w => ?_⟩⟩
          simp only [Instr.typeAssert, LV.den, Sem.run_bind, run_underlying hd, Result.andThen_ok]
          cases d <;> first | exact absurd rfl (hd' _) | simp
        · refine ⟨_, h, fun e own w _ hx => ⟨⟨hx, trivial, trivial⟩, fun w => ?_⟩⟩
          simp only [Instr.typeAssert, LV.den, Sem.run_bind, run_underlying hd, Result.andThen_ok]
          cases d <;> first | exact absurd rfl (hd' _) | simp [LV.den, denL]
    | .v .nilIface, h =>
      cases ok
      · exact h.elim
      · replace h : assertK.zeroVK P asserted (fun z => K (.tuple [z, .v (.bool false)])) := h
        obtain ⟨z, h, hz⟩ := zeroVK_spec h
        refine ⟨_, h, fun e own w _ _ => ⟨by simp [LV.sc, scL], fun w => ?_⟩⟩
        simp only [Instr.typeAssert, LV.den, Sem.run_bind, run_underlying hd, Result.andThen_ok]
        cases d <;> first | exact absurd rfl (hd' _) | simp [hz, LV.den, denL]
  · exact h.elim

/-! ### Methods -/
/-- Type t's method is function f, on the value itself. -/
def methB (P : Program) (t : TypeId) (name : String) (f : FuncId) : Bool :=
  match P.info? t with
  | some i => (match i.methods.find? (·.name == name) with
    | some m => m.path.isEmpty && (match m.func with
      | some (g, b) => Nat.beq g f && (match P.underlying t with
        | some (.pointer _) => b
        | some _ => !b
        | none => false)
      | none => false)
    | none => false)
  | none => false

theorem run_callMethod {P : Program} {t : TypeId} {name : String} {f : FuncId} (hm : methB P t name f = true) (v : Value) (as : Array Value) (w : World) :
    (callMethod (.iface t v) name as).run P w = (callFunc f (#[v] ++ as)).run P w := by
  unfold methB at hm
  split at hm
  · rename_i i hi
    split at hm
    · rename_i m hfind
      rw [Bool.and_eq_true] at hm
      split at hm
      · rename_i g b hg
        rw [Bool.and_eq_true] at hm
        obtain ⟨hp, hgf, hu⟩ := hm
        have hgf := Nat.eq_of_beq_eq_true hgf
        subst hgf
        have hfuel : ∃ n, P.types.size + Made.depth = n + 1 := by
          have h0 : 0 < Made.depth := by decide
          exact ⟨P.types.size + Made.depth - 1, by omega⟩
        obtain ⟨n, hn⟩ := hfuel
        have hpath : m.path.toList = [] := by
          have : m.path = #[] := by simpa [Array.isEmpty_iff] using hp
          rw [this]
        have hrec : ∀ w, (receiverAt t (.val v) b (if m.path.isEmpty = true then some ((name.splitOn ".").getLastD name) else none)).run P w = .ok v w := by
          intro w
          split at hu
          · rename_i el hel
            subst hu
            simp only [receiverAt, Sem.run_bind, run_underlying hel, Result.andThen_ok, Place.get, Sem.run_pure]
          · rename_i d hnot hd
            have hb : b = false := by simpa using hu
            subst hb
            simp only [receiverAt, Sem.run_bind, run_underlying hd, Result.andThen_ok]
            cases d <;> first | exact absurd hd (hnot _) | simp [Place.get]
          · cases hu
        have hprog : ((program : Sem Program)).run P w = .ok P w := rfl
        simp only [callMethod, Sem.run_bind, hprog, Result.andThen_ok]
        rw [hn]
        simp only [method, Sem.run_bind, run_typeInfo hi, Result.andThen_ok, hfind, hpath, follow, Sem.run_pure, hg, hrec]
      · simp at hm
    · cases hm
  · cases hm

/-! ### Copies -/
theorem oneAll_of {items : List (List Value)} (h : (items.all fun it => it.all fun v => v.oneCell') = true) : oneAll items := fun it hi v hv =>
  List.all_eq_true.1 (List.all_eq_true.1 h it hi) v hv
def copyK (P : Program) (M : Mem) (t : TypeId) (x y : LV) (H : List LB) (K : LV → List LB → Prop) : Prop :=
  match P.underlying t with
  | some (.slice el) => sizeK P el fun sz => bif Nat.beq sz 1 then (match x with
    | .root ld => (match y with
      | .root ls => bif Nat.beq ld ls then False else getK (fun B => match B with
        | .list szd dst ty => bif Nat.beq szd 1 then getK (fun C => match C with
          | .list szs src _ => bif Nat.beq szs 1 then M.ones src <| M.lay (src.take (min src.length dst.length) ++ dst.drop (min src.length dst.length)) fun its => setK (.list 1 its ty)
              (fun H' => K (.v (.int .i64 ((min src.length dst.length : Nat) : Int))) H') H ld else False
          | _ => False) H ls else False
        | _ => False) H ld
      | _ => False)
    | _ => False) else False
  | _ => False

theorem flatten_one {items : List (List Value)} (h : ∀ it ∈ items, it.length = 1) : ∀ n, (items.take n).flatten = items.flatten.take n ∧ (items.drop n).flatten = items.flatten.drop n := by
  induction items with
  | nil => intro n; simp
  | cons x xs ih =>
    intro n
    have hx := h x (.head _)
    match x, hx with
    | [v], _ =>
      cases n with
      | zero => simp
      | succ n =>
        obtain ⟨h1, h2⟩ := ih (fun y hy => h y (.tail _ hy)) n
        simp [h1, h2]

theorem copyK_spec {P : Program} {M : Mem} {H : List LB} {t t2 ty0 : TypeId} {x y : LV} {K : LV → List LB → Prop} (h : copyK P M t x y H K) :
    MemOk P M H True (fun e => Builtin.copy_ #[t, t2] ty0 #[x.den e, y.den e]) K := by
  unfold copyK at h
  split at h
  · rename_i el hel
    obtain ⟨i, hi, h⟩ := sizeK_spec h
    obtain ⟨hsz, h⟩ := bif_elim h
    have hsz := Nat.eq_of_beq_eq_true hsz
    match x, y, h with
    | .root ld, .root ls, h =>
      obtain ⟨hne, h9⟩ := bif_not h
      have hne : ld ≠ ls := fun he => by subst he; rw [Nat.beq_refl] at hne; cases hne
      clear h
      obtain ⟨B, hB, h⟩ := getK_spec h9
      match B, hB, h with
      | .list szd dst ty, hB, h =>
        obtain ⟨hd, h8⟩ := bif_elim h
        have hd := Nat.eq_of_beq_eq_true hd
        clear h
        subst hd
        obtain ⟨C, hC, h⟩ := getK_spec h8
        match C, hC, h with
        | .list szs src tys, hC, h =>
          obtain ⟨hs', h7⟩ := bif_elim h
          have hs' := Nat.eq_of_beq_eq_true hs'
          clear h
          subst hs'
          obtain ⟨hone, h6⟩ := M.onesOk h7
          have h6 := M.layOk h6
          obtain ⟨_, h⟩ := setK_spec h6
          refine ⟨_, _, h, by simp, fun e own w hs _ => ?_⟩
          obtain ⟨hd1, hd2, hd3, hd4⟩ := (hs.bl ld _ hB).1
          obtain ⟨hs1, hs2, hs3, hs4⟩ := (hs.bl ls _ hC).1
          have hi1 : (P.info? el).map (·.size) = some 1 := by rw [hi]; simp [hsz]
          have hitems : ∀ it ∈ src.take (min src.length dst.length) ++ dst.drop (min src.length dst.length), it.length = 1 := fun it hit => by
            rcases List.mem_append.1 hit with hit | hit
            · exact hs3 it (List.mem_of_mem_take hit)
            · exact hd3 it (List.mem_of_mem_drop hit)
          have hlen : (src.take (min src.length dst.length) ++ dst.drop (min src.length dst.length)).length = dst.length := by
            simp [List.length_append]; omega
          by_cases h0 : min src.length dst.length = 0
          · have hdst : src.take (min src.length dst.length) ++ dst.drop (min src.length dst.length) = dst := by rw [h0]; simp
            obtain ⟨ad, cd, hvd⟩ := list_len (hs.bl ld _ hB).1
            obtain ⟨as, cs, hvs⟩ := list_len (hs.bl ls _ hC).1
            refine ⟨e, own, w, .refl _ _, ?_, .refl _ _, trivial, ?_⟩
            · have : H.set ld (.list 1 (src.take (min src.length dst.length) ++ dst.drop (min src.length dst.length)) ty) = H := by
                rw [hdst]
                apply List.ext_getElem?
                intro k
                rw [List.getElem?_set]
                split
                · rename_i hk; subst hk
                  first | rw [hB] | (rw [if_pos (List.getElem?_eq_some_iff.1 hB).1, hB])
                · rfl
              rw [this]; exact hs
            · simp only [LV.den, hvd, hvs]
              rw [run_copy_none (P := P) w t t2 ty0 el ad as dst.length cd src.length cs hel hi1 (by simpa using h0)]
              simp [h0, goInt]
          · have hpd : 0 < dst.length := by omega
            have hps : 0 < src.length := by omega
            obtain ⟨cd, hvd⟩ := list_slice (hs.bl ld _ hB).1 hpd
            obtain ⟨cs, hvs⟩ := list_slice (hs.bl ls _ hC).1 hps
            have hbs := hs2 (by rw [hvs]; simp [Value.ownBlock])
            have hbd := hd2 (by rw [hvd]; simp [Value.ownBlock])
            rcases hd4.2 with ⟨_, h5⟩ | ⟨g, cap, cur, hv, hg0, hg, hncap, hcap, hcur, htake⟩
            · omega
            have hgb : g = e.b ld := by rw [hv] at hbd; simpa [Value.ownBlock] using hbd
            subst hgb
            have hsl : src.flatten.length = src.length := by rw [flatten_length hs3]; omega
            have hdl : dst.flatten.length = dst.length := by rw [flatten_length hd3]; omega
            have hrun := run_copy_row (P := P) w t t2 ty0 el (e.b ld) 0 dst.length cd ⟨e.b ls, 0, none⟩ src.length cs cur ty (src.flatten.take (min src.length dst.length)) hel hi1 hg
              (by rw [List.length_take, hsl]; simp only [Nat.min_def]; split <;> split <;> omega)
              (fun j v hj => by
                rw [List.getElem?_take] at hj
                split at hj
                · exact hs4.cells hbs j v hj
                · cases hj) (by rw [List.length_take, hcur]; omega)
              (fun v hv => by
                have := List.mem_of_mem_take hv
                obtain ⟨it, hit, hvi⟩ := List.mem_flatten.1 this
                exact hone it hit v hvi)
            have hnl : (src.flatten.take (min src.length dst.length)).length = min src.length dst.length := by rw [List.length_take, hsl]; omega
            rw [hnl] at hrun
            simp only [List.take_zero, List.nil_append, Nat.zero_add] at hrun
            have hblk : ∀ k, ¬ own ld k → (w.setRow (e.b ld) (src.flatten.take (min src.length dst.length) ++ cur.toList.drop (min src.length dst.length)).toArray).heap[k]? = w.heap[k]? := fun k hk =>
              setRow_other w _ k _ (fun he => by subst he; exact hk ((hd1 _).2 hbd))
            refine ⟨e, own, _, .refl _ _, hs.set hB (by simp [World.setRow]) (fun k _ hk => hblk k hk) ⟨hd1, fun _ => hbd, hitems, ?_, ?_⟩ trivial, Ext.write (l := ld) rfl rfl rfl (by simp [World.setRow]) (fun k _ hk => hblk k hk), trivial, ?_⟩
            · rw [flatten_length hitems]
            · refine .inr ⟨e.b ld, cap, _, by rw [hlen]; exact hv, Nat.zero_le _, setRow_heap w _ cur _ ty _ hg, by rw [hlen]; exact hncap, hcap, ?_, ?_⟩
              · simp only [List.size_toArray, List.length_append, hnl, List.length_drop, Array.length_toList, hcur]; omega
              · rw [hlen, List.toList_toArray, List.flatten_append, (flatten_one hs3 _).1, (flatten_one hd3 _).2]
                have hcd : cur.toList.take (dst.length * 1) = dst.flatten := htake
                rw [List.take_append, hnl]
                rw [List.take_of_length_le (by rw [hnl]; omega), ← hcd]
                congr 1
                rw [List.drop_take]
            · simp only [LV.den, hvd, hvs]
              rw [hrun]; simp [goInt]
  · exact h.elim
end Go.Lx
