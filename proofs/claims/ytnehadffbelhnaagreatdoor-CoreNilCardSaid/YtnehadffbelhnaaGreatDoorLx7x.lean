/-
  The symbolic executor Lx, part 7x: == of pointers.
-/
import Derived.Test.YtnehadffbelhnaaGreatDoorLx7w
import Derived.LaidEql
namespace Go.Lx
open Go.RowKit

def cellsAtK (H : List LB) (l : Nat) (K : Prop) : Prop :=
  getK (fun B => match B with
    | .cells _ _ => K
    | _ => False) H l
def eqOpK (op : BinOp) (b : Bool) (K : LV → Prop) : Prop :=
  match op with
  | .eql => K (.v (.bool b))
  | .neq => K (.v (.bool (!b)))
  | _ => False
def ptrEqK (P : Program) (op : BinOp) (t : TypeId) (l o l' o' : Nat) (H : List LB) (K : LV → Prop) : Prop :=
  match P.underlying t with
  | some (.pointer el) => sizeK P el fun sz => forkN (Nat.beq sz 0) <| cellsAtK H l <| cellsAtK H l' <| forkB (Nat.beq l l' && Nat.beq o o') (eqOpK op true K) (eqOpK op false K)
  | _ => False
/-- Is a row nil? (Of one that holds something it is known.) -/
def nilRootK (P : Program) (op : BinOp) (t : TypeId) (l : Nat) (H : List LB) (K : LV → Prop) : Prop :=
  match P.underlying t with
  | some (.slice _) => getK (fun B => match B with
    | .list _ items _ => (match items with
      | [] => False
      | _ :: _ => eqOpK op false K)
    | .rows _ items _ => (match items with
      | [] => False
      | _ :: _ => eqOpK op false K)
    | _ => False) H l
  | _ => False
def binNK (P : Program) (M : Mem) (op : BinOp) (t : TypeId) (xo yo : Operand) (x y : LV) (H : List LB) (K : LV → Prop) : Prop :=
  match x, y with
  | .ptr l o, .ptr l' o' => ptrEqK P op t l o l' o' H K
  | .root l, .v (.slice none _ _) => nilRootK P op t l H K
  | x, y => binK P M op t xo yo x y K

theorem cellsAtK_spec {H : List LB} {l : Nat} {K : Prop} (h : cellsAtK H l K) : K ∧ ∃ cs ty, H[l]? = some (.cells cs ty) := by
  obtain ⟨B, hB, h⟩ := getK_spec h
  split at h
  · exact ⟨h, _, _, hB⟩
  · exact h.elim
theorem forkB_spec {b : Bool} {K K' : Prop} (h : forkB b K K') : (b = true ∧ K) ∨ (b = false ∧ K') := by
  cases b
  · exact .inr ⟨rfl, h⟩
  · exact .inl ⟨rfl, h⟩


theorem equalIn_ptr_same {P : Program} {w : World} (d : Nat) {t el : TypeId} {i : TypeInfo} (hel : P.underlying t = some (.pointer el)) (hi : P.info? el = some i) (a : Addr) :
    (Op.equalIn (d + 1) t (.pointer (some a)) (.pointer (some a))).run P w = .ok true w := by
  simp [Op.equalIn, run_underlying hel, sizeOf, typeInfo, hi, run_sameAddr_same]
theorem equalIn_ptr_other {P : Program} {w : World} (d : Nat) {t el : TypeId} {i : TypeInfo} (hel : P.underlying t = some (.pointer el)) (hi : P.info? el = some i) (hz : i.size ≠ 0) {a b : Addr}
    {ca cb : Array Value} {ta tb : TypeId} (hne : a ≠ b) (ha : w.heap[a.block]? = some (.cells ca ta (0, 0))) (hb : w.heap[b.block]? = some (.cells cb tb (0, 0))) :
    (Op.equalIn (d + 1) t (.pointer (some a)) (.pointer (some b))).run P w = .ok false w := by
  simp [Op.equalIn, run_underlying hel, sizeOf, typeInfo, hi, hz, run_sameAddr_other w hne ha hb]

theorem binNK_spec {P : Program} {M : Mem} {H : List LB} {op : BinOp} {t : TypeId} {xo yo : Operand} {x y : LV} {K : LV → List LB → Prop} (h : binNK P M op t xo yo x y H fun z => K z H) :
    MemOk P M H True (fun e => do eqGuard op t xo yo (x.den e) (y.den e); binOp op t (x.den e) (y.den e)) K := by
  unfold binNK at h
  split at h
  · rename_i l o l' o'
    unfold ptrEqK at h
    split at h
    · rename_i el hel
      obtain ⟨i, hi, h⟩ := sizeK_spec h
      obtain ⟨hz, h⟩ := forkN_spec h
      have hz : i.size ≠ 0 := fun h0 => by rw [h0] at hz; cases hz
      obtain ⟨h, cs, ty, hB⟩ := cellsAtK_spec h
      obtain ⟨h, cs', ty', hB'⟩ := cellsAtK_spec h
      have hty : P.info? el = some i := hi
      have eq : ∀ (b : Bool), (b = true ↔ (l = l' ∧ o = o')) → ∀ e own w, Sat M e own w H →
          (Op.equal t ((LV.ptr l o).den e) ((LV.ptr l' o').den e)).run P w = .ok b w := by
        intro b hb e own w hs
        obtain ⟨h1, h2⟩ := (hs.bl l _ hB).1
        obtain ⟨h1', h2'⟩ := (hs.bl l' _ hB').1
        simp only [LV.den]
        cases b
        · have hne : (⟨e.b l, o, none⟩ : Addr) ≠ ⟨e.b l', o', none⟩ := fun he => by
            injection he with hbl ho
            have hll : l = l' := hs.dj l l' (e.b l) ((h1 _).2 rfl) ((h1' _).2 hbl)
            have := hb.2 ⟨hll, ho⟩
            cases this
          exact equalIn_ptr_other 9999 hel hi hz hne h2 h2'
        · obtain ⟨rfl, rfl⟩ := hb.1 rfl
          exact equalIn_ptr_same 9999 hel hi _
      have fin : ∀ (b : Bool), (b = true ↔ (l = l' ∧ o = o')) → eqOpK op b (fun z => K z H) → MemOk P M H True (fun e => do eqGuard op t xo yo ((LV.ptr l o).den e) ((LV.ptr l' o').den e); binOp op t ((LV.ptr l o).den e) ((LV.ptr l' o').den e)) K := by
        intro b hb h
        unfold eqOpK at h
        split at h
        · refine ⟨_, _, h, Nat.le_refl _, fun e own w hs _ => ⟨e, own, w, .refl _ _, hs, .refl _ _, trivial, ?_⟩⟩
          have h9 := eq b hb e own w hs
          simp only [LV.den] at h9 ⊢
          simp only [Sem.run_bind, run_eqGuard_plain _ t xo yo _ (.pointer (some ⟨e.b l', o', none⟩)) ⟨by simp, by simp⟩, Result.andThen_ok]
          simp only [binOp, Sem.run_bind, h9, Result.andThen_ok, Sem.run_pure]
        · refine ⟨_, _, h, Nat.le_refl _, fun e own w hs _ => ⟨e, own, w, .refl _ _, hs, .refl _ _, trivial, ?_⟩⟩
          have h9 := eq b hb e own w hs
          simp only [LV.den] at h9 ⊢
          simp only [Sem.run_bind, run_eqGuard_plain _ t xo yo _ (.pointer (some ⟨e.b l', o', none⟩)) ⟨by simp, by simp⟩, Result.andThen_ok]
          simp only [binOp, Sem.run_bind, h9, Result.andThen_ok, Sem.run_pure]
        · exact h.elim
      rcases forkB_spec h with ⟨hb, h⟩ | ⟨hb, h⟩
      · rw [Bool.and_eq_true] at hb
        exact fin true ⟨fun _ => ⟨Nat.eq_of_beq_eq_true hb.1, Nat.eq_of_beq_eq_true hb.2⟩, fun _ => rfl⟩ h
      · refine fin false (Iff.intro (fun h0 => (nomatch h0)) fun h0 => ?_) h
        obtain ⟨rfl, rfl⟩ := h0
        simp at hb
    · exact h.elim
  · rename_i l n c
    unfold nilRootK at h
    split at h
    · rename_i el hel
      obtain ⟨B, hB, h9⟩ := getK_spec h
      clear h
      have fin : eqOpK op false (fun z => K z H) → (∀ e own w, Sat M e own w H → ∃ a n c, e.s l = .slice (some a) n c) →
          MemOk P M H True (fun e => do eqGuard op t xo yo ((LV.root l).den e) ((LV.v (.slice none n c)).den e); binOp op t ((LV.root l).den e) ((LV.v (.slice none n c)).den e)) K := by
        intro h hv
        have heq : ∀ e own w, Sat M e own w H → (Op.equal t (e.s l) (.slice none n c)).run P w = .ok false w := fun e own w hs => by
          obtain ⟨a, n', c', h1⟩ := hv e own w hs
          refine equalIn_nil 9999 hel (.inr (.inr (.inr (.inl ⟨rfl, ⟨some a, n', c', h1, rfl⟩, n, c, rfl⟩))))
        have hb : ∀ e own w, Sat M e own w H → (binOp .eql t (e.s l) (.slice none n c) = do pure (.bool (← Op.equal t (e.s l) (.slice none n c)))) ∧ (binOp .neq t (e.s l) (.slice none n c) = do pure (.bool (!(← Op.equal t (e.s l) (.slice none n c))))) := fun e own w hs => by
          obtain ⟨a, n', c', h1⟩ := hv e own w hs
          rw [h1]; exact ⟨rfl, rfl⟩
        unfold eqOpK at h
        split at h
        · refine ⟨_, _, h, Nat.le_refl _, fun e own w hs _ => ⟨e, own, w, .refl _ _, hs, .refl _ _, trivial, ?_⟩⟩
          simp only [LV.den]
          simp only [Sem.run_bind, run_eqGuard_plain _ t xo yo _ (.slice none n c) ⟨by simp, by simp⟩, Result.andThen_ok, (hb e own w hs).1, heq e own w hs, Sem.run_pure]
        · refine ⟨_, _, h, Nat.le_refl _, fun e own w hs _ => ⟨e, own, w, .refl _ _, hs, .refl _ _, trivial, ?_⟩⟩
          simp only [LV.den]
          simp only [Sem.run_bind, run_eqGuard_plain _ t xo yo _ (.slice none n c) ⟨by simp, by simp⟩, Result.andThen_ok, (hb e own w hs).2, heq e own w hs, Sem.run_pure]
        · exact h.elim
      split at h9
      · split at h9
        · exact h9.elim
        · refine fin h9 fun e own w hs => ?_
          obtain ⟨c, hv⟩ := list_slice (hs.bl l _ hB).1 (by simp)
          exact ⟨_, _, _, hv⟩
      · split at h9
        · exact h9.elim
        · refine fin h9 fun e own w hs => ?_
          obtain ⟨c, hv⟩ := list_slice (LB.rows_sat.1 (hs.bl l _ hB).1) (by simp)
          exact ⟨_, _, _, hv⟩
      · exact h9.elim
    · exact h.elim
  · exact (binK_spec h).mem
end Go.Lx
