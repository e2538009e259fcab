/-
  The symbolic executor Lx, part 3: operations on values.
-/
import Derived.Test.YtnehadffbelhnaaGreatDoorLx2
namespace Go.Lx
open Go.RowKit

/-- What an operation on values comes to, whatever the world is. -/
structure ValOk (P : Program) (M : Mem) (H : List LB) (ok : Prop) (s : Env → Sem Value) (K : LV → Prop) : Prop where
  out : ∃ y, K y ∧ ∀ e own w, Sat M e own w H → ok → y.sc H.length ∧ ∀ w, (s e).run P w = .ok (y.den e) w

def forkN (b : Bool) (K : Prop) : Prop := forkB b False K
theorem forkN_spec {b : Bool} {K : Prop} (h : forkN b K) : b = false ∧ K := by cases b; exact ⟨rfl, h⟩; exact h.elim

def unK (op : UnOp) (K : LV → Prop) : LV → Prop
  | .v x => match x with
    | .bool b => match op with
      | .not => K (.v (.bool (!b)))
      | _ => False
    | .int k n => match op with
      | .neg => K (.v (.int k (k.wrap (0 - n))))
      | .xor => K (.v (.int k (k.wrap ((BitVec.ofInt k.bits (if k.signed then -1 else k.max) ^^^ BitVec.ofInt k.bits n).toNat : Int))))
      | _ => False
    | _ => False
  | _ => False
theorem unK_spec {P : Program} {M : Mem} {H : List LB} {op : UnOp} {K : LV → Prop} {a : LV} (h : unK op K a) :
    ValOk P M H (a.sc H.length) (fun e => Op.unary op (a.den e)) K := by
  unfold unK at h
  split at h
  · split at h
    · split at h
      · exact ⟨_, h, fun e own w _ _ => ⟨trivial, fun _ => rfl⟩⟩
      · exact h.elim
    · split at h
      · exact ⟨_, h, fun e own w _ _ => ⟨trivial, fun _ => rfl⟩⟩
      · exact ⟨_, h, fun e own w _ _ => ⟨trivial, fun _ => rfl⟩⟩
      · exact h.elim
    · exact h.elim
  · exact h.elim

def intK (op : BinOp) (k : IntKind) (a b : Int) (K : LV → Prop) : Prop :=
  match op with
  | .add => K (.v (.int k (k.wrap (a + b))))
  | .sub => K (.v (.int k (k.wrap (a - b))))
  | .mul => K (.v (.int k (k.wrap (a * b))))
  | .quo => forkN (decide (b = 0)) (K (.v (.int k (k.wrap (a.tdiv b)))))
  | .rem => forkN (decide (b = 0)) (K (.v (.int k (a.tmod b))))
  | .and => K (.v (.int k (k.wrap ((BitVec.ofInt k.bits a &&& BitVec.ofInt k.bits b).toNat : Int))))
  | .or => K (.v (.int k (k.wrap ((BitVec.ofInt k.bits a ||| BitVec.ofInt k.bits b).toNat : Int))))
  | .xor => K (.v (.int k (k.wrap ((BitVec.ofInt k.bits a ^^^ BitVec.ofInt k.bits b).toNat : Int))))
  | .andNot => K (.v (.int k (k.wrap ((BitVec.ofInt k.bits a &&& ~~~ BitVec.ofInt k.bits b).toNat : Int))))
  | .shl => forkN (decide (b < 0)) (K (.v (.int k (k.wrap (a * 2 ^ (min b.toNat k.bits))))))
  | .shr => forkN (decide (b < 0)) (K (.v (.int k (a.fdiv (2 ^ (min b.toNat k.bits))))))
  | .eql => K (.v (.bool (a == b)))
  | .neq => K (.v (.bool (a != b)))
  | .lss => K (.v (.bool (decide (a < b))))
  | .leq => K (.v (.bool (decide (a ≤ b))))
  | .gtr => K (.v (.bool (decide (a > b))))
  | .geq => K (.v (.bool (decide (a ≥ b))))

def isShift : BinOp → Bool
  | .shl | .shr => true
  | _ => false

def strK (M : Mem) (op : BinOp) (a b : ByteArray) (K : LV → Prop) : Prop :=
  match op with
  | .add => M.chk (((a.size + b.size : Nat) : Int) ≤ 9223372036854775807) inferInstance (K (.v (.string (a ++ b))))
  | .eql => K (.v (.bool (a.toList == b.toList)))
  | .neq => K (.v (.bool (!(a.toList == b.toList))))
  | _ => False

/-- Is it nil, and of which kind: 0 a pointer, 1 a function, 2 an interface's value, 3 a slice, 4 a map. -/
def nilK (K : Nat → Bool → Prop) : LV → Prop
  | .v x => match x with
    | .pointer p => match p with
      | none => K 0 true
      | some _ => K 0 false
    | .nilFunc => K 1 true
    | .func _ _ _ => K 1 false
    | .nilIface => K 2 true
    | .iface _ _ => K 2 false
    | .slice p _ _ => match p with
      | none => K 3 true
      | some _ => K 3 false
    | .map p => match p with
      | none => K 4 true
      | some _ => K 4 false
    | _ => False
  | .ptr _ _ => K 0 false
  | .at _ _ _ _ => K 0 false
  | .func _ _ _ => K 1 false
  | .iface _ _ => K 2 false
  | .sl _ _ _ _ => K 3 false
  | _ => False

/-- A value that leads nowhere. -/
def rawLK (K : List Value → Prop) : List LV → Prop
  | [] => K []
  | x :: xs => match x with
    | .v y => rawLK (fun ys => K (y :: ys)) xs
    | _ => False
def rawK (K : Value → Prop) : LV → Prop
  | .v x => K x
  | .agg cs => rawLK (fun ys => K (.agg ys.toArray)) cs
  | _ => False
theorem rawLK_spec : ∀ {cs : List LV} {K : List Value → Prop}, rawLK K cs → ∃ ys, K ys ∧ cs = ys.map .v
  | [], K, h => ⟨[], h, rfl⟩
  | .v y :: xs, K, h => by
    obtain ⟨ys, h1, h2⟩ := rawLK_spec (cs := xs) h
    exact ⟨y :: ys, h1, by simp [h2]⟩
theorem rawK_spec {K : Value → Prop} {x : LV} (h : rawK K x) : ∃ y, K y ∧ ∀ e, x.den e = y := by
  unfold rawK at h
  split at h
  · exact ⟨_, h, fun e => rfl⟩
  · obtain ⟨ys, h1, rfl⟩ := rawLK_spec h
    exact ⟨_, h1, fun e => by simp only [LV.den, denL_v]⟩
  · exact h.elim

def nilTy (k : Nat) : TypeDesc → Bool
  | .pointer _ => Nat.beq k 0
  | .func _ _ _ => Nat.beq k 1
  | .interface _ => Nat.beq k 2
  | .slice _ => Nat.beq k 3
  | .map _ _ => Nat.beq k 4
  | _ => false
def nilEqK (P : Program) (op : BinOp) (t : TypeId) (k : Nat) (x : LV) (K : LV → Prop) : Prop :=
  match P.underlying t with
  | some d => bif nilTy k d then
      (nilK (fun k' b => bif Nat.beq k k' then (match op with
        | .eql => K (.v (.bool b))
        | .neq => K (.v (.bool (!b)))
        | _ => False) else False) x)
    else False
  | none => False

def binK (P : Program) (M : Mem) (op : BinOp) (t : TypeId) (xo yo : Operand) (x y : LV) (K : LV → Prop) : Prop :=
  match x, y with
  | .v (.int k a), .v (.int k' b) => bif isShift op then intK op k a b K else if k = k' then intK op k a b K else False
  | .v (.bool a), .v (.bool b) => (match P.underlying t, op with
    | some .bool, .eql => K (.v (.bool (a == b)))
    | some .bool, .neq => K (.v (.bool (!(a == b))))
    | _, _ => False)
  | .v (.string a), .v (.string b) => strK M op a b K
  | x, .v (.pointer none) => nilEqK P op t 0 x K
  | x, .v .nilFunc => nilEqK P op t 1 x K
  | x, .v .nilIface => (match yo with
    | .const _ => nilEqK P op t 2 x K
    | _ => False)
  | x, .v (.slice none _ _) => nilEqK P op t 3 x K
  | x, .v (.map none) => nilEqK P op t 4 x K
  | x, y => rawK (fun X => rawK (fun Y => M.bin P op t xo yo X Y fun r => K (.v r)) y) x

theorem run_eqGuard_plain {P : Program} {w : World} (op : BinOp) (t : TypeId) (xo yo : Operand) (X Y : Value)
    (h : (∀ c, Y ≠ .agg c) ∧ (Y = .nilIface → ∃ c, yo = .const c)) : (eqGuard op t xo yo X Y).run P w = .ok () w := by
  unfold eqGuard
  cases op <;> (try rfl)
  all_goals
    cases Y <;> simp at h <;> (try (cases X <;> rfl))
    obtain ⟨c, rfl⟩ := h
    cases X <;> simp

theorem intK_spec {P : Program} {M : Mem} {H : List LB} {op : BinOp} {k : IntKind} {a b : Int} {K : LV → Prop} (t : TypeId) (xo yo : Operand) (k' : IntKind)
    (hk : isShift op = true ∨ k = k') (h : intK op k a b K) :
    ValOk P M H True (fun _ => do eqGuard op t xo yo (.int k a) (.int k' b); binOp op t (.int k a) (.int k' b)) K := by
  have g : ∀ w : World, (eqGuard op t xo yo (.int k a) (.int k' b)).run P w = .ok () w := fun w => run_eqGuard_plain op t xo yo _ _ ⟨by simp, by simp⟩
  have fin : ∀ y : Value, (∀ w, (binOp op t (.int k a) (.int k' b)).run P w = .ok y w) → K (.v y) →
      ValOk P M H True (fun _ => do eqGuard op t xo yo (.int k a) (.int k' b); binOp op t (.int k a) (.int k' b)) K := fun y h1 h2 =>
    ⟨.v y, h2, fun e own w _ _ => ⟨trivial, fun w => by simp only [Sem.run_bind, g, Result.andThen_ok, h1, LV.den]⟩⟩
  cases op <;> simp only [intK] at h
  case shl => obtain ⟨hb, h⟩ := forkN_spec h; exact fin _ (fun w => by simp only [binOp, Op.shift]; simp at hb; rw [if_neg (by omega)]; rfl) h
  case shr => obtain ⟨hb, h⟩ := forkN_spec h; exact fin _ (fun w => by simp only [binOp, Op.shift]; simp at hb; rw [if_neg (by omega)]; rfl) h
  case quo =>
    obtain ⟨hb, h⟩ := forkN_spec h; obtain rfl := hk.resolve_left (by simp [isShift])
    exact fin _ (fun w => by simp at hb; simp [binOp, Op.intDiv, hb]) h
  case rem =>
    obtain ⟨hb, h⟩ := forkN_spec h; obtain rfl := hk.resolve_left (by simp [isShift])
    exact fin _ (fun w => by simp at hb; simp [binOp, Op.intDiv, hb]) h
  all_goals
    obtain rfl := hk.resolve_left (by simp [isShift])
    exact fin _ (fun w => by simp [binOp, Op.intArith, Op.intBits, Op.intCmp]) h


theorem nilK_spec {K : Nat → Bool → Prop} {x : LV} (h : nilK K x) : ∃ k b, K k b ∧ ∀ e,
    (k = 0 ∧ ∃ p, x.den e = .pointer p ∧ b = p.isNone) ∨ (k = 1 ∧ ((x.den e = .nilFunc ∧ b = true) ∨ ∃ f a c, x.den e = .func f a c ∧ b = false)) ∨
    (k = 2 ∧ ((x.den e = .nilIface ∧ b = true) ∨ ∃ t v, x.den e = .iface t v ∧ b = false)) ∨ (k = 3 ∧ ∃ p n c, x.den e = .slice p n c ∧ b = p.isNone) ∨
    (k = 4 ∧ ∃ p, x.den e = .map p ∧ b = p.isNone) := by
  unfold nilK at h
  split at h
  · split at h
    · split at h <;> exact ⟨_, _, h, fun e => by simp [LV.den]⟩
    · exact ⟨_, _, h, fun e => by simp [LV.den]⟩
    · exact ⟨_, _, h, fun e => by simp [LV.den]⟩
    · exact ⟨_, _, h, fun e => by simp [LV.den]⟩
    · exact ⟨_, _, h, fun e => by simp [LV.den]⟩
    · split at h <;> exact ⟨_, _, h, fun e => by simp [LV.den]⟩
    · split at h <;> exact ⟨_, _, h, fun e => by simp [LV.den]⟩
    · exact h.elim
  all_goals first | exact h.elim | exact ⟨_, _, h, fun e => by simp [LV.den]⟩

theorem equalIn_nil {P : Program} {w : World} (d : Nat) {t : TypeId} {D : TypeDesc} (hD : P.underlying t = some D) {X Y : Value} {b : Bool}
    (h : (nilTy 0 D = true ∧ (∃ p, X = .pointer p ∧ b = p.isNone) ∧ Y = .pointer none) ∨
      (nilTy 1 D = true ∧ ((X = .nilFunc ∧ b = true) ∨ ∃ f a c, X = .func f a c ∧ b = false) ∧ Y = .nilFunc) ∨
      (nilTy 2 D = true ∧ ((X = .nilIface ∧ b = true) ∨ ∃ t v, X = .iface t v ∧ b = false) ∧ Y = .nilIface) ∨
      (nilTy 3 D = true ∧ (∃ p n c, X = .slice p n c ∧ b = p.isNone) ∧ ∃ n c, Y = .slice none n c) ∨
      (nilTy 4 D = true ∧ (∃ p, X = .map p ∧ b = p.isNone) ∧ Y = .map none)) :
    (Op.equalIn (d + 1) t X Y).run P w = .ok b w := by
  rcases h with ⟨hd, ⟨p, rfl, rfl⟩, rfl⟩ | ⟨hd, ⟨rfl, rfl⟩ | ⟨f, a, c, rfl, rfl⟩, rfl⟩ | ⟨hd, ⟨rfl, rfl⟩ | ⟨f, a, rfl, rfl⟩, rfl⟩ | ⟨hd, ⟨p, n, c, rfl, rfl⟩, ⟨n', c', rfl⟩⟩ | ⟨hd, ⟨p, rfl, rfl⟩, rfl⟩ <;>
  · cases D <;> simp [nilTy] at hd
    simp only [Op.equalIn, Sem.run_bind, run_underlying hD, Result.andThen_ok]
    first | rfl | (cases p <;> rfl)

theorem nilEqK_spec {P : Program} {M : Mem} {H : List LB} {op : BinOp} {t : TypeId} {k : Nat} {x : LV} {K : LV → Prop} (xo yo : Operand) (Y : Value)
    (hY : (k = 0 ∧ Y = .pointer none) ∨ (k = 1 ∧ Y = .nilFunc) ∨ (k = 2 ∧ Y = .nilIface) ∨ (k = 3 ∧ ∃ n c, Y = .slice none n c) ∨ (k = 4 ∧ Y = .map none))
    (hyo : Y = .nilIface → ∃ c, yo = .const c) (h : nilEqK P op t k x K) :
    ValOk P M H True (fun e => do eqGuard op t xo yo (x.den e) Y; binOp op t (x.den e) Y) K := by
  unfold nilEqK at h
  split at h
  · rename_i D hD
    obtain ⟨hk, h0⟩ := bif_elim h
    obtain ⟨k', b, h1, hx⟩ := nilK_spec h0
    obtain ⟨hkk, h2⟩ := bif_elim h1
    have hkk := Nat.eq_of_beq_eq_true hkk
    clear h h0 h1
    subst hkk
    have hYa : ∀ c, Y ≠ .agg c := by
      intro c hc; subst hc; simp at hY
    have heq : ∀ e w, (Op.equal t (x.den e) Y).run P w = .ok b w := by
      intro e w
      refine equalIn_nil 9999 hD ?_
      rcases hx e with ⟨rfl, p, h1, h2⟩ | ⟨rfl, h1⟩ | ⟨rfl, h1⟩ | ⟨rfl, p, n, c, h1, h2⟩ | ⟨rfl, p, h1, h2⟩ <;> simp at hY
      · exact .inl ⟨hk, ⟨p, h1, h2⟩, hY⟩
      · exact .inr (.inl ⟨hk, h1, hY⟩)
      · exact .inr (.inr (.inl ⟨hk, h1, hY⟩))
      · exact .inr (.inr (.inr (.inl ⟨hk, ⟨p, n, c, h1, h2⟩, hY⟩)))
      · exact .inr (.inr (.inr (.inr ⟨hk, ⟨p, h1, h2⟩, hY⟩)))
    have hb : ∀ e, (binOp .eql t (x.den e) Y = do pure (.bool (← Op.equal t (x.den e) Y))) ∧ (binOp .neq t (x.den e) Y = do pure (.bool (!(← Op.equal t (x.den e) Y)))) := by
      intro e
      rcases hx e with ⟨rfl, p, h1, h2⟩ | ⟨rfl, h1⟩ | ⟨rfl, h1⟩ | ⟨rfl, p, n, c, h1, h2⟩ | ⟨rfl, p, h1, h2⟩ <;> simp at hY
      · subst hY; rw [h1]; cases p <;> exact ⟨rfl, rfl⟩
      · subst hY; rcases h1 with ⟨h1, _⟩ | ⟨f, a, c, h1, _⟩ <;> rw [h1] <;> exact ⟨rfl, rfl⟩
      · subst hY; rcases h1 with ⟨h1, _⟩ | ⟨f, a, h1, _⟩ <;> rw [h1] <;> exact ⟨rfl, rfl⟩
      · obtain ⟨n', c', rfl⟩ := hY; rw [h1]; exact ⟨rfl, rfl⟩
      · subst hY; rw [h1]; exact ⟨rfl, rfl⟩
    split at h2
    · exact ⟨_, h2, fun e own w _ _ => ⟨trivial, fun w => by
        simp only [Sem.run_bind, run_eqGuard_plain _ t xo yo _ Y ⟨hYa, hyo⟩, Result.andThen_ok, (hb e).1, heq, Sem.run_pure, LV.den]⟩⟩
    · exact ⟨_, h2, fun e own w _ _ => ⟨trivial, fun w => by
        simp only [Sem.run_bind, run_eqGuard_plain _ t xo yo _ Y ⟨hYa, hyo⟩, Result.andThen_ok, (hb e).2, heq, Sem.run_pure, LV.den]⟩⟩
    · exact h2.elim
  · exact h.elim

theorem ValOk.mono {P : Program} {M : Mem} {H : List LB} {ok ok' : Prop} {s : Env → Sem Value} {K : LV → Prop} (h : ValOk P M H ok s K) (hk : ok' → ok) : ValOk P M H ok' s K := by
  obtain ⟨y, h1, h2⟩ := h.out
  exact ⟨y, h1, fun e own w hs ho => h2 e own w hs (hk ho)⟩

theorem binK_spec {P : Program} {M : Mem} {H : List LB} {op : BinOp} {t : TypeId} {xo yo : Operand} {x y : LV} {K : LV → Prop} (h : binK P M op t xo yo x y K) :
    ValOk P M H True (fun e => do eqGuard op t xo yo (x.den e) (y.den e); binOp op t (x.den e) (y.den e)) K := by
  unfold binK at h
  split at h
  · rename_i k a k' b
    cases hs : isShift op
    · rw [hs] at h
      simp only [cond] at h
      split at h
      · rename_i hk; exact intK_spec t xo yo k' (.inr hk) h
      · exact h.elim
    · rw [hs] at h; exact intK_spec t xo yo k' (.inl hs) h
  · rename_i a b
    split at h
    · rename_i ht
      exact ⟨_, h, fun e own w _ _ => ⟨trivial, fun w => by
        simp only [LV.den, Sem.run_bind, run_eqGuard_plain _ t xo yo _ (.bool b) ⟨by simp, by simp⟩, Result.andThen_ok]
        simp only [binOp, Sem.run_bind, Go.run_equal_bool w t a b ht, Result.andThen_ok, Sem.run_pure]⟩⟩
    · rename_i ht
      exact ⟨_, h, fun e own w _ _ => ⟨trivial, fun w => by
        simp only [LV.den, Sem.run_bind, run_eqGuard_plain _ t xo yo _ (.bool b) ⟨by simp, by simp⟩, Result.andThen_ok]
        simp only [binOp, Sem.run_bind, Go.run_equal_bool w t a b ht, Result.andThen_ok, Sem.run_pure]⟩⟩
    · exact h.elim
  · rename_i a b
    unfold strK at h
    split at h
    · have h := M.chkOk h
      refine ⟨_, h.2, fun e own w _ _ => ⟨trivial, fun w => ?_⟩⟩
      simp only [LV.den, Sem.run_bind, run_eqGuard_plain _ t xo yo _ (.string b) ⟨by simp, by simp⟩, Result.andThen_ok]
      simp only [binOp, Op.stringOp]
      rw [if_neg]
      · rfl
      · have := h.1; simp [IntKind.max, IntKind.signed, IntKind.bits]; omega
    · exact ⟨_, h, fun e own w _ _ => ⟨trivial, fun w => by
        simp only [LV.den, Sem.run_bind, run_eqGuard_plain _ t xo yo _ (.string b) ⟨by simp, by simp⟩, Result.andThen_ok]
        simp only [binOp, Op.stringOp, Sem.run_pure]⟩⟩
    · exact ⟨_, h, fun e own w _ _ => ⟨trivial, fun w => by
        simp only [LV.den, Sem.run_bind, run_eqGuard_plain _ t xo yo _ (.string b) ⟨by simp, by simp⟩, Result.andThen_ok]
        simp only [binOp, Op.stringOp, Sem.run_pure]⟩⟩
    · exact h.elim
  · exact nilEqK_spec xo yo _ (.inl ⟨rfl, rfl⟩) (by simp) h
  · exact nilEqK_spec xo yo _ (.inr (.inl ⟨rfl, rfl⟩)) (by simp) h
  · split at h
    · exact nilEqK_spec xo _ _ (.inr (.inr (.inl ⟨rfl, rfl⟩))) (fun _ => ⟨_, rfl⟩) h
    · exact h.elim
  · exact nilEqK_spec xo yo _ (.inr (.inr (.inr (.inl ⟨rfl, _, _, rfl⟩)))) (by simp) h
  · exact nilEqK_spec xo yo _ (.inr (.inr (.inr (.inr ⟨rfl, rfl⟩)))) (by simp) h
  · obtain ⟨X, h, hX⟩ := rawK_spec h
    obtain ⟨Y, h, hY⟩ := rawK_spec h
    obtain ⟨r, h1, h2⟩ := (M.binOk h).out
    exact ⟨_, h2, fun e own w _ _ => ⟨trivial, fun w => by rw [hX, hY]; exact h1 w⟩⟩
end Go.Lx
