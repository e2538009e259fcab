/-
  The symbolic executor Lx, part 8: calls; one operation.
-/
import Derived.Test.YtnehadffbelhnaaGreatDoorLx8s
namespace Go.Lx
open Go.RowKit

/-- One operation. -/
structure OpOk (P : Program) (M : Mem) (o : Oper) (ts : TS) (H : List LB) (K : LV → List LB → Prop) : Prop where
  out : ∀ e own w a, Sat M e own w H → Tm e H.length ts a → ∀ (next : Act → World → Prop) (Q : Exit → Act → World → Prop),
    (∀ e' own' w' y H', K y H' → H.length ≤ H'.length → Agree e e' H.length → Sat M e' own' w' H' → Ext own w own' w' → y.sc H'.length → next (a.put o.dst (y.den e')) w') →
    o.wp P a w next Q

def callValK {P : Program} {M : Mem} (E : Eng P M) (f : LV) (args : List LV) (H : List LB) (K : LV → List LB → Prop) : Prop :=
  match f with
  | .func (.func g) first cap => appK (fun xs => appK (fun ys => E.call g ys H K) first xs) args cap
  | .func (.method name) (recv :: first) _ => appK (fun ys => E.invoke recv name ys H K) first args
  | _ => False

def callBK (P : Program) (b : Builtin) (ats : List TypeId) (args : List LV) (H : List LB) (K : LV → Prop) : Prop :=
  match b with
  | .len => (match ats, args with
    | [t], [x] => lenNK P t x H K
    | _, _ => False)
  | .min => (match args with
    | x :: r => intLK (fun k a => minK false k K a r) x
    | _ => False)
  | .max => (match args with
    | x :: r => intLK (fun k a => minK true k K a r) x
    | _ => False)
  | _ => False
def callAK (P : Program) (M : Mem) (ats : List TypeId) (args : List LV) (H : List LB) (K : LV → List LB → Prop) : Prop :=
  match ats, args with
  | [t, t'], [s, x] => bif Nat.beq t t' then appendNK P M t s x H K else False
  | _, _ => False

def callCK (P : Program) (M : Mem) (ats : List TypeId) (args : List LV) (H : List LB) (K : LV → List LB → Prop) : Prop :=
  match ats, args with
  | [t, _], [s, x] => copyNK P M t s x H K
  | _, _ => False

def callDK (P : Program) (ats : List TypeId) (args : List LV) (H : List LB) (K : LV → List LB → Prop) : Prop :=
  match ats, args with
  | [t, _], [s, x] => deleteK P t s x H K
  | _, _ => False
def lenOfMap (P : Program) (ats : List TypeId) : Bool :=
  match ats with
  | [t] => (match P.underlying t with
    | some (.map _ _) => true
    | _ => false)
  | _ => false
def callLK (P : Program) (ats : List TypeId) (args : List LV) (H : List LB) (K : LV → Prop) : Prop :=
  match ats, args with
  | [t], [x] => mapLenK P t x H K
  | _, _ => False

def evParts (ts : TS) : List (Nat × Operand) → (List (Nat × LV) → Prop) → Prop
  | [], K => K []
  | (i, x) :: r, K => ev ts (fun v => evParts ts r (fun qs => K ((i, v) :: qs))) x

def boolLK (K : Bool → Prop) : LV → Prop
  | .v x => match x with
    | .bool b => K b
    | _ => False
  | _ => False
theorem boolLK_spec {K : Bool → Prop} {x : LV} (h : boolLK K x) : ∃ b, K b ∧ x = .v (.bool b) := by
  unfold boolLK at h
  split at h
  · split at h
    · exact ⟨_, h, rfl⟩
    · exact h.elim
  · exact h.elim

def evO (ts : TS) : Option Operand → (Option LV → Prop) → Prop
  | none, K => K none
  | some x, K => ev ts (fun v => K (some v)) x

/-- An operation on values, or a load. -/
def vcVal (P : Program) (M : Mem) (o : Oper) (ts : TS) (H : List LB) (K : LV → Prop) : Prop :=
  match o.op with
  | .move x => ev ts K x
  | .assign x => ev ts K x
  | .pick c a b => ev ts (boolLK fun t => forkB t (ev ts K a) (ev ts K b)) c
  | .build t ps => evParts ts ps.toList fun qs => buildK P t qs K
  | .load t a => ev ts (loadK P M t H K) a
  | .nilCheck x => ev ts (fun v => nilCheckK v K) x
  | .binOp op t x y _ => ev ts (fun v => ev ts (fun u => binK P M op t x y v u K) y) x
  | .unOp op _ x => ev ts (unK op K) x
  | .convert s d x => ev ts (fun v => convertK P s d v K) x
  | .makeInterface t x => ev ts (fun v => makeIfaceK P t v K) x
  | .makeFunc fn first cap => evs ts first.toList fun fs => evs ts cap.toList fun cs => K (.func fn fs cs)
  | .fieldAddr s x f => ev ts (fun v => fieldAddrK P s f v K) x
  | .field s x f => ev ts (fun v => fieldValK P s f v K) x
  | .indexAddr t x i => ev ts (fun v => ev ts (fun u => indexAddrNK P t v u H K) i) x
  | .index t x i => ev ts (fun v => ev ts (fun u => indexK P t v u K) i) x
  | .extract x i => ev ts (fun v => extractK i v K) x
  | .slice t x lo hi mx => ev ts (fun v => evO ts lo fun l => evO ts hi fun h => evO ts mx fun m => sliceNK P t v l h m H K) x
  | .typeAssert x _ a ok => ev ts (fun v => assertK P a ok v K) x
  | .call c => (match c.callee with
    | .builtin b => evs ts c.args.toList fun vs => callBK P b c.argTypes.toList vs H K
    | _ => False)
  | _ => False

def vcOp {P : Program} {M : Mem} (E : Eng P M) (o : Oper) (ts : TS) (H : List LB) (K : LV → List LB → Prop) : Prop :=
  match o.op with
  | .alloc t => allocK P t H K
  | .box t x => ev ts (fun v => boxK t v H K) x
  | .buildSlice t n ps => evParts ts ps.toList fun qs => buildSliceK P M t n qs H K
  | .store t a x => ev ts (fun v => ev ts (fun u => storeK P M t v u H fun H' => K (.v undef) H') x) a
  | .binOp op t x y _ => ev ts (fun v => ev ts (fun u => binNK P M op t x y v u H fun z => K z H) y) x
  | .makeSlice t l c => ev ts (fun v => ev ts (fun u => makeSliceK P M t v u H K) c) l
  | .makeMap t r => evO ts r fun v => makeMapK P t v H K
  | .lookup t x k ok => ev ts (fun v => ev ts (fun u => lookupK P t v u ok H fun y => K y H) k) x
  | .mapUpdate t x k z => ev ts (fun v => ev ts (fun u => ev ts (fun y => updateK P t v u y H fun H' => K (.v undef) H') z) k) x
  | .insert t x k z => ev ts (fun v => ev ts (fun u => ev ts (fun y => updateK P t v u y H fun H' => K (.v undef) H') z) k) x
  | .call c => (match c.callee with
    | .value f => ev ts (fun fv => evs ts c.args.toList fun vs => callValK E fv vs H K) f
    | .invoke r name => ev ts (fun rv => evs ts c.args.toList fun vs => E.invoke rv name vs H K) r
    | .builtin b => (match b with
      | .append => evs ts c.args.toList fun vs => callAK P M c.argTypes.toList vs H K
      | .copy => evs ts c.args.toList fun vs => callCK P M c.argTypes.toList vs H K
      | .delete => evs ts c.args.toList fun vs => callDK P c.argTypes.toList vs H K
      | .len => bif lenOfMap P c.argTypes.toList then evs ts c.args.toList (fun vs => callLK P c.argTypes.toList vs H fun y => K y H) else vcVal P M o ts H fun y => K y H
      | _ => vcVal P M o ts H fun y => K y H))
  | _ => vcVal P M o ts H fun y => K y H

theorem evParts_spec {e : Env} {n : Nat} {ts : TS} {a : Act} (h : Tm e n ts a) : ∀ {xs : List (Nat × Operand)} {K : List (Nat × LV) → Prop}, evParts ts xs K →
    ∃ qs, K qs ∧ xs.map (fun q => (q.1, a.eval q.2)) = qs.map (fun q => (q.1, q.2.den e)) ∧ ∀ q ∈ qs, q.2.sc n
  | [], K, hk => ⟨[], hk, rfl, by simp⟩
  | (i, x) :: xs, K, hk => by
    obtain ⟨y, h1, h2, h3⟩ := ev_spec h hk
    obtain ⟨ys, k1, k2, k3⟩ := evParts_spec h h1
    refine ⟨(i, y) :: ys, k1, by simp [h2, k2], fun q hq => ?_⟩
    rcases List.mem_cons.1 hq with rfl | hq
    · exact h3
    · exact k3 q hq

theorem ev_spec' {ts : TS} {K : LV → Prop} : ∀ {x : Operand}, ev ts K x → ∃ y, K y ∧ ∀ e n a, Tm e n ts a → a.eval x = y.den e ∧ y.sc n
  | .tmp t, hk => by
    obtain ⟨y, h1, h2⟩ := look_spec hk
    exact ⟨y, h2, fun e n a h => h.tm t y h1⟩
  | .const x, hk => ⟨.v x, hk, fun e n a _ => ⟨rfl, trivial⟩⟩
  | .global g, hk => ⟨_, hk, fun e n a _ => ⟨rfl, trivial⟩⟩
  | .func f, hk => ⟨_, hk, fun e n a _ => ⟨by simp [Act.eval, LV.den, denL], by simp [LV.sc, scL]⟩⟩
theorem evs_spec' {ts : TS} : ∀ {xs : List Operand} {K : List LV → Prop}, evs ts xs K → ∃ ys, K ys ∧ ∀ e n a, Tm e n ts a → xs.map a.eval = denL e ys ∧ scL n ys
  | [], K, hk => ⟨[], hk, fun e n a _ => ⟨rfl, trivial⟩⟩
  | x :: xs, K, hk => by
    obtain ⟨y, h1, h2⟩ := ev_spec' hk
    obtain ⟨ys, k1, k2⟩ := evs_spec' h1
    refine ⟨y :: ys, k1, fun e n a h => ?_⟩
    obtain ⟨h3, h4⟩ := h2 e n a h
    obtain ⟨k3, k4⟩ := k2 e n a h
    exact ⟨by simp [denL, h3, k3], h4, k4⟩
theorem evO_spec {ts : TS} {x : Option Operand} {K : Option LV → Prop} (h : evO ts x K) : ∃ y, K y ∧ ∀ e n a, Tm e n ts a → x.map a.eval = y.map (LV.den e) := by
  cases x with
  | none => exact ⟨none, h, fun _ _ _ _ => rfl⟩
  | some x =>
    obtain ⟨y, h1, h2⟩ := ev_spec' h
    exact ⟨some y, h1, fun e n a ht => by simp [(h2 e n a ht).1]⟩
theorem evParts_spec' {ts : TS} : ∀ {xs : List (Nat × Operand)} {K : List (Nat × LV) → Prop}, evParts ts xs K →
    ∃ qs, K qs ∧ ∀ e n a, Tm e n ts a → xs.map (fun q => (q.1, a.eval q.2)) = qs.map (fun q => (q.1, q.2.den e)) ∧ ∀ q ∈ qs, q.2.sc n
  | [], K, hk => ⟨[], hk, fun e n a _ => ⟨rfl, by simp⟩⟩
  | (i, x) :: xs, K, hk => by
    obtain ⟨y, h1, h2⟩ := ev_spec' hk
    obtain ⟨ys, k1, k2⟩ := evParts_spec' h1
    refine ⟨(i, y) :: ys, k1, fun e n a h => ?_⟩
    obtain ⟨h3, h4⟩ := h2 e n a h
    obtain ⟨k3, k4⟩ := k2 e n a h
    refine ⟨by simp [h3, k3], fun q hq => ?_⟩
    rcases List.mem_cons.1 hq with rfl | hq
    · exact h4
    · exact k4 q hq

section
variable {P : Program} {M : Mem} {o : Oper} {ts : TS} {H : List LB} {K : LV → List LB → Prop}

/-- What suffices of an operation that yields a value. -/
theorem OpOk.of_run (h : ∀ e own w a, Sat M e own w H → Tm e H.length ts a → ∃ e' own' w' y H', K y H' ∧ H.length ≤ H'.length ∧ Agree e e' H.length ∧ Sat M e' own' w' H' ∧ Ext own w own' w' ∧ y.sc H'.length ∧
    (execOp a.eval o).run P w = .ok (.value (y.den e')) w') : OpOk P M o ts H K := by
  refine ⟨fun e own w a hs ht next Q hn => ?_⟩
  obtain ⟨e', own', w', y, H', h1, h2, h3, h4, h5, h6, h7⟩ := h e own w a hs ht
  unfold Oper.wp
  rw [h7, Oper.upon_value]
  exact hn e' own' w' y H' h1 h2 h3 h4 h5 h6

theorem OpOk.of_mem (hv : ∀ e a, Tm e H.length ts a → ∃ (t : Env → Sem Value) (ok : Prop), ok ∧ MemOk P M H ok t K ∧
    ∀ w, (execOp a.eval o).run P w = ((t e).run P w).andThen fun v w' => .ok (.value v) w') : OpOk P M o ts H K :=
  .of_run fun e own w a hs ht => by
    obtain ⟨t, ok, hok, hv, hr⟩ := hv e a ht
    obtain ⟨y, H', h1, hl, h2⟩ := hv.out
    obtain ⟨e', own', w', h3, h4, h5, h6, h7⟩ := h2 e own w hs hok
    exact ⟨e', own', w', y, H', h1, hl, h3, h4, h5, h6, by rw [hr, h7]; rfl⟩

theorem OpOk.of_skip (hv : ∀ e a, Tm e H.length ts a → ∃ (t : Env → Sem Unit) (ok : Prop), ok ∧ MemOk P M H ok (fun e => do t e; pure undef) (fun _ H' => K (.v undef) H') ∧
    ∀ w, (execOp a.eval o).run P w = ((t e).run P w).andThen fun _ w' => .ok .skip w') : OpOk P M o ts H K := by
  refine ⟨fun e own w a hs ht next Q hn => ?_⟩
  obtain ⟨t, ok, hok, hv, hr⟩ := hv e a ht
  obtain ⟨y, H', h1, hl, h2⟩ := hv.out
  obtain ⟨e', own', w', h3, h4, h5, h6, h7⟩ := h2 e own w hs hok
  have h8 : (t e).run P w = .ok () w' := by
    simp only [Sem.run_bind, Sem.run_pure] at h7
    cases hw : (t e).run P w with
    | ok u w2 => rw [hw] at h7; simp only [Result.andThen_ok] at h7; injection h7 with _ h9; rw [h9]
    | halt x w2 => rw [hw] at h7; cases h7
  unfold Oper.wp
  rw [hr, h8, Result.andThen_ok, Oper.upon_skip]
  exact hn e' own' w' (.v undef) H' h1 hl h3 h4 h5 trivial

theorem list_map_toArray (ρ : Operand → Value) (xs : Array Operand) : (xs.toList.map ρ).toArray = xs.map ρ := by cases xs; simp

def isLoad (o : Oper) : Bool := match o.op with
  | .load _ _ => true
  | _ => false
end
/-- What an operation on values, or a load, comes to. -/
structure ValRes (P : Program) (M : Mem) (o : Oper) (ts : TS) (H : List LB) (K : LV → Prop) : Prop where
  out : ∃ y, K y ∧ ∀ e own w a, Sat M e own w H → Tm e H.length ts a → y.sc H.length ∧ (execOp a.eval o).run P w = .ok (.value (y.den e)) w ∧
    (isLoad o = false → ∀ w', (execOp a.eval o).run P w' = .ok (.value (y.den e)) w')
section
variable {P : Program} {M : Mem} {o : Oper} {ts : TS} {H : List LB}
theorem ValRes.of_ev {K : LV → Prop} {x : Operand} (h : ev ts K x) (hr : ∀ (a : Act) (w : World), (execOp a.eval o).run P w = .ok (.value (a.eval x)) w) : ValRes P M o ts H K := by
  obtain ⟨y, h1, h2⟩ := ev_spec' h
  exact ⟨y, h1, fun e own w a hs ht => by
    obtain ⟨h3, h4⟩ := h2 e H.length a ht
    exact ⟨h4, by rw [hr, h3], fun _ w' => by rw [hr, h3]⟩⟩
theorem ValRes.of_val {K : LV → Prop} {t : Env → Sem Value} {ok : Prop} (hv : ValOk P M H ok t K)
    (hr : ∀ e a, Tm e H.length ts a → ok ∧ ∀ w, (execOp a.eval o).run P w = ((t e).run P w).andThen fun v w' => .ok (.value v) w') : ValRes P M o ts H K := by
  obtain ⟨y, h1, h2⟩ := hv.out
  refine ⟨y, h1, fun e own w a hs ht => ?_⟩
  obtain ⟨h3, h4⟩ := hr e a ht
  obtain ⟨h5, h6⟩ := h2 e own w hs h3
  exact ⟨h5, by rw [h4, h6]; rfl, fun _ w' => by rw [h4, h6]; rfl⟩

theorem vcVal_spec {K : LV → Prop} (h : vcVal P M o ts H K) : ValRes P M o ts H K := by
  unfold vcVal at h
  split at h
  case h_1 x hop => exact .of_ev h fun a w => by simp only [execOp, hop]; rfl
  case h_2 x hop => exact .of_ev h fun a w => by simp only [execOp, hop]; rfl
  case h_3 c x y hop =>
    obtain ⟨cv, h1, h2⟩ := ev_spec' h
    obtain ⟨t, h3, rfl⟩ := boolLK_spec h1
    cases t
    · obtain ⟨z, k1, k2⟩ := ev_spec' h3
      refine ⟨z, k1, fun e own w a hs ht => ⟨(k2 e _ a ht).2, ?_⟩⟩
      have : ∀ w, (execOp a.eval o).run P w = .ok (.value (z.den e)) w := fun w => by simp [execOp, hop, (h2 e _ a ht).1, (k2 e _ a ht).1, LV.den, asBool]
      exact ⟨this w, fun _ => this⟩
    · obtain ⟨z, k1, k2⟩ := ev_spec' h3
      refine ⟨z, k1, fun e own w a hs ht => ⟨(k2 e _ a ht).2, ?_⟩⟩
      have : ∀ w, (execOp a.eval o).run P w = .ok (.value (z.den e)) w := fun w => by simp [execOp, hop, (h2 e _ a ht).1, (k2 e _ a ht).1, LV.den, asBool]
      exact ⟨this w, fun _ => this⟩
  case h_4 t ps hop =>
    obtain ⟨qs, h1, h2⟩ := evParts_spec' h
    refine .of_val (buildK_spec h1) fun e a ht => ⟨(h2 e _ a ht).2, fun w => ?_⟩
    have : (ps.map fun (q : Nat × Operand) => (q.1, a.eval q.2)) = (qs.map fun q => (q.1, q.2.den e)).toArray := by
      rw [← (h2 e _ a ht).1]; cases ps; simp
    simp only [execOp, hop, Sem.run_bind, Sem.run_pure, ← this]
  case h_5 t x hop =>
    obtain ⟨y, h1, h2⟩ := ev_spec' h
    obtain ⟨z, k1, k2⟩ := loadK_spec h1
    refine ⟨z, k1, fun e own w a hs ht => ?_⟩
    obtain ⟨h3, h4⟩ := h2 e _ a ht
    obtain ⟨k3, k4⟩ := k2 e own w hs h4
    exact ⟨k3, by simp only [execOp, hop, Sem.run_bind, h3, k4, Result.andThen_ok, Sem.run_pure], fun hl => by simp [isLoad, hop] at hl⟩
  case h_6 x hop =>
    obtain ⟨y, h1, h2⟩ := ev_spec' h
    obtain ⟨k1, k2⟩ := nilCheckK_spec h1
    refine ⟨y, k1, fun e own w a hs ht => ?_⟩
    obtain ⟨h3, h4⟩ := h2 e _ a ht
    exact ⟨h4, k2 e P w x a.eval o hop h3, fun _ w' => k2 e P w' x a.eval o hop h3⟩
  case h_7 op t x y yt hop =>
    obtain ⟨u, h1, h2⟩ := ev_spec' h
    obtain ⟨v, h4, h5⟩ := ev_spec' h1
    exact .of_val (binK_spec h4) fun e a ht => ⟨trivial, fun w => by simp only [execOp, hop, (h2 e _ a ht).1, (h5 e _ a ht).1, Sem.run_bind, Sem.run_pure]⟩
  case h_8 op t x hop =>
    obtain ⟨u, h1, h2⟩ := ev_spec' h
    exact .of_val (unK_spec h1) fun e a ht => ⟨(h2 e _ a ht).2, fun w => by simp only [execOp, hop, (h2 e _ a ht).1, Sem.run_bind, Sem.run_pure]⟩
  case h_9 s d x hop =>
    obtain ⟨u, h1, h2⟩ := ev_spec' h
    exact .of_val (convertK_spec h1) fun e a ht => ⟨trivial, fun w => by simp only [execOp, hop, (h2 e _ a ht).1, Sem.run_bind, Sem.run_pure]⟩
  case h_10 t x hop =>
    obtain ⟨u, h1, h2⟩ := ev_spec' h
    exact .of_val (makeIfaceK_spec h1) fun e a ht => ⟨(h2 e _ a ht).2, fun w => by simp only [execOp, hop, (h2 e _ a ht).1, Sem.run_bind, Sem.run_pure]⟩
  case h_11 fn first cap hop =>
    obtain ⟨fs, h1, h2⟩ := evs_spec' h
    obtain ⟨cs, h4, h5⟩ := evs_spec' h1
    refine ⟨_, h4, fun e own w a hs ht => ⟨⟨(h2 e _ a ht).2, (h5 e _ a ht).2⟩, ?_⟩⟩
    have : ∀ w, (execOp a.eval o).run P w = .ok (.value ((LV.func fn fs cs).den e)) w := fun w => by
      simp only [execOp, hop, Instr.makeFunc, Sem.run_bind, Sem.run_pure, Result.andThen_ok, ← list_map_toArray, (h2 e _ a ht).1, (h5 e _ a ht).1, LV.den]
    exact ⟨this w, fun _ => this⟩
  case h_12 s x f hop =>
    obtain ⟨u, h1, h2⟩ := ev_spec' h
    exact .of_val (fieldAddrK_spec h1) fun e a ht => ⟨(h2 e _ a ht).2, fun w => by simp only [execOp, hop, (h2 e _ a ht).1, Sem.run_bind, Sem.run_pure]⟩
  case h_13 s x f hop =>
    obtain ⟨u, h1, h2⟩ := ev_spec' h
    exact .of_val (fieldValK_spec h1) fun e a ht => ⟨(h2 e _ a ht).2, fun w => by simp only [execOp, hop, (h2 e _ a ht).1, Sem.run_bind, Sem.run_pure]⟩
  case h_14 t x y hop =>
    obtain ⟨u, h1, h2⟩ := ev_spec' h
    obtain ⟨v, h4, h5⟩ := ev_spec' h1
    exact .of_val (indexAddrNK_spec h4) fun e a ht => ⟨(h2 e _ a ht).2, fun w => by simp only [execOp, hop, (h2 e _ a ht).1, (h5 e _ a ht).1, Sem.run_bind, Sem.run_pure]⟩
  case h_15 t x y hop =>
    obtain ⟨u, h1, h2⟩ := ev_spec' h
    obtain ⟨v, h4, h5⟩ := ev_spec' h1
    exact .of_val (indexK_spec h4) fun e a ht => ⟨(h2 e _ a ht).2, fun w => by simp only [execOp, hop, (h2 e _ a ht).1, (h5 e _ a ht).1, Sem.run_bind, Sem.run_pure]⟩
  case h_16 x i hop =>
    obtain ⟨u, h1, h2⟩ := ev_spec' h
    exact .of_val (extractK_spec h1) fun e a ht => ⟨(h2 e _ a ht).2, fun w => by simp only [execOp, hop, (h2 e _ a ht).1, Sem.run_bind, Sem.run_pure]⟩
  case h_17 t x lo hi mx hop =>
    obtain ⟨u, h1, h2⟩ := ev_spec' h
    obtain ⟨l, h3, h4⟩ := evO_spec h1
    obtain ⟨hh, h5, h6⟩ := evO_spec h3
    obtain ⟨m, h7, h8⟩ := evO_spec h5
    exact .of_val (sliceNK_spec h7) fun e a ht => ⟨(h2 e _ a ht).2, fun w => by simp only [execOp, hop, (h2 e _ a ht).1, h4 e _ a ht, h6 e _ a ht, h8 e _ a ht, Sem.run_bind, Sem.run_pure]⟩
  case h_18 x xt as ok hop =>
    obtain ⟨u, h1, h2⟩ := ev_spec' h
    exact .of_val (assertK_spec (xt := xt) h1) fun e a ht => ⟨(h2 e _ a ht).2, fun w => by simp only [execOp, hop, (h2 e _ a ht).1, Sem.run_bind, Sem.run_pure]⟩
  case h_19 c hop =>
    split at h
    case h_1 b hf =>
      obtain ⟨vs, h4, h5⟩ := evs_spec' h
      have hr : ∀ (e : Env) (a : Act) (s : Sem Value), Tm e H.length ts a → (∀ cs, builtin b c.argTypes o.type cs (denL e vs).toArray = (do pure (.value (← s)))) → ∀ (w : World), 
          (execOp a.eval o).run P w = (s.run P w).andThen fun v w' => .ok (.value v) w' := by
        intro e a s ht hs w
        simp only [execOp, hop, resolve, hf, Sem.run_bind, Sem.run_pure, Result.andThen_ok, invoke, ← list_map_toArray, (h5 e _ a ht).1]
        rw [hs]; simp
      unfold callBK at h4
      split at h4
      · split at h4
        · rename_i t x hb
          have hb' : c.argTypes = #[t] := by rw [← Array.toArray_toList (xs := c.argTypes), hb]
          exact .of_val (lenNK_spec (ty := o.type) h4) fun e a ht => ⟨trivial, hr e a _ ht (fun cs => by simp [builtin, hb', denL])⟩
        · exact h4.elim
      · split at h4
        · rename_i x r
          obtain ⟨k, n, h7, rfl⟩ := intLK_spec h4
          obtain ⟨c', h8, h9⟩ := min_run (P := P) r n h7
          exact .of_val (t := fun e => (denL e r).foldlM Builtin.min2 (.int k n)) (ok := True) ⟨.v (.int k c'), h8, fun e own w _ _ => ⟨trivial, h9 e⟩⟩ fun e a ht => ⟨trivial, hr e a _ ht (fun cs => by
            simp [builtin, denL, LV.den, Builtin.min_])⟩
        · exact h4.elim
      · split at h4
        · rename_i x r
          obtain ⟨k, n, h7, rfl⟩ := intLK_spec h4
          obtain ⟨c', h8, h9⟩ := max_run (P := P) r n h7
          exact .of_val (t := fun e => (denL e r).foldlM Builtin.max2 (.int k n)) (ok := True) ⟨.v (.int k c'), h8, fun e own w _ _ => ⟨trivial, h9 e⟩⟩ fun e a ht => ⟨trivial, hr e a _ ht (fun cs => by
            simp [builtin, denL, LV.den, Builtin.max_])⟩
        · exact h4.elim
      · exact h4.elim
    · exact h.elim
  case h_20 => exact h.elim
end
section
variable {P : Program} {M : Mem} {o : Oper} {ts : TS} {H : List LB} {K : LV → List LB → Prop}

theorem vcVal_op (h : vcVal P M o ts H fun y => K y H) : OpOk P M o ts H K := by
  obtain ⟨y, h1, h2⟩ := (vcVal_spec h).out
  exact .of_run fun e own w a hs ht => by
    obtain ⟨h3, h4, _⟩ := h2 e own w a hs ht
    exact ⟨e, own, w, y, H, h1, Nat.le_refl _, .refl _ _, hs, .refl _ _, h3, h4⟩

theorem vcOp_spec {E : Eng P M} (h : vcOp E o ts H K) : OpOk P M o ts H K := by
  unfold vcOp at h
  split at h
  case h_1 t hop => exact .of_mem fun e a ht => ⟨_, _, trivial, allocK_spec h, fun w => by simp only [execOp, hop, Sem.run_bind, Sem.run_pure]⟩
  case h_2 t x hop =>
    exact .of_mem fun e a ht => by
      obtain ⟨y, h1, h2, h3⟩ := ev_spec ht h
      exact ⟨_, _, h3, boxK_spec h1, fun w => by simp only [execOp, hop, Sem.run_bind, Sem.run_pure, h2]⟩
  case h_3 t n ps hop =>
    exact .of_mem fun e a ht => by
      obtain ⟨qs, h1, h2, h3⟩ := evParts_spec ht h
      refine ⟨_, _, h3, buildSliceK_spec h1, fun w => ?_⟩
      have : (ps.map fun (q : Nat × Operand) => (q.1, a.eval q.2)) = (qs.map fun q => (q.1, q.2.den e)).toArray := by
        rw [← h2]; cases ps; simp
      simp only [execOp, hop, Sem.run_bind, Sem.run_pure, ← this]
  case h_4 t x y hop =>
    refine ⟨fun e own w a hs ht next Q hn => ?_⟩
    obtain ⟨u, h1, h2, h3⟩ := ev_spec ht h
    obtain ⟨v, h4, h5, h6⟩ := ev_spec ht h1
    obtain ⟨H', k1, k2, k3⟩ := storeK_spec h4
    obtain ⟨w', k4, k5, k6⟩ := k3 e own w hs h3 h6
    have hr : (execOp a.eval o).run P w = .ok .skip w' := by
      simp only [execOp, hop, Sem.run_bind, h2, h5, k6, Result.andThen_ok, Sem.run_pure]
    unfold Oper.wp
    rw [hr, Oper.upon_skip]
    exact hn e own w' (.v undef) H' k1 (by omega) (.refl _ _) k4 k5 trivial
  case h_5 op t x y yt hop =>
    exact .of_mem fun e a ht => by
      obtain ⟨u, h1, h2, h3⟩ := ev_spec ht h
      obtain ⟨v, h4, h5, h6⟩ := ev_spec ht h1
      exact ⟨_, _, trivial, binNK_spec h4, fun w => by simp only [execOp, hop, h2, h5, Sem.run_bind, Sem.run_pure]⟩
  case h_6 t x y hop =>
    exact .of_mem fun e a ht => by
      obtain ⟨u, h1, h2, h3⟩ := ev_spec ht h
      obtain ⟨v, h4, h5, h6⟩ := ev_spec ht h1
      exact ⟨_, _, trivial, makeSliceK_spec h4, fun w => by simp only [execOp, hop, h2, h5, Sem.run_bind, Sem.run_pure]⟩
  case h_7 t r hop =>
    refine .of_mem fun e a ht => ?_
    obtain ⟨v, h1, h2⟩ := evO_spec h
    exact ⟨_, _, trivial, makeMapK_spec h1, fun w => by simp only [execOp, hop, h2 e _ a ht, Sem.run_bind, Sem.run_pure]⟩
  case h_8 t x k ok hop =>
    refine .of_mem fun e a ht => ?_
    obtain ⟨u, h1, h2, h3⟩ := ev_spec ht h
    obtain ⟨v, h4, h5, h6⟩ := ev_spec ht h1
    exact ⟨_, _, trivial, lookupK_spec h4, fun w => by simp only [execOp, hop, h2, h5, Sem.run_bind, Sem.run_pure]⟩
  case h_9 t x k z hop =>
    refine .of_skip fun e a ht => ?_
    obtain ⟨u, h1, h2, h3⟩ := ev_spec ht h
    obtain ⟨v, h4, h5, h6⟩ := ev_spec ht h1
    obtain ⟨y, h7, h8, h9⟩ := ev_spec ht h4
    exact ⟨_, _, h9, updateK_spec h7, fun w => by simp only [execOp, hop, h2, h5, h8, Sem.run_bind, Sem.run_pure]⟩
  case h_10 t x k z hop =>
    refine .of_skip fun e a ht => ?_
    obtain ⟨u, h1, h2, h3⟩ := ev_spec ht h
    obtain ⟨v, h4, h5, h6⟩ := ev_spec ht h1
    obtain ⟨y, h7, h8, h9⟩ := ev_spec ht h4
    exact ⟨_, _, h9, updateK_spec h7, fun w => by simp only [execOp, hop, h2, h5, h8, Sem.run_bind, Sem.run_pure]⟩
  case h_11 c hop =>
    split at h
    case h_1 f hf =>
      refine ⟨fun e own w a hs ht next Q hn => ?_⟩
      obtain ⟨fv, h1, h2, h3⟩ := ev_spec ht h
      obtain ⟨vs, h4, h5, h6⟩ := evs_spec ht h1
      match fv, h4 with
      | .func (.func g) first cap, h4 =>
        have h7 := E.callOk (appK_spec (appK_spec h4))
        have hsc : scL H.length (first ++ (vs ++ cap)) := by
          have h3' : scL H.length first ∧ scL H.length cap := h3
          rw [scL_iff] at h6 ⊢
          have h8 := (scL_iff _ _).1 h3'.1
          have h9 := (scL_iff _ _).1 h3'.2
          intro x hx
          simp only [List.mem_append] at hx
          rcases hx with hx | hx | hx
          · exact h8 x hx
          · exact h6 x hx
          · exact h9 x hx
        have hr : (execOp a.eval o).run P w = .ok (.enter g (denL e (first ++ (vs ++ cap))).toArray) w := by
          simp only [execOp, hop, resolve, hf, Sem.run_bind, h2, LV.den, Deferred.ofValue, Sem.run_pure, Result.andThen_ok, invoke]
          rw [h7.enter, ← list_map_toArray, h5, denL_append, denL_append]
          simp
        unfold Oper.wp
        rw [hr, Oper.upon_enter]
        refine (h7.out e own w hs hsc).mono fun en w' hp => ?_
        obtain ⟨e', own', H', r, rfl, k1, k2, k3, k4, k5, k6⟩ := hp
        exact hn e' own' w' r H' k1 k2 k3 k4 k5 k6
      | .func (.method name) (recv :: first) cap, h4 =>
        have h7 := E.invokeOk (appK_spec h4)
        have hrec : scL H.length (recv :: first) := h3.1
        have hsc : scL H.length (first ++ vs) := by
          rw [scL_iff] at h6 ⊢
          have h8 := (scL_iff _ _).1 hrec.2
          intro x hx
          rcases List.mem_append.1 hx with hx | hx
          · exact h8 x hx
          · exact h6 x hx
        obtain ⟨f, as, k1, k2⟩ := h7.out e own w hs hrec.1 hsc
        have hr : (execOp a.eval o).run P w = .ok (.enter f as) w := by
          simp only [execOp, hop, resolve, hf, Sem.run_bind, h2, LV.den, Deferred.ofValue, Sem.run_pure, Result.andThen_ok, invoke, ← list_map_toArray, h5, denL]
          rw [denL_append] at k1
          simp only [List.append_toArray, List.cons_append, List.getElem?_toArray, List.getElem?_cons_zero]
          have : ((recv.den e :: (denL e first ++ denL e vs)).toArray).extract 1 (recv.den e :: (denL e first ++ denL e vs)).toArray.size = (denL e first ++ denL e vs).toArray := by
            simp [List.take_of_length_le]
          rw [this]; exact k1
        unfold Oper.wp
        rw [hr, Oper.upon_enter]
        refine k2.mono fun en w' hp => ?_
        obtain ⟨e', own', H', r, rfl, k1, k2, k3, k4, k5, k6⟩ := hp
        exact hn e' own' w' r H' k1 k2 k3 k4 k5 k6
    case h_2 r name hf =>
      refine ⟨fun e own w a hs ht next Q hn => ?_⟩
      obtain ⟨fv, h1, h2, h3⟩ := ev_spec ht h
      obtain ⟨vs, h4, h5, h6⟩ := evs_spec ht h1
      obtain ⟨f, as, k1, k2⟩ := (E.invokeOk h4).out e own w hs h3 h6
      have hr : (execOp a.eval o).run P w = .ok (.enter f as) w := by
        simp only [execOp, hop, resolve, hf, Sem.run_bind, h2, Sem.run_pure, Result.andThen_ok, invoke, ← list_map_toArray, h5]
        have : (#[fv.den e] ++ (denL e vs).toArray).extract 1 (#[fv.den e] ++ (denL e vs).toArray).size = (denL e vs).toArray := by
          simp
        simp only [this]
        simpa using k1
      unfold Oper.wp
      rw [hr, Oper.upon_enter]
      refine k2.mono fun en w' hp => ?_
      obtain ⟨e', own', H', r, rfl, k1, k2, k3, k4, k5, k6⟩ := hp
      exact hn e' own' w' r H' k1 k2 k3 k4 k5 k6
    case h_3 b hf =>
      split at h
      · refine .of_mem fun e a ht => ?_
        obtain ⟨vs, h4, h5, h6⟩ := evs_spec ht h
        have hr : ∀ (w : World) (s : Sem Value), (∀ cs, builtin .append c.argTypes o.type cs (denL e vs).toArray = (do pure (.value (← s)))) →
            (execOp a.eval o).run P w = (s.run P w).andThen fun v w' => .ok (.value v) w' := by
          intro w s hs
          simp only [execOp, hop, resolve, hf, Sem.run_bind, Sem.run_pure, Result.andThen_ok, invoke, ← list_map_toArray, h5]
          rw [hs]; simp
        unfold callAK at h4
        split at h4
        · rename_i t t' s x hb
          obtain ⟨ht', h10⟩ := bif_elim h4
          have ht' := Nat.eq_of_beq_eq_true ht'
          clear h4
          subst ht'
          have hb' : c.argTypes = #[t, t] := by rw [← Array.toArray_toList (xs := c.argTypes), hb]
          exact ⟨_, _, h6.1, appendNK_spec (ty0 := o.type) h10, fun w => hr w _ (fun cs => by simp [builtin, hb', denL])⟩
        · exact h4.elim
      · refine .of_mem fun e a ht => ?_
        obtain ⟨vs, h4, h5, h6⟩ := evs_spec ht h
        have hr : ∀ (w : World) (s : Sem Value), (∀ cs, builtin .copy c.argTypes o.type cs (denL e vs).toArray = (do pure (.value (← s)))) →
            (execOp a.eval o).run P w = (s.run P w).andThen fun v w' => .ok (.value v) w' := by
          intro w s hs
          simp only [execOp, hop, resolve, hf, Sem.run_bind, Sem.run_pure, Result.andThen_ok, invoke, ← list_map_toArray, h5]
          rw [hs]; simp
        unfold callCK at h4
        split at h4
        · rename_i t t' s x hb
          have hb' : c.argTypes = #[t, t'] := by rw [← Array.toArray_toList (xs := c.argTypes), hb]
          exact ⟨_, _, trivial, copyNK_spec (ty0 := o.type) (t2 := t') h4, fun w => hr w _ (fun cs => by simp [builtin, hb', denL])⟩
        · exact h4.elim
      · refine .of_mem fun e a ht => ?_
        obtain ⟨vs, h4, h5, h6⟩ := evs_spec ht h
        have hr : ∀ (w : World) (s : Sem Value), (∀ cs, builtin .delete c.argTypes o.type cs (denL e vs).toArray = (do pure (.value (← s)))) →
            (execOp a.eval o).run P w = (s.run P w).andThen fun v w' => .ok (.value v) w' := by
          intro w s hs
          simp only [execOp, hop, resolve, hf, Sem.run_bind, Sem.run_pure, Result.andThen_ok, invoke, ← list_map_toArray, h5]
          rw [hs]; simp
        unfold callDK at h4
        split at h4
        · rename_i t t' s x hb
          have hb' : c.argTypes = #[t, t'] := by rw [← Array.toArray_toList (xs := c.argTypes), hb]
          exact ⟨_, _, trivial, deleteK_spec (ty := o.type) (t2 := t') h4, fun w => hr w _ (fun cs => by simp [builtin, hb', denL])⟩
        · exact h4.elim
      · cases hm : lenOfMap P c.argTypes.toList
        · rw [hm] at h; exact vcVal_op h
        rw [hm] at h
        refine .of_mem fun e a ht => ?_
        obtain ⟨vs, h4, h5, h6⟩ := evs_spec ht h
        have hr : ∀ (w : World) (s : Sem Value), (∀ cs, builtin .len c.argTypes o.type cs (denL e vs).toArray = (do pure (.value (← s)))) →
            (execOp a.eval o).run P w = (s.run P w).andThen fun v w' => .ok (.value v) w' := by
          intro w s hs
          simp only [execOp, hop, resolve, hf, Sem.run_bind, Sem.run_pure, Result.andThen_ok, invoke, ← list_map_toArray, h5]
          rw [hs]; simp
        unfold callLK at h4
        split at h4
        · rename_i t x hb
          have hb' : c.argTypes = #[t] := by rw [← Array.toArray_toList (xs := c.argTypes), hb]
          exact ⟨_, _, trivial, mapLenK_spec (ty := o.type) h4, fun w => hr w _ (fun cs => by simp [builtin, hb', denL])⟩
        · exact h4.elim
      · exact vcVal_op h
  case h_12 => exact vcVal_op h
end
end Go.Lx
