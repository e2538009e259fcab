/-
  The symbolic executor Lx, part 10: a function.
-/
import Derived.Test.YtnehadffbelhnaaGreatDoorLx9
import Derived.RangeFuncRecord
namespace Go.Lx
open Go.RowKit

def enterTs : List LV → Nat → TS
  | [], _ => []
  | x :: xs, n => (n, x) :: enterTs xs (n + 1)

def resK (P : Program) (M : Mem) (ts : TS) (H : List LB) : List ResultVar → (List LV → Prop) → Prop
  | [], K => K []
  | r :: rs, K => match r with
    | .tmp t => look (fun v => resK P M ts H rs fun vs => K (v :: vs)) ts t
    | .cell a t => look (fun p => loadK P M t H (fun v => resK P M ts H rs fun vs => K (v :: vs)) p) ts a
def packK (K : LV → Prop) : List LV → Prop
  | [] => K (.tuple [])
  | x :: xs => match xs with
    | [] => K x
    | y :: ys => K (.tuple (x :: y :: ys))

def retK (P : Program) (M : Mem) (rs : List ResultVar) (K : LV → List LB → Prop) : Post := fun x ts H => match x with
  | .normal => resK P M ts H rs (packK fun r => K r H)
  | .ret => resK P M ts H rs (packK fun r => K r H)
  | .exit _ => False
  | .goto _ => False

def one1 (tmps : Array Value) : ResultVar → Sem Value := fun r => match r with
    | .tmp t => pure (tmps.getD t undef)
    | .cell a t => do loadVar t (← asAddr (tmps.getD a undef))

theorem loadAt_ptr {P : Program} {w : World} {t : TypeId} {x v : Value} (h : (Instr.loadAt t x).run P w = .ok v w) (hx : ∃ a, x = .pointer (some a)) :
    (do loadVar t (← asAddr x) : Sem Value).run P w = .ok v w := by
  obtain ⟨a, rfl⟩ := hx
  simp only [Instr.loadAt, Instr.sureAddr, Sem.run_bind, Sem.run_pure, Result.andThen_ok] at h
  simp only [asAddr, Sem.run_bind, Sem.run_pure, Result.andThen_ok]
  exact h

theorem loadK_ptr {P : Program} {M : Mem} {t : TypeId} {H : List LB} {K : LV → Prop} {a : LV} (h : loadK P M t H K a) (e : Env) : ∃ ad, a.den e = .pointer (some ad) := by
  obtain ⟨i, hi, h⟩ := sizeK_spec h
  obtain ⟨d, hd, h⟩ := aggK_spec h
  match a, h with
  | .ptr l off, _ => exact ⟨_, rfl⟩
  | .at l sz i off, _ => exact ⟨_, rfl⟩
  | .v (.pointer (some ad)), _ => exact ⟨_, rfl⟩

theorem resK_spec {P : Program} {M : Mem} {ts : TS} {H : List LB} : ∀ {rs : List ResultVar} {K : List LV → Prop}, resK P M ts H rs K →
    ∃ vs, K vs ∧ vs.length = rs.length ∧ ∀ e own w a, Sat M e own w H → Tm e H.length ts a → scL H.length vs ∧ (rs.mapM (one1 a.tmps)).run P w = .ok (denL e vs) w
  | [], K, h => ⟨[], h, rfl, fun e own w a _ _ => ⟨trivial, rfl⟩⟩
  | .tmp t :: rs, K, h => by
    have h : look (fun v => resK P M ts H rs fun vs => K (v :: vs)) ts t := h
    obtain ⟨v, h1, h2⟩ := look_spec h
    obtain ⟨vs, h3, hl, h4⟩ := resK_spec h2
    refine ⟨v :: vs, h3, by simp [hl], fun e own w a hs ht => ?_⟩
    obtain ⟨k1, k2⟩ := h4 e own w a hs ht
    obtain ⟨k3, k4⟩ := ht.tm _ _ h1
    refine ⟨⟨k4, k1⟩, ?_⟩
    simp only [List.mapM_cons, one1, Sem.run_bind, Sem.run_pure, Result.andThen_ok, denL, k3]
    rw [show (rs.mapM (one1 a.tmps)).run P w = .ok (denL e vs) w from k2]; rfl
  | .cell p t :: rs, K, h => by
    have h : look (fun p => loadK P M t H (fun v => resK P M ts H rs fun vs => K (v :: vs)) p) ts p := h
    obtain ⟨v, h1, h2⟩ := look_spec h
    obtain ⟨y, h3, h4⟩ := loadK_spec h2
    obtain ⟨vs, h5, hl, h6⟩ := resK_spec h3
    refine ⟨y :: vs, h5, by simp [hl], fun e own w a hs ht => ?_⟩
    obtain ⟨k1, k2⟩ := h6 e own w a hs ht
    obtain ⟨k3, k4⟩ := ht.tm _ _ h1
    obtain ⟨k5, k6⟩ := h4 e own w hs k4
    refine ⟨⟨k5, k1⟩, ?_⟩
    have h7 := loadAt_ptr k6 (loadK_ptr h2 e)
    rw [List.mapM_cons, Sem.run_bind]
    have : one1 a.tmps (.cell p t) = (do loadVar t (← asAddr (v.den e)) : Sem Value) := by simp only [one1, k3]
    rw [this, h7]
    simp only [Result.andThen_ok, Sem.run_bind, k2, Sem.run_pure, denL]

theorem run_results {P : Program} {w : World} {fn : Func} {tmps : Array Value} {vs : List Value} (h : (fn.results.toList.mapM (one1 tmps)).run P w = .ok vs w) :
    (results fn tmps).run P w = .ok (if h : vs.toArray.size = 1 then vs.toArray[0] else .tuple vs.toArray) w := by
  have h1 : (fn.results.mapM (one1 tmps)).run P w = .ok vs.toArray w := by
    rw [← Array.toArray_toList (xs := fn.results)]
    rw [List.mapM_toArray]
    rw [map_eq_pure_bind, Sem.run_bind, h]
    rfl
  have e : results fn tmps = (fn.results.mapM (one1 tmps) >>= fun vs => pure (if h : vs.size = 1 then vs[0] else .tuple vs)) := rfl
  rw [e, Sem.run_bind, h1]
  rfl

theorem packK_spec {K : LV → Prop} {vs : List LV} (h : packK K vs) : ∃ r, K r ∧ (∀ n, scL n vs → r.sc n) ∧ ∀ e, r.den e = (if h : (denL e vs).toArray.size = 1 then (denL e vs).toArray[0] else .tuple (denL e vs).toArray) := by
  match vs, h with
  | [], h => exact ⟨_, h, fun n hn => hn, fun e => by simp [LV.den, denL]⟩
  | [x], h => exact ⟨_, h, fun n hn => hn.1, fun e => by simp [denL]⟩
  | x :: y :: ys, h => exact ⟨_, h, fun n hn => hn, fun e => by simp [LV.den, denL]⟩

theorem enterTs_lookup : ∀ {xs : List LV} {n k : Nat} {x : LV}, (enterTs xs n).lookup k = some x → n ≤ k ∧ xs[k - n]? = some x
  | [], n, k, x, h => by simp [enterTs] at h
  | y :: ys, n, k, x, h => by
    simp only [enterTs, List.lookup] at h
    by_cases hk : k = n
    · subst hk; simp at h; subst h; simp
    · have : (k == n) = false := by simpa using hk
      rw [this] at h
      obtain ⟨h1, h2⟩ := enterTs_lookup (xs := ys) h
      refine ⟨by omega, ?_⟩
      have : k - n = (k - (n + 1)) + 1 := by omega
      rw [this]; simpa using h2

/-- A call of a function of the program, from its code's being right. -/
theorem takeMarks {P : Program} {fn : Func} {tmps : Array Value} {R : Ending → World → Prop} : ∀ {rs : List Nat} {w : World}, rs.Nodup → (∀ r ∈ rs, w.heap[r]? = some (.deferred (some []))) →
    (∀ w', w'.os = w.os → w'.tape = w.tape → w'.output = w.output → w'.heap.size = w.heap.size → (∀ k, k ∉ rs → w'.heap[k]? = w.heap[k]?) → LeavesInM Fence.wide 0 P fn tmps R [] .returning w') →
    LeavesInM Fence.wide 0 P fn tmps R (marks rs) .returning w
  | [], w, _, _, h => h w rfl rfl rfl rfl fun _ _ => rfl
  | r :: rs, w, hn, hb, h => by
    obtain ⟨hr, hn⟩ := List.nodup_cons.1 hn
    refine ⟨by simp, .inl ⟨r, _, rfl, run_takeDeferred (hb r (by simp)), takeMarks hn (fun k hk => ?_) fun w' h1 h2 h3 h4 h5 => ?_⟩⟩
    · have hne : k ≠ r := fun he => hr (by rw [← he]; exact hk)
      rw [World.putObj_heap_other hne]; exact hb k (by simp [hk])
    · refine h w' h1 h2 h3 (by rw [h4]; simp) fun k hk => ?_
      simp only [List.mem_cons, not_or] at hk
      rw [h5 k hk.2, World.putObj_heap_other hk.1]

theorem CallOk.of_codeOk {P : Program} {M : Mem} {f : FuncId} {fn : Func} {c : Code} {args : List LV} {H : List LB} {K : LV → List LB → Prop}
    (hf : P.funcs[f]? = some fn) (hb : fn.body = some c) (hc : ∀ as w, (callFunc f as).run P w = .ok (.enter f as) w)
    (hfit : Nat.ble args.length fn.ntmps = true)
    (h : CodeOk P M fn.ntmps c (enterTs args 0) H (retK P M fn.results.toList K)) : CallOk P M f args H K := by
  refine ⟨hc, fun e own w hs hsc => ?_⟩
  have hlen : args.length ≤ fn.ntmps := Nat.le_of_ble_eq_true hfit
  refine callsIn_wide.1 (callsIn_of_wp_marks (F := Fence.wide) (n := 0) hf hb trivial (wpIn_wide.2 ?_))
  refine wp_mono (h.out e own w _ hs ⟨fun k x hk => ?_⟩ ?_) fun ex a' w' hp => ?_
  · obtain ⟨_, h2⟩ := enterTs_lookup hk
    simp only [Nat.sub_zero] at h2
    have hlt := (List.getElem?_eq_some_iff.1 h2).1
    refine ⟨?_, (scL_iff _ _).1 hsc x (List.mem_of_getElem? h2)⟩
    have h3 : (denL e args)[k]? = some (x.den e) := by rw [denL_getElem?, h2]; rfl
    rw [Array.getD_eq_getD_getElem?, Array.getElem?_append_left (by simp [denL_length]; exact hlt)]
    simp [h3]
  · simp [denL_length]; omega
  · obtain ⟨e', own', ts', H', x, rfl, h2, h3, h4, h5, h6, h7, h8, h9⟩ := hp
    have fin : resK P M ts' H' fn.results.toList (packK fun r => K r H') → LeavesInM Fence.wide 0 P fn a'.tmps (RetPost M e own w H K) a'.defers .returning w' := by
      intro hr
      obtain ⟨rs, d1, d2, d3⟩ := h8.out
      rw [d1, List.append_nil]
      refine takeMarks d2 (fun r hr => (d3 r hr).2.1) fun w2 q1 q2 q3 q4 q5 => ?_
      have hno : ∀ i k, own' i k → k ∉ rs := fun i k hi hk => (d3 k hk).2.2 i hi
      have h5' : Sat M e' own' w2 H' := ⟨fun i B hB => ⟨LB.sat_keep (h5.bl i B hB).1 (by omega) (fun k hk _ => q5 k (hno i k hk)), (h5.bl i B hB).2⟩, h5.dj,
        fun i k hi => by have := h5.lt i k hi; omega, h5.out, fun a u hu => by
          obtain ⟨g1, g2⟩ := h5.ro a u hu
          refine ⟨(World.cell?_of_block (q5 a.block fun hk => ?_)).trans g1, g2⟩
          have := (d3 _ hk).2.1
          simp [World.cell?, this] at g1, h5.one⟩
      obtain ⟨vs, k1, k2, k3⟩ := resK_spec hr
      obtain ⟨k4, k5⟩ := k3 e' own' w2 a' h5' h7
      obtain ⟨r, k6, k7, k8⟩ := packK_spec k1
      refine ⟨_, run_results k5, e', own', H', r, ?_, k6, h3, h4, h5', ⟨q1.trans h6.os, q2.trans h6.tape, q3.trans h6.output, by have := h6.size; omega, fun k hk hn => ?_, h6.own⟩, k7 _ k4⟩
      · rw [k8]
      · rw [q5 k (fun hm => by have := (d3 k hm).1; omega)]; exact h6.block k hk hn
    cases x with
    | normal => exact fin h2
    | ret => exact fin h2
    | exit _ => exact h2.elim
    | goto _ => exact h2.elim

theorem CallOk.of_code {P : Program} {M : Mem} {f : FuncId} {fn : Func} {c : Code} {args : List LV} {H : List LB} {K : LV → List LB → Prop}
    (hf : P.funcs[f]? = some fn) (hb : fn.body = some c) (hc : ∀ as w, (callFunc f as).run P w = .ok (.enter f as) w)
    (hfit : (fits fn.ntmps c && Nat.ble args.length fn.ntmps) = true)
    (h : vcCode (Eng.sym P M) fn.ntmps c (enterTs args 0) H (retK P M fn.results.toList K)) : CallOk P M f args H K := by
  rw [Bool.and_eq_true] at hfit
  exact .of_codeOk hf hb hc hfit.2 (vcCode_spec hfit.1 h)
end Go.Lx
