/-
  The symbolic executor Lx, part 9: code.
-/
import Derived.Test.YtnehadffbelhnaaGreatDoorLx8
namespace Go.Lx
open Go.RowKit

def putT {P : Program} {M : Mem} (E : Eng P M) (N : Nat) (dst : Option Tmp) (y : LV) (ts : TS) (K : TS → Prop) : Prop :=
  match dst with
  | none => K ts
  | some d => bif Nat.ble (d + 1) N then E.norm y (fun y => K ((d, y) :: ts)) else False

theorem Tm.put {P : Program} {M : Mem} {E : Eng P M} {e : Env} {n N : Nat} {ts : TS} {a : Act} {y : LV} {dst : Option Tmp} {K : TS → Prop} (h : Tm e n ts a) (hN : a.tmps.size = N) (hy : y.sc n) (hk : putT E N dst y ts K) :
    ∃ ts', K ts' ∧ Tm e n ts' (a.put dst (y.den e)) ∧ (a.put dst (y.den e)).tmps.size = N ∧ (a.put dst (y.den e)).defers = a.defers := by
  unfold putT at hk
  split at hk
  · exact ⟨ts, hk, h, hN, rfl⟩
  · rename_i d
    obtain ⟨hd, hk⟩ := bif_elim hk
    have hd : d < a.tmps.size := by rw [hN]; exact Nat.le_of_ble_eq_true hd
    refine ⟨_, E.normOk hk, ⟨fun k x hx => ?_⟩, by simp [Act.put, hN], rfl⟩
    simp only [List.lookup] at hx
    by_cases hkd : k = d
    · subst hkd
      simp at hx
      subst hx
      refine ⟨?_, hy⟩
      simp [Act.put, hd]
    · have : (k == d) = false := by simpa using hkd
      rw [this] at hx
      obtain ⟨h1, h2⟩ := h.tm k x hx
      refine ⟨?_, h2⟩
      rw [← h1]
      have hne : d ≠ k := fun he => hkd he.symm
      simp only [Act.put, Array.getD_eq_getD_getElem?]
      rw [Array.getElem?_setIfInBounds_ne hne]

theorem Tm.agree {e e' : Env} {n n' : Nat} {ts : TS} {a : Act} (h : Tm e n ts a) (hn : n ≤ n') (ha : Agree e e' n) : Tm e' n' ts a :=
  ⟨fun k x hx => by
    obtain ⟨h1, h2⟩ := h.tm k x hx
    exact ⟨by rw [h1, LV.den_agree ha x h2], LV.sc_mono hn x h2⟩⟩

def guardK (all : List Oper) (ts : TS) (g : Option (Nat × Bool)) (run skip : TS → Prop) : Prop :=
  match g with
  | none => run ts
  | some (j, want) => getK (fun oj => match oj.dst with
    | some d => look (fun v => match v with
      | .v x => (match x with
        | .bool b => forkB b (bif want then run ((d, .v (.bool true)) :: ts) else skip ((d, .v (.bool true)) :: ts))
            (bif want then skip ((d, .v (.bool false)) :: ts) else run ((d, .v (.bool false)) :: ts))
        | .tuple _ => skip ts
        | _ => False)
      | _ => False) ts d
    | none => False) all j

theorem guardK_spec {e : Env} {n : Nat} {all : List Oper} {ts : TS} {a : Act} {o : Oper} {run skip : TS → Prop} (h : Tm e n ts a) 
    (hg : guardK all ts o.guard run skip) (hin : ∀ (j d : Nat) (oj : Oper), all[j]? = some oj → oj.dst = some d → d < a.tmps.size) :
    (Region.wanted o (yielded all.toArray a.tmps) = true ∧ ∃ ts', run ts' ∧ Tm e n ts' a) ∨ (Region.wanted o (yielded all.toArray a.tmps) = false ∧ ∃ ts', skip ts' ∧ Tm e n ts' a) := by
  unfold guardK at hg
  split at hg
  · rename_i hgd
    exact .inl ⟨by simp [Region.wanted, hgd], ts, hg, h⟩
  · rename_i j want hgd
    obtain ⟨oj, hj, hg⟩ := getK_spec hg
    split at hg
    · rename_i d hdst
      obtain ⟨x, hx, hg⟩ := look_spec hg
      have hlt := hin j d oj hj hdst
      split at hg
      case h_2 => exact hg.elim
      split at hg
      case h_3 => exact hg.elim
      case h_2 cs =>
        obtain ⟨h1, h2⟩ := h.tm d _ hx
        have hy : yielded all.toArray a.tmps j = none := by
          have : a.tmps[d]? = some (.tuple cs) := by
            rw [Array.getD_eq_getD_getElem?] at h1
            rw [Array.getElem?_eq_getElem hlt] at h1 ⊢
            simpa [LV.den] using h1
          simp [yielded, hj, hdst, this]
        exact .inr ⟨by simp [Region.wanted, hgd, hy], ts, hg, h⟩
      rename_i b
      have hb := hg
      obtain ⟨h1, h2⟩ := h.tm d _ hx
      have hy : yielded all.toArray a.tmps j = some b := by
        have : a.tmps[d]? = some (.bool b) := by
          rw [Array.getD_eq_getD_getElem?] at h1
          rw [Array.getElem?_eq_getElem hlt] at h1 ⊢
          simpa [LV.den] using h1
        simp [yielded, hj, hdst, this]
      have htm : Tm e n ((d, .v (.bool b)) :: ts) a := ⟨fun k x hx' => by
        simp only [List.lookup] at hx'
        by_cases hkd : k = d
        · subst hkd; simp at hx'; subst hx'; exact ⟨h1, h2⟩
        · have : (k == d) = false := by simpa using hkd
          rw [this] at hx'; exact h.tm k x hx'⟩
      have hw : Region.wanted o (yielded all.toArray a.tmps) = (b == want) := by
        simp only [Region.wanted, hgd, hy]
        cases b <;> cases want <;> rfl
      rw [hw]
      cases b <;> cases want <;> simp only [forkB, cond] at hb
      · exact .inl ⟨rfl, _, hb, htm⟩
      · exact .inr ⟨rfl, _, hb, htm⟩
      · exact .inr ⟨rfl, _, hb, htm⟩
      · exact .inl ⟨rfl, _, hb, htm⟩
    · exact hg.elim

/-- The operations of a region, in the order of the text. -/
def vcSeq {P : Program} {M : Mem} (E : Eng P M) (N : Nat) (all : List Oper) : List Oper → TS → List LB → (TS → List LB → Prop) → Prop
  | [], ts, H, K => K ts H
  | o :: r, ts, H, K => guardK all ts o.guard (fun ts => vcOp E o ts H fun y H' => putT E N o.dst y ts fun ts' => vcSeq E N all r ts' H' K)
      (fun ts => putT E N o.dst (.v undef) ts fun ts' => vcSeq E N all r ts' H K)

theorem vcSeq_spec {P : Program} {M : Mem} {E : Eng P M} {N : Nat} {D : List Deferred} {all : List Oper} (hall : dstsIn N all = true) {Q : Exit → Act → World → Prop} : ∀ {r : List Oper} {ts : TS} {H : List LB} {K : TS → List LB → Prop},
    vcSeq E N all r ts H K → ∀ e own w a, Sat M e own w H → Tm e H.length ts a → a.defers = D → a.tmps.size = N →
    (∀ e' own' w' ts' H' a', K ts' H' → H.length ≤ H'.length → Agree e e' H.length → Sat M e' own' w' H' → Ext own w own' w' → Tm e' H'.length ts' a' → a'.defers = D → a'.tmps.size = N → Q .normal a' w') →
    wpList P all.toArray Q r a w
  | [], ts, H, K, h, e, own, w, a, hs, ht, hd, hN, hK => hK e own w ts H a h (Nat.le_refl _) (.refl _ _) hs (.refl _ _) ht hd hN
  | o :: r, ts, H, K, h, e, own, w, a, hs, ht, hd, hN, hK => by
    have hin : ∀ (j d : Nat) (oj : Oper), all[j]? = some oj → oj.dst = some d → d < a.tmps.size := by
      intro j d oj hj hdst
      have := List.all_eq_true.1 hall oj (List.mem_of_getElem? hj)
      rw [hdst] at this
      have h1 : d + 1 ≤ N := Nat.le_of_ble_eq_true this
      omega
    unfold wpList
    rcases guardK_spec ht h hin with ⟨hw, ts1, h1, ht1⟩ | ⟨hw, ts1, h1, ht1⟩
    · rw [if_pos hw]
      refine .inl ((vcOp_spec h1).out e own w a hs ht1 _ _ fun e' own' w' y H' k1 k2 k3 k4 k5 k6 => ?_)
      obtain ⟨ts2, k7, k8, k9, k10⟩ := (ht1.agree k2 k3).put hN k6 k1
      exact vcSeq_spec hall k7 e' own' w' _ k4 k8 (by rw [k10, hd]) k9 fun e'' own'' w'' ts'' H'' a'' q1 q2 q3 q4 q5 q6 q7 q8 =>
        hK e'' own'' w'' ts'' H'' a'' q1 (by omega) (k3.trans q3 k2) q4 (k5.trans q5) q6 q7 q8
    · rw [if_neg (by simp [hw])]
      obtain ⟨ts2, k7, k8, k9, k10⟩ := ht1.put (y := .v undef) hN trivial h1
      exact vcSeq_spec hall k7 e own w _ hs k8 (k10.trans hd) k9 hK

def vcCode {P : Program} {M : Mem} (E : Eng P M) (N : Nat) : Code → TS → List LB → Post → Prop
  | .skip, ts, H, K => K .normal ts H
  | .region id ops draw, ts, H, K => bif draw then E.draw N id ops ts H K else vcSeq E N ops.toList ops.toList ts H (K .normal)
  | .seq a b, ts, H, K => vcCode E N a ts H fun x ts' H' => match x with
    | .normal => vcCode E N b ts' H' K
    | .exit id => K (.exit id) ts' H'
    | .goto l => K (.goto l) ts' H'
    | .ret => K .ret ts' H'
  | .cond c t f, ts, H, K => ev ts (boolLK fun b => forkB b (vcCode E N t ts H K) (vcCode E N f ts H K)) c
  | .block id c, ts, H, K => vcCode E N c ts H fun x ts' H' => match x with
    | .normal => K .normal ts' H'
    | .exit id' => bif Nat.beq id' id then K .normal ts' H' else K (.exit id') ts' H'
    | .goto l => K (.goto l) ts' H'
    | .ret => K .ret ts' H'
  | .loop c, ts, H, K => E.loop N c ts H K
  | .rangeFunc f ps c d, ts, H, K => E.range N f ps c d ts H K
  | .exit id, ts, H, K => K (.exit id) ts H
  | .scope c, ts, H, K => E.scope N c ts H K
  | .label _, ts, H, K => K .normal ts H
  | .goto l, ts, H, K => K (.goto l) ts H
  | .ret, ts, H, K => K .ret ts H
  | .refuse _, _, _, _ => False

theorem CPost.step {M : Mem} {N : Nat} {e e' : Env} {own own' : Nat → Nat → Prop} {w w' : World} {H H' : List LB} {K : Post} {D : List Deferred} {a1 : Act} {ex : Exit} {a : Act} {w'' : World}
    (h : CPost M N e' own' w' H' K a1.defers ex a w'') (hl : H.length ≤ H'.length) (ha : Agree e e' H.length) (hx : Ext own w own' w') (hd : DefOk D w own' w' a1) : CPost M N e own w H K D ex a w'' := by
  obtain ⟨e2, own2, ts2, H2, x, h1, h2, h3, h4, h5, h6, h7⟩ := h
  exact ⟨e2, own2, ts2, H2, x, h1, h2, by omega, ha.trans h4 hl, h5, hx.trans h6, h7.1, hd.trans hx.size h6 h7.2.1, h7.2.2⟩

theorem CPost.now {M : Mem} {N : Nat} {e : Env} {own : Nat → Nat → Prop} {w : World} {H : List LB} {K : Post} {ts : TS} {a : Act} (x : LX)
    (hk : K x ts H) (hs : Sat M e own w H) (ht : Tm e H.length ts a) (hN : a.tmps.size = N) : CPost M N e own w H K a.defers (LX.exit' x) a w :=
  ⟨e, own, ts, H, x, rfl, hk, Nat.le_refl _, .refl _ _, hs, .refl _ _, ht, .of_eq rfl, hN⟩

theorem vcCode_spec {P : Program} {M : Mem} {E : Eng P M} {N : Nat} : ∀ {c : Code} {ts : TS} {H : List LB} {K : Post}, fits N c = true → vcCode E N c ts H K → CodeOk P M N c ts H K
  | .skip, ts, H, K, _, h => ⟨fun e own w a hs ht hN => wp_skip (CPost.now .normal h hs ht hN)⟩
  | .label l, ts, H, K, _, h => ⟨fun e own w a hs ht hN => wp_label (CPost.now .normal h hs ht hN)⟩
  | .exit id, ts, H, K, _, h => ⟨fun e own w a hs ht hN => wp_exit (CPost.now (.exit id) h hs ht hN)⟩
  | .goto l, ts, H, K, _, h => ⟨fun e own w a hs ht hN => wp_goto (CPost.now (.goto l) h hs ht hN)⟩
  | .ret, ts, H, K, _, h => ⟨fun e own w a hs ht hN => wp_ret (CPost.now .ret h hs ht hN)⟩
  | .refuse _, ts, H, K, _, h => h.elim
  | .loop c, ts, H, K, hf, h => (E.loopOk (c := c) hf h).out
  | .scope c, ts, H, K, hf, h => (E.scopeOk (c := c) hf h).out
  | .rangeFunc .., ts, H, K, hf, h => (E.rangeOk hf h).out
  | .region id ops true, ts, H, K, _, h => (E.drawOk h).out
  | .region id ops false, ts, H, K, hf, h => ⟨fun e own w a hs ht hN => by
      refine wp_region_list ?_
      have h' : vcSeq E N ops.toList ops.toList ts H (K .normal) := h
      have := vcSeq_spec (Q := CPost M N e own w H K a.defers) (D := a.defers) hf h' e own w a hs ht rfl hN fun e' own' w' ts' H' a' k1 k2 k3 k4 k5 k6 k7 k8 => ⟨e', own', ts', H', .normal, rfl, k1, k2, k3, k4, k5, k6, .of_eq k7, k8⟩
      rwa [Array.toArray_toList] at this⟩
  | .seq x y, ts, H, K, hf, h => ⟨fun e own w a hs ht hN => by
      simp only [fits, Bool.and_eq_true] at hf
      refine wp_seq (wp_mono ((vcCode_spec hf.1 h).out e own w a hs ht hN) fun ex a' w' hp => ?_)
      obtain ⟨e', own', ts', H', lx, rfl, h2, h3, h4, h5, h6, h7, h8, h9⟩ := hp
      cases lx with
      | normal => exact wp_mono ((vcCode_spec hf.2 h2).out e' own' w' a' h5 h7 h9) fun ex a'' w'' hp => hp.step h3 h4 h6 h8
      | exit id => exact ⟨e', own', ts', H', .exit id, rfl, h2, h3, h4, h5, h6, h7, h8, h9⟩
      | goto l => exact ⟨e', own', ts', H', .goto l, rfl, h2, h3, h4, h5, h6, h7, h8, h9⟩
      | ret => exact ⟨e', own', ts', H', .ret, rfl, h2, h3, h4, h5, h6, h7, h8, h9⟩⟩
  | .cond c t f, ts, H, K, hf, h => ⟨fun e own w a hs ht hN => by
      simp only [fits, Bool.and_eq_true] at hf
      obtain ⟨cv, h1, h2, _⟩ := ev_spec ht h
      obtain ⟨b, h3, rfl⟩ := boolLK_spec h1
      refine wp_cond (t := b) h2 ?_
      cases b
      · exact (vcCode_spec hf.2 h3).out e own w a hs ht hN
      · exact (vcCode_spec hf.1 h3).out e own w a hs ht hN⟩
  | .block id c, ts, H, K, hf, h => ⟨fun e own w a hs ht hN => by
      refine wp_block (wp_mono ((vcCode_spec (c := c) hf h).out e own w a hs ht hN) fun ex a' w' hp => ?_)
      obtain ⟨e', own', ts', H', lx, rfl, h2, h3, h4, h5, h6, h7, h8, h9⟩ := hp
      cases lx with
      | normal => exact ⟨e', own', ts', H', .normal, rfl, h2, h3, h4, h5, h6, h7, h8, h9⟩
      | exit id' =>
        simp only [LX.exit', Exit.inBlock]
        cases hb : Nat.beq id' id
        · simp only [hb, cond] at h2
          rw [if_neg (fun he => by subst he; rw [Nat.beq_refl] at hb; cases hb)]
          exact ⟨e', own', ts', H', .exit id', rfl, h2, h3, h4, h5, h6, h7, h8, h9⟩
        · simp only [hb, cond] at h2
          rw [if_pos (Nat.eq_of_beq_eq_true hb)]
          exact ⟨e', own', ts', H', .normal, rfl, h2, h3, h4, h5, h6, h7, h8, h9⟩
      | goto l => exact ⟨e', own', ts', H', .goto l, rfl, h2, h3, h4, h5, h6, h7, h8, h9⟩
      | ret => exact ⟨e', own', ts', H', .ret, rfl, h2, h3, h4, h5, h6, h7, h8, h9⟩⟩
end Go.Lx
