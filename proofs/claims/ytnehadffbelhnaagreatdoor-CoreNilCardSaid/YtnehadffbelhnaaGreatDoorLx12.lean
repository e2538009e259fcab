/-
  The symbolic executor Lx, part 12: a region whose order is drawn, along a plan.
-/
import Derived.Test.YtnehadffbelhnaaGreatDoorLx11
namespace Go.Lx
open Go.RowKit

structure HeldL where
  i : Nat
  t : TypeId
  a : LV
  y : LV

def vcTake (P : Program) (M : Mem) (i : Nat) (o : Oper) (ts : TS) (H : List LB) (L : List HeldL) (K : LV → List HeldL → Prop) : Prop :=
  match o.op with
  | .load t x => ev ts (fun a => loadK P M t H (fun y => K y (⟨i, t, a, y⟩ :: L)) a) x
  | _ => vcVal P M o ts H fun y => K y L

/-- What was loaded early is there still. -/
def sameK (P : Program) (M : Mem) (t : TypeId) (H H' : List LB) (y a : LV) (K : Prop) : Prop :=
  match a with
  | .v _ => K
  | .at l _ _ _ => getK (fun B => getK (fun B' => M.eqB B' B K) H' l) H l
  | .ptr l off => loadK P M t H' (fun y' => M.eqv y' y K) (.ptr l off)
  | _ => False
def keepK (P : Program) (M : Mem) (H H' : List LB) (keep : List Nat) (K : List HeldL → Prop) : List HeldL → Prop
  | [] => K []
  | q :: L => bif memN q.i keep then sameK P M q.t H H' q.y q.a (keepK P M H H' keep (fun L' => K (q :: L')) L) else keepK P M H H' keep K L

def vcAny {P : Program} {M : Mem} (E : Eng P M) (N : Nat) (ops : List Oper) : Plan → TS → List LB → List HeldL → (TS → List LB → Prop) → Prop
  | .done, ts, H, _, K => K ts H
  | .take i r, ts, H, L, K => getK (fun o => guardK ops ts o.guard
      (fun ts => vcTake P M i o ts H L fun y L' => putT E N o.dst y ts fun ts' => vcAny E N ops r ts' H L' K)
      (fun ts => putT E N o.dst (.v undef) ts fun ts' => vcAny E N ops r ts' H L K)) ops i
  | .alt j keep r others, ts, H, L, K => 
      let A := fun (K : TS → List LB → Prop) => getK (fun o => guardK ops ts o.guard
        (fun ts => vcOp E o ts H fun y H' => keepK P M H H' keep (fun L' => putT E N o.dst y ts fun ts' => vcAny E N ops r ts' H' L' K) L)
        (fun ts => keepK P M H H keep (fun L' => putT E N o.dst (.v undef) ts fun ts' => vcAny E N ops r ts' H L' K) L)) ops j
      match others with
      | .stop => A K
      | others => E.join H.length A (fun K => vcAny E N ops others ts H L K) K
  | .stop, _, _, _, _ => True

def HeldL.S (P : Program) (e : Env) (q : HeldL) : World → Prop := fun w => (Instr.loadAt q.t (q.a.den e)).run P w = .ok (q.y.den e) w
def HeldL.val (P : Program) (M : Mem) (H : List LB) (q : HeldL) : Prop := loadK P M q.t H (fun y => y = q.y) q.a ∧ q.a.sc H.length ∧ q.y.sc H.length

theorem HeldL.val_S {P : Program} {M : Mem} {H : List LB} {q : HeldL} (h : q.val P M H) {e : Env} {own : Nat → Nat → Prop} {w : World} (hs : Sat M e own w H) : q.S P e w := by
  obtain ⟨h1, h2, h3⟩ := h
  obtain ⟨y, rfl, hy⟩ := loadK_spec h1
  exact (hy e own w hs h2).2
theorem HeldL.S_agree {P : Program} {M : Mem} {H : List LB} {q : HeldL} (h : q.val P M H) {e e' : Env} (ha : Agree e e' H.length) : q.S P e' = q.S P e := by
  funext w
  unfold HeldL.S
  rw [LV.den_agree ha q.a h.2.1, LV.den_agree ha q.y h.2.2]

theorem loadK_mono {P : Program} {M : Mem} {t : TypeId} {H : List LB} {K : LV → Prop} {a : LV} (h : loadK P M t H K a) : ∃ y, K y ∧ loadK P M t H (fun y' => y' = y) a := by
  have key : ∀ {g : Bool} {xs : List LV}, mkK K g xs → ∃ y, K y ∧ mkK (fun y' => y' = y) g xs := by
    intro g xs h
    cases g
    · match xs, h with
      | [x], h => exact ⟨x, h, rfl⟩
    · exact ⟨_, h, rfl⟩
  have hget : ∀ {β : Type} {K K' : β → Prop} {l : List β} {n : Nat}, getK K l n → (∀ x, l[n]? = some x → K x → K' x) → getK K' l n := by
    intro β K K' l
    induction l with
    | nil => intro n h; exact h.elim
    | cons x l ih => intro n h hk; cases n with
      | zero => exact hk x rfl h
      | succ n => exact ih (n := n) h (fun y hy => hk y (by simpa using hy))
  have hdrop : ∀ {l : List LV} {n : Nat} {K K' : List LV → Prop}, dropK K l n → (∀ x, K x → K' x) → dropK K' l n := by
    intro l
    induction l with
    | nil => intro n K K' h hk; cases n with
      | zero => exact hk _ h
      | succ n => exact h.elim
    | cons x l ih => intro n K K' h hk; cases n with
      | zero => exact hk _ h
      | succ n => exact ih (n := n) h hk
  have htake : ∀ {l : List LV} {n : Nat} {K K' : List LV → Prop}, takeK K l n → (∀ x, K x → K' x) → takeK K' l n := by
    intro l
    induction l with
    | nil => intro n K K' h hk; cases n with
      | zero => exact hk _ h
      | succ n => exact h.elim
    | cons x l ih => intro n K K' h hk; cases n with
      | zero => exact hk _ h
      | succ n => exact ih (n := n) h (fun y hy => hk _ hy)
  have hcut : ∀ {l : List LV} {n k : Nat} {g : Bool}, dropK (takeK (mkK K g) · n) l k → ∃ y, K y ∧ dropK (takeK (mkK (fun y' => y' = y) g) · n) l k := by
    intro l n k g h
    obtain ⟨q1, h1⟩ := dropK_spec h
    obtain ⟨q2, h2⟩ := takeK_spec h1
    obtain ⟨y, h3, h4⟩ := key h2
    refine ⟨y, h3, ?_⟩
    have : ∀ z, z = (l.drop k).take n → mkK (fun y' => y' = y) g z := fun z hz => hz ▸ h4
    have e1 : dropK (takeK (fun z => z = (l.drop k).take n) · n) l k := by
      clear h4 this h2 h1 q1 q2
      induction l generalizing k with
      | nil => cases k with
        | zero => 
          cases n with
          | zero => rfl
          | succ n => exact h.elim
        | succ k => exact h.elim
      | cons x l ih => cases k with
        | succ k => exact ih h
        | zero =>
          have h' : takeK (mkK K g) (x :: l) n := h
          show takeK _ (x :: l) n
          simp only [List.drop_zero]
          clear h ih
          generalize x :: l = m at *
          have : ∀ (m : List LV) (n : Nat) (K K' : List LV → Prop), takeK K m n → K' (m.take n) → takeK K' m n := by
            intro m
            induction m with
            | nil => intro n K K' h hk; cases n with
              | zero => exact hk
              | succ n => exact h.elim
            | cons x m ih => intro n K K' h hk; cases n with
              | zero => exact hk
              | succ n => exact ih n _ _ h hk
          exact this m n _ _ h' rfl
    exact hdrop e1 fun x hx => htake hx this
  unfold loadK sizeK at h ⊢
  split at h
  · rename_i i hi
    unfold aggK at h ⊢
    split at h <;> skip
    all_goals first | exact h.elim | skip
    all_goals
      match a, h with
      | .ptr l off, h =>
        obtain ⟨B, hB, h1⟩ := getK_spec h
        match B, hB, h1 with
        | .cells cs ty, hB, h1 =>
          obtain ⟨y, h2, h3⟩ := hcut h1
          exact ⟨y, h2, hget h (fun x hx _ => by rw [hB] at hx; cases hx; exact h3)⟩
      | .at l sz ix off, h =>
        obtain ⟨B, hB, h1⟩ := getK_spec h
        match B, hB, h1 with
        | .list sz' items ty, hB, h1 =>
          obtain ⟨hsz, h9⟩ := bif_elim h1
          obtain ⟨it, h2, h8⟩ := M.itemEx h9
          obtain ⟨y, h3, h4⟩ := hcut h2
          exact ⟨y, h3, hget h (fun x hx _ => by
            rw [hB] at hx; cases hx
            simp only [hsz, cond_true]
            exact h8 _ h4)⟩
        | .rows sz' items ty, hB, h1 =>
          obtain ⟨hsz, h9⟩ := bif_elim h1
          obtain ⟨it, hit, h2⟩ := getK_spec h9
          obtain ⟨y, h3, h4⟩ := hcut h2
          exact ⟨y, h3, hget h (fun x hx _ => by
            rw [hB] at hx; cases hx
            show (bif Nat.beq sz sz' then getK (fun it => dropK _ it off) items ix else False)
            rw [hsz]
            exact hget h9 (fun x' hx' _ => by rw [hit] at hx'; cases hx'; exact h4))⟩
      | .v (.pointer (some ad)), h =>
        obtain ⟨us, h1, h8⟩ := M.rdEx h
        obtain ⟨y, h2, h3⟩ := key h1
        exact ⟨y, h2, h8 _ h3⟩
  · exact h.elim

theorem vcTake_spec {P : Program} {M : Mem} {i : Nat} {o : Oper} {ts : TS} {H : List LB} {L : List HeldL} {K : LV → List HeldL → Prop} (h : vcTake P M i o ts H L K) :
    ∃ y L', K y L' ∧ ((L' = L ∧ isLoad o = false ∧ ∀ e own w a, Sat M e own w H → Tm e H.length ts a → y.sc H.length ∧ ∀ w', (execOp a.eval o).run P w' = .ok (.value (y.den e)) w') ∨
      ∃ q : HeldL, q.i = i ∧ isLoad o = true ∧ L' = q :: L ∧ ∀ e own w a, Sat M e own w H → Tm e H.length ts a → y.sc H.length ∧ q.val P M H ∧ ∀ w', q.S P e w' → (execOp a.eval o).run P w' = .ok (.value (y.den e)) w') := by
  unfold vcTake at h
  split at h
  · rename_i t x hop
    obtain ⟨a, h1, h2⟩ := ev_spec' h
    obtain ⟨y, h3, h4⟩ := loadK_mono h1
    refine ⟨y, _, h3, .inr ⟨⟨i, t, a, y⟩, rfl, by simp [isLoad, hop], rfl, fun e own w ac hs ht => ?_⟩⟩
    obtain ⟨k1, k2⟩ := h2 e _ ac ht
    obtain ⟨y', rfl, h5⟩ := loadK_spec h4
    obtain ⟨k3, k4⟩ := h5 e own w hs k2
    refine ⟨k3, ⟨h4, k2, k3⟩, fun w' hw => ?_⟩
    have hw' : (Instr.loadAt t (a.den e)).run P w' = .ok (y'.den e) w' := hw
    simp only [execOp, hop, Sem.run_bind, k1, hw', Result.andThen_ok, Sem.run_pure]
  · rename_i hne
    have hl : isLoad o = false := by
      unfold isLoad; split
      · rename_i t x hop; exact absurd hop (hne _ _)
      · rfl
    obtain ⟨y, h1, h2⟩ := (vcVal_spec h).out
    exact ⟨y, L, h1, .inl ⟨rfl, hl, fun e own w a hs ht => by
      obtain ⟨k1, k2, k3⟩ := h2 e own w a hs ht
      exact ⟨k1, k3 hl⟩⟩⟩

theorem getK_move {β : Type} {K : β → Prop} {l l' : List β} {n : Nat} {x : β} (h1 : getK K l n) (h2 : l[n]? = some x) (h3 : l'[n]? = some x) : getK K l' n := by
  obtain ⟨x', h4, h5⟩ := getK_spec h1
  rw [h2] at h4; cases h4
  clear h1 h2
  induction l' generalizing n with
  | nil => simp at h3
  | cons z zs ih => cases n with
    | zero => simp at h3; subst h3; exact h5
    | succ n => exact ih (by simpa using h3)
theorem loadK_at_move {P : Program} {M : Mem} {t : TypeId} {H H' : List LB} {K : LV → Prop} {l sz i off : Nat} {B : LB} (h : loadK P M t H K (.at l sz i off)) (h1 : H[l]? = some B) (h2 : H'[l]? = some B) :
    loadK P M t H' K (.at l sz i off) := by
  unfold loadK sizeK aggK at h ⊢
  cases hi : P.info? t <;> rw [hi] at h
  · exact h
  · cases hu : P.underlying t with
    | none => rw [hu] at h; exact h
    | some d => rw [hu] at h; cases d <;> exact getK_move h h1 h2
theorem loadK_v_move {P : Program} {M : Mem} {t : TypeId} {H H' : List LB} {K : LV → Prop} {x : Value} (h : loadK P M t H K (.v x)) : loadK P M t H' K (.v x) := by
  unfold loadK sizeK aggK at h ⊢
  cases hi : P.info? t <;> rw [hi] at h
  · exact h
  · cases hu : P.underlying t with
    | none => rw [hu] at h; exact h
    | some d => 
      rw [hu] at h
      cases d <;> (cases x with
        | pointer p => cases p <;> exact h
        | _ => exact h)

theorem HeldL.val_mono {P : Program} {M : Mem} {H H' : List LB} {t : TypeId} {y : LV} {ix : Nat} : ∀ {a : LV} {K : Prop}, HeldL.val P M H ⟨ix, t, a, y⟩ → H.length ≤ H'.length → sameK P M t H H' y a K → HeldL.val P M H' ⟨ix, t, a, y⟩ ∧ K
  | .ptr l off, K, hv, hl, h => by
    have h : loadK P M t H' (fun y' => M.eqv y' y K) (.ptr l off) := h
    obtain ⟨y', h, h2⟩ := loadK_mono h
    obtain ⟨rfl, hk⟩ := M.eqvOk h
    exact ⟨⟨h2, LV.sc_mono hl _ hv.2.1, LV.sc_mono hl _ hv.2.2⟩, hk⟩
  | .at l sz i off, K, hv, hl, h => by
    obtain ⟨B, hB, h⟩ := getK_spec h
    obtain ⟨B', hB', h⟩ := getK_spec h
    obtain ⟨rfl, hk⟩ := M.eqBOk h
    exact ⟨⟨loadK_at_move hv.1 hB hB', LV.sc_mono hl _ hv.2.1, LV.sc_mono hl _ hv.2.2⟩, hk⟩
  | .v x, K, hv, hl, h => ⟨⟨loadK_v_move hv.1, trivial, LV.sc_mono hl _ hv.2.2⟩, h⟩

theorem keepK_spec {P : Program} {M : Mem} {H H' : List LB} {keep : List Nat} (hl : H.length ≤ H'.length) : ∀ {L : List HeldL} {K : List HeldL → Prop}, (∀ q ∈ L, q.val P M H) → keepK P M H H' keep K L →
    K (L.filter fun q => memN q.i keep) ∧ ∀ q ∈ L, memN q.i keep = true → q.val P M H'
  | [], K, _, h => ⟨h, by simp⟩
  | q :: L, K, hv, h => by
    unfold keepK at h
    cases hm : memN q.i keep
    · rw [hm] at h
      obtain ⟨h1, h2⟩ := keepK_spec (L := L) hl (fun q' hq' => hv q' (.tail _ hq')) h
      refine ⟨by rw [List.filter_cons_of_neg (by simp [hm])]; exact h1, fun q' hq' hk => ?_⟩
      rcases List.mem_cons.1 hq' with rfl | hq'
      · rw [hm] at hk; cases hk
      · exact h2 q' hq' hk
    · rw [hm] at h
      obtain ⟨h0, h⟩ := HeldL.val_mono (hv q (.head _)) hl h
      obtain ⟨h1, h2⟩ := keepK_spec (L := L) hl (fun q' hq' => hv q' (.tail _ hq')) h
      refine ⟨by rw [List.filter_cons_of_pos (by simp [hm])]; exact h1, fun q' hq' hk => ?_⟩
      rcases List.mem_cons.1 hq' with rfl | hq'
      · exact h0
      · exact h2 q' hq' hk

def semL (P : Program) (e : Env) (L : List HeldL) : Held := L.map fun q => (q.i, q.S P e)

def nextOk (P : Program) (ops : Array Oper) (Q : Exit → Act → World → Prop) (anc : Nat → Nat → Bool) (L : Held) (f : Nat) (listed : Array Bool) (a : Act) (w : World) (j : Nat) : Prop :=
  wpOp P ops Q j (fun a' w' => (∀ p ∈ L, anc j p.1 = false → p.2 w → p.2 w') ∧ wpAnyL P ops Q anc (L.filter fun p => !anc j p.1) f (listed.setIfInBounds j true) a' w') a w

def PlanGoal (P : Program) (ops : Array Oper) (Q : Exit → Act → World → Prop) (anc : Nat → Nat → Bool) (L : Held) (fuel : Nat) (listed : Array Bool) (a : Act) (w : World) (seen : List Nat) : Plan → Prop
  | .done => wpAnyL P ops Q anc L fuel listed a w
  | .take _ _ => wpAnyL P ops Q anc L fuel listed a w
  | .alt j _ _ _ => j ∈ Region.ready .any ops listed ∧ ∃ f, fuel = f + 1 ∧ nextOk P ops Q anc L f listed a w j ∧ ∀ j ∈ Region.ready .any ops listed, j ∉ seen → nextOk P ops Q anc L f listed a w j
  | .stop => seen ≠ [] ∧ ∃ f, fuel = f + 1 ∧ ∀ j ∈ Region.ready .any ops listed, j ∉ seen → nextOk P ops Q anc L f listed a w j

theorem PlanGoal.any {P : Program} {ops : Array Oper} {Q : Exit → Act → World → Prop} {anc : Nat → Nat → Bool} {L : Held} {fuel : Nat} {listed : Array Bool} {a : Act} {w : World} {p : Plan}
    (h : PlanGoal P ops Q anc L fuel listed a w [] p) : wpAnyL P ops Q anc L fuel listed a w := by
  cases p with
  | done => exact h
  | take => exact h
  | alt j keep r others =>
    obtain ⟨hj, f, rfl, _, h⟩ := h
    exact ⟨fun h0 => (by rw [h0] at hj; cases hj), fun j hj => h j hj (by simp)⟩
  | stop => exact absurd rfl h.1

theorem opsGet {ops : Array Oper} {j : Nat} {o : Oper} (h : ops.toList[j]? = some o) : ops[j]? = some o := by simpa using h

theorem wpOp_ex {P : Program} {ops : Array Oper} {Q : Exit → Act → World → Prop} (hQ : ∀ c a w, ¬ Q (.panic c) a w) (hO : ∀ a w, ¬ Q .outgrown a w) {j : Nat} {K : Act → World → Prop} {a : Act} {w : World}
    (h : wpOp P ops Q j K a w) : ∃ a' w', K a' w' := by
  have hL : ¬ LetsOut Q := fun ⟨a, w, h⟩ => hO a w h
  unfold wpOp at h
  split at h
  · exact ⟨_, _, h⟩
  · rename_i o _
    split at h
    · rcases h with h | ⟨_, h⟩
      · unfold Oper.wp at h
        generalize (execOp a.eval o).run P w = r at h
        unfold Oper.upon at h
        split at h
        · exact ⟨_, _, h⟩
        · exact ⟨_, _, h⟩
        · exact ⟨_, _, h⟩
        · obtain ⟨e, w', fr, h1, _⟩ := h []
          split at h1
          · exact ⟨_, _, h1⟩
          · exact (hQ _ _ _ h1).elim
          · exact (hL h1).elim
        · obtain ⟨v, w', h1, _⟩ := h default []
          exact ⟨_, _, h1⟩
        · exact (hQ _ _ _ h).elim
        · exact h.elim
      · exact (hL h).elim
    · exact ⟨_, _, h⟩
theorem wpAnyL_ex {P : Program} {ops : Array Oper} {Q : Exit → Act → World → Prop} {anc : Nat → Nat → Bool} (hQ : ∀ c a w, ¬ Q (.panic c) a w) (hO : ∀ a w, ¬ Q .outgrown a w) :
    ∀ {fuel : Nat} {L : Held} {listed : Array Bool} {a : Act} {w : World}, wpAnyL P ops Q anc L fuel listed a w → ∃ a' w', Q .normal a' w'
  | 0, _, _, _, _, h => ⟨_, _, h.2⟩
  | fuel + 1, L, listed, a, w, h => by
    cases hr : Region.ready .any ops listed with
    | nil => exact ⟨_, _, h.1 hr⟩
    | cons j r =>
      obtain ⟨a', w', _, h1⟩ := wpOp_ex hQ hO (h.2 j (by rw [hr]; simp))
      exact wpAnyL_ex hQ hO h1

section
variable {P : Program} {M : Mem} {E : Eng P M} {N : Nat} {ops : Array Oper} {T : List Nat} {D : List Deferred}
theorem vcAny_spec (hT : okAnc ops T = true) (hall : dstsIn N ops.toList = true) (hns : Region.noSelect ops = true) :
    ∀ {p : Plan} {Q : Exit → Act → World → Prop} (_ : ∀ c a w, ¬ Q (.panic c) a w) {ts : TS} {H : List LB} {L : List HeldL} {K : TS → List LB → Prop} {fuel : Nat} {listed : Array Bool} {held seen : List Nat},
    okPlan ops T p fuel listed held seen = true → vcAny E N ops.toList p ts H L K → Closed ops listed → (∀ q ∈ L, q.i ∈ held ∧ q.val P M H) →
    ∀ e own w a, Sat M e own w H → Tm e H.length ts a → a.defers = D → a.tmps.size = N →
    (∀ e' own' w' ts' H' a', K ts' H' → H.length ≤ H'.length → Agree e e' H.length → Sat M e' own' w' H' → Ext own w own' w' → Tm e' H'.length ts' a' → a'.defers = D → a'.tmps.size = N → Q .normal a' w') →
    PlanGoal P ops Q (ancT T) (semL P e L) fuel listed a w seen p := by
  have hin : ∀ (a : Act), a.tmps.size = N → ∀ (j d : Nat) (oj : Oper), ops.toList[j]? = some oj → oj.dst = some d → d < a.tmps.size := by
    intro a hN j d oj hj hdst
    have := List.all_eq_true.1 hall oj (List.mem_of_getElem? hj)
    rw [hdst] at this
    have h1 : d + 1 ≤ N := Nat.le_of_ble_eq_true this
    omega
  intro p
  induction p with
  | done =>
    intro Q hQ ts H L K fuel listed held seen hok h hcl hL e own w a hs ht hd hN hfin
    have hr : Region.ready .any ops listed = [] := by simpa [okPlan] using hok
    have hq := hfin e own w ts H a h (Nat.le_refl _) (.refl _ _) hs (.refl _ _) ht hd hN
    cases fuel with
    | zero => exact ⟨hr, hq⟩
    | succ f => exact ⟨fun _ => hq, by rw [hr]; simp⟩
  | take i r ih =>
    intro Q hQ ts H L K fuel listed held seen hok h hcl hL e own w a hs ht hd hN hfin
    show wpAnyL P ops Q (ancT T) (semL P e L) fuel listed a w
    obtain ⟨o, ho, h⟩ := getK_spec h
    have ho' := opsGet ho
    unfold okPlan at hok
    match fuel, hok with
    | fuel + 1, hok =>
    simp only [ho', Bool.and_eq_true] at hok
    obtain ⟨⟨⟨hready, hfree⟩, htk⟩, hok⟩ := hok
    have hready : i ∈ Region.ready .any ops listed := by simpa using hready
    have hfr := Region.free_spec ho' hfree
    have hsel := Region.noSelect_spec hns
    have hg := guardK_spec ht h (hin a hN)
    rw [Array.toArray_toList] at hg
    rcases hg with ⟨hw, ts1, h1, ht1⟩ | ⟨hw, ts1, h1, ht1⟩
    · obtain ⟨y, L', h2, h3⟩ := vcTake_spec h1
      rcases h3 with ⟨rfl, hld, h3⟩ | ⟨q, hqi, hld, rfl, h3⟩
      · obtain ⟨h4, h5⟩ := h3 e own w a hs ht1
        obtain ⟨ts2, k7, k8, k9, k10⟩ := ht1.put hN h4 h2
        rw [hld] at hok
        refine wpAnyL_first (v := y.den e) (S := fun _ => True) (okAnc_spec hT) ho' hsel (fun c a w h => absurd h (hQ _ _ _)) fuel listed a w hcl hfr hready (.inl ⟨hw, fun w' _ => h5 w'⟩) trivial ?_
        have := (ih hQ (held := held) hok k7 (hcl.set hready) (fun q hq => hL q hq) e own w _ hs k8 (k10.trans hd) k9 hfin).any
        -- the new holder asks nothing
        have aux : ∀ (fuel : Nat) (listed : Array Bool) (a : Act) (w : World) {L : Held} {i : Nat}, wpAnyL P ops Q (ancT T) L fuel listed a w → wpAnyL P ops Q (ancT T) ((i, fun _ => True) :: L) fuel listed a w := by
          intro fuel
          induction fuel with
          | zero => intro listed a w L i h; exact h
          | succ f ihf =>
            intro listed a w L i h
            refine ⟨h.1, fun j hj => wpOp_mono (fun a' w' h' => ⟨fun p hp => ?_, ?_⟩) (h.2 j hj)⟩
            · rcases List.mem_cons.1 hp with rfl | hp
              · intro _ _; trivial
              · exact h'.1 p hp
            · cases hc : ancT T j i
              · rw [List.filter_cons_of_pos (by simp [hc])]; exact ihf _ _ _ h'.2
              · rw [List.filter_cons_of_neg (by simp [hc])]; exact h'.2
        exact aux _ _ _ _ this
      · obtain ⟨h4, h5, h6⟩ := h3 e own w a hs ht1
        obtain ⟨ts2, k7, k8, k9, k10⟩ := ht1.put hN h4 h2
        rw [hld] at hok
        refine wpAnyL_first (v := y.den e) (S := q.S P e) (okAnc_spec hT) ho' hsel (fun c a w h => absurd h (hQ _ _ _)) fuel listed a w hcl hfr hready (.inl ⟨hw, h6⟩) (HeldL.val_S h5 hs) ?_
        have := (ih hQ (held := i :: held) hok k7 (hcl.set hready) (fun q' hq' => by
          rcases List.mem_cons.1 hq' with rfl | hq'
          · exact ⟨hqi ▸ .head _, h5⟩
          · exact ⟨.tail _ (hL q' hq').1, (hL q' hq').2⟩) e own w _ hs k8 (k10.trans hd) k9 hfin).any
        simpa only [semL, List.map_cons, hqi] using this
    · obtain ⟨ts2, k7, k8, k9, k10⟩ := ht1.put (y := .v undef) hN trivial h1
      refine wpAnyL_first (v := undef) (S := fun _ => False ∨ True) (okAnc_spec hT) ho' hsel (fun c a w h => absurd h (hQ _ _ _)) fuel listed a w hcl hfr hready (.inr ⟨hw, rfl⟩) (.inr trivial) ?_
      have := (ih hQ (held := bif isLoad o then i :: held else held) hok k7 (hcl.set hready) (fun q hq => ⟨by
        cases isLoad o
        · exact (hL q hq).1
        · exact .tail _ (hL q hq).1, (hL q hq).2⟩) e own w _ hs k8 (k10.trans hd) k9 hfin).any
      have aux : ∀ (fuel : Nat) (listed : Array Bool) (a : Act) (w : World) {L : Held} {i : Nat}, wpAnyL P ops Q (ancT T) L fuel listed a w → wpAnyL P ops Q (ancT T) ((i, fun _ => False ∨ True) :: L) fuel listed a w := by
        intro fuel
        induction fuel with
        | zero => intro listed a w L i h; exact h
        | succ f ihf =>
          intro listed a w L i h
          refine ⟨h.1, fun j hj => wpOp_mono (fun a' w' h' => ⟨fun p hp => ?_, ?_⟩) (h.2 j hj)⟩
          · rcases List.mem_cons.1 hp with rfl | hp
            · intro _ _; exact .inr trivial
            · exact h'.1 p hp
          · cases hc : ancT T j i
            · rw [List.filter_cons_of_pos (by simp [hc])]; exact ihf _ _ _ h'.2
            · rw [List.filter_cons_of_neg (by simp [hc])]; exact h'.2
      exact aux _ _ _ _ this
  | alt j keep r others ihr iho =>
    intro Q hQ ts H L K fuel listed held seen0 hok h hcl hL e own w a hs ht hd hN hfin
    unfold okPlan at hok
    match fuel, hok with
    | fuel + 1, hok =>
    simp only [Bool.and_eq_true] at hok
    obtain ⟨⟨⟨hready, hheld⟩, hokr⟩, hoko⟩ := hok
    have hready : j ∈ Region.ready .any ops listed := by simpa using hready
    let A : (TS → List LB → Prop) → Prop := fun K => getK (fun o => guardK ops.toList ts o.guard
        (fun ts => vcOp E o ts H fun y H' => keepK P M H H' keep (fun L' => putT E N o.dst y ts fun ts' => vcAny E N ops.toList r ts' H' L' K) L)
        (fun ts => keepK P M H H keep (fun L' => putT E N o.dst (.v undef) ts fun ts' => vcAny E N ops.toList r ts' H L' K) L)) ops.toList j
    have hnextG : ∀ {Q : Exit → Act → World → Prop} (_ : ∀ c a w, ¬ Q (.panic c) a w) {K : TS → List LB → Prop} (_ : A K)
        (_ : ∀ e' own' w' ts' H' a', K ts' H' → H.length ≤ H'.length → Agree e e' H.length → Sat M e' own' w' H' → Ext own w own' w' → Tm e' H'.length ts' a' → a'.defers = D → a'.tmps.size = N → Q .normal a' w'),
        nextOk P ops Q (ancT T) (semL P e L) fuel listed a w j := by
      intro Q hQ K hA hfin
      obtain ⟨o, ho, hA⟩ := getK_spec hA
      have ho' := opsGet ho
      have hg := guardK_spec ht hA (hin a hN)
      rw [Array.toArray_toList] at hg
      -- what follows, from where the operation has been carried out
      have tail : ∀ (e' : Env) (own' : Nat → Nat → Prop) (w' : World) (H' : List LB) (ts2 : TS) (a' : Act), H.length ≤ H'.length → Agree e e' H.length → Sat M e' own' w' H' → Ext own w own' w' →
          Tm e' H'.length ts2 a' → a'.defers = D → a'.tmps.size = N → vcAny E N ops.toList r ts2 H' (L.filter fun q => memN q.i keep) K → (∀ q ∈ L, memN q.i keep = true → q.val P M H') →
          (∀ p ∈ semL P e L, ancT T j p.1 = false → p.2 w → p.2 w') ∧ wpAnyL P ops Q (ancT T) ((semL P e L).filter fun p => !ancT T j p.1) fuel (listed.setIfInBounds j true) a' w' := by
        intro e' own' w' H' ts2 a' hlen hag hs' hx ht' hd' hN' hv hkeep
        have hin' : ∀ q ∈ L, ancT T j q.i = false → memN q.i keep = true := by
          intro q hq hanc
          have := List.all_eq_true.1 hheld q.i (hL q hq).1
          rw [hanc] at this
          simp only [Bool.false_or] at this
          exact memN_iff.2 (by simpa using this)
        refine ⟨fun p hp hanc _ => ?_, ?_⟩
        · obtain ⟨q, hq, rfl⟩ := List.mem_map.1 hp
          have h1 := HeldL.val_S (hkeep q hq (hin' q hq hanc)) hs'
          have h2 := HeldL.S_agree (hL q hq).2 hag
          show q.S P e w'
          rw [← h2]; exact h1
        · have := (ihr hQ hokr hv (hcl.set hready) (fun q hq => by
            obtain ⟨h1, h2⟩ := List.mem_filter.1 hq
            exact ⟨List.mem_filter.2 ⟨(hL q h1).1, by simpa using memN_iff.1 h2⟩, hkeep q h1 h2⟩) e' own' w' a' hs' ht' hd' hN'
            (fun e'' own'' w'' ts'' H'' a'' q1 q2 q3 q4 q5 q6 q7 q8 => hfin e'' own'' w'' ts'' H'' a'' q1 (by omega) (hag.trans q3 hlen) q4 (hx.trans q5) q6 q7 q8)).any
          refine wpAnyL_mono _ _ _ _ (fun p hp => ?_) this
          obtain ⟨h1, h2⟩ := List.mem_filter.1 hp
          obtain ⟨q, hq, rfl⟩ := List.mem_map.1 h1
          have hanc : ancT T j q.i = false := by simpa using h2
          refine List.mem_map.2 ⟨q, List.mem_filter.2 ⟨hq, hin' q hq hanc⟩, ?_⟩
          rw [HeldL.S_agree (hL q hq).2 hag]
      unfold nextOk wpOp
      simp only [ho']
      rcases hg with ⟨hw, ts1, h1, ht1⟩ | ⟨hw, ts1, h1, ht1⟩
      · rw [if_pos hw]
        refine .inl ((vcOp_spec h1).out e own w a hs ht1 _ _ fun e' own' w' y H' k1 k2 k3 k4 k5 k6 => ?_)
        obtain ⟨k1, kk⟩ := keepK_spec k2 (fun q hq => (hL q hq).2) k1
        obtain ⟨ts2, k7, k8, k9, k10⟩ := (ht1.agree k2 k3).put hN k6 k1
        exact tail e' own' w' H' ts2 _ k2 k3 k4 k5 k8 (k10.trans hd) k9 k7 kk
      · rw [if_neg (by simp [hw])]
        obtain ⟨k1, kk⟩ := keepK_spec (Nat.le_refl _) (fun q hq => (hL q hq).2) h1
        obtain ⟨ts2, k7, k8, k9, k10⟩ := ht1.put (y := .v undef) hN trivial k1
        exact tail e own w H ts2 _ (Nat.le_refl _) (.refl _ _) hs (.refl _ _) k8 (k10.trans hd) k9 k7 kk
    have hOf : ∀ (Z : Prop), (∀ (c : List PanicEntry) (_ : Act) (_ : World), ¬ ((Exit.panic c = .normal) ∧ Z)) ∧ (∀ (_ : Act) (_ : World), ¬ ((Exit.outgrown = .normal) ∧ Z)) := fun Z => ⟨fun _ _ _ h => (nomatch h.1), fun _ _ h => (nomatch h.1)⟩
    have feasA : ∀ K', A K' → ∃ ts H, K' ts H := fun K' hA => by
      have h1 := hnextG (Q := fun ex _ _ => ex = .normal ∧ ∃ ts H, K' ts H) (hOf _).1 hA (fun _ _ _ ts' H' _ hk _ _ _ _ _ _ _ => ⟨rfl, ts', H', hk⟩)
      obtain ⟨a', w', _, h2⟩ := wpOp_ex (hOf _).1 (hOf _).2 h1
      obtain ⟨_, _, h3⟩ := wpAnyL_ex (hOf _).1 (hOf _).2 h2
      exact h3.2
    have seen : ∀ {K' : TS → List LB → Prop}, (∀ ts H', K' ts H' → Seen H.length K ts H') →
        ∀ e' own' w' ts' H' a', K' ts' H' → H.length ≤ H'.length → Agree e e' H.length → Sat M e' own' w' H' → Ext own w own' w' → Tm e' H'.length ts' a' → a'.defers = D → a'.tmps.size = N → Q .normal a' w' := by
      intro K' hK' e' own' w' ts' H' a' hk h1 h2 h3 h4 h5 h6 h7
      rcases hK' _ _ hk with ⟨ts2, hl, hk⟩ | ⟨m, ts2, H2, hv, hk⟩
      · exact hfin e' own' w' ts2 H' a' hk h1 h2 h3 h4 ⟨fun k x hx => h5.tm k x (hl k x hx)⟩ h6 h7
      · obtain ⟨q1, e2, own2, q2, q3, q4, q5⟩ := hv.use h3 h5
        exact hfin e2 own2 w' ts2 H2 a' hk q1 (h2.trans q2 (Nat.le_refl _)) q3 (h4.trans q4) q5 h6 h7
    have hsplit : ∃ KA KB, A KA ∧ vcAny E N ops.toList others ts H L KB ∧ (∀ ts H', KA ts H' → Seen H.length K ts H') ∧ (∀ ts H', KB ts H' → Seen H.length K ts H') := by
      unfold vcAny at h
      cases others with
      | stop => exact ⟨K, K, h, trivial, fun _ _ h => .same h, fun _ _ h => .same h⟩
      | done =>
        refine E.joinOk feasA (fun K' hB => ?_) h
        have h1 := iho (Q := fun ex _ _ => ex = .normal ∧ ∃ ts H, K' ts H) (hOf _).1 hoko hB hcl hL e own w a hs ht hd hN (fun _ _ _ ts' H' _ hk _ _ _ _ _ _ _ => ⟨rfl, ts', H', hk⟩)
        obtain ⟨_, _, h3⟩ := wpAnyL_ex (hOf _).1 (hOf _).2 h1
        exact h3.2
      | take i' r' =>
        refine E.joinOk feasA (fun K' hB => ?_) h
        have h1 := iho (Q := fun ex _ _ => ex = .normal ∧ ∃ ts H, K' ts H) (hOf _).1 hoko hB hcl hL e own w a hs ht hd hN (fun _ _ _ ts' H' _ hk _ _ _ _ _ _ _ => ⟨rfl, ts', H', hk⟩)
        obtain ⟨_, _, h3⟩ := wpAnyL_ex (hOf _).1 (hOf _).2 h1
        exact h3.2
      | alt j' keep' r' others' =>
        refine E.joinOk feasA (fun K' hB => ?_) h
        have h1 := iho (Q := fun ex _ _ => ex = .normal ∧ ∃ ts H, K' ts H) (hOf _).1 hoko hB hcl hL e own w a hs ht hd hN (fun _ _ _ ts' H' _ hk _ _ _ _ _ _ _ => ⟨rfl, ts', H', hk⟩)
        obtain ⟨_, f, hf, h1, _⟩ := h1
        obtain ⟨a', w', _, h2⟩ := wpOp_ex (hOf _).1 (hOf _).2 h1
        obtain ⟨_, _, h3⟩ := wpAnyL_ex (hOf _).1 (hOf _).2 h2
        exact h3.2
    obtain ⟨KA, KB, hA, hB, hKA, hKB⟩ := hsplit
    have hrest := iho hQ hoko hB hcl hL e own w a hs ht hd hN (seen hKB)
    have hnext : nextOk P ops Q (ancT T) (semL P e L) fuel listed a w j := hnextG hQ hA (seen hKA)
    refine ⟨hready, fuel, rfl, hnext, fun k hk hks => ?_⟩
    by_cases hkj : k = j
    · subst hkj; exact hnext
    · have hk' : k ∉ j :: seen0 := by simp [hkj, hks]
      cases others with
      | done => simp [okPlan] at hoko; rw [hoko] at hk; cases hk
      | take i r' =>
        exact hrest.2 k hk
      | alt j' _ _ _ =>
        obtain ⟨_, f, hf, _, hrest⟩ := hrest
        cases hf
        exact hrest k hk hk'
      | stop =>
        obtain ⟨_, f, hf, hrest⟩ := hrest
        cases hf
        exact hrest k hk hk'
  | stop =>
    intro Q hQ ts H L K fuel listed held seen hok h hcl hL e own w a hs ht hd hN hfin
    simp only [okPlan, Bool.and_eq_true, Bool.not_eq_true'] at hok
    obtain ⟨h1, h2, h3⟩ := hok
    refine ⟨by rintro rfl; simp at h2, ?_⟩
    cases fuel with
    | zero => simp at h1
    | succ f =>
      refine ⟨f, rfl, fun j hj hjs => ?_⟩
      have := List.all_eq_true.1 h3 j hj
      exact absurd (by simpa using this) hjs

/-- A region whose order is drawn. -/
theorem DrawOk.of_plan {id : Nat} {ts : TS} {H : List LB} {K : Post} (p : Plan) (T : List Nat) (hm : P.follows .mixedOrders = true)
    (hok : (okAnc ops T && dstsIn N ops.toList && Region.noSelect ops && okPlan ops T p ops.size (Array.replicate ops.size false) [] []) = true)
    (h : vcAny E N ops.toList p ts H [] (K .normal)) : DrawOk P M N id ops ts H K := by
  simp only [Bool.and_eq_true] at hok
  obtain ⟨⟨⟨h1, h2⟩, h3⟩, h4⟩ := hok
  refine ⟨⟨fun e own w a hs ht hN => wp_region_any hm (wpAny_of_L (anc := ancT T) _ _ _ _ (L := []) ?_)⟩⟩
  have hd' : Sat M e own { w with drawn := w.drawn + 1 } H := hs.drew
  have hx : Ext own w own { w with drawn := w.drawn + 1 } := Ext.drew
  exact (vcAny_spec (Q := CPost M N e own w H K a.defers) (D := a.defers) h1 h2 h3 (fun c a w hp => by
    obtain ⟨_, _, _, _, x, hx, _⟩ := hp; cases x <;> cases hx) h4 h (fun j o hj ho => by
      simp only [Array.getD_eq_getD_getElem?, Array.getElem?_replicate] at hj
      split at hj <;> cases hj) (by simp) e own _ a hd' ht rfl hN
    (fun e' own' w' ts' H' a' k1 k2 k3 k4 k5 k6 k7 k8 => ⟨e', own', ts', H', .normal, rfl, k1, k2, k3, k4, hx.trans k5, k6, .of_eq k7, k8⟩)).any
end
end Go.Lx
