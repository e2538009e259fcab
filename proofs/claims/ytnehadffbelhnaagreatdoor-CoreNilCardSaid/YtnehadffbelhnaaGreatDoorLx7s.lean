/-
  The symbolic executor Lx, part 7s: parts of rows.
-/
import Derived.Test.YtnehadffbelhnaaGreatDoorLx7m
namespace Go.Lx
open Go.RowKit

def bounds3K (len cap : Nat) (lo hi mx : Option LV) (K : Nat → Nat → Nat → Prop) : Prop :=
  match hi, mx with
  | none, some _ => False
  | hi, mx => boundK mx cap cap fun m => boundK hi len m fun h => boundK lo 0 h fun l => K l h m

section
variable {P : Program}
/-- A bound, as it is run, where at least y is there. -/
theorem run_bound {x : Option LV} {d y n : Nat} (h : (x = none ∧ n = d) ∨ ∃ k i, x = some (.v (.int k i)) ∧ 0 ≤ i ∧ i ≤ (y : Int) ∧ n = i.toNat) {c : Nat} (hc : y ≤ c) (e : Env) (code : BoundsCode) (w : World) :
    (match x.map (LV.den e) with
      | some v => Instr.sliceBound v c code
      | none => pure d).run P w = .ok n w := by
  rcases h with ⟨rfl, rfl⟩ | ⟨k, i, rfl, h1, h2, rfl⟩
  · rfl
  · simp only [Option.map_some, LV.den, Instr.sliceBound, asIntOf, Sem.run_bind, Sem.run_pure, Result.andThen_ok]
    rw [if_pos ⟨h1, by omega⟩]; rfl

theorem run_bounds {lo hi mx : Option LV} {len cap l h m ym yh yl : Nat} (hm : (mx = none ∧ m = cap) ∨ ∃ k i, mx = some (.v (.int k i)) ∧ 0 ≤ i ∧ i ≤ (ym : Int) ∧ m = i.toNat) (hym : ym ≤ cap)
    (hh : (hi = none ∧ h = len) ∨ ∃ k i, hi = some (.v (.int k i)) ∧ 0 ≤ i ∧ i ≤ (yh : Int) ∧ h = i.toNat) (hyh : yh ≤ m) (hco : hi = none → mx = none)
    (hl : (lo = none ∧ l = 0) ∨ ∃ k i, lo = some (.v (.int k i)) ∧ 0 ≤ i ∧ i ≤ (yl : Int) ∧ l = i.toNat) (hyl : yl ≤ h) (b : Bool) (e : Env) (w : World) :
    (Instr.sliceBounds b len cap (lo.map (LV.den e)) (hi.map (LV.den e)) (mx.map (LV.den e))).run P w = .ok (l, h, m) w := by
  have hbnd : ∀ (v : Value) (c : Nat) (code : BoundsCode) (x : LV) (y n : Nat), (∃ k i, some x = some (LV.v (.int k i)) ∧ 0 ≤ i ∧ i ≤ (y : Int) ∧ n = i.toNat) → y ≤ c → v = x.den e → (Instr.sliceBound v c code).run P w = .ok n w := by
    rintro v c code x y n ⟨k, i, hx, h1, h2, rfl⟩ hc rfl
    cases hx
    simp only [LV.den, Instr.sliceBound, asIntOf, Sem.run_bind, Sem.run_pure, Result.andThen_ok]
    rw [if_pos ⟨h1, by omega⟩]; rfl
  have em : (match mx.map (LV.den e) with
      | some v => Instr.sliceBound v cap (if b then .slice3Acap else .slice3Alen)
      | none => pure cap : Sem Nat).run P w = .ok m w := by
    rcases hm with ⟨rfl, rfl⟩ | ⟨k, i, hx, h1⟩
    · rfl
    · subst hx; exact hbnd _ _ _ _ ym m ⟨k, i, rfl, h1⟩ hym rfl
  have el : ∀ code, (match lo.map (LV.den e) with
      | some v => Instr.sliceBound v h code
      | none => pure 0 : Sem Nat).run P w = .ok l w := fun code => by
    rcases hl with ⟨rfl, rfl⟩ | ⟨k, i, hx, h1⟩
    · rfl
    · subst hx; exact hbnd _ _ _ _ yl l ⟨k, i, rfl, h1⟩ hyl rfl
  unfold Instr.sliceBounds
  have cases3 : ∀ (s1 s2 s3 : Sem Nat), s1.run P w = .ok m w → s2.run P w = .ok h w → s3.run P w = .ok l w → (do let m ← s1; let h ← s2; let l ← s3; pure (l, h, m) : Sem (Nat × Nat × Nat)).run P w = .ok (l, h, m) w := by
    intro s1 s2 s3 h1 h2 h3
    simp only [Sem.run_bind, h1, h2, h3, Result.andThen_ok, Sem.run_pure]
  cases mx with
  | none =>
    rcases hm with ⟨_, rfl⟩ | ⟨k, i, hx, _⟩
    case inr => cases hx
    cases hi with
    | none =>
      rcases hh with ⟨_, rfl⟩ | ⟨k, i, hx, _⟩
      case inr => cases hx
      cases lo with
      | none =>
        rcases hl with ⟨_, rfl⟩ | ⟨k, i, hx, _⟩
        · rfl
        · cases hx
      | some x => 
        rcases hl with ⟨hx, _⟩ | ⟨k, i, hx, h1⟩
        · cases hx
        · simp only [Option.map_some, Option.map_none, Sem.run_bind, Sem.run_pure, Result.andThen_ok]
          rw [hbnd _ _ _ x yl l ⟨k, i, hx, h1⟩ hyl rfl]; rfl
    | some y =>
      rcases hh with ⟨hx, _⟩ | ⟨k, i, hx, h1⟩
      · cases hx
      have e2 := fun code => hbnd (y.den e) m code y yh h ⟨k, i, hx, h1⟩ hyh rfl
      cases lo with
      | none =>
        rcases hl with ⟨_, rfl⟩ | ⟨k, i, hx, _⟩
        · simp only [Option.map_some, Option.map_none, Sem.run_bind, Sem.run_pure, Result.andThen_ok, e2]
        · cases hx
      | some x => 
        rcases hl with ⟨hx, _⟩ | ⟨k, i, hx, h1⟩
        · cases hx
        · simp only [Option.map_some, Option.map_none, Sem.run_bind, Sem.run_pure, Result.andThen_ok, e2]
          rw [hbnd _ _ _ x yl l ⟨k, i, hx, h1⟩ hyl rfl]; rfl
  | some z =>
    rcases hm with ⟨hx, _⟩ | ⟨k, i, hx, h1⟩
    · cases hx
    have e1 := fun code => hbnd (z.den e) cap code z ym m ⟨k, i, hx, h1⟩ hym rfl
    cases hi with
    | none => exact absurd (hco rfl) (by simp)
    | some y =>
      rcases hh with ⟨hx, _⟩ | ⟨k, i, hx, h1⟩
      · cases hx
      have e2 := fun code => hbnd (y.den e) m code y yh h ⟨k, i, hx, h1⟩ hyh rfl
      cases lo with
      | none =>
        rcases hl with ⟨_, rfl⟩ | ⟨k, i, hx, _⟩
        · simp only [Option.map_some, Option.map_none, Sem.run_bind, Sem.run_pure, Result.andThen_ok, e1, e2]
        · cases hx
      | some x => 
        rcases hl with ⟨hx, _⟩ | ⟨k, i, hx, h1⟩
        · cases hx
        · simp only [Option.map_some, Sem.run_bind, Sem.run_pure, Result.andThen_ok, e1, e2]
          rw [hbnd _ _ _ x yl l ⟨k, i, hx, h1⟩ hyl rfl]; rfl

theorem bounds3K_spec {len cap : Nat} {lo hi mx : Option LV} {K : Nat → Nat → Nat → Prop} (h : bounds3K len cap lo hi mx K) :
    ∃ l h m, K l h m ∧ ∀ (b : Bool) (e : Env) (w : World), (Instr.sliceBounds b len cap (lo.map (LV.den e)) (hi.map (LV.den e)) (mx.map (LV.den e))).run P w = .ok (l, h, m) w := by
  have hh : boundK mx cap cap (fun m => boundK hi len m fun h => boundK lo 0 h fun l => K l h m) ∧ (hi = none → mx = none) := by
    unfold bounds3K at h
    cases hi with
    | none => cases mx with
      | none => exact ⟨h, fun _ => rfl⟩
      | some _ => exact h.elim
    | some _ => exact ⟨h, fun hn => nomatch hn⟩
  obtain ⟨m, h1, hm⟩ := boundK_spec hh.1
  obtain ⟨h, h2, hhi⟩ := boundK_spec h1
  obtain ⟨l, h3, hlo⟩ := boundK_spec h2
  exact ⟨l, h, m, h3, fun b e w => run_bounds hm (Nat.le_refl _) hhi (Nat.le_refl _) hh.2 hlo (Nat.le_refl _) b e w⟩

/-- Bounds of a part of a row of n items, of whose capacity no more is known than that it is at least n. -/
def boundsUK (n : Nat) (lo hi mx : Option LV) (K : Nat → Nat → Option Nat → Prop) : Prop :=
  match mx with
  | none => boundK hi n n fun h => boundK lo 0 h fun l => K l h none
  | some z => (match hi with
    | none => False
    | some y => boundK (some z) n n fun m => boundK (some y) n m fun h => boundK lo 0 h fun l => bif Nat.beq l 0 then K 0 h (some m) else False)
theorem boundsUK_spec {n : Nat} {lo hi mx : Option LV} {K : Nat → Nat → Option Nat → Prop} (h : boundsUK n lo hi mx K) :
    ∃ l h m, K l h m ∧ l ≤ h ∧ h ≤ n ∧ (∀ q, m = some q → l = 0 ∧ h ≤ q ∧ q ≤ n) ∧ ∀ (c : Nat), n ≤ c → ∀ (b : Bool) (e : Env) (w : World),
      (Instr.sliceBounds b n c (lo.map (LV.den e)) (hi.map (LV.den e)) (mx.map (LV.den e))).run P w = .ok (l, h, m.getD c) w := by
  have le_of : ∀ {x : Option LV} {d y n : Nat}, ((x = none ∧ n = d) ∨ ∃ k i, x = some (.v (.int k i)) ∧ 0 ≤ i ∧ i ≤ (y : Int) ∧ n = i.toNat) → d ≤ y → n ≤ y := by
    rintro x d y n (⟨_, rfl⟩ | ⟨k, i, _, h1, h2, rfl⟩) hd
    · exact hd
    · omega
  cases mx with
  | none =>
    obtain ⟨hh, h1, hhi⟩ := boundK_spec (show boundK hi n n fun h => boundK lo 0 h fun l => K l h none from h)
    obtain ⟨l, h2, hlo⟩ := boundK_spec h1
    exact ⟨l, hh, none, h2, le_of hlo (by omega), le_of hhi (Nat.le_refl _), fun q hq => (nomatch hq), fun c hc b e w =>
      run_bounds (ym := 0) (.inl ⟨rfl, rfl⟩) (Nat.zero_le _) hhi hc (fun _ => rfl) hlo (Nat.le_refl _) b e w⟩
  | some z =>
    cases hi with
    | none => exact h.elim
    | some y =>
      obtain ⟨m, h1, hm⟩ := boundK_spec (show boundK (some z) n n fun m => boundK (some y) n m fun h => boundK lo 0 h fun l => bif Nat.beq l 0 then K 0 h (some m) else False from h)
      obtain ⟨hh, h2, hhi⟩ := boundK_spec h1
      obtain ⟨l, h3, hlo⟩ := boundK_spec h2
      obtain ⟨h4, h5⟩ := bif_elim h3
      have h4 := Nat.eq_of_beq_eq_true h4
      subst h4
      have hmn : m ≤ n := le_of hm (Nat.le_refl _)
      have hhm : hh ≤ m := by
        rcases hhi with ⟨hx, _⟩ | ⟨k, i, _, h1, h2, rfl⟩
        · cases hx
        · omega
      refine ⟨0, hh, some m, h5, Nat.zero_le _, by omega, fun q hq => by cases hq; exact ⟨rfl, hhm, hmn⟩, fun c hc b e w => ?_⟩
      refine run_bounds (P := P) (lo := lo) (hi := some y) (mx := some z) (ym := n) (yh := m) (yl := hh) ?_ hc ?_ (Nat.le_refl _) (fun hx => by cases hx) hlo (Nat.le_refl _) b e w
      · rcases hm with ⟨hx, _⟩ | h
        · cases hx
        · exact .inr h
      · rcases hhi with ⟨hx, _⟩ | h
        · cases hx
        · exact .inr h

/-- How many items a row has, and of which size. -/
def rowK (H : List LB) (l : Nat) (K : Nat → Nat → Prop) : Prop :=
  getK (fun B => match B with
    | .list sz items _ => countK items 0 fun c => K sz c
    | .rows sz items _ => countK items 0 fun c => K sz c
    | _ => False) H l
theorem rowK_spec {H : List LB} {l : Nat} {K : Nat → Nat → Prop} (h : rowK H l K) : ∃ sz n, K sz n ∧ ∀ {M : Mem} {e : Env} {own : Nat → Nat → Prop} {w : World}, Sat M e own w H →
    (e.s l = .slice none 0 0 ∧ n = 0) ∨ ∃ c, e.s l = .slice (some ⟨e.b l, 0, none⟩) n c ∧ n ≤ c := by
  obtain ⟨B, hB, h⟩ := getK_spec h
  have key : ∀ {sz : Nat} {items : List (List Value)} {ty : TypeId} {e : Env} {own : Nat → Prop} {w : World}, (LB.list sz items ty).sat e l own w → (e.s l = .slice none 0 0 ∧ items.length = 0) ∨ ∃ c, e.s l = .slice (some ⟨e.b l, 0, none⟩) items.length c ∧ items.length ≤ c := by
    rintro sz items ty e own w ⟨h1, h2, h3, h4⟩
    rcases h4.2 with ⟨hv, hn⟩ | ⟨g, cap, cur, hv, _, _, hn, _⟩
    · exact .inl ⟨hv, hn⟩
    · have := h2 (by rw [hv]; simp [Value.ownBlock])
      rw [hv] at this
      simp [Value.ownBlock] at this
      exact .inr ⟨cap, by rw [hv, this], hn⟩
  match B, hB, h with
  | .list sz items ty, hB, h =>
    have h := countK_spec h
    rw [Nat.zero_add] at h
    exact ⟨_, _, h, fun hs => key (hs.bl l _ hB).1⟩
  | .rows sz items ty, hB, h =>
    have h := countK_spec h
    rw [Nat.zero_add] at h
    refine ⟨_, _, h, fun {M e own w} hs => ?_⟩
    have := key (LB.rows_sat.1 (hs.bl l _ hB).1)
    simpa using this

variable {M : Mem} {H : List LB}
def sliceNK (P : Program) (t : TypeId) (x : LV) (lo hi mx : Option LV) (H : List LB) (K : LV → Prop) : Prop :=
  match x with
  | .sl l off len cap => (match P.underlying t with
    | some (.slice el) => sizeK P el fun sz => bounds3K len cap lo hi mx fun a h m => bif Nat.beq m a then K (.sl l off (h - a) (m - a)) else K (.sl l (off + a * sz) (h - a) (m - a))
    | _ => False)
  | .ptr l off => (match P.underlying t with
    | some (.pointer arr) => (match P.underlying arr with
      | some (.array n el) => sizeK P el fun sz => bounds3K n n lo hi mx fun a h m => bif Nat.beq m a then K (.sl l off (h - a) (m - a)) else K (.sl l (off + a * sz) (h - a) (m - a))
      | _ => False)
    | some (.array n el) => sizeK P el fun sz => bounds3K n n lo hi mx fun a h m => bif Nat.beq m a then K (.sl l off (h - a) (m - a)) else K (.sl l (off + a * sz) (h - a) (m - a))
    | _ => False)
  | .root l => (match P.underlying t with
    | some (.slice el) => sizeK P el fun sz => rowK H l fun sz' n => bif Nat.beq sz sz' then boundsUK n lo hi mx fun a h m => K (.sub l sz 0 a (h - a) m) else False
    | _ => False)
  | .sub l sz0 p i len lim => (match P.underlying t with
    | some (.slice el) => sizeK P el fun sz => rowK H l fun sz' n => bif Nat.beq sz sz' && (Nat.beq sz sz0 && Nat.ble (i + len) n) then
        (match lim with
        | none => boundsUK len lo hi mx fun a h m => bif Nat.beq a 0 then K (.sub l sz p i h m) else K (.sub l sz i (i + a) (h - a) m)
        | some q => bif Nat.ble (i + q) n && Nat.ble len q then boundsUK len lo hi mx fun a h m => bif Nat.beq a 0 then K (.sub l sz p i h (some (m.getD q))) else
            bif Nat.blt a q then K (.sub l sz i (i + a) (h - a) (some (q - a))) else False else False)
      else False
    | _ => False)
  | x => sliceK P t x lo hi mx K

theorem sliceNK_spec {t : TypeId} {x : LV} {lo hi mx : Option LV} {K : LV → Prop} (h : sliceNK P t x lo hi mx H K) :
    ValOk P M H (x.sc H.length) (fun e => Instr.sliceAt t (x.den e) (lo.map (LV.den e)) (hi.map (LV.den e)) (mx.map (LV.den e))) K := by
  have at_slice : ∀ {el : TypeId}, P.underlying t = some (.slice el) → ∀ X a b c w, (Instr.sliceAt t X a b c).run P w = (Instr.slice t X a b c).run P w := fun hel X a b c w => by
    simp only [Instr.sliceAt, Sem.run_bind, run_underlying hel, Result.andThen_ok]
  unfold sliceNK at h
  split at h
  · rename_i l off len cap
    split at h
    · rename_i el hel
      obtain ⟨i, hi', h⟩ := sizeK_spec h
      obtain ⟨a, hh, m, h, hr⟩ := bounds3K_spec (P := P) h
      cases hb : Nat.beq m a
      · rw [hb] at h
        refine ⟨_, h, fun e own w hs hx => ⟨hx, fun w => ?_⟩⟩
        rw [at_slice hel]
        have hne : m ≠ a := fun he => by subst he; rw [Nat.beq_refl] at hb; cases hb
        simp only [Instr.slice, LV.den, Sem.run_bind, run_underlying hel, Result.andThen_ok, hr, run_sizeOf hi', Sem.run_pure, hne, if_false, Option.map_some, addr_add]
      · rw [hb] at h
        have := Nat.eq_of_beq_eq_true hb
        subst this
        refine ⟨_, h, fun e own w hs hx => ⟨hx, fun w => ?_⟩⟩
        rw [at_slice hel]
        simp only [Instr.slice, LV.den, Sem.run_bind, run_underlying hel, Result.andThen_ok, hr, run_sizeOf hi', Sem.run_pure, if_true]
    · exact h.elim
  · rename_i l off
    split at h
    · rename_i arr harr
      split at h
      · rename_i n el hel
        obtain ⟨i, hi', h⟩ := sizeK_spec h
        obtain ⟨a, hh, m, h, hr⟩ := bounds3K_spec (P := P) h
        have hat : ∀ X a b c w, (Instr.sliceAt t (.pointer (some X)) a b c).run P w = (Instr.slice t (.pointer (some X)) a b c).run P w := fun X a b c w => by
          simp only [Instr.sliceAt, Sem.run_bind, run_underlying harr, Result.andThen_ok]
          try rfl
        cases hb : Nat.beq m a
        · rw [hb] at h
          refine ⟨_, h, fun e own w hs hx => ⟨hx, fun w => ?_⟩⟩
          have hne : m ≠ a := fun he => by subst he; rw [Nat.beq_refl] at hb; cases hb
          simp only [LV.den]
          rw [hat]
          simp only [Instr.slice, Sem.run_bind, run_underlying harr, run_underlying hel, Result.andThen_ok, asAddr, hr, run_sizeOf hi', Sem.run_pure, hne, if_false, addr_add]
        · rw [hb] at h
          have := Nat.eq_of_beq_eq_true hb
          subst this
          refine ⟨_, h, fun e own w hs hx => ⟨hx, fun w => ?_⟩⟩
          simp only [LV.den]
          rw [hat]
          simp only [Instr.slice, Sem.run_bind, run_underlying harr, run_underlying hel, Result.andThen_ok, asAddr, hr, run_sizeOf hi', Sem.run_pure, if_true]
      · exact h.elim
    · rename_i n el hel
      obtain ⟨i, hi', h⟩ := sizeK_spec h
      obtain ⟨a, hh, m, h, hr⟩ := bounds3K_spec (P := P) h
      cases hb : Nat.beq m a
      · rw [hb] at h
        refine ⟨_, h, fun e own w hs hx => ⟨hx, fun w => ?_⟩⟩
        have hne : m ≠ a := fun he => by subst he; rw [Nat.beq_refl] at hb; cases hb
        simp only [LV.den, Instr.sliceAt, Sem.run_bind, run_underlying hel, Result.andThen_ok, Instr.sureAddr, hr, run_sizeOf hi', Sem.run_pure, hne, if_false, addr_add]
      · rw [hb] at h
        have := Nat.eq_of_beq_eq_true hb
        subst this
        refine ⟨_, h, fun e own w hs hx => ⟨hx, fun w => ?_⟩⟩
        simp only [LV.den, Instr.sliceAt, Sem.run_bind, run_underlying hel, Result.andThen_ok, Instr.sureAddr, hr, run_sizeOf hi', Sem.run_pure, if_true]
    · exact h.elim
  · rename_i l
    split at h
    · rename_i el hel
      obtain ⟨i, hi', h⟩ := sizeK_spec h
      obtain ⟨sz', n, h, hrow⟩ := rowK_spec h
      obtain ⟨hsz, h⟩ := bif_elim h
      obtain ⟨a, hh, m, h, hah, hhn, hm, hr⟩ := boundsUK_spec (P := P) h
      refine ⟨_, h, fun e own w0 hs hx => ⟨hx, fun w => ?_⟩⟩
      rw [at_slice hel]
      rcases hrow hs with ⟨hv, rfl⟩ | ⟨c, hv, hc⟩
      · have hm0 : m.getD 0 = 0 := by
          cases m with
          | none => rfl
          | some q => have := (hm q rfl).2.2; simp; omega
        have ha0 : a = 0 := by omega
        have hh0 : hh = 0 := by omega
        subst ha0; subst hh0
        simp only [Instr.slice, LV.den, hv, Sem.run_bind, run_underlying hel, Result.andThen_ok, hr 0 (Nat.le_refl _), run_sizeOf hi', Sem.run_pure, subVal, hm0, if_true, Nat.sub_zero]
      · simp only [Instr.slice, LV.den, hv, Sem.run_bind, run_underlying hel, Result.andThen_ok, hr c hc, run_sizeOf hi', Sem.run_pure, subVal]
        cases m with
        | none =>
          simp only [Option.getD_none]
          by_cases hca : c = a
          · subst hca; simp
          · simp [hca, addr_add]
        | some q =>
          obtain ⟨rfl, _, _⟩ := hm q rfl
          simp only [Option.getD_some, Nat.zero_mul, Nat.sub_zero, ite_self, Nat.add_zero, Option.map_some, addr_add]
    · exact h.elim
  · rename_i l sz0 p i len lim
    split at h
    · rename_i el hel
      obtain ⟨ti, hi', h⟩ := sizeK_spec h
      obtain ⟨sz', n, h, hrow⟩ := rowK_spec h
      obtain ⟨hg, h9⟩ := bif_elim h
      clear h
      simp only [Bool.and_eq_true] at hg
      obtain ⟨h1, h2, h3⟩ := hg
      have h2 := Nat.eq_of_beq_eq_true h2
      have h3 : i + len ≤ n := Nat.le_of_ble_eq_true h3
      subst h2
      cases lim with
      | none =>
        obtain ⟨a, hh, m, h, hah, hhn, hm, hr⟩ := boundsUK_spec (P := P) (show boundsUK len lo hi mx fun a h m => bif Nat.beq a 0 then K (.sub l ti.size p i h m) else K (.sub l ti.size i (i + a) (h - a) m) from h9)
        have base : ∀ (y : LV), K y → (y.sc H.length ↔ l < H.length) → (∀ e : Env, (e.s l = .slice none 0 0 ∧ n = 0 ∨ ∃ c, e.s l = .slice (some ⟨e.b l, 0, none⟩) n c ∧ n ≤ c) →
            y.den e = .slice (if m.getD ((match e.s l with
              | .slice (some _) _ c => c - i
              | _ => 0)) = a then (match e.s l with
                | .slice (some A) _ c => some (⟨A.block, A.off + (if c = i then p else i) * ti.size, none⟩ : Addr)
                | _ => none) else (match e.s l with
                | .slice (some A) _ c => some (⟨A.block, A.off + (if c = i then p else i) * ti.size + a * ti.size, none⟩ : Addr)
                | _ => none)) (hh - a) (m.getD ((match e.s l with
              | .slice (some _) _ c => c - i
              | _ => 0)) - a)) → ValOk P M H ((LV.sub l ti.size p i len none).sc H.length) (fun e => Instr.sliceAt t ((LV.sub l ti.size p i len none).den e) (lo.map (LV.den e)) (hi.map (LV.den e)) (mx.map (LV.den e))) K := by
          intro y hy hysc hden
          refine ⟨y, hy, fun e own w0 hs hx => ⟨hysc.2 hx, fun w => ?_⟩⟩
          rw [at_slice hel, hden e (hrow hs)]
          rcases hrow hs with ⟨hv, rfl⟩ | ⟨c, hv, hc⟩
          · have hl0 : len = 0 := by omega
            subst hl0
            simp only [Instr.slice, LV.den, hv, subVal, Option.getD_none, Sem.run_bind, run_underlying hel, Result.andThen_ok, hr 0 (Nat.le_refl _), run_sizeOf hi', Sem.run_pure, Option.map_none, ite_self]
          · simp only [Instr.slice, LV.den, hv, subVal, Option.getD_none, Sem.run_bind, run_underlying hel, Result.andThen_ok, hr (c - i) (by omega), run_sizeOf hi', Sem.run_pure, Option.map_some, addr_add]
        cases hb : Nat.beq a 0
        · rw [hb] at h
          have ha : a ≠ 0 := fun he => by subst he; cases hb
          have hmn : m = none := by
            cases m with
            | none => rfl
            | some q => exact absurd (hm q rfl).1 ha
          subst hmn
          refine base _ h Iff.rfl fun e he => ?_
          rcases he with ⟨hv, rfl⟩ | ⟨c, hv, hc⟩
          · omega
          · have hci : c ≠ i := by omega
            simp only [LV.den, subVal, hv, Option.getD_none, hci, if_false]
            by_cases hca : c - i = a
            · have : c = i + a := by omega
              simp [hca, this]
            · have : c ≠ i + a := by omega
              simp [this, Nat.add_mul]
              omega
        · rw [hb] at h
          have ha := Nat.eq_of_beq_eq_true hb
          subst ha
          refine base _ h Iff.rfl fun e he => ?_
          rcases he with ⟨hv, rfl⟩ | ⟨c, hv, hc⟩
          · simp only [LV.den, subVal, hv, ite_self, Nat.sub_zero]
          · simp only [LV.den, subVal, hv, Nat.zero_mul, Nat.add_zero, ite_self, Nat.sub_zero]
      | some q =>
        obtain ⟨hq, h⟩ := bif_elim (show (bif Nat.ble (i + q) n && Nat.ble len q then boundsUK len lo hi mx fun a h m => bif Nat.beq a 0 then K (.sub l ti.size p i h (some (m.getD q))) else
            bif Nat.blt a q then K (.sub l ti.size i (i + a) (h - a) (some (q - a))) else False else False) from h9)
        simp only [Bool.and_eq_true] at hq
        have hq1 : i + q ≤ n := Nat.le_of_ble_eq_true hq.1
        have hq2 : len ≤ q := Nat.le_of_ble_eq_true hq.2
        obtain ⟨a, hh, m, h, hah, hhn, hm, hr⟩ := boundsUK_spec (P := P) h
        cases hb : Nat.beq a 0
        · rw [hb] at h
          have ha : a ≠ 0 := fun he => by subst he; cases hb
          have hmn : m = none := by
            cases m with
            | none => rfl
            | some q => exact absurd (hm q rfl).1 ha
          subst hmn
          obtain ⟨haq, h⟩ := bif_elim h
          have haq : a < q := Nat.lt_of_succ_le (Nat.le_of_ble_eq_true haq)
          refine ⟨_, h, fun e own w0 hs hx => ⟨hx, fun w => ?_⟩⟩
          rw [at_slice hel]
          rcases hrow hs with ⟨hv, rfl⟩ | ⟨c, hv, hc⟩
          · omega
          · have hci : c ≠ i := by omega
            have hca : c ≠ i + a := by omega
            have hqa : q ≠ a := by omega
            simp only [Instr.slice, LV.den, hv, subVal, Option.getD_some, Option.getD_none, Sem.run_bind, run_underlying hel, Result.andThen_ok, hr q hq2, run_sizeOf hi', Sem.run_pure, Option.map_some, addr_add, hci, hca, hqa, if_false]
            congr 4
            rw [Nat.add_mul]; omega
        · rw [hb] at h
          have ha := Nat.eq_of_beq_eq_true hb
          subst ha
          refine ⟨_, h, fun e own w0 hs hx => ⟨hx, fun w => ?_⟩⟩
          rw [at_slice hel]
          rcases hrow hs with ⟨hv, rfl⟩ | ⟨c, hv, hc⟩
          · simp only [Instr.slice, LV.den, hv, subVal, Option.getD_some, Sem.run_bind, run_underlying hel, Result.andThen_ok, hr q hq2, run_sizeOf hi', Sem.run_pure, Option.map_none, ite_self, Nat.sub_zero]
          · simp only [Instr.slice, LV.den, hv, subVal, Option.getD_some, Sem.run_bind, run_underlying hel, Result.andThen_ok, hr q hq2, run_sizeOf hi', Sem.run_pure, Option.map_some, addr_add, Nat.zero_mul, Nat.add_zero, ite_self, Nat.sub_zero]
    · exact h.elim
  · have h1 := sliceK_spec (M := M) (H := H) h
    obtain ⟨y, h2, h3⟩ := h1.out
    exact ⟨y, h2, fun e own w hs hx => ⟨(h3 e own w hs trivial).1, fun w' => by rw [sliceK_at h]; exact (h3 e own w hs trivial).2 w'⟩⟩
end
end Go.Lx
