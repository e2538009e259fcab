/-
  The symbolic executor Lx, part 6: indexes, lengths, appends, calls; one operation.
-/
import Derived.Test.YtnehadffbelhnaaGreatDoorLx5
namespace Go.Lx
open Go.RowKit

def intLK (K : IntKind → Int → Prop) : LV → Prop
  | .v x => match x with
    | .int k n => K k n
    | _ => False
  | _ => False
theorem intLK_spec {K : IntKind → Int → Prop} {x : LV} (h : intLK K x) : ∃ k n, K k n ∧ x = .v (.int k n) := by
  unfold intLK at h
  split at h
  · split at h
    · exact ⟨_, _, h, rfl⟩
    · exact h.elim
  · exact h.elim

def idxK (n len : Int) (K : Prop) : Prop := forkB (decide (0 ≤ n) && decide (n < len)) K False
theorem idxK_of {n len : Int} {K : Prop} (h0 : 0 ≤ n) (h1 : n < len) (h : K) : idxK n len K := by
  unfold idxK forkB; simp [h0, h1, h]
theorem idxK_spec {n len : Int} {K : Prop} (h : idxK n len K) : 0 ≤ n ∧ n < len ∧ K := by
  unfold idxK forkB at h
  by_cases h0 : 0 ≤ n <;> by_cases h1 : n < len <;> simp [h0, h1] at h
  exact ⟨h0, h1, h⟩

def indexAddrK (P : Program) (t : TypeId) (x i : LV) (H : List LB) (K : LV → Prop) : Prop :=
  intLK (fun _ n => match P.underlying t with
    | some (.array len el) => sizeK P el fun sz => idxK n len (match x with
      | .ptr l o => K (.ptr l (o + n.toNat * sz))
      | .at l s j o => K (.at l s j (o + n.toNat * sz))
      | .v (.pointer (some a)) => K (.v (.pointer (some (a.add (n.toNat * sz)))))
      | _ => False)
    | some (.slice el) => sizeK P el fun sz => (match x with
      | .root l => getK (fun B => match B with
        | .list sz' items _ => bif Nat.beq sz sz' then idxK n items.length (K (.at l sz n.toNat 0)) else False
        | .rows sz' items _ => bif Nat.beq sz sz' then countK items 0 (fun c => idxK n c (K (.at l sz n.toNat 0))) else False
        | _ => False) H l
      | .sl l o len _ => idxK n len (K (.ptr l (o + n.toNat * sz)))
      | .v (.slice (some a) len _) => idxK n len (K (.v (.pointer (some (a.add (n.toNat * sz))))))
      | _ => False)
    | _ => False) i

theorem list_slice {e : Env} {l : Nat} {own : Nat → Prop} {w : World} {sz : Nat} {items : List (List Value)} {ty : TypeId}
    (h : (LB.list sz items ty).sat e l own w) (h0 : 0 < items.length) : ∃ cap, e.s l = .slice (some ⟨e.b l, 0, none⟩) items.length cap := by
  obtain ⟨h1, h2, h3, h4⟩ := h
  rcases h4.2 with ⟨_, hn⟩ | ⟨g, cap, cur, hv, _⟩
  · omega
  · have := h2 (by rw [hv]; simp [Value.ownBlock])
    rw [hv] at this
    simp [Value.ownBlock] at this
    subst this
    exact ⟨cap, hv⟩
theorem list_len {e : Env} {l : Nat} {own : Nat → Prop} {w : World} {sz : Nat} {items : List (List Value)} {ty : TypeId}
    (h : (LB.list sz items ty).sat e l own w) : ∃ a cap, e.s l = .slice a items.length cap := by
  obtain ⟨h1, h2, h3, h4⟩ := h
  rcases h4.2 with ⟨hv, hn⟩ | ⟨g, cap, cur, hv, _⟩
  · exact ⟨none, 0, by rw [hv, hn]⟩
  · exact ⟨_, cap, hv⟩

theorem indexAddrK_spec {P : Program} {M : Mem} {H : List LB} {t : TypeId} {x i : LV} {K : LV → Prop} (h : indexAddrK P t x i H K) :
    ValOk P M H (x.sc H.length) (fun e => Instr.indexAt t (x.den e) (i.den e)) K := by
  obtain ⟨k, n, g, rfl⟩ := intLK_spec h
  replace h := g
  clear g
  split at h
  · rename_i len el hel
    obtain ⟨ei, hei, h⟩ := sizeK_spec h
    obtain ⟨h0, h1, h⟩ := idxK_spec h
    have fin : ∀ (a : Addr) (w : World), (Instr.indexAt t (.pointer (some a)) (.int k n)).run P w = .ok (.pointer (some (a.add (n.toNat * ei.size)))) w := by
      intro a w
      simp only [Instr.indexAt, asIntOf, Sem.run_bind, Sem.run_pure, Result.andThen_ok, run_underlying hel, Instr.sureAddr]
      rw [if_pos ⟨h0, h1⟩]
      simp only [Sem.run_bind, run_sizeOf hei, Result.andThen_ok, Sem.run_pure]
    match x, h with
    | .ptr l o, h => exact ⟨_, h, fun e own w _ hx => ⟨hx, fun w => by simp only [LV.den, fin, addr_add]⟩⟩
    | .at l s j o, h => exact ⟨_, h, fun e own w _ hx => ⟨hx, fun w => by simp only [LV.den, fin, addr_add, Nat.add_assoc]⟩⟩
    | .v (.pointer (some a)), h => exact ⟨_, h, fun e own w _ hx => ⟨hx, fun w => by simp only [LV.den, fin]⟩⟩
  · rename_i el hel
    obtain ⟨ei, hei, h⟩ := sizeK_spec h
    have fin : ∀ (a : Addr) (len cap : Nat) (w : World), 0 ≤ n → n < len → (Instr.indexAt t (.slice (some a) len cap) (.int k n)).run P w = .ok (.pointer (some (a.add (n.toNat * ei.size)))) w := by
      intro a len cap w h0 h1
      simp only [Instr.indexAt, asIntOf, Sem.run_bind, Sem.run_pure, Result.andThen_ok, run_underlying hel]
      rw [if_pos ⟨h0, h1⟩]
      simp only [Sem.run_bind, run_sizeOf hei, Result.andThen_ok, Sem.run_pure]
    match x, h with
    | .root l, h =>
      obtain ⟨B, hB, h⟩ := getK_spec h
      match B, hB, h with
      | .list sz' items ty, hB, h =>
        obtain ⟨hsz, h⟩ := bif_elim h
        obtain ⟨h0, h1, h⟩ := idxK_spec h
        refine ⟨_, h, fun e own w hs hx => ⟨hx, fun w => ?_⟩⟩
        obtain ⟨cap, hv⟩ := list_slice (hs.bl l _ hB).1 (by omega)
        simp only [LV.den, hv, fin _ _ _ _ h0 h1, addr_add, Nat.zero_add, Nat.add_zero]
      | .rows sz' items ty, hB, h =>
        obtain ⟨hsz, h⟩ := bif_elim h
        have h := countK_spec h
        rw [Nat.zero_add] at h
        obtain ⟨h0, h1, h⟩ := idxK_spec h
        refine ⟨_, h, fun e own w hs hx => ⟨hx, fun w => ?_⟩⟩
        obtain ⟨cap, hv⟩ := list_slice (LB.rows_sat.1 (hs.bl l _ hB).1) (by rw [List.length_map]; omega)
        rw [List.length_map] at hv
        simp only [LV.den, hv, fin _ _ _ _ h0 h1, addr_add, Nat.zero_add, Nat.add_zero]
    | .sl l o len cap, h =>
      obtain ⟨h0, h1, h⟩ := idxK_spec h
      exact ⟨_, h, fun e own w _ hx => ⟨hx, fun w => by simp only [LV.den, fin _ _ _ _ h0 h1, addr_add]⟩⟩
    | .v (.slice (some a) len cap), h =>
      obtain ⟨h0, h1, h⟩ := idxK_spec h
      exact ⟨_, h, fun e own w _ hx => ⟨hx, fun w => by simp only [LV.den, fin _ _ _ _ h0 h1]⟩⟩
  · exact h.elim

def byteAt (s : ByteArray) (n : Int) : Int := ((s.data.toList.getD n.toNat 0).toNat : Int)
def indexK (P : Program) (t : TypeId) (x i : LV) (K : LV → Prop) : Prop :=
  intLK (fun _ n => match P.underlying t with
    | some (.array len el) => sizeK P el fun sz => idxK n len (aggLK (fun cs => partK P el sz cs (n.toNat * sz) K) x)
    | some .string => (match x with
      | .v (.string s) => idxK n s.size (K (.v (.int .u8 (byteAt s n))))
      | _ => False)
    | _ => False) i
theorem indexK_spec {P : Program} {M : Mem} {H : List LB} {t : TypeId} {x i : LV} {K : LV → Prop} (h : indexK P t x i K) :
    ValOk P M H (x.sc H.length) (fun e => Instr.index t (x.den e) (i.den e)) K := by
  obtain ⟨k, n, g, rfl⟩ := intLK_spec h
  replace h := g
  clear g
  split at h
  · rename_i len el hel
    obtain ⟨ei, hei, h⟩ := sizeK_spec h
    obtain ⟨h0, h1, h⟩ := idxK_spec h
    obtain ⟨cs, h, hsc, hden⟩ := aggLK_spec h
    obtain ⟨y, hy, hall⟩ := partK_spec hei h
    refine ⟨y, hy, fun e own w _ hx => ?_⟩
    refine ⟨(hall e H.length w (hsc _ hx)).1, fun w => ?_⟩
    obtain ⟨h4, h5⟩ := hall e H.length w (hsc _ hx)
    simp only [Instr.index, LV.den, asIntOf, Sem.run_bind, Sem.run_pure, Result.andThen_ok, run_underlying hel, hden e]
    rw [if_pos ⟨h0, h1⟩]
    simp only [Sem.run_bind, run_sizeOf hei, Result.andThen_ok, h5]
  · rename_i hel
    match x, h with
    | .v (.string s), h =>
      obtain ⟨h0, h1, h⟩ := idxK_spec h
      refine ⟨_, h, fun e own w _ hx => ⟨hx, fun w => ?_⟩⟩
      simp only [Instr.index, LV.den, asIntOf, Sem.run_bind, Sem.run_pure, Result.andThen_ok, run_underlying hel]
      rw [if_pos h0]
      have hlt : n.toNat < s.size := by omega
      have h2 : s[n.toNat]? = some (s[n.toNat]'hlt) := by simp [hlt]
      rw [h2]
      have h3 : byteAt s n = ((s[n.toNat]'hlt).toNat : Int) := by
        unfold byteAt
        rw [List.getD_eq_getElem?_getD]
        have : s.data.toList[n.toNat]? = some (s[n.toNat]'hlt) := by
          have h4 : n.toNat < s.data.size := hlt
          rw [Array.getElem?_toList, Array.getElem?_eq_getElem h4]; rfl
        rw [this]; rfl
      simp only [Sem.run_pure, h3]
  · exact h.elim

def nilCheckK (x : LV) (K : LV → Prop) : Prop :=
  match x with
  | .ptr _ _ => K x
  | .at _ _ _ _ => K x
  | .v (.pointer (some _)) => K x
  | .iface _ _ => K x
  | .func (.func _) _ _ => K x
  | _ => False
theorem nilCheckK_spec {x : LV} {K : LV → Prop} (h : nilCheckK x K) : K x ∧ ∀ e, ∀ (P : Program) (w : World) (X : Operand) (ρ : Operand → Value) (o : Oper), o.op = .nilCheck X → ρ X = x.den e →
    (execOp ρ o).run P w = .ok (.value (x.den e)) w := by
  have fin : ∀ e, (∀ (P : Program) (w : World) (X : Operand) (ρ : Operand → Value) (o : Oper), o.op = .nilCheck X → ρ X = x.den e →
      (match x.den e with | .pointer none | .nilIface | .nilFunc => False | .func (.method _) _ _ => False | _ => True) → (execOp ρ o).run P w = .ok (.value (x.den e)) w) := by
    intro e P w X ρ o ho hX hk
    simp only [execOp, ho, hX]
    split at hk
    · exact hk.elim
    · exact hk.elim
    · exact hk.elim
    · exact hk.elim
    · split <;> simp_all
  match x, h with
  | .ptr l o, h => exact ⟨h, fun e P w X ρ o ho hX => fin e P w X ρ o ho hX (by simp [LV.den])⟩
  | .at l s j o, h => exact ⟨h, fun e P w X ρ o ho hX => fin e P w X ρ o ho hX (by simp [LV.den])⟩
  | .v (.pointer (some a)), h => exact ⟨h, fun e P w X ρ o ho hX => fin e P w X ρ o ho hX (by simp [LV.den])⟩
  | .iface t y, h => exact ⟨h, fun e P w X ρ o ho hX => fin e P w X ρ o ho hX (by simp [LV.den])⟩
  | .func (.func f) a c, h => exact ⟨h, fun e P w X ρ o ho hX => fin e P w X ρ o ho hX (by simp [LV.den])⟩

def convertK (P : Program) (src dst : TypeId) (x : LV) (K : LV → Prop) : Prop :=
  match P.underlying src, P.underlying dst, x with
  | some _, some (.int k), .v (.int _ n) => K (.v (.int k (k.wrap n)))
  | some .string, some .string, .v (.string s) => K (.v (.string s))
  | _, _, _ => False
theorem convertK_spec {P : Program} {M : Mem} {H : List LB} {src dst : TypeId} {x : LV} {K : LV → Prop} (h : convertK P src dst x K) :
    ValOk P M H True (fun e => convert src dst (x.den e)) K := by
  unfold convertK at h
  split at h
  · rename_i d k k' n hs hd
    exact ⟨_, h, fun e own w _ _ => ⟨trivial, fun w => by
      simp only [convert, Sem.run_bind, run_underlying hs, run_underlying hd, Result.andThen_ok, LV.den]; rfl⟩⟩
  · rename_i s hs hd
    exact ⟨_, h, fun e own w _ _ => ⟨trivial, fun w => by
      simp only [convert, Sem.run_bind, run_underlying hs, run_underlying hd, Result.andThen_ok, LV.den]; rfl⟩⟩
  · exact h.elim

def makeIfaceK (P : Program) (t : TypeId) (x : LV) (K : LV → Prop) : Prop :=
  match P.underlying t with
  | some (.interface _) => False
  | some _ => K (.iface t x)
  | none => False
theorem makeIfaceK_spec {P : Program} {M : Mem} {H : List LB} {t : TypeId} {x : LV} {K : LV → Prop} (h : makeIfaceK P t x K) :
    ValOk P M H (x.sc H.length) (fun e => Instr.makeInterface t (x.den e)) K := by
  unfold makeIfaceK at h
  split at h
  · exact h.elim
  · rename_i d hnot hd
    refine ⟨_, h, fun e own w _ hx => ⟨hx, fun w => ?_⟩⟩
    simp only [Instr.makeInterface, Sem.run_bind, run_underlying hd, Result.andThen_ok, LV.den]
    rfl
  · exact h.elim

/-! ### Lengths -/
def lenK (P : Program) (t : TypeId) (x : LV) (H : List LB) (K : LV → Prop) : Prop :=
  match P.underlying t with
  | some (.slice _) => (match x with
    | .root l => getK (fun B => match B with
      | .list _ items _ => K (.v (.int .i64 (items.length : Int)))
      | .rows _ items _ => countK items 0 (fun c => K (.v (.int .i64 (c : Int))))
      | _ => False) H l
    | .sl _ _ len _ => K (.v (.int .i64 (len : Int)))
    | .v (.slice _ len _) => K (.v (.int .i64 (len : Int)))
    | _ => False)
  | some .string => (match x with
    | .v (.string s) => K (.v (.int .i64 (s.size : Int)))
    | _ => False)
  | some (.array n _) => K (.v (.int .i64 (n : Int)))
  | _ => False
theorem lenK_spec {P : Program} {M : Mem} {H : List LB} {t ty : TypeId} {x : LV} {K : LV → Prop} (h : lenK P t x H K) :
    ValOk P M H True (fun e => Builtin.len_ #[t] ty #[x.den e]) K := by
  unfold lenK at h
  split at h
  · rename_i el hel
    have fin : ∀ (a : Option Addr) (n c : Nat) (w : World), (Builtin.len_ #[t] ty #[.slice a n c]).run P w = .ok (.int .i64 (n : Int)) w := by
      intro a n c w
      simp [Builtin.len_, run_underlying hel, goInt]
    match x, h with
    | .root l, h =>
      obtain ⟨B, hB, h⟩ := getK_spec h
      match B, hB, h with
      | .list sz items ty', hB, h =>
        refine ⟨_, h, fun e own w hs _ => ⟨trivial, fun w => ?_⟩⟩
        obtain ⟨a, cap, hv⟩ := list_len (hs.bl l _ hB).1
        simp only [LV.den, hv, fin]
      | .rows sz items ty', hB, h =>
        have h := countK_spec h
        rw [Nat.zero_add] at h
        refine ⟨_, h, fun e own w hs _ => ⟨trivial, fun w => ?_⟩⟩
        obtain ⟨a, cap, hv⟩ := list_len (LB.rows_sat.1 (hs.bl l _ hB).1)
        rw [List.length_map] at hv
        simp only [LV.den, hv, fin]
    | .sl l o len cap, h => exact ⟨_, h, fun e own w _ _ => ⟨trivial, fun w => by simp only [LV.den, fin]⟩⟩
    | .v (.slice a len cap), h => exact ⟨_, h, fun e own w _ _ => ⟨trivial, fun w => by simp only [LV.den, fin]⟩⟩
  · rename_i hel
    match x, h with
    | .v (.string s), h => exact ⟨_, h, fun e own w _ _ => ⟨trivial, fun w => by simp [LV.den, Builtin.len_, run_underlying hel, goInt]⟩⟩
  · rename_i n el hel
    exact ⟨_, h, fun e own w _ _ => ⟨trivial, fun w => by simp [LV.den, Builtin.len_, run_underlying hel, goInt]⟩⟩
  · exact h.elim

def minK (mx : Bool) (k : IntKind) (K : LV → Prop) : Int → List LV → Prop
  | a, [] => K (.v (.int k a))
  | a, y :: r => intLK (fun _ b => minK mx k K (bif mx then max a b else min a b) r) y
theorem min_run {P : Program} {k : IntKind} {K : LV → Prop} : ∀ (r : List LV) (a : Int), minK false k K a r →
    ∃ c, K (.v (.int k c)) ∧ ∀ (e : Env) (w : World), ((denL e r).foldlM Builtin.min2 (.int k a)).run P w = .ok (.int k c) w
  | [], a, h => ⟨a, h, fun _ _ => rfl⟩
  | y :: r, a, h => by
    obtain ⟨k2, b, g, rfl⟩ := intLK_spec h
    obtain ⟨c, h1, h2⟩ := min_run r _ g
    refine ⟨c, h1, fun e w => ?_⟩
    simp only [denL, LV.den, List.foldlM_cons, Sem.run_bind, Builtin.min2, Sem.run_pure, Result.andThen_ok]
    have : (if b < a then b else a) = min a b := by rw [Int.min_def]; split <;> split <;> omega
    rw [this]; exact h2 e w
theorem max_run {P : Program} {k : IntKind} {K : LV → Prop} : ∀ (r : List LV) (a : Int), minK true k K a r →
    ∃ c, K (.v (.int k c)) ∧ ∀ (e : Env) (w : World), ((denL e r).foldlM Builtin.max2 (.int k a)).run P w = .ok (.int k c) w
  | [], a, h => ⟨a, h, fun _ _ => rfl⟩
  | y :: r, a, h => by
    obtain ⟨k2, b, g, rfl⟩ := intLK_spec h
    obtain ⟨c, h1, h2⟩ := max_run r _ g
    refine ⟨c, h1, fun e w => ?_⟩
    simp only [denL, LV.den, List.foldlM_cons, Sem.run_bind, Builtin.max2, Sem.run_pure, Result.andThen_ok]
    have : (if b > a then b else a) = max a b := by rw [Int.max_def]; split <;> split <;> omega
    rw [this]; exact h2 e w
end Go.Lx
