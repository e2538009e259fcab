/-
  The symbolic executor Lx, part 7t: copies and appends from any part to any part; lengths and indexes of parts.
-/
import Derived.Test.YtnehadffbelhnaaGreatDoorLx7s
namespace Go.Lx
open Go.RowKit

def pushVK (K : List LV → Prop) : List Value → List LV → Prop
  | [], t => K t
  | v :: r, t => pushVK (fun t' => K (.v v :: t')) r t
theorem pushVK_spec : ∀ {r : List Value} {t : List LV} {K : List LV → Prop}, pushVK K r t → K (r.map .v ++ t)
  | [], _, _, h => h
  | _ :: r, _, _, h => pushVK_spec (r := r) h
def flatVK : List (List Value) → (List LV → Prop) → Prop
  | [], K => K []
  | r :: rs, K => flatVK rs fun t => pushVK K r t
theorem flatVK_spec : ∀ {rs : List (List Value)} {K : List LV → Prop}, flatVK rs K → K (rs.flatten.map .v)
  | [], _, h => h
  | r :: rs, K, h => by
    have h2 := pushVK_spec (flatVK_spec (rs := rs) h)
    rw [List.flatten_cons, List.map_append]; exact h2
def flatLK : List (List LV) → (List LV → Prop) → Prop
  | [], K => K []
  | r :: rs, K => flatLK rs fun t => appK K r t
theorem flatLK_spec : ∀ {rs : List (List LV)} {K : List LV → Prop}, flatLK rs K → K rs.flatten
  | [], _, h => h
  | r :: rs, K, h => by
    have h2 := appK_spec (flatLK_spec (rs := rs) h)
    rw [List.flatten_cons]; exact h2

/-- The items of a part of a row: how many, and their cells. -/
def srcCK (M : Mem) (H : List LB) (size : Nat) (x : LV) (K : Nat → List LV → Prop) : Prop :=
  match x with
  | .root l => getK (fun B => match B with
    | .list sz items _ => bif Nat.beq sz size then countK items 0 fun n => flatVK items fun cs => onesK (K n cs) cs else False
    | .rows sz items _ => bif Nat.beq sz size then countK items 0 fun n => flatLK items fun cs => onesK (K n cs) cs else False
    | _ => False) H l
  | .sub l sz _ i len _ => bif Nat.beq sz size then getK (fun B => match B with
    | .list sz' items _ => bif Nat.beq sz' size then dropK (fun r => takeK (fun part => flatVK part fun cs => onesK (K len cs) cs) r len) items i else False
    | .rows sz' items _ => bif Nat.beq sz' size then dropK (fun r => takeK (fun part => flatLK part fun cs => onesK (K len cs) cs) r len) items i else False
    | _ => False) H l else False
  | .sl l off len _ => getK (fun B => match B with
    | .cells cs _ => dropK (fun r => takeK (fun r => onesK (K len r) r) r (len * size)) cs off
    | _ => False) H l
  | .v (.slice none 0 _) => K 0 []
  | .v (.slice (some a) n _) => M.rd a (n * size) fun cs => onesK (K n cs) cs
  | _ => False

structure SrcC (w : World) (e : Env) (x : LV) (size n : Nat) (cs : List LV) : Prop where
  out : ∃ ao cap, x.den e = .slice ao n cap ∧ cs.length = n * size ∧ (0 < n → ∃ a, ao = some a ∧ ∀ j u, (denL e cs)[j]? = some u → w.cell? (a.add j) = some u) ∧
    ∀ u ∈ denL e cs, u.oneCell' = true

theorem part_flatten {β : Type} {items : List (List β)} {sz i len : Nat} (hl : ∀ x ∈ items, x.length = sz) {j : Nat} {u : β} (hi : i ≤ items.length)
    (h : (((items.drop i).take len).flatten)[j]? = some u) : items.flatten[i * sz + j]? = some u := by
  have h1 : items.flatten = (items.take i).flatten ++ ((items.drop i).take len).flatten ++ ((items.drop i).drop len).flatten := by
    rw [List.append_assoc, ← List.flatten_append, ← List.flatten_append, List.take_append_drop, List.take_append_drop]
  have h2 : (items.take i).flatten.length = i * sz := by
    have hlen : ∀ (l : List (List β)), (∀ x ∈ l, x.length = sz) → l.flatten.length = l.length * sz := by
      intro l
      induction l with
      | nil => simp
      | cons x xs ih =>
        intro h
        rw [List.flatten_cons, List.length_append, h x (.head _), ih fun y hy => h y (.tail _ hy), List.length_cons, Nat.succ_mul]; omega
    rw [hlen _ fun x hx => hl x (List.mem_of_mem_take hx), List.length_take, Nat.min_eq_left hi]
  rw [h1, List.append_assoc, List.getElem?_append_right (by omega), h2]
  have hj := (List.getElem?_eq_some_iff.1 h).1
  rw [List.getElem?_append_left (by omega)]
  rw [← h]; congr 1; omega

/-- A part of a row: where it lies. -/
theorem part_cells {e : Env} {l : Nat} {own : Nat → Prop} {w : World} {sz : Nat} {items : List (List Value)} {ty : TypeId} (h : (LB.list sz items ty).sat e l own w)
    {i len : Nat} (hi : i + len ≤ items.length) (h0 : 0 < len) :
    ∃ c, e.s l = .slice (some ⟨e.b l, 0, none⟩) items.length c ∧ items.length ≤ c ∧ ∀ j u, (((items.drop i).take len).flatten)[j]? = some u → w.cell? ((⟨e.b l, i * sz, none⟩ : Addr).add j) = some u := by
  obtain ⟨c, hv⟩ := list_slice h (by omega)
  obtain ⟨h1, h2, h3, h4⟩ := h
  refine ⟨c, hv, ?_, fun j u hu => ?_⟩
  · rcases h4.2 with ⟨hn, _⟩ | ⟨g, cap, cur, hv2, _, _, hn, _⟩
    · rw [hv] at hn; cases hn
    · rw [hv] at hv2; cases hv2; exact hn
  · have := h4.cells (h2 (by rw [hv]; simp [Value.ownBlock])) (i * sz + j) u (part_flatten h3 (by omega) hu)
    rw [addr_add] at this ⊢
    rw [← this]; congr 2; omega

theorem map_take_drop (e : Env) (items : List (List LV)) (i len : Nat) : ((items.map (denL e)).drop i).take len = ((items.drop i).take len).map (denL e) := by
  rw [← List.map_drop, ← List.map_take]
theorem denL_flatten (e : Env) : ∀ rows : List (List LV), denL e rows.flatten = (rows.map (denL e)).flatten
  | [] => rfl
  | r :: rs => by rw [List.flatten_cons, denL_append, denL_flatten e rs]; rfl
theorem scL_flatten {n : Nat} {rows : List (List LV)} (h : ∀ it ∈ rows, scL n it) : scL n rows.flatten := by
  rw [scL_iff]; intro x hx
  obtain ⟨r, hr, hx⟩ := List.mem_flatten.1 hx
  exact (scL_iff _ _).1 (h r hr) x hx
theorem list_den {e : Env} {l : Nat} {own : Nat → Prop} {w : World} {sz : Nat} {items : List (List Value)} {ty : TypeId}
    (h : (LB.list sz items ty).sat e l own w) : (e.s l = .slice none 0 0 ∧ items.length = 0) ∨ ∃ c, e.s l = .slice (some ⟨e.b l, 0, none⟩) items.length c ∧ items.length ≤ c := by
  obtain ⟨h1, h2, h3, h4⟩ := h
  rcases h4.2 with ⟨hv, hn⟩ | ⟨g, cap, cur, hv, _, _, hn, _⟩
  · exact .inl ⟨hv, hn⟩
  · have := h2 (by rw [hv]; simp [Value.ownBlock])
    rw [hv] at this
    simp [Value.ownBlock] at this
    exact .inr ⟨cap, by rw [hv, this], hn⟩

theorem srcCK_spec {M : Mem} {H : List LB} {size : Nat} {x : LV} {K : Nat → List LV → Prop} (h : srcCK M H size x K) :
    ∃ n cs, K n cs ∧ ∀ e own w, Sat M e own w H → scL H.length cs ∧ SrcC w e x size n cs := by
  unfold srcCK at h
  -- a part of a row
  have part : ∀ {l sz p i len : Nat} {lim : Option Nat} {e : Env} {own : Nat → Prop} {w : World} {items : List (List Value)} {ty : TypeId}, (LB.list sz items ty).sat e l own w → i + len ≤ items.length →
      ∃ ao cap, (LV.sub l sz p i len lim).den e = .slice ao len cap ∧ ((items.drop i).take len).flatten.length = len * sz ∧
        (0 < len → ∃ a, ao = some a ∧ ∀ j u, (((items.drop i).take len).flatten)[j]? = some u → w.cell? (a.add j) = some u) := by
    intro l sz p i len lim e own w items ty hsat hle
    have hfl : ((items.drop i).take len).flatten.length = len * sz := by
      rw [flatten_length (sz := sz) fun x hx => hsat.2.2.1 x (List.mem_of_mem_drop (List.mem_of_mem_take hx))]
      rw [List.length_take, List.length_drop, Nat.min_eq_left (by omega)]
    rcases Nat.eq_zero_or_pos len with h0 | h0
    · subst h0
      rcases list_den hsat with ⟨hv, _⟩ | ⟨c, hv, _⟩ <;> simp only [LV.den, hv, subVal] <;> exact ⟨_, _, rfl, hfl, fun h => absurd h (by omega)⟩
    · obtain ⟨c, hv, hc, hcells⟩ := part_cells hsat hle h0
      have hci : c ≠ i := by omega
      simp only [LV.den, hv, subVal, hci, if_false, Nat.zero_add]
      exact ⟨_, _, rfl, hfl, fun _ => ⟨_, rfl, hcells⟩⟩
  split at h
  · rename_i l
    obtain ⟨B, hB, h9⟩ := getK_spec h
    clear h
    split at h9
    · obtain ⟨hsz, h⟩ := bif_elim h9
      have hsz := Nat.eq_of_beq_eq_true hsz
      subst hsz
      have h := countK_spec h
      rw [Nat.zero_add] at h
      have h := flatVK_spec h
      obtain ⟨h, hones⟩ := onesK_spec h
      refine ⟨_, _, h, fun e own w hs => ⟨scL_v _ _, ?_⟩⟩
      have hsat := (hs.bl l _ hB).1
      have hon := hones e hs.one
      rw [denL_v] at hon
      rename_i items _ _ _ _
      rcases Nat.eq_zero_or_pos items.length with h0 | h0
      · obtain ⟨a, c, hv⟩ := list_len hsat
        exact ⟨a, c, by simp only [LV.den, hv], by rw [List.length_map, flatten_length hsat.2.2.1], fun h => absurd h (by omega), by rw [denL_v]; exact hon⟩
      · obtain ⟨c, hv⟩ := list_slice hsat h0
        refine ⟨some ⟨e.b l, 0, none⟩, c, by simp only [LV.den, hv], by rw [List.length_map, flatten_length hsat.2.2.1], fun _ => ⟨_, rfl, fun j u hu => ?_⟩, by rw [denL_v]; exact hon⟩
        rw [denL_v] at hu
        exact hsat.2.2.2.cells (g := e.b l) (by rw [hv]; rfl) j u hu
    · obtain ⟨hsz, h⟩ := bif_elim h9
      have hsz := Nat.eq_of_beq_eq_true hsz
      subst hsz
      have h := countK_spec h
      rw [Nat.zero_add] at h
      have h := flatLK_spec h
      obtain ⟨h, hones⟩ := onesK_spec h
      refine ⟨_, _, h, fun e own w hs => ⟨scL_flatten (hs.bl l _ hB).2, ?_⟩⟩
      have hsat := LB.rows_sat.1 (hs.bl l _ hB).1
      have hon := hones e hs.one
      rename_i items _ _ _ _
      have hfl := flatten_length hsat.2.2.1
      rw [← denL_flatten, denL_length, List.length_map] at hfl
      rcases Nat.eq_zero_or_pos items.length with h0 | h0
      · obtain ⟨a, c, hv⟩ := list_len hsat
        rw [List.length_map] at hv
        exact ⟨a, c, by simp only [LV.den, hv], hfl, fun h => absurd h (by omega), hon⟩
      · obtain ⟨c, hv⟩ := list_slice hsat (by rw [List.length_map]; exact h0)
        rw [List.length_map] at hv
        refine ⟨some ⟨e.b l, 0, none⟩, c, by simp only [LV.den, hv], hfl, fun _ => ⟨_, rfl, fun j u hu => ?_⟩, hon⟩
        rw [denL_flatten] at hu
        exact hsat.2.2.2.cells (g := e.b l) (by rw [hv]; rfl) j u hu
    · exact h9.elim
  · rename_i l sz p i len lim
    obtain ⟨hsz, h8⟩ := bif_elim h
    have hsz := Nat.eq_of_beq_eq_true hsz
    subst hsz
    obtain ⟨B, hB, h9⟩ := getK_spec h8
    clear h h8
    split at h9
    · obtain ⟨hsz, h⟩ := bif_elim h9
      have hsz := Nat.eq_of_beq_eq_true hsz
      subst hsz
      obtain ⟨hd, h⟩ := dropK_spec h
      obtain ⟨ht, h⟩ := takeK_spec h
      rw [List.length_drop] at ht
      have h := flatVK_spec h
      obtain ⟨h, hones⟩ := onesK_spec h
      refine ⟨_, _, h, fun e own w hs => ⟨scL_v _ _, ?_⟩⟩
      obtain ⟨ao, cap, h1, h2, h3⟩ := part (p := p) (lim := lim) (hs.bl l _ hB).1 (i := i) (len := len) (by omega)
      have hon := hones e hs.one
      refine ⟨ao, cap, h1, by rw [List.length_map]; exact h2, ?_, hon⟩
      rw [denL_v]; exact h3
    · obtain ⟨hsz, h⟩ := bif_elim h9
      have hsz := Nat.eq_of_beq_eq_true hsz
      subst hsz
      obtain ⟨hd, h⟩ := dropK_spec h
      obtain ⟨ht, h⟩ := takeK_spec h
      rw [List.length_drop] at ht
      have h := flatLK_spec h
      obtain ⟨h, hones⟩ := onesK_spec h
      refine ⟨_, _, h, fun e own w hs => ⟨scL_flatten fun it hit => (hs.bl l _ hB).2 it (List.mem_of_mem_drop (List.mem_of_mem_take hit)), ?_⟩⟩
      obtain ⟨ao, cap, h1, h2, h3⟩ := part (p := p) (lim := lim) (LB.rows_sat.1 (hs.bl l _ hB).1) (i := i) (len := len) (by rw [List.length_map]; omega)
      have hon := hones e hs.one
      rw [map_take_drop, ← denL_flatten] at h2 h3
      rw [denL_length] at h2
      exact ⟨ao, cap, h1, h2, h3, hon⟩
    · exact h9.elim
  · rename_i l off len cap
    obtain ⟨B, hB, h9⟩ := getK_spec h
    clear h
    split at h9
    · obtain ⟨hd, h⟩ := dropK_spec h9
      obtain ⟨ht, h⟩ := takeK_spec h
      obtain ⟨h, hones⟩ := onesK_spec h
      refine ⟨_, _, h, fun e own w hs => ⟨scL_take (scL_drop (hs.bl l _ hB).2), ?_⟩⟩
      obtain ⟨_, hb⟩ := (hs.bl l _ hB).1
      refine ⟨_, _, rfl, by rw [List.length_take]; omega, fun _ => ⟨_, rfl, fun j u hu => ?_⟩, hones e hs.one⟩
      rw [addr_add, cell_of_row w _ _ _ _ _ hb]
      rw [denL_take, denL_drop, List.getElem?_take] at hu
      split at hu
      · rw [List.getElem?_drop] at hu; simpa using hu
      · cases hu
    · exact h9.elim
  · exact ⟨_, _, h, fun e own w hs => ⟨trivial, ⟨_, _, rfl, by simp, fun h => absurd h (by omega), by simp [denL]⟩⟩⟩
  · rename_i a n c
    obtain ⟨us, hn, hM, h⟩ := (M.rdOk h).out
    obtain ⟨h, hones⟩ := onesK_spec h
    refine ⟨_, _, h, fun e own w hs => ⟨scL_v _ _, ⟨_, _, rfl, by rw [List.length_map]; exact hn, fun _ => ⟨_, rfl, fun j u hu => ?_⟩, hones e hs.one⟩⟩⟩
    rw [denL_v] at hu
    exact (hs.ro _ _ (hM j u hu)).1
  · exact h.elim

/-! ### Rows put together -/
def allRawR : List (List LV) → Bool
  | [] => true
  | r :: rs => bif allRaw r then allRawR rs else false
def rawRK : List (List LV) → (List (List Value) → Prop) → Prop
  | [], K => K []
  | r :: rs, K => rawLK (fun v => rawRK rs fun vs => K (v :: vs)) r
theorem rawRK_spec : ∀ {rs : List (List LV)} {K : List (List Value) → Prop}, rawRK rs K → ∃ vs, K vs ∧ rs = vs.map (·.map .v)
  | [], _, h => ⟨[], h, rfl⟩
  | r :: rs, K, h => by
    obtain ⟨v, h1, rfl⟩ := rawLK_spec (show rawLK (fun v => rawRK rs fun vs => K (v :: vs)) r from h)
    obtain ⟨vs, h2, rfl⟩ := rawRK_spec (rs := rs) h1
    exact ⟨_, h2, rfl⟩
def liftRK : List (List Value) → (List (List LV) → Prop) → Prop
  | [], K => K []
  | r :: rs, K => pushVK (fun x => liftRK rs fun xs => K (x :: xs)) r []
theorem liftRK_spec : ∀ {rs : List (List Value)} {K : List (List LV) → Prop}, liftRK rs K → K (rs.map (·.map .v))
  | [], _, h => h
  | r :: rs, K, h => by
    have h := liftRK_spec (rs := rs) (pushVK_spec h)
    rw [List.append_nil] at h; exact h

/-- The block is the row of these items. -/
structure RowB (B : LB) (sz : Nat) (ty : TypeId) (rows : Env → List (List Value)) (ok : Nat → Prop) : Prop where
  sat : ∀ {e : Env} {l : Nat} {o : Nat → Prop} {w : World}, (LB.list sz (rows e) ty).sat e l o w → B.sat e l o w
  sc : ∀ {n : Nat}, ok n → B.sc n

/-- Rows a, new and b of a row, put together. -/
def joinK (M : Mem) (sz : Nat) (ty : TypeId) (a : List (List Value)) (new : List (List LV)) (b : List (List Value)) (K : LB → Prop) : Prop :=
  bif allRawR new then rawRK new fun new' => M.app new' b fun x => M.app a x fun all => K (.list sz all ty)
  else liftRK a fun a' => liftRK b fun b' => appK (fun x => appK (fun all => K (.rows sz all ty)) a' x) new b'
def joinRK (sz : Nat) (ty : TypeId) (a : List (List LV)) (new : List (List LV)) (b : List (List LV)) (K : LB → Prop) : Prop :=
  appK (fun x => appK (fun all => K (.rows sz all ty)) a x) new b
theorem map_denL_v (e : Env) (a : List (List Value)) : (a.map (·.map LV.v)).map (denL e) = a := by
  rw [List.map_map]
  conv => rhs; rw [← List.map_id a]
  exact List.map_congr_left fun x _ => denL_v e x
theorem joinK_spec {M : Mem} {sz : Nat} {ty : TypeId} {a b : List (List Value)} {new : List (List LV)} {K : LB → Prop} (h : joinK M sz ty a new b K) :
    ∃ B, K B ∧ RowB B sz ty (fun e => a ++ (new.map (denL e) ++ b)) (fun n => ∀ it ∈ new, scL n it) := by
  unfold joinK at h
  cases hr : allRawR new
  · rw [hr] at h
    refine ⟨_, appK_spec (appK_spec (liftRK_spec (liftRK_spec h))), ?_, fun {n} hn => ?_⟩
    · intro e l o w hsat
      rw [LB.rows_sat, List.map_append, List.map_append, map_denL_v, map_denL_v]
      exact hsat
    · intro it hit
      rcases List.mem_append.1 hit with hit | hit
      · obtain ⟨v, _, rfl⟩ := List.mem_map.1 hit; exact scL_v _ _
      · rcases List.mem_append.1 hit with hit | hit
        · exact hn it hit
        · obtain ⟨v, _, rfl⟩ := List.mem_map.1 hit; exact scL_v _ _
  · rw [hr] at h
    obtain ⟨vs, h9, rfl⟩ := rawRK_spec (show rawRK new _ from h)
    clear h
    refine ⟨_, M.appOk (M.appOk h9), ?_, fun {n} _ => trivial⟩
    intro e l o w hsat
    rw [map_denL_v] at hsat
    exact hsat
theorem joinRK_spec {sz : Nat} {ty : TypeId} {a b : List (List LV)} {new : List (List LV)} {K : LB → Prop} (h : joinRK sz ty a new b K) :
    ∃ B, K B ∧ RowB B sz ty (fun e => a.map (denL e) ++ (new.map (denL e) ++ b.map (denL e))) (fun n => (∀ it ∈ new, scL n it) ∧ (∀ it ∈ a, scL n it) ∧ ∀ it ∈ b, scL n it) := by
  refine ⟨_, appK_spec (appK_spec h), ?_, fun {n} hn => ?_⟩
  · intro e l o w hsat
    rw [LB.rows_sat, List.map_append, List.map_append]
    exact hsat
  · intro it hit
    rcases List.mem_append.1 hit with hit | hit
    · exact hn.2.1 it hit
    · rcases List.mem_append.1 hit with hit | hit
      · exact hn.1 it hit
      · exact hn.2.2 it hit
/-! ### Appends -/
section
variable {P : Program} {M : Mem} {H : List LB} {t ty0 el : TypeId} {i : TypeInfo} {z : Value}

theorem run_append_zero (hel : P.underlying t = some (.slice el)) (hi : P.info? el = some i) (base ao : Option Addr) (n c cx : Nat) (hc : n ≤ c) (w : World) :
    (Builtin.append_ #[t, t] ty0 #[.slice base n c, .slice ao 0 cx]).run P w = .ok (.slice base n c) w := by
  cases ao <;> cases base <;> simp [Builtin.append_, run_underlying hel, sizeOf, typeInfo, hi, Builtin.lenOf, Builtin.firstCells, loadCells, loadCellsFrom, hc, storeCells]

/-- What an append appends. -/
structure News (w : World) (e : Env) (x : LV) (size : Nat) (new : List (List Value)) : Prop where
  out : ∃ (a : Addr) (cap : Nat), x.den e = .slice (some a) new.length cap ∧ (∀ it ∈ new, it.length = size) ∧ 0 < new.length ∧
    (∀ j u, new.flatten[j]? = some u → w.cell? (a.add j) = some u) ∧ ∀ u ∈ new.flatten, u.oneCell' = true

/-- To a row of one's own. -/
theorem append_to (hel : P.underlying t = some (.slice el)) (hi : P.info? el = some i) (hzi : i.zero = some z) (hzs : z.cells.size = i.size) (hpos : 0 < i.size)
    {ls : Nat} {x : LV} {items new : List (List Value)} {e : Env} {own : Nat → Nat → Prop} {w : World} {C B : LB} {rows : Env → List (List Value)} {ok : Nat → Prop} (v : Value) (hs : Sat M e own w H) (_hC : H[ls]? = some C)
    (hrow : ∀ k, v.ownBlock = some k → own ls k) (hv : w.ownsRow 0 el i.size v items.length items.flatten) (hitems : ∀ it ∈ items, it.length = i.size)
    (hsrc : News w e x i.size new) (h1 : (items.length + new.length) * i.bytes ≤ 140737488355328) (h2 : items.length + new.length ≤ 9223372036854775807)
    (hB : RowB B i.size el rows ok) (hr : ∀ e', Agree e e' H.length → rows e' = items ++ new) (hok : ok (H.length + 1)) :
    ∃ e' own' w', Agree e e' H.length ∧ Sat M e' own' w' (H.set ls .gone ++ [B]) ∧ Ext own w own' w' ∧
      (Builtin.append_ #[t, t] ty0 #[v, x.den e]).run P w = .ok ((LV.root H.length).den e') w' := by
  obtain ⟨sa, cap, hx, hlen, hnz, k2, k3⟩ := hsrc.out
  obtain ⟨v', w', g1, g2, g3, _, g5⟩ := run_append_own_at (P := P) (w := w) 0 t ty0 _ i z i.size i.bytes hel hi hzi rfl rfl hzs hpos v items.length items.flatten hv
    sa new.length cap new.flatten (flatten_length hlen) k2 k3 (by unfold maxLen; omega) h1 (Nat.zero_le _)
  have d1 := Sat.drop ls hs
  have d2 : Sat M e (ownDrop own ls) w' (H.set ls .gone) := d1.move g3.size (fun k hk ⟨j, hj⟩ => g3.block k hk (fun he => hj.1 (hs.dj _ _ k hj.2 (hrow k he.symm))))
    (fun a u hu => g3.block _ (World.block_lt_of_cell? w a (hs.ro a u hu).1) (fun he => (hs.ro a u hu).2 ls (hrow _ he.symm)))
  have hnew : ∀ k, v'.ownBlock = some k → own ls k ∨ k = w.heap.size := fun k hk => by
    rcases g5 with g5 | g5
    · exact .inl (hrow k (g5 ▸ hk))
    · rw [g5] at hk; exact .inr (by simpa using hk.symm)
  have hv1 : v'.oneCell' = true := by
    rcases g2.2 with ⟨rfl, _⟩ | ⟨_, _, _, rfl, _⟩ <;> rfl
  have d3 := d2.push' (B := B) (b := v'.ownBlock.getD 0) (s := v') (o := fun k => v'.ownBlock = some k)
    (fun k hk => (g2.lt k hk).2) (fun j k hj hk => by
      rcases hnew k hk with h5 | h5
      · exact hj.1 (hs.dj _ _ k hj.2 h5)
      · have := hs.lt _ _ hj.2; omega)
    (fun a u hu hk => by
      rcases hnew _ hk with h5 | h5
      · exact (hs.ro a u hu).2 ls h5
      · have := World.block_lt_of_cell? w a (hs.ro a u hu).1; omega)
    (by
      rw [List.length_set]
      refine hB.sat ?_
      rw [hr _ (e.push_agree _ _ _)]
      simp only [LB.sat, Env.push, if_true]
      refine ⟨by simp, fun hne => ?_, fun y hy => ?_, ?_⟩
      · cases hvb : v'.ownBlock with
        | none => exact absurd hvb hne
        | some k => rfl
      · rcases List.mem_append.1 hy with hy | hy
        · exact hitems y hy
        · exact hlen y hy
      · rw [List.length_append, List.flatten_append]; exact g2)
    (by rw [List.length_set]; exact hB.sc hok) hv1
  rw [List.length_set] at d3
  refine ⟨_, _, w', e.push_agree _ _ _, d3, ⟨g3.os, g3.tape, g3.output, g3.size, fun k hk hn => g3.block k hk (fun he => hn ls (hrow k he.symm)), fun j k hj hk => ?_⟩, ?_⟩
  · simp only [ownPush] at hj
    split at hj
    · rcases hnew k hj with h5 | h5
      · exact ⟨ls, h5⟩
      · omega
    · exact ⟨j, hj.2⟩
  · simp only [LV.den, hx]
    rw [g1]; simp [Env.push]

theorem grown_row (w : World) {m k old : Nat} {xs news : List Value} (hzs : z.cells.size = i.size) (hx : xs.length = m * i.size) (hl : news.length = k * i.size) (h63 : m + k ≤ maxLen) :
    (w.drew.alloc (.cells (xs.toArray ++ news.toArray ++ Builtin.zeroCells z.cells (grownCap w (m + k) old el - (m + k))) el)).ownsRow 0 el i.size
        (.slice (some ⟨w.heap.size, 0, none⟩) (m + k) (grownCap w (m + k) old el)) (m + k) (xs ++ news) := by
  have hge := grownCap_ge w (m + k) old el
  have hcm : grownCap w (m + k) old el ≤ maxLen := grownCap_le_maxLen w (m + k) old el h63
  have hlen : (xs ++ news).length = (m + k) * i.size := by rw [List.length_append, hx, hl, Nat.add_mul]
  refine ⟨hlen, .inr ⟨w.heap.size, _, _, rfl, Nat.zero_le _, heap_alloc_new w.drew _, hge, hcm, ?_, ?_⟩⟩
  · simp only [Array.size_append, List.size_toArray, size_zeroCells, hzs, hx, hl, ← Nat.add_mul]
    congr 1
    omega
  · simp only [Array.toList_append, List.append_assoc]
    rw [← List.append_assoc, ← hlen]
    exact List.take_left

/-- To a full row, or to none: a new row. -/
theorem append_new (hel : P.underlying t = some (.slice el)) (hi : P.info? el = some i) (hzi : i.zero = some z) (hzs : z.cells.size = i.size)
    {x : LV} {part new : List (List Value)} {e : Env} {own : Nat → Nat → Prop} {w : World} {B : LB} {rows : Env → List (List Value)} {ok : Nat → Prop} (v : Value) (hs : Sat M e own w H)
    (hpart : ∀ it ∈ part, it.length = i.size)
    (hv : (v = .slice none 0 0 ∧ part = []) ∨ ∃ b, v = .slice (some b) part.length part.length ∧ ∀ j u, part.flatten[j]? = some u → w.cell? (b.add j) = some u)
    (hsrc : News w e x i.size new) (h1 : (part.length + new.length) * i.bytes ≤ 140737488355328) (h2 : part.length + new.length ≤ 9223372036854775807)
    (hB : RowB B i.size el rows ok) (hr : ∀ e', Agree e e' H.length → rows e' = part ++ new) (hok : ok (H.length + 1)) :
    ∃ e' own' w', Agree e e' H.length ∧ Sat M e' own' w' (H ++ [B]) ∧ Ext own w own' w' ∧
      (Builtin.append_ #[t, t] ty0 #[v, x.den e]).run P w = .ok ((LV.root H.length).den e') w' := by
  obtain ⟨sa, cap, hx, hlen, hnz, k2, k3⟩ := hsrc.out
  have run : ∃ cp cs, (Builtin.append_ #[t, t] ty0 #[v, x.den e]).run P w = .ok (.slice (some ⟨w.heap.size, 0, none⟩) (part.length + new.length) cp) (w.drew.alloc (.cells cs el)) ∧
      (w.drew.alloc (.cells cs el)).ownsRow 0 el i.size (.slice (some ⟨w.heap.size, 0, none⟩) (part.length + new.length) cp) (part.length + new.length) (part.flatten ++ new.flatten) := by
    rw [hx]
    rcases hv with ⟨rfl, rfl⟩ | ⟨b, rfl, hc⟩
    · have hr := run_append_nil (P := P) w t ty0 el i z hel hi hzi sa new.length cap new.flatten (flatten_length hlen) k2 hnz (by simpa using Int.ofNat_le.2 (show new.length ≤ 9223372036854775807 by simpa using h2)) (by simp at h1; omega)
      have hg := grown_row (i := i) (z := z) (el := el) w (m := 0) (k := new.length) (old := 0) (xs := []) hzs (by simp) (flatten_length hlen) (by unfold maxLen; simp at h2 ⊢; omega)
      simp only [Nat.zero_add, List.nil_append, Array.empty_append, List.length_nil, List.flatten_nil] at hg ⊢
      exact ⟨_, _, hr, hg⟩
    · have hr := run_append_grow (P := P) w t ty0 el i z hel hi hzi b part.length part.length part.flatten (flatten_length hpart) hc sa new.length cap new.flatten (flatten_length hlen) k2 (by omega)
        (by omega) (growslice_fits (by omega) h1)
      exact ⟨_, _, hr, grown_row (i := i) (z := z) (el := el) w hzs (flatten_length hpart) (flatten_length hlen) (by unfold maxLen; omega)⟩
  obtain ⟨cp, cs, hrun, ho⟩ := run
  have hb : Below w.heap.size w (w.drew.alloc (.cells cs el)) := ⟨rfl, rfl, rfl, by simp, fun k hk => heap_alloc_old w.drew _ (by simpa using hk)⟩
  have hn : ∀ k, (Value.slice (some ⟨w.heap.size, 0, none⟩) (part.length + new.length) cp).ownBlock = some k → w.heap.size ≤ k := fun k hk => by
    simp [Value.ownBlock] at hk; omega
  refine ⟨e.push H.length w.heap.size (.slice (some ⟨w.heap.size, 0, none⟩) (part.length + new.length) cp),
    ownPush own H.length (fun k => (Value.slice (some ⟨w.heap.size, 0, none⟩) (part.length + new.length) cp).ownBlock = some k), _, e.push_agree _ _ _, ?_, Ext.push hb hn, ?_⟩
  · refine hs.push hb.size (fun k hk => hb.block k hk) (fun k hk => ⟨hn k hk, (ho.lt k hk).2⟩) (hB.sat ?_) (hB.sc hok) rfl
    rw [hr _ (e.push_agree _ _ _)]
    simp only [LB.sat, Env.push, if_true]
    refine ⟨by simp, fun hne => ?_, fun y hy => ?_, ?_⟩
    · rfl
    · rcases List.mem_append.1 hy with hy | hy
      · exact hpart y hy
      · exact hlen y hy
    · rw [List.length_append, List.flatten_append]; exact ho
  · rw [hrun]; simp [LV.den, Env.push]
end
end Go.Lx
