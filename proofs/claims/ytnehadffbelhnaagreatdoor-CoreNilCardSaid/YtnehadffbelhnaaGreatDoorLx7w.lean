/-
  The symbolic executor Lx, part 7w: copies; lengths and indexes of parts.
-/
import Derived.Test.YtnehadffbelhnaaGreatDoorLx7u
namespace Go.Lx
open Go.RowKit

def lenNK (P : Program) (t : TypeId) (x : LV) (H : List LB) (K : LV → Prop) : Prop :=
  match x with
  | .sub _ _ _ _ len _ => (match P.underlying t with
    | some (.slice _) => K (.v (.int .i64 (len : Int)))
    | _ => False)
  | x => lenK P t x H K
theorem lenNK_spec {P : Program} {M : Mem} {H : List LB} {t ty : TypeId} {x : LV} {K : LV → Prop} (h : lenNK P t x H K) :
    ValOk P M H True (fun e => Builtin.len_ #[t] ty #[x.den e]) K := by
  unfold lenNK at h
  split at h
  · rename_i l sz p i len lim
    split at h
    · rename_i el hel
      refine ⟨_, h, fun e own w _ _ => ⟨trivial, fun w => ?_⟩⟩
      simp only [LV.den, subVal]
      split <;> simp [Builtin.len_, run_underlying hel, goInt]
    · exact h.elim
  · exact lenK_spec h

def indexAddrNK (P : Program) (t : TypeId) (x i : LV) (H : List LB) (K : LV → Prop) : Prop :=
  match x with
  | .sub l sz _ j len _ => intLK (fun _ n => match P.underlying t with
    | some (.slice el) => sizeK P el fun s => rowK H l fun sz' m => bif Nat.beq s sz && (Nat.beq sz' sz && Nat.ble (j + len) m) then idxK n len (K (.at l sz (j + n.toNat) 0)) else False
    | _ => False) i
  | x => indexAddrK P t x i H K
theorem indexAddrNK_spec {P : Program} {M : Mem} {H : List LB} {t : TypeId} {x i : LV} {K : LV → Prop} (h : indexAddrNK P t x i H K) :
    ValOk P M H (x.sc H.length) (fun e => Instr.indexAt t (x.den e) (i.den e)) K := by
  unfold indexAddrNK at h
  split at h
  · rename_i l sz p j len lim
    obtain ⟨k, n, g, rfl⟩ := intLK_spec h
    clear h
    split at g
    · rename_i el hel
      obtain ⟨ei, hei, h⟩ := sizeK_spec g
      obtain ⟨sz', m, h, hrow⟩ := rowK_spec h
      obtain ⟨hc, h⟩ := bif_elim h
      simp only [Bool.and_eq_true] at hc
      have h1 := Nat.eq_of_beq_eq_true hc.1
      have h2 := Nat.eq_of_beq_eq_true hc.2.1
      have h3 : j + len ≤ m := Nat.le_of_ble_eq_true hc.2.2
      subst h2 h1
      obtain ⟨h4, h5, h⟩ := idxK_spec h
      refine ⟨_, h, fun e own w hs hx => ⟨hx, fun w => ?_⟩⟩
      rcases hrow hs with ⟨hv, rfl⟩ | ⟨c, hv, hcm⟩
      · omega
      · have hcj : c ≠ j := by omega
        simp only [LV.den, hv, subVal, hcj, if_false, Instr.indexAt, asIntOf, Sem.run_bind, Sem.run_pure, Result.andThen_ok, run_underlying hel]
        rw [if_pos ⟨h4, h5⟩]
        simp only [Sem.run_bind, run_sizeOf hei, Result.andThen_ok, Sem.run_pure, addr_add]
        congr 4
        rw [Nat.add_mul]; omega
    · exact g.elim
  · exact indexAddrK_spec h

/-! ### Copies -/
def dstLenK (H : List LB) (x : LV) (K : Nat → Prop) : Prop :=
  match x with
  | .root l => rowK H l fun _ n => K n
  | .sl _ _ n _ => K n
  | .sub _ _ _ _ n _ => K n
  | .v (.slice _ n _) => K n
  | _ => False
theorem dstLenK_spec {H : List LB} {x : LV} {K : Nat → Prop} (h : dstLenK H x K) : ∃ n, K n ∧ ∀ {M : Mem} {e : Env} {own : Nat → Nat → Prop} {w : World}, Sat M e own w H →
    ∃ ao c, x.den e = .slice ao n c := by
  unfold dstLenK at h
  split at h
  · obtain ⟨sz, n, h, hrow⟩ := rowK_spec h
    refine ⟨n, h, fun hs => ?_⟩
    rcases hrow hs with ⟨hv, rfl⟩ | ⟨c, hv, _⟩
    · exact ⟨_, _, hv⟩
    · exact ⟨_, _, hv⟩
  · exact ⟨_, h, fun _ => ⟨_, _, rfl⟩⟩
  · refine ⟨_, h, fun _ => ?_⟩
    simp only [LV.den, subVal]
    split <;> exact ⟨_, _, rfl⟩
  · exact ⟨_, h, fun _ => ⟨_, _, rfl⟩⟩
  · exact h.elim

def dstRowK (M : Mem) (H : List LB) (l size i k : Nat) (cs : List LV) (K : List LB → Prop) : Prop :=
  getK (fun B => match B with
    | .list sz items ty => bif Nat.beq sz size then takeK (fun a => dropK (fun b => chunkK size k cs fun new => joinK M size ty a new b fun B => setK B K H l) items (i + k)) items i else False
    | .rows sz items ty => bif Nat.beq sz size then takeK (fun a => dropK (fun b => chunkK size k cs fun new => joinRK size ty a new b fun B => setK B K H l) items (i + k)) items i else False
    | _ => False) H l
def dstK (M : Mem) (H : List LB) (x : LV) (size k : Nat) (cs : List LV) (K : List LB → Prop) : Prop :=
  match x with
  | .sl l off _ _ => getK (fun B => match B with
    | .cells old ty => spliceK cs (fun new => setK (.cells new ty) K H l) old off
    | _ => False) H l
  | .root l => dstRowK M H l size 0 k cs K
  | .sub l sz _ i _ _ => bif Nat.beq sz size then dstRowK M H l size i k cs K else False
  | _ => False
def minNK (m n : Nat) (K : Nat → Prop) : Prop := bif Nat.ble m n then K m else K n
theorem minNK_spec {m n : Nat} {K : Nat → Prop} (h : minNK m n K) : K (Nat.min m n) := by
  unfold minNK at h
  have : Nat.min m n = min m n := rfl
  rw [this]
  cases hb : Nat.ble m n
  · rw [hb] at h
    have : ¬ m ≤ n := fun hle => by rw [Nat.ble_eq_true_of_le hle] at hb; cases hb
    rw [Nat.min_eq_right (by omega)]; exact h
  · rw [hb] at h
    rw [Nat.min_eq_left (Nat.le_of_ble_eq_true hb)]; exact h
def copyNK (P : Program) (M : Mem) (t : TypeId) (x y : LV) (H : List LB) (K : LV → List LB → Prop) : Prop :=
  match P.underlying t with
  | some (.slice el) => sizeK P el fun sz => srcCK M H sz y fun n cs => dstLenK H x fun m => minNK n m fun k => (match k with
    | 0 => K (.v (.int .i64 0)) H
    | k + 1 => takeK (fun cs' => dstK M H x sz (k + 1) cs' fun H' => K (.v (.int .i64 ((k + 1 : Nat) : Int))) H') cs ((k + 1) * sz))
  | _ => False

section
variable {P : Program} {M : Mem} {H : List LB} {t t2 ty0 el : TypeId} {i : TypeInfo}

theorem run_copy_gen (hu : P.underlying t = some (.slice el)) (hi : P.info? el = some i) (d ao : Option Addr) (dLen dCap sLen sCap : Nat) (cs : List Value) (w w' : World)
    (hf : (Builtin.firstCells i.size (Nat.min sLen dLen) (.slice ao sLen sCap)).run P w = .ok cs.toArray w)
    (hst : (match d with | some a => storeCells a cs | none => pure () : Sem Unit).run P w = .ok () w') :
    (Builtin.copy_ #[t, t2] ty0 #[.slice d dLen dCap, .slice ao sLen sCap]).run P w = .ok (goInt (Nat.min sLen dLen)) w' := by
  cases d with
  | none => 
    have : w' = w := by simp at hst; exact hst.symm
    subst this
    simp [Builtin.copy_, run_underlying hu, Builtin.lenOf, sizeOf, typeInfo, hi, hf]
  | some a =>
    simp only at hst
    simp [Builtin.copy_, run_underlying hu, Builtin.lenOf, sizeOf, typeInfo, hi, hf, hst]

theorem dstRow_spec {l size j k : Nat} {cs : List LV} {K : List LB → Prop} (h : dstRowK M H l size j (k + 1) cs K) :
    ∃ H', K H' ∧ H'.length = H.length ∧ ∀ e own w, Sat M e own w H → scL H.length cs → (∀ u ∈ denL e cs, u.oneCell' = true) → cs.length = (k + 1) * size →
      ∃ N c, e.s l = .slice (some ⟨e.b l, 0, none⟩) N c ∧ j + (k + 1) ≤ N ∧ N ≤ c ∧
      ∃ w', (storeCells ⟨e.b l, j * size, none⟩ (denL e cs)).run P w = .ok () w' ∧ Sat M e own w' H' ∧ Ext own w own w' := by
  obtain ⟨B, hB, h9⟩ := getK_spec h
  clear h
  -- what the store leaves
  have key : ∀ {e : Env} {own : Nat → Nat → Prop} {w : World} {items : List (List Value)} {ty : TypeId} {C : LB} {rows : Env → List (List Value)} {ok : Nat → Prop}, Sat M e own w H →
      (LB.list size items ty).sat e l (own l) w → j + (k + 1) ≤ items.length → (∀ u ∈ denL e cs, u.oneCell' = true) → cs.length = (k + 1) * size → RowB C size ty rows ok → ok H.length →
      rows e = items.take j ++ ((chunks size (k + 1) cs).map (denL e) ++ items.drop (j + (k + 1))) →
      ∃ N c, e.s l = .slice (some ⟨e.b l, 0, none⟩) N c ∧ j + (k + 1) ≤ N ∧ N ≤ c ∧
      ∃ w', (storeCells ⟨e.b l, j * size, none⟩ (denL e cs)).run P w = .ok () w' ∧ Sat M e own w' (H.set l C) ∧ Ext own w own w' := by
    intro e own w items ty C rows ok hs hsat hle hone hcl hC hok hrows
    obtain ⟨h1, h2, h3, h4⟩ := hsat
    rcases h4.2 with ⟨_, hn⟩ | ⟨g, cap, cur, hv, _, hg, hnc, hcap, hcur, htake⟩
    · omega
    have hgb := h2 (by rw [hv]; simp [Value.ownBlock])
    have hbo := hgb
    rw [hv] at hgb
    simp [Value.ownBlock] at hgb
    subst hgb
    have hdl : (denL e cs).length = (k + 1) * size := by rw [denL_length, hcl]
    have hfit : j * size + (denL e cs).length ≤ items.length * size := by
      rw [hdl, ← Nat.add_mul]; exact Nat.mul_le_mul_right _ hle
    have hcs : items.length * size ≤ cur.size := by rw [hcur]; exact Nat.mul_le_mul_right _ hnc
    have hrun := run_storeCells_at P (e.b l) (j * size) ty (denL e cs) 0 cur w hg (by omega) hone
    simp only [Nat.add_zero] at hrun
    have hblk : ∀ k', ¬ own l k' → (w.setRow (e.b l) (cur.toList.take (j * size) ++ denL e cs ++ cur.toList.drop (j * size + (denL e cs).length)).toArray).heap[k']? = w.heap[k']? := fun k' hk =>
      setRow_other w _ k' _ (fun he => by subst he; exact hk ((h1 _).2 hbo))
    refine ⟨items.length, cap, hv, hle, hnc, _, hrun, ?_, Ext.write (l := l) rfl rfl rfl (by simp [World.setRow]) (fun k' _ hk => hblk k' hk)⟩
    have hrl : (rows e).length = items.length := by
      rw [hrows, List.length_append, List.length_append, List.length_take, List.length_drop, List.length_map, (chunks_flatten size (k + 1) cs hcl).2.2]; omega
    have hch := chunks_flatten size (k + 1) (denL e cs) hdl
    have hrs : ∀ it ∈ rows e, it.length = size := fun it hit => by
      rw [hrows] at hit
      rcases List.mem_append.1 hit with hit | hit
      · exact h3 it (List.mem_of_mem_take hit)
      · rcases List.mem_append.1 hit with hit | hit
        · rw [chunks_map] at hit; exact hch.2.1 it hit
        · exact h3 it (List.mem_of_mem_drop hit)
    refine hs.set hB (by simp [World.setRow]) (fun k' _ hk => hblk k' hk) (hC.sat ⟨h1, fun _ => hbo, hrs, ?_, ?_⟩) (hC.sc hok)
    · rw [flatten_length hrs]
    · refine .inr ⟨e.b l, cap, _, by rw [hrl]; exact hv, Nat.zero_le _, setRow_heap w _ cur _ ty _ hg, by rw [hrl]; exact hnc, hcap, ?_, ?_⟩
      · simp only [List.size_toArray, List.length_append, List.length_take, List.length_drop, Array.length_toList]; omega
      · rw [hrl, List.toList_toArray, hrows, List.flatten_append, List.flatten_append, chunks_map, hch.1]
        have hfl : items.flatten = cur.toList.take (items.length * size) := htake.symm
        have hf1 : (items.take j).flatten = cur.toList.take (j * size) := by
          have a1 : items.flatten = (items.take j).flatten ++ (items.drop j).flatten := by rw [← List.flatten_append, List.take_append_drop]
          have a2 : (items.take j).flatten.length = j * size := by rw [flatten_length (sz := size) fun x hx => h3 x (List.mem_of_mem_take hx), List.length_take]; congr 1; omega
          have a3 : (items.take j).flatten = items.flatten.take (j * size) := by rw [a1, ← a2, List.take_left]
          rw [a3, hfl, List.take_take, Nat.min_eq_left (by omega)]
        have hf2 : (items.drop (j + (k + 1))).flatten = (cur.toList.take (items.length * size)).drop (j * size + (denL e cs).length) := by
          have a1 : items.flatten = (items.take (j + (k + 1))).flatten ++ (items.drop (j + (k + 1))).flatten := by rw [← List.flatten_append, List.take_append_drop]
          have a2 : (items.take (j + (k + 1))).flatten.length = j * size + (denL e cs).length := by
            rw [flatten_length (sz := size) fun x hx => h3 x (List.mem_of_mem_take hx), List.length_take, hdl, ← Nat.add_mul]; congr 1; omega
          have a3 : (items.drop (j + (k + 1))).flatten = items.flatten.drop (j * size + (denL e cs).length) := by rw [a1, ← a2, List.drop_left]
          rw [a3, hfl]
        rw [hf1, hf2]
        have hsz : cur.toList.length = cur.size := Array.length_toList
        rw [List.append_assoc]
        rw [List.take_append, List.length_take, hsz, Nat.min_eq_left (by omega), List.take_of_length_le (by rw [List.length_take]; omega)]
        congr 1
        rw [List.take_append, List.take_of_length_le (l := denL e cs) (by omega)]
        congr 1
        rw [List.drop_take]
        congr 1
        omega
  split at h9
  · rename_i sz items ty
    obtain ⟨hsz, h⟩ := bif_elim h9
    have hsz := Nat.eq_of_beq_eq_true hsz
    subst hsz
    obtain ⟨_, h⟩ := takeK_spec h
    obtain ⟨hd, h⟩ := dropK_spec h
    obtain ⟨C, h, hC⟩ := joinK_spec (chunkK_spec h)
    obtain ⟨_, h⟩ := setK_spec h
    refine ⟨_, h, by simp, fun e own w hs hsc hone hcl => key hs (hs.bl l _ hB).1 hd hone hcl hC (chunks_sc _ hsc) rfl⟩
  · rename_i sz items ty
    obtain ⟨hsz, h⟩ := bif_elim h9
    have hsz := Nat.eq_of_beq_eq_true hsz
    subst hsz
    obtain ⟨_, h⟩ := takeK_spec h
    obtain ⟨hd, h⟩ := dropK_spec h
    have h := chunkK_spec h
    obtain ⟨C, h, hC⟩ := joinRK_spec h
    obtain ⟨_, h⟩ := setK_spec h
    refine ⟨_, h, by simp, fun e own w hs hsc hone hcl => key hs (LB.rows_sat.1 (hs.bl l _ hB).1) (by rw [List.length_map]; exact hd) hone hcl hC
      ⟨chunks_sc _ hsc, fun it hit => (hs.bl l _ hB).2 it (List.mem_of_mem_take hit), fun it hit => (hs.bl l _ hB).2 it (List.mem_of_mem_drop hit)⟩ (by rw [List.map_take, List.map_drop])⟩
  · exact h9.elim

theorem splice_take_drop {β : Type} : ∀ (l new : List β) (n : Nat), n + new.length ≤ l.length → splice new l n = l.take n ++ new ++ l.drop (n + new.length) := by
  have ho : ∀ (l new : List β), new.length ≤ l.length → over l new = new ++ l.drop new.length := by
    intro l new
    induction new generalizing l with
    | nil => intro _; cases l <;> simp [over]
    | cons y ys ih =>
      intro h
      cases l with
      | nil => simp at h
      | cons x xs => simp [over]; exact ih xs (by simpa using h)
  intro l new n
  induction n generalizing l with
  | zero =>
    intro h
    have : splice new l 0 = over l new := by cases l <;> rfl
    rw [this, ho l new (by simpa using h)]; simp
  | succ n ih =>
    intro h
    cases l with
    | nil => simp at h
    | cons x xs =>
      simp only [splice, List.take_succ_cons, List.cons_append]
      rw [ih xs (by simp at h; omega)]
      congr 2
      rw [Nat.add_right_comm]; simp

theorem dstK_spec {x : LV} {size k : Nat} {cs : List LV} {K : List LB → Prop} (h : dstK M H x size (k + 1) cs K) :
    ∃ H', K H' ∧ H'.length = H.length ∧ ∀ e own w, Sat M e own w H → scL H.length cs → (∀ u ∈ denL e cs, u.oneCell' = true) → cs.length = (k + 1) * size →
      ∃ a n c, x.den e = .slice (some a) n c ∧ ∃ w', (storeCells a (denL e cs)).run P w = .ok () w' ∧ Sat M e own w' H' ∧ Ext own w own w' := by
  unfold dstK at h
  split at h
  · rename_i l off n c
    obtain ⟨B, hB, h9⟩ := getK_spec h
    clear h
    split at h9
    · rename_i old ty
      obtain ⟨hle, h⟩ := spliceK_spec h9
      obtain ⟨_, h⟩ := setK_spec h
      refine ⟨_, h, by simp, fun e own w hs hsc hone hcl => ⟨_, _, _, rfl, ?_⟩⟩
      obtain ⟨hsat, hosc⟩ := hs.bl l _ hB
      obtain ⟨h1, hb⟩ := hsat
      have hrun := run_storeCells_at P (e.b l) off ty (denL e cs) 0 (denL e old).toArray w hb (by simp [denL_length]; omega) hone
      simp only [Nat.add_zero] at hrun
      have hblk : ∀ X k', ¬ own l k' → (w.setRow (e.b l) X).heap[k']? = w.heap[k']? := fun X k' hk =>
        setRow_other w _ k' _ (fun he => by subst he; exact hk ((h1 _).2 rfl))
      refine ⟨_, hrun, hs.set hB (by simp [World.setRow]) (fun k' _ hk => hblk _ k' hk) ⟨h1, ?_⟩ (scL_splice hsc hosc), Ext.write (l := l) rfl rfl rfl (by simp [World.setRow]) (fun k' _ hk => hblk _ k' hk)⟩
      rw [setRow_heap w _ _ _ ty _ hb, denL_splice, splice_take_drop _ _ _ (by rw [denL_length, denL_length]; exact hle)]
    · exact h9.elim
  · rename_i l
    obtain ⟨H', h1, h2, h3⟩ := dstRow_spec (P := P) h
    refine ⟨H', h1, h2, fun e own w hs hsc hone hcl => ?_⟩
    obtain ⟨N, c, hv, hN, hNc, w', h4, h5, h6⟩ := h3 e own w hs hsc hone hcl
    rw [Nat.zero_mul] at h4
    exact ⟨_, _, _, hv, w', h4, h5, h6⟩
  · rename_i l sz p j n lim
    obtain ⟨hsz, h⟩ := bif_elim h
    have hsz := Nat.eq_of_beq_eq_true hsz
    subst hsz
    obtain ⟨H', h1, h2, h3⟩ := dstRow_spec (P := P) h
    refine ⟨H', h1, h2, fun e own w hs hsc hone hcl => ?_⟩
    obtain ⟨N, c, hv, hN, hNc, w', h4, h5, h6⟩ := h3 e own w hs hsc hone hcl
    have hcj : c ≠ j := by omega
    exact ⟨⟨e.b l, j * sz, none⟩, n, lim.getD (c - j), by simp only [LV.den, hv, subVal, hcj, if_false, Nat.zero_add], w', h4, h5, h6⟩
  · exact h.elim

theorem copyNK_spec {x y : LV} {K : LV → List LB → Prop} (h : copyNK P M t x y H K) :
    MemOk P M H True (fun e => Builtin.copy_ #[t, t2] ty0 #[x.den e, y.den e]) K := by
  unfold copyNK at h
  split at h
  · rename_i el hel
    obtain ⟨i, hi, h⟩ := sizeK_spec h
    obtain ⟨n, cs, h, hsrc⟩ := srcCK_spec h
    obtain ⟨m, h, hdl⟩ := dstLenK_spec h
    have h9 := minNK_spec h
    clear h
    generalize hk : Nat.min n m = k at h9
    cases k with
    | zero =>
      refine ⟨_, _, h9, Nat.le_refl _, fun e own w hs _ => ⟨e, own, w, .refl _ _, hs, .refl _ _, trivial, ?_⟩⟩
      obtain ⟨_, ao, cap, hx, _, _, _⟩ := hsrc e own w hs
      obtain ⟨d, c, hd⟩ := hdl hs
      rw [hx, hd]
      have hf : (Builtin.firstCells i.size (Nat.min n m) (.slice ao n cap)).run P w = .ok ([] : List Value).toArray w := by
        rw [hk]
        cases ao with
        | none => simp [Builtin.firstCells]
        | some a =>
          have := run_loadCells_list (P := P) w a [] (by simp)
          simpa [Builtin.firstCells] using this
      rw [run_copy_gen hel hi d ao m c n cap [] w w hf (by cases d <;> simp [storeCells]), hk]
      rfl
    | succ k =>
      obtain ⟨hle, h⟩ := takeK_spec (show takeK (fun cs' => dstK M H x i.size (k + 1) cs' fun H' => K (.v (.int .i64 ((k + 1 : Nat) : Int))) H') cs ((k + 1) * i.size) from h9)
      obtain ⟨H', h, hlen, hd⟩ := dstK_spec (P := P) h
      refine ⟨_, _, h, by omega, fun e own w hs _ => ?_⟩
      obtain ⟨hsc, ao, cap, hx, hcl, hcell, hone⟩ := hsrc e own w hs
      have hkn : k + 1 ≤ n := by rw [← hk]; exact Nat.min_le_left _ _
      obtain ⟨a, rfl, hcell2⟩ := hcell (by omega)
      have htl : (cs.take ((k + 1) * i.size)).length = (k + 1) * i.size := by rw [List.length_take]; omega
      have hone' : ∀ u ∈ denL e (cs.take ((k + 1) * i.size)), u.oneCell' = true := fun u hu => by
        rw [denL_take] at hu; exact hone u (List.mem_of_mem_take hu)
      obtain ⟨d, nd, cd, hdd, w', h4, h5, h6⟩ := hd e own w hs (scL_take hsc) hone' htl
      obtain ⟨d', c', hd'⟩ := hdl hs
      rw [hdd] at hd'
      cases hd'
      refine ⟨e, own, w', .refl _ _, h5, h6, trivial, ?_⟩
      rw [hx, hdd]
      have hf : (Builtin.firstCells i.size (Nat.min n m) (.slice (some a) n cap)).run P w = .ok (denL e (cs.take ((k + 1) * i.size))).toArray w := by
        rw [hk]
        have := run_loadCells_list (P := P) w a (denL e (cs.take ((k + 1) * i.size))) (fun j u hu => by
          rw [denL_take, List.getElem?_take] at hu
          split at hu
          · exact hcell2 j u hu
          · cases hu)
        rw [denL_length, htl] at this
        simpa [Builtin.firstCells] using this
      rw [run_copy_gen hel hi (some d) (some a) m cd n cap _ w w' hf h4, hk]
      rfl
  · exact h.elim
end
end Go.Lx
