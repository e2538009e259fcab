/-
  The symbolic executor Lx, part 7u: appends and copies, one operation each.
-/
import Derived.Test.YtnehadffbelhnaaGreatDoorLx7t
namespace Go.Lx
open Go.RowKit

def tgtCK (M : Mem) (s : LV) (H : List LB) (el : TypeId) (size bytes k : Nat) (new : List (List LV)) (K : LV → List LB → Prop) : Prop :=
  match s with
  | .root ls => getK (fun C => match C with
      | .list sz items ty => bif Nat.beq sz size && Nat.beq ty el then countK items 0 fun m => room M (m + k) bytes <|
          joinK M size el items new [] fun B => setK .gone (fun H1 => snocK B H1 0 fun l H' => K (.root l) H') H ls else False
      | .rows sz items ty => bif Nat.beq sz size && Nat.beq ty el then countK items 0 fun m => room M (m + k) bytes <|
          joinRK size el items new [] fun B => setK .gone (fun H1 => snocK B H1 0 fun l H' => K (.root l) H') H ls else False
      | _ => False) H ls
  | .v (.slice none 0 0) => room M k bytes <| joinK M size el [] new [] fun B => snocK B H 0 fun l H' => K (.root l) H'
  | .sub ls sz p i len lim => bif Nat.beq sz size then (match lim with
    | none => bif Nat.beq p 0 && Nat.beq i 0 then getK (fun C => match C with
      | .list sz' items ty => bif Nat.beq sz' size && Nat.beq ty el then takeK (fun part => room M (len + k) bytes <|
          joinK M size el part new [] fun B => setK .gone (fun H1 => snocK B H1 0 fun l H' => K (.root l) H') H ls) items len else False
      | .rows sz' items ty => bif Nat.beq sz' size && Nat.beq ty el then takeK (fun part => room M (len + k) bytes <|
          joinRK size el part new [] fun B => setK .gone (fun H1 => snocK B H1 0 fun l H' => K (.root l) H') H ls) items len else False
      | _ => False) H ls else False
    | some q => bif Nat.beq q len then getK (fun C => match C with
      | .list sz' items _ => bif Nat.beq sz' size then dropK (fun r => takeK (fun part => room M (len + k) bytes <|
          joinK M size el part new [] fun B => snocK B H 0 fun l H' => K (.root l) H') r len) items i else False
      | .rows sz' items _ => bif Nat.beq sz' size then dropK (fun r => takeK (fun part => room M (len + k) bytes <|
          joinRK size el part new [] fun B => snocK B H 0 fun l H' => K (.root l) H') r len) items i else False
      | _ => False) H ls else False) else False
  | _ => False

/-- A slice whose length is within its capacity. -/
def sliceSure (H : List LB) (s : LV) (K : Prop) : Prop :=
  match s with
  | .root l => getK (fun B => match B with
    | .list _ _ _ => K
    | .rows _ _ _ => K
    | _ => False) H l
  | .v (.slice _ n c) => bif Nat.ble n c then K else False
  | .sl _ _ n c => bif Nat.ble n c then K else False
  | .sub l _ _ i len lim => (match lim with
    | some q => bif Nat.ble len q then K else False
    | none => rowK H l fun _ n => bif Nat.ble (i + len) n then K else False)
  | _ => False

theorem sliceSure_spec {H : List LB} {s : LV} {K : Prop} (h : sliceSure H s K) : K ∧ ∀ {M : Mem} {e : Env} {own : Nat → Nat → Prop} {w : World}, Sat M e own w H →
    ∃ ao n c, s.den e = .slice ao n c ∧ n ≤ c := by
  unfold sliceSure at h
  split at h
  · rename_i l
    obtain ⟨B, hB, h9⟩ := getK_spec h
    clear h
    split at h9
    · refine ⟨h9, fun {M e own w} hs => ?_⟩
      rcases list_den (hs.bl l _ hB).1 with ⟨hv, _⟩ | ⟨c, hv, hc⟩
      · exact ⟨none, 0, 0, by simp only [LV.den, hv], Nat.le_refl _⟩
      · exact ⟨_, _, c, by simp only [LV.den]; exact hv, hc⟩
    · refine ⟨h9, fun {M e own w} hs => ?_⟩
      rcases list_den (LB.rows_sat.1 (hs.bl l _ hB).1) with ⟨hv, _⟩ | ⟨c, hv, hc⟩
      · exact ⟨none, 0, 0, by simp only [LV.den, hv], Nat.le_refl _⟩
      · exact ⟨_, _, c, by simp only [LV.den]; exact hv, hc⟩
    · exact h9.elim
  · obtain ⟨h1, h2⟩ := bif_elim h
    exact ⟨h2, fun _ => ⟨_, _, _, rfl, Nat.le_of_ble_eq_true h1⟩⟩
  · obtain ⟨h1, h2⟩ := bif_elim h
    exact ⟨h2, fun _ => ⟨_, _, _, rfl, Nat.le_of_ble_eq_true h1⟩⟩
  · rename_i l sz p i len lim
    cases lim with
    | some q =>
      obtain ⟨h1, h2⟩ := bif_elim (show bif Nat.ble len q then K else False from h)
      refine ⟨h2, fun {M e own w} _ => ?_⟩
      have h1 : len ≤ q := Nat.le_of_ble_eq_true h1
      simp only [LV.den, subVal]
      split <;> exact ⟨_, _, _, rfl, by simpa using h1⟩
    | none =>
      obtain ⟨sz', n, h1, hrow⟩ := rowK_spec (show rowK H l fun _ n => bif Nat.ble (i + len) n then K else False from h)
      obtain ⟨h1, h2⟩ := bif_elim h1
      have h1 : i + len ≤ n := Nat.le_of_ble_eq_true h1
      refine ⟨h2, fun {M e own w} hs => ?_⟩
      rcases hrow hs with ⟨hv, rfl⟩ | ⟨c, hv, hc⟩ <;> simp only [LV.den, hv, subVal] <;> exact ⟨_, _, _, rfl, by simp; omega⟩
  · exact h.elim

def appendNK (P : Program) (M : Mem) (t : TypeId) (s x : LV) (H : List LB) (K : LV → List LB → Prop) : Prop :=
  match P.underlying t with
  | some (.slice el) => (match P.info? el with
    | some i => forkN (Nat.beq i.size 0) (zeroK P el fun zs => bif Nat.beq zs.length i.size then
        srcCK M H i.size x fun n cs => (match n with
          | 0 => sliceSure H s (K s H)
          | n + 1 => chunkK i.size (n + 1) cs fun new => tgtCK M s H el i.size i.bytes (n + 1) new K) else False)
    | none => False)
  | _ => False

section
variable {P : Program} {M : Mem} {H : List LB} {t ty0 el : TypeId} {i : TypeInfo} {z : Value}
theorem chunks_map (size : Nat) (e : Env) : ∀ (n : Nat) (cs : List LV), (chunks size n cs).map (denL e) = chunks size n (denL e cs)
  | 0, _ => rfl
  | n + 1, cs => by simp only [chunks, List.map_cons, chunks_map size e n, denL_take, denL_drop]
theorem chunks_sc {size m : Nat} : ∀ (n : Nat) {cs : List LV}, scL m cs → ∀ it ∈ chunks size n cs, scL m it
  | 0, _, _, it, hit => by simp [chunks] at hit
  | n + 1, cs, hsc, it, hit => by
    simp only [chunks, List.mem_cons] at hit
    rcases hit with rfl | hit
    · exact scL_take hsc
    · exact chunks_sc n (scL_drop hsc) it hit

theorem news_of {w : World} {e : Env} {x : LV} {size n : Nat} {cs : List LV} (h : SrcC w e x size (n + 1) cs) :
    News w e x size ((chunks size (n + 1) cs).map (denL e)) ∧ (chunks size (n + 1) cs).length = n + 1 := by
  obtain ⟨ao, cap, hx, hl, hc, h1⟩ := h.out
  obtain ⟨a, rfl, hc2⟩ := hc (Nat.succ_pos _)
  obtain ⟨g1, g2, g3⟩ := chunks_flatten size (n + 1) (denL e cs) (by rw [denL_length]; exact hl)
  obtain ⟨_, _, g4⟩ := chunks_flatten size (n + 1) cs hl
  refine ⟨⟨a, cap, ?_, ?_, ?_, ?_, ?_⟩, g4⟩
  · rw [List.length_map, g4]; exact hx
  · rw [chunks_map]; exact g2
  · rw [List.length_map, g4]; omega
  · rw [chunks_map, g1]; exact hc2
  · rw [chunks_map, g1]; exact h1

/-- The first items of a row, as a row. -/
theorem ownsRow_take {w : World} {b : Nat} {ty : TypeId} {sz : Nat} {items : List (List Value)} {c len : Nat} (hl : ∀ x ∈ items, x.length = sz)
    (h : w.ownsRow 0 ty sz (.slice (some ⟨b, 0, none⟩) items.length c) items.length items.flatten) (hle : len ≤ items.length) :
    w.ownsRow 0 ty sz (.slice (some ⟨b, 0, none⟩) len c) (items.take len).length (items.take len).flatten := by
  have hlen : (items.take len).length = len := by rw [List.length_take]; omega
  refine ⟨by rw [flatten_length (sz := sz) fun x hx => hl x (List.mem_of_mem_take hx)], .inr ?_⟩
  rcases h.2 with ⟨hv, _⟩ | ⟨g, cap, cur, hv, h0, hg, hn, hc, hs, ht⟩
  · cases hv
  · cases hv
    refine ⟨b, c, cur, by rw [hlen], h0, hg, by rw [hlen]; omega, hc, hs, ?_⟩
    rw [hlen]
    have : (items.take len).flatten = items.flatten.take (len * sz) := by
      have h1 : items.flatten = (items.take len).flatten ++ (items.drop len).flatten := by rw [← List.flatten_append, List.take_append_drop]
      have h2 : (items.take len).flatten.length = len * sz := by rw [flatten_length (sz := sz) fun x hx => hl x (List.mem_of_mem_take hx), hlen]
      rw [h1, ← h2, List.take_left]
    rw [this, ← ht, List.take_take, Nat.min_eq_left (Nat.mul_le_mul_right _ hle)]

theorem tgtCK_spec (hel : P.underlying t = some (.slice el)) (hi : P.info? el = some i) (hzi : i.zero = some z) (hzs : z.cells.size = i.size) (hpos : 0 < i.size)
    {s x : LV} {n : Nat} {cs : List LV} {K : LV → List LB → Prop}
    (hsrc : ∀ e own w, Sat M e own w H → scL H.length cs ∧ SrcC w e x i.size (n + 1) cs) (h : tgtCK M s H el i.size i.bytes (n + 1) (chunks i.size (n + 1) cs) K) :
    MemOk P M H True (fun e => Builtin.append_ #[t, t] ty0 #[s.den e, x.den e]) K := by
  have hnl : ∀ {e own w}, Sat M e own w H → ((chunks i.size (n + 1) cs).map (denL e)).length = n + 1 := fun {e own w} hs => by
    rw [List.length_map]; exact (news_of (hsrc e own w hs).2).2
  have hsc : ∀ {e own w}, Sat M e own w H → ∀ it ∈ chunks i.size (n + 1) cs, scL H.length it := fun {e own w} hs => chunks_sc _ (hsrc e own w hs).1
  have hag : ∀ {e e' : Env} {own w}, Sat M e own w H → Agree e e' H.length → (chunks i.size (n + 1) cs).map (denL e') = (chunks i.size (n + 1) cs).map (denL e) := fun hs ha =>
    (rows_agree ha (hsc hs)).symm
  have up : ∀ {items : List (List LV)}, (∀ it ∈ items, scL H.length it) → ∀ it ∈ items, scL (H.length + 1) it := fun h it hit => scL_mono (Nat.le_succ _) it (h it hit)
  unfold tgtCK at h
  split at h
  · rename_i ls
    obtain ⟨C, hC, h9⟩ := getK_spec h
    clear h
    split at h9
    · rename_i sz items ty
      obtain ⟨hc, h⟩ := bif_elim h9
      simp only [Bool.and_eq_true] at hc
      have hsz := Nat.eq_of_beq_eq_true hc.1
      have hty := Nat.eq_of_beq_eq_true hc.2
      subst hsz hty
      have h := countK_spec h
      rw [Nat.zero_add] at h
      obtain ⟨h1, h2, h⟩ := room_ok h
      obtain ⟨B, h, hB⟩ := joinK_spec h
      obtain ⟨_, h⟩ := setK_spec h
      have h := snocK_len h
      refine ⟨_, _, h, by simp, fun e own w hs _ => ?_⟩
      have hsat := (hs.bl ls _ hC).1
      obtain ⟨e', own', w', k1, k2, k3, k4⟩ := append_to (ty0 := ty0) hel hi hzi hzs hpos (e.s ls) hs hC (fun k hk => (hsat.1 k).2 hk) hsat.2.2.2 hsat.2.2.1 (news_of (hsrc e own w hs).2).1
        (by rw [hnl hs]; exact h1) (by rw [hnl hs]; exact h2) hB (fun e' ha => by rw [List.append_nil, hag hs ha]) (up (hsc hs))
      exact ⟨e', own', w', k1, k2, k3, by simp [LV.sc], by rw [List.length_set]; exact k4⟩
    · rename_i sz items ty
      obtain ⟨hc, h⟩ := bif_elim h9
      simp only [Bool.and_eq_true] at hc
      have hsz := Nat.eq_of_beq_eq_true hc.1
      have hty := Nat.eq_of_beq_eq_true hc.2
      subst hsz hty
      have h := countK_spec h
      rw [Nat.zero_add] at h
      obtain ⟨h1, h2, h⟩ := room_ok h
      obtain ⟨B, h, hB⟩ := joinRK_spec h
      obtain ⟨_, h⟩ := setK_spec h
      have h := snocK_len h
      refine ⟨_, _, h, by simp, fun e own w hs _ => ?_⟩
      have hsat := LB.rows_sat.1 (hs.bl ls _ hC).1
      have hisc := (hs.bl ls _ hC).2
      obtain ⟨e', own', w', k1, k2, k3, k4⟩ := append_to (ty0 := ty0) hel hi hzi hzs hpos (e.s ls) hs hC (fun k hk => (hsat.1 k).2 hk) hsat.2.2.2 hsat.2.2.1 (news_of (hsrc e own w hs).2).1
        (by rw [hnl hs, List.length_map]; exact h1) (by rw [hnl hs, List.length_map]; exact h2) hB (fun e' ha => by rw [List.map_nil, List.append_nil, hag hs ha, rows_agree ha hisc])
        ⟨up (hsc hs), up hisc, fun it hit => nomatch hit⟩
      exact ⟨e', own', w', k1, k2, k3, by simp [LV.sc], by rw [List.length_set]; exact k4⟩
    · exact h9.elim
  · obtain ⟨h1, h2, h⟩ := room_ok h
    obtain ⟨B, h, hB⟩ := joinK_spec h
    have h := snocK_len h
    refine ⟨_, _, h, by simp, fun e own w hs _ => ?_⟩
    obtain ⟨e', own', w', k1, k2, k3, k4⟩ := append_new (ty0 := ty0) hel hi hzi hzs (part := []) (.slice none 0 0) hs (fun it hit => nomatch hit) (.inl ⟨rfl, rfl⟩) (news_of (hsrc e own w hs).2).1
      (by rw [hnl hs, List.length_nil, Nat.zero_add]; exact h1) (by rw [hnl hs, List.length_nil, Nat.zero_add]; exact h2) hB (fun e' ha => by rw [List.append_nil, hag hs ha]) (up (hsc hs))
    exact ⟨e', own', w', k1, k2, k3, by simp [LV.sc], k4⟩
  · rename_i ls sz p j len lim
    obtain ⟨hsz0, h8⟩ := bif_elim h
    have hsz0 := Nat.eq_of_beq_eq_true hsz0
    subst hsz0
    clear h
    cases lim with
    | none =>
      obtain ⟨hpi, h8⟩ := bif_elim h8
      simp only [Bool.and_eq_true] at hpi
      have hp := Nat.eq_of_beq_eq_true hpi.1
      have hj := Nat.eq_of_beq_eq_true hpi.2
      subst hp hj
      obtain ⟨C, hC, h9⟩ := getK_spec h8
      clear h8
      -- the row's first items, with the row's value cut
      have cut : ∀ {e : Env} {own : Nat → Prop} {w : World} {items : List (List Value)} {ty : TypeId}, (LB.list i.size items ty).sat e ls own w → len ≤ items.length →
          (∀ k, ((LV.sub ls i.size 0 0 len none).den e).ownBlock = some k → own k) ∧ w.ownsRow 0 ty i.size ((LV.sub ls i.size 0 0 len none).den e) (items.take len).length (items.take len).flatten := by
        intro e own w items ty hsat hle
        rcases list_den hsat with ⟨hv, h0⟩ | ⟨c, hv, hcl⟩
        · have hl0 : len = 0 := by omega
          subst hl0
          simp only [LV.den, hv, subVal, Option.getD_none, Value.ownBlock]
          exact ⟨fun k hk => (nomatch hk), World.ownsRow_nil _ _ _ _⟩
        · have hd : (LV.sub ls i.size 0 0 len none).den e = .slice (some ⟨e.b ls, 0, none⟩) len c := by
            simp only [LV.den, hv, subVal, Option.getD_none, Nat.sub_zero, ite_self, Nat.zero_mul, Nat.add_zero]
          rw [hd]
          refine ⟨fun k hk => (hsat.1 k).2 (by rw [hv]; simpa [Value.ownBlock] using hk), ownsRow_take hsat.2.2.1 (by have := hsat.2.2.2; rw [hv] at this; exact this) hle⟩
      split at h9
      · rename_i sz items ty
        obtain ⟨hc, h⟩ := bif_elim h9
        simp only [Bool.and_eq_true] at hc
        have hsz := Nat.eq_of_beq_eq_true hc.1
        have hty := Nat.eq_of_beq_eq_true hc.2
        subst hsz hty
        obtain ⟨hle, h⟩ := takeK_spec h
        obtain ⟨h1, h2, h⟩ := room_ok h
        obtain ⟨B, h, hB⟩ := joinK_spec h
        obtain ⟨_, h⟩ := setK_spec h
        have h := snocK_len h
        refine ⟨_, _, h, by simp, fun e own w hs _ => ?_⟩
        have hsat := (hs.bl ls _ hC).1
        obtain ⟨c1, c2⟩ := cut hsat hle
        have hpl : (items.take len).length = len := by rw [List.length_take]; omega
        obtain ⟨e', own', w', k1, k2, k3, k4⟩ := append_to (ty0 := ty0) hel hi hzi hzs hpos _ hs hC c1 c2 (fun it hit => hsat.2.2.1 it (List.mem_of_mem_take hit)) (news_of (hsrc e own w hs).2).1
          (by rw [hnl hs, hpl]; exact h1) (by rw [hnl hs, hpl]; exact h2) hB (fun e' ha => by rw [List.append_nil, hag hs ha]) (up (hsc hs))
        exact ⟨e', own', w', k1, k2, k3, by simp [LV.sc], by rw [List.length_set]; exact k4⟩
      · rename_i sz items ty
        obtain ⟨hc, h⟩ := bif_elim h9
        simp only [Bool.and_eq_true] at hc
        have hsz := Nat.eq_of_beq_eq_true hc.1
        have hty := Nat.eq_of_beq_eq_true hc.2
        subst hsz hty
        obtain ⟨hle, h⟩ := takeK_spec h
        obtain ⟨h1, h2, h⟩ := room_ok h
        obtain ⟨B, h, hB⟩ := joinRK_spec h
        obtain ⟨_, h⟩ := setK_spec h
        have h := snocK_len h
        refine ⟨_, _, h, by simp, fun e own w hs _ => ?_⟩
        have hsat := LB.rows_sat.1 (hs.bl ls _ hC).1
        have hisc : ∀ it ∈ items.take len, scL H.length it := fun it hit => (hs.bl ls _ hC).2 it (List.mem_of_mem_take hit)
        obtain ⟨c1, c2⟩ := cut hsat (by rw [List.length_map]; exact hle)
        have hpl : (items.take len).length = len := by rw [List.length_take]; omega
        rw [← List.map_take] at c2
        obtain ⟨e', own', w', k1, k2, k3, k4⟩ := append_to (ty0 := ty0) hel hi hzi hzs hpos _ hs hC c1 c2 (fun it hit => hsat.2.2.1 it (by rw [List.map_take] at hit; exact List.mem_of_mem_take hit)) (news_of (hsrc e own w hs).2).1
          (by rw [hnl hs, List.length_map, hpl]; exact h1) (by rw [hnl hs, List.length_map, hpl]; exact h2) hB (fun e' ha => by rw [List.map_nil, List.append_nil, hag hs ha, rows_agree ha hisc])
          ⟨up (hsc hs), up hisc, fun it hit => nomatch hit⟩
        exact ⟨e', own', w', k1, k2, k3, by simp [LV.sc], by rw [List.length_set]; exact k4⟩
      · exact h9.elim
    | some q =>
      obtain ⟨hql, h8⟩ := bif_elim h8
      have hql := Nat.eq_of_beq_eq_true hql
      subst hql
      obtain ⟨C, hC, h9⟩ := getK_spec h8
      clear h8
      -- a full part of a row
      have full : ∀ {e : Env} {own : Nat → Prop} {w : World} {items : List (List Value)} {ty : TypeId}, (LB.list i.size items ty).sat e ls own w → j + q ≤ items.length →
          ((LV.sub ls i.size p j q (some q)).den e = .slice none 0 0 ∧ (items.drop j).take q = []) ∨
          ∃ b, (LV.sub ls i.size p j q (some q)).den e = .slice (some b) ((items.drop j).take q).length ((items.drop j).take q).length ∧ ∀ k u, ((items.drop j).take q).flatten[k]? = some u → w.cell? (b.add k) = some u := by
        intro e own w items ty hsat hle
        have hpl : ((items.drop j).take q).length = q := by rw [List.length_take, List.length_drop]; omega
        rw [hpl]
        rcases Nat.eq_zero_or_pos q with h0 | h0
        · subst h0
          rcases list_den hsat with ⟨hv, _⟩ | ⟨c, hv, _⟩
          · exact .inl ⟨by simp only [LV.den, hv, subVal, Option.getD_some], by rw [List.take_zero]⟩
          · refine .inr ⟨⟨e.b ls, 0 + (if c = j then p else j) * i.size, none⟩, by simp only [LV.den, hv, subVal, Option.getD_some], fun k u hu => ?_⟩
            simp at hu
        · obtain ⟨c, hv, hc, hcells⟩ := part_cells hsat hle h0
          have hcj : c ≠ j := by omega
          refine .inr ⟨⟨e.b ls, j * i.size, none⟩, by simp only [LV.den, hv, subVal, hcj, if_false, Nat.zero_add, Option.getD_some], hcells⟩
      split at h9
      · rename_i sz items ty
        obtain ⟨hsz, h⟩ := bif_elim h9
        have hsz := Nat.eq_of_beq_eq_true hsz
        subst hsz
        obtain ⟨hd, h⟩ := dropK_spec h
        obtain ⟨ht, h⟩ := takeK_spec h
        rw [List.length_drop] at ht
        obtain ⟨h1, h2, h⟩ := room_ok h
        obtain ⟨B, h, hB⟩ := joinK_spec h
        have h := snocK_len h
        refine ⟨_, _, h, by simp, fun e own w hs _ => ?_⟩
        have hsat := (hs.bl ls _ hC).1
        have hpl : ((items.drop j).take q).length = q := by rw [List.length_take, List.length_drop]; omega
        obtain ⟨e', own', w', k1, k2, k3, k4⟩ := append_new (ty0 := ty0) hel hi hzi hzs _ hs (fun it hit => hsat.2.2.1 it (List.mem_of_mem_drop (List.mem_of_mem_take hit))) (full hsat (by omega)) (news_of (hsrc e own w hs).2).1
          (by rw [hnl hs, hpl]; exact h1) (by rw [hnl hs, hpl]; exact h2) hB (fun e' ha => by rw [List.append_nil, hag hs ha]) (up (hsc hs))
        exact ⟨e', own', w', k1, k2, k3, by simp [LV.sc], k4⟩
      · rename_i sz items ty
        obtain ⟨hsz, h⟩ := bif_elim h9
        have hsz := Nat.eq_of_beq_eq_true hsz
        subst hsz
        obtain ⟨hd, h⟩ := dropK_spec h
        obtain ⟨ht, h⟩ := takeK_spec h
        rw [List.length_drop] at ht
        obtain ⟨h1, h2, h⟩ := room_ok h
        obtain ⟨B, h, hB⟩ := joinRK_spec h
        have h := snocK_len h
        refine ⟨_, _, h, by simp, fun e own w hs _ => ?_⟩
        have hsat := LB.rows_sat.1 (hs.bl ls _ hC).1
        have hisc : ∀ it ∈ (items.drop j).take q, scL H.length it := fun it hit => (hs.bl ls _ hC).2 it (List.mem_of_mem_drop (List.mem_of_mem_take hit))
        have hpl : ((items.drop j).take q).length = q := by rw [List.length_take, List.length_drop]; omega
        have hf := full hsat (by rw [List.length_map]; omega)
        rw [map_take_drop] at hf
        obtain ⟨e', own', w', k1, k2, k3, k4⟩ := append_new (ty0 := ty0) hel hi hzi hzs _ hs (fun it hit => hsat.2.2.1 it (by rw [← map_take_drop] at hit; exact List.mem_of_mem_drop (List.mem_of_mem_take hit))) hf (news_of (hsrc e own w hs).2).1
          (by rw [hnl hs, List.length_map, hpl]; exact h1) (by rw [hnl hs, List.length_map, hpl]; exact h2) hB (fun e' ha => by rw [List.map_nil, List.append_nil, hag hs ha, rows_agree ha hisc])
          ⟨up (hsc hs), up hisc, fun it hit => nomatch hit⟩
        exact ⟨e', own', w', k1, k2, k3, by simp [LV.sc], k4⟩
      · exact h9.elim
  · exact h.elim

theorem appendNK_spec {s x : LV} {K : LV → List LB → Prop} (h : appendNK P M t s x H K) :
    MemOk P M H (s.sc H.length) (fun e => Builtin.append_ #[t, t] ty0 #[s.den e, x.den e]) K := by
  unfold appendNK at h
  split at h
  · rename_i el hel
    split at h
    · rename_i i hi
      obtain ⟨hn0, h⟩ := forkN_spec h
      have hpos : 0 < i.size := by
        rcases Nat.eq_zero_or_pos i.size with h9 | h9
        · rw [h9] at hn0; cases hn0
        · exact h9
      obtain ⟨z, hz, h⟩ := zeroK_spec h
      obtain ⟨hzl, h⟩ := bif_elim h
      have hzs : z.cells.size = i.size := by have := Nat.eq_of_beq_eq_true hzl; simpa using this
      have hzi := zeroInfo hi hz
      obtain ⟨n, cs, h, hsrc⟩ := srcCK_spec h
      cases n with
      | zero =>
        obtain ⟨h, hsl⟩ := sliceSure_spec (show sliceSure H s (K s H) from h)
        refine ⟨s, H, h, Nat.le_refl _, fun e own w hs hsc => ⟨e, own, w, .refl _ _, hs, .refl _ _, hsc, ?_⟩⟩
        obtain ⟨ao, n, c, hv, hnc⟩ := hsl hs
        obtain ⟨ax, cx, hx, _⟩ := (hsrc e own w hs).2.out
        rw [hv, hx]
        exact run_append_zero hel hi ao ax n c cx hnc w
      | succ n =>
        have h := chunkK_spec (show chunkK i.size (n + 1) cs fun new => tgtCK M s H el i.size i.bytes (n + 1) new K from h)
        obtain ⟨y, H', h1, h2, h3⟩ := (tgtCK_spec (ty0 := ty0) hel hi hzi hzs hpos hsrc h).out
        exact ⟨y, H', h1, h2, fun e own w hs _ => h3 e own w hs trivial⟩
    · exact h.elim
  · exact h.elim
end
end Go.Lx
