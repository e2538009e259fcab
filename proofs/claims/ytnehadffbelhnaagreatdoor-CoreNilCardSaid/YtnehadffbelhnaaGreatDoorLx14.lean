/-
  The symbolic executor Lx, part 14: a callee's heap within the caller's; what a call leaves, seen under other names.
-/
import Derived.Test.YtnehadffbelhnaaGreatDoorLx13
namespace Go.Lx
open Go.RowKit

mutual
def LV.renK (m : List Nat) : LV → (LV → Prop) → Prop
  | .v x, K => K (.v x)
  | .ptr l off, K => getK (fun l' => K (.ptr l' off)) m l
  | .at l sz i off, K => getK (fun l' => K (.at l' sz i off)) m l
  | .root l, K => getK (fun l' => K (.root l')) m l
  | .sl l off len cap, K => getK (fun l' => K (.sl l' off len cap)) m l
  | .sub l sz p i len lim, K => getK (fun l' => K (.sub l' sz p i len lim)) m l
  | .func fn f c, K => renLK m f fun f' => renLK m c fun c' => K (.func fn f' c')
  | .iface t x, K => LV.renK m x fun x' => K (.iface t x')
  | .agg cs, K => renLK m cs fun cs' => K (.agg cs')
  | .tuple cs, K => renLK m cs fun cs' => K (.tuple cs')
def renLK (m : List Nat) : List LV → (List LV → Prop) → Prop
  | [], K => K []
  | x :: xs, K => LV.renK m x fun x' => renLK m xs fun xs' => K (x' :: xs')
end
def renRK (m : List Nat) : List (List LV) → (List (List LV) → Prop) → Prop
  | [], K => K []
  | x :: xs, K => renLK m x fun x' => renRK m xs fun xs' => K (x' :: xs')
def renMK (m : List Nat) : List ME → (List ME → Prop) → Prop
  | [], K => K []
  | x :: xs, K => LV.renK m x.val fun x' => renMK m xs fun xs' => K (⟨x.key, x', x.born⟩ :: xs')
def LB.renK (m : List Nat) (K : LB → Prop) : LB → Prop
  | .map es c => renMK m es fun es' => K (.map es' c)
  | .cells cs ty => renLK m cs fun cs' => K (.cells cs' ty)
  | .rows sz items ty => renRK m items fun items' => K (.rows sz items' ty)
  | B => K B

theorem getK_at {m : List Nat} {l : Nat} {K : Nat → Prop} (h : getK K m l) : K (at_ m l) := by
  obtain ⟨x, hx, h⟩ := getK_spec h
  have : at_ m l = x := by simp [at_, hx]
  rw [this]; exact h
mutual
theorem LV.renK_spec {m : List Nat} : ∀ {x : LV} {K : LV → Prop}, x.renK m K → K (x.ren m)
  | .v _, K, h => h
  | .ptr .., K, h | .at .., K, h | .root .., K, h | .sl .., K, h | .sub .., K, h => getK_at h
  | .func fn f c, K, h => renLK_spec (l := c) (renLK_spec (l := f) h)
  | .iface t x, K, h => LV.renK_spec (x := x) h
  | .agg cs, K, h => renLK_spec (l := cs) h
  | .tuple cs, K, h => renLK_spec (l := cs) h
theorem renLK_spec {m : List Nat} : ∀ {l : List LV} {K : List LV → Prop}, renLK m l K → K (renL m l)
  | [], K, h => h
  | x :: xs, K, h => renLK_spec (l := xs) (LV.renK_spec (x := x) h)
end
theorem renRK_spec {m : List Nat} : ∀ {l : List (List LV)} {K : List (List LV) → Prop}, renRK m l K → K (l.map (renL m))
  | [], K, h => h
  | x :: xs, K, h => renRK_spec (l := xs) (renLK_spec (l := x) h)
theorem renMK_spec {m : List Nat} : ∀ {l : List ME} {K : List ME → Prop}, renMK m l K → K (l.map (ME.ren m))
  | [], K, h => h
  | x :: xs, K, h => renMK_spec (l := xs) (LV.renK_spec (x := x.val) h)
theorem LB.renK_spec {m : List Nat} {K : LB → Prop} {B : LB} (h : B.renK m K) : K (B.ren m) := by
  cases B <;> first | exact h | exact renLK_spec h | first | exact renRK_spec h | exact renMK_spec h

/-- The names of a callee's locations, with the new ones. -/
def extK : List Nat → List LB → Nat → (List Nat → Prop) → Prop
  | i :: m, _ :: r, n, K => extK m r n (fun m' => K (i :: m'))
  | [], _ :: r, n, K => extK [] r (n + 1) (fun m' => K (n :: m'))
  | [], [], _, K => K []
  | _ :: _, [], _, _ => False
def mergeK (m' : List Nat) : List Nat → List LB → List LB → (List LB → Prop) → Prop
  | i :: m, B :: r, H, K => LB.renK m' (fun B' => setK B' (fun H => mergeK m' m r H K) H i) B
  | [], B :: r, H, K => LB.renK m' (fun B' => snocK B' H 0 (fun _ H => mergeK m' [] r H K)) B
  | [], [], H, K => K H
  | _ :: _, [], _, _ => False
def extM (m : List Nat) (n : Nat) (k : Nat) : List Nat := m ++ (List.range (k - m.length)).map (n + ·)
theorem extK_spec : ∀ {m : List Nat} {r : List LB} {n : Nat} {K : List Nat → Prop}, extK m r n K → m.length ≤ r.length ∧ K (extM m n r.length)
  | i :: m, B :: r, n, K, h => by
    obtain ⟨h1, h2⟩ := extK_spec (m := m) h
    refine ⟨by simpa using h1, ?_⟩
    simpa [extM] using h2
  | [], B :: r, n, K, h => by
    obtain ⟨_, h2⟩ := extK_spec (m := []) (r := r) h
    refine ⟨by simp, ?_⟩
    have : extM [] n (B :: r).length = n :: extM [] (n + 1) r.length := by
      simp only [extM, List.nil_append, List.length_nil, Nat.sub_zero, List.length_cons, List.range_succ_eq_map, List.map_cons, List.map_map]
      congr 1
      apply List.map_congr_left
      intro x _; simp; omega
    rw [this]; exact h2
  | [], [], n, K, h => ⟨by simp, by
      have h : K [] := h
      simpa [extM] using h⟩
  | _ :: _, [], _, _, h => h.elim

/-- What the caller's heap has become. -/
structure Merged (m' : List Nat) (m : List Nat) (Hc' : List LB) (H H' : List LB) : Prop where
  len : H'.length = H.length + (Hc'.length - m.length)
  old : ∀ (j : Nat), j < H.length → (∀ i ∈ m, i ≠ j) → H'[j]? = H[j]?
  mine : ∀ (p i : Nat) (B : LB), m[p]? = some i → Hc'[p]? = some B → H'[i]? = some (B.ren m')
  new : ∀ (p : Nat) (B : LB), m.length ≤ p → Hc'[p]? = some B → H'[H.length + (p - m.length)]? = some (B.ren m')

theorem mergeK_spec {m' : List Nat} : ∀ {m : List Nat} {r H : List LB} {K : List LB → Prop}, distinct m = true → ltAll H.length m = true → mergeK m' m r H K → ∃ H', K H' ∧ Merged m' m r H H'
  | i :: m, B :: r, H, K, hd, hl, h => by
    have h := LB.renK_spec h
    obtain ⟨hi, h⟩ := setK_spec h
    simp only [distinct, Bool.and_eq_true, Bool.not_eq_true'] at hd
    simp only [ltAll, List.all_cons, Bool.and_eq_true] at hl
    obtain ⟨H', h1, h2⟩ := mergeK_spec (m := m) (r := r) hd.2 (by rw [List.length_set]; exact hl.2) h
    have hno : ∀ x ∈ m, x ≠ i := fun x hx he => by
      subst he
      have := memN_iff.2 hx
      rw [hd.1] at this; cases this
    refine ⟨H', h1, ?_, ?_, ?_, ?_⟩
    · rw [h2.len, List.length_set]; simp
    · intro j hj hn
      rw [h2.old j (by rw [List.length_set]; exact hj) (fun x hx => hn x (.tail _ hx))]
      rw [List.getElem?_set_ne (hn i (.head _))]
    · intro p i' B' hp hB
      cases p with
      | zero =>
        simp at hp hB; subst hp hB
        rw [h2.old i (by rw [List.length_set]; exact hi) hno]
        simp [hi]
      | succ p => exact h2.mine p i' B' (by simpa using hp) (by simpa using hB)
    · intro p B' hp hB
      cases p with
      | zero => simp at hp
      | succ p =>
        have := h2.new p B' (by simpa using hp) (by simpa using hB)
        rw [List.length_set] at this
        rw [← this]; congr 2; simp
  | [], B :: r, H, K, hd, hl, h => by
    have h := LB.renK_spec h
    have h := snocK_len h
    obtain ⟨H', h1, h2⟩ := mergeK_spec (m := []) (r := r) rfl rfl h
    refine ⟨H', h1, ?_, ?_, ?_, ?_⟩
    · rw [h2.len]; simp; omega
    · intro j hj _
      rw [h2.old j (by simp; omega) (by simp)]
      rw [List.getElem?_append_left hj]
    · intro p i' B' hp; simp at hp
    · intro p B' _ hB
      cases p with
      | zero =>
        simp at hB; subst hB
        simp only [List.length_nil, Nat.sub_zero, Nat.add_zero]
        rw [h2.old H.length (by simp) (by simp)]
        simp
      | succ p =>
        have := h2.new p B' (by simp) (by simpa using hB)
        rw [← this]; congr 1; simp; omega
  | [], [], H, K, hd, hl, h => ⟨H, h, by simp, fun j _ _ => rfl, fun p i B hp => by simp at hp, fun p B _ hp => by simp at hp⟩
  | _ :: _, [], _, _, _, _, h => h.elim

/-- After a call: the caller's heap, with what the callee made of its own. -/
def retMergeK (m : List Nat) (H Hc' : List LB) (r : LV) (K : LV → List LB → Prop) : Prop :=
  countK H 0 fun n => extK m Hc' n fun m' => r.renK m' fun r' => mergeK m' m Hc' H fun H' => K r' H'

def embB (m : List Nat) (H Hc : List LB) (args : List LV) : Bool :=
  Nat.beq m.length Hc.length && ltAll H.length m && distinct m && Hc.all notGone && Hc.all (LB.scb Hc.length) && scbL Hc.length args

theorem LB.sat_ren {e : Env} {m : List Nat} {i : Nat} {own : Nat → Prop} {w : World} : ∀ {B : LB}, B.sat (e.via m) i own w → (B.ren m).sat e (at_ m i) own w
  | .cells cs ty, h => by simp only [LB.ren, LB.sat, denL_ren, Env.via] at h ⊢; exact h
  | .rows sz items ty, h => by simp only [LB.ren, LB.sat, rows_ren] at h ⊢; exact h
  | .map es c, h => by simp only [LB.ren, LB.sat, map_ren] at h ⊢; exact h
  | .list .., h | .res .., h | .gone, h => h
theorem LB.sc_ren {m : List Nat} {k n : Nat} (hm : ∀ i, i < k → at_ m i < n) : ∀ {B : LB}, B.sc k → (B.ren m).sc n
  | .cells cs ty, h => by simp only [LB.ren, LB.sc] at h ⊢; exact scL_ren hm cs h
  | .rows sz items ty, h => fun it hit => by
    obtain ⟨it0, h0, rfl⟩ := List.mem_map.1 hit
    exact scL_ren hm it0 (h it0 h0)
  | .map es c, h => fun x hx => by
    obtain ⟨x0, h0, rfl⟩ := List.mem_map.1 hx
    exact LV.sc_ren hm _ (h x0 h0)
  | .list .., _ | .res .., _ | .gone, _ => trivial

theorem extM_lt {m : List Nat} {n k i : Nat} (h : i < m.length) : at_ (extM m n k) i = at_ m i := by
  simp [at_, extM, List.getElem?_append_left h]
theorem extM_ge {m : List Nat} {n k i : Nat} (h : m.length ≤ i) (h' : i < k) : at_ (extM m n k) i = n + (i - m.length) := by
  simp only [at_, extM, List.getD_eq_getElem?_getD, List.getElem?_append_right h]
  rw [List.getElem?_map, List.getElem?_range (by omega)]; rfl

section
variable {P : Program} {M : Mem} {f : FuncId}
theorem RetPost.embed {Hc H : List LB} {Kc K : LV → List LB → Prop} {m : List Nat} {e : Env} {own : Nat → Nat → Prop} {w : World} (hs : Sat M e own w H) (hlm : m.length = Hc.length) (hlt : ltAll H.length m = true) (hd : distinct m = true)
    (hng : Hc.all notGone = true) (hK : ∀ r Hc', Kc r Hc' → retMergeK m H Hc' r K) {en : Ending} {w' : World}
    (hp : RetPost M (e.via m) (ownVia own m Hc) w Hc Kc en w') : RetPost M e own w H K en w' := by
  obtain ⟨e2, own2, Hc', r, rfl, hk, hlen, hag, sat2, ext, rsc⟩ := hp
  have h1 := countK_spec (hK r Hc' hk)
  rw [Nat.zero_add] at h1
  obtain ⟨hle, h2⟩ := extK_spec h1
  have h3 := LV.renK_spec h2
  obtain ⟨H', h4, hm⟩ := mergeK_spec hd hlt h3
  clear h1 h2 h3
  generalize hm' : extM m H.length Hc'.length = m' at *
  have hmlt : ∀ i, i < m.length → at_ m i < H.length := fun i hi => by
    have := List.all_eq_true.1 hlt _ (List.mem_of_getElem? (at_of hi))
    exact Nat.lt_of_succ_le (Nat.le_of_ble_eq_true this)
  have a1 : ∀ i, i < m.length → at_ m' i = at_ m i := fun i hi => hm' ▸ extM_lt hi
  have a2 : ∀ i, m.length ≤ i → i < Hc'.length → at_ m' i = H.length + (i - m.length) := fun i hi hi' => hm' ▸ extM_ge hi hi'
  have hlt' : ∀ i, i < Hc'.length → at_ m' i < H'.length := fun i hi => by
    rw [hm.len]
    rcases Nat.lt_or_ge i m.length with h | h
    · rw [a1 i h]; have := hmlt i h; omega
    · rw [a2 i h hi]; omega
  have hinj : ∀ i j, i < Hc'.length → j < Hc'.length → at_ m' i = at_ m' j → i = j := fun i j hi hj hij => by
    rcases Nat.lt_or_ge i m.length with h | h <;> rcases Nat.lt_or_ge j m.length with h' | h'
    · rw [a1 i h, a1 j h'] at hij
      exact distinct_inj hd i j (at_ m i) (at_of h) (hij ▸ at_of h')
    · rw [a1 i h, a2 j h' hj] at hij; have := hmlt i h; omega
    · rw [a2 i h hi, a1 j h'] at hij; have := hmlt j h'; omega
    · rw [a2 i h hi, a2 j h' hj] at hij; omega
  let e' : Env := ⟨fun j => if j < H.length then e.b j else e2.b (j - H.length + m.length), fun j => if j < H.length then e.s j else e2.s (j - H.length + m.length)⟩
  have hage : Agree e e' H.length := ⟨fun i hi => by simp [e', hi], fun i hi => by simp [e', hi]⟩
  have hvia : Agree e2 (e'.via m') Hc'.length := by
    constructor
    · intro i hi
      simp only [Env.via, e']
      rcases Nat.lt_or_ge i m.length with h | h
      · rw [a1 i h, if_pos (hmlt i h)]; exact (hag.b i (by omega)).symm
      · rw [a2 i h hi, if_neg (by omega)]; congr 1; omega
    · intro i hi
      simp only [Env.via, e']
      rcases Nat.lt_or_ge i m.length with h | h
      · rw [a1 i h, if_pos (hmlt i h)]; exact (hag.s i (by omega)).symm
      · rw [a2 i h hi, if_neg (by omega)]; congr 1; omega
  let own' : Nat → Nat → Prop := fun j k => (∃ i, i < Hc'.length ∧ at_ m' i = j ∧ own2 i k) ∨ (j < H.length ∧ (∀ i ∈ m, i ≠ j) ∧ own j k)
  have hframe : ∀ j k, (∀ i ∈ m, i ≠ j) → own j k → ∀ i, ¬ ownVia own m Hc i k := fun j k hn hk i ⟨B, hB, _, h⟩ => by
    have hi : i < m.length := by have := (List.getElem?_eq_some_iff.1 hB).1; omega
    exact hn _ (List.mem_of_getElem? (at_of hi)) (hs.dj _ _ _ h hk)
  have hcross : ∀ i k j, own2 i k → (∀ i ∈ m, i ≠ j) → own j k → False := fun i k j h hn hk => by
    obtain ⟨i', h'⟩ := ext.own i k h (hs.lt j k hk)
    exact hframe j k hn hk i' h'
  have hown2 : ∀ i k, own2 i k → i < Hc'.length := fun i k h => by
    rcases Nat.lt_or_ge i Hc'.length with hi | hi
    · exact hi
    · exact (sat2.out i hi k h).elim
  have hmine : ∀ i B, Hc'[i]? = some B → H'[at_ m' i]? = some (B.ren m') := fun i B hB => by
    have hi := (List.getElem?_eq_some_iff.1 hB).1
    rcases Nat.lt_or_ge i m.length with h | h
    · rw [a1 i h]; exact hm.mine i _ B (at_of h) hB
    · rw [a2 i h hi]; exact hm.new i B h hB
  have hsplit : ∀ j, j < H'.length → (∃ i, i < Hc'.length ∧ at_ m' i = j) ∨ (j < H.length ∧ ∀ i ∈ m, i ≠ j) := fun j hj => by
    rcases Nat.lt_or_ge j H.length with h | h
    · by_cases hx : ∃ i, i < m.length ∧ at_ m i = j
      · obtain ⟨i, hi, hij⟩ := hx
        exact .inl ⟨i, by omega, by rw [a1 i hi]; exact hij⟩
      · refine .inr ⟨h, fun i hi he => hx ?_⟩
        obtain ⟨p, hp, hpe⟩ := List.getElem_of_mem hi
        refine ⟨p, hp, ?_⟩
        simp [at_, hp]; omega
    · rw [hm.len] at hj
      exact .inl ⟨j - H.length + m.length, by omega, by rw [a2 _ (by omega) (by omega)]; omega⟩
  have hown1 : ∀ i, i < Hc'.length → own' (at_ m' i) = own2 i := fun i hi => by
    funext k
    simp only [own', eq_iff_iff]
    constructor
    · rintro (⟨i', hi', he, h⟩ | ⟨hj, hn, h⟩)
      · rw [hinj i' i hi' hi he] at h; exact h
      · exfalso
        rcases Nat.lt_or_ge i m.length with h' | h'
        · exact hn _ (List.mem_of_getElem? (at_of h')) (a1 i h').symm
        · rw [a2 i h' hi] at hj; omega
    · intro h; exact .inl ⟨i, hi, rfl, h⟩
  have hownF : ∀ j, j < H.length → (∀ i ∈ m, i ≠ j) → own' j = own j := fun j hj hn => by
    funext k
    simp only [own', eq_iff_iff]
    constructor
    · rintro (⟨i', hi', he, h⟩ | ⟨_, _, h⟩)
      · exfalso
        rcases Nat.lt_or_ge i' m.length with h' | h'
        · exact hn _ (List.mem_of_getElem? (at_of h')) ((a1 i' h').symm.trans he)
        · rw [a2 i' h' hi'] at he; omega
      · exact h
    · intro h; exact .inr ⟨hj, hn, h⟩
  refine ⟨e', own', H', r.ren m', ?_, h4, by rw [hm.len]; omega, hage, ⟨fun j B hB => ?_, fun j1 j2 k hj1 hj2 => ?_, fun j k hj => ?_, fun j hj k hk => ?_, fun a u hu => ?_, fun j => ?_⟩, ⟨ext.os, ext.tape, ext.output, ext.size, fun k hk hn => ?_, fun j k hj hk => ?_⟩, LV.sc_ren hlt' r rsc⟩
  · rw [LV.den_ren, LV.den_agree hvia r rsc]
  · have hj := (List.getElem?_eq_some_iff.1 hB).1
    rcases hsplit j hj with ⟨i, hi, rfl⟩ | ⟨hjl, hn⟩
    · have hB0 : Hc'[i]? = some Hc'[i] := by simp [hi]
      rw [hmine i _ hB0] at hB; cases hB
      obtain ⟨g1, g2⟩ := sat2.bl i _ hB0
      refine ⟨?_, LB.sc_ren hlt' g2⟩
      rw [hown1 i hi]
      exact LB.sat_ren (LB.sat_agree hvia hi g2 g1)
    · rw [hm.old j hjl hn] at hB
      obtain ⟨g1, g2⟩ := hs.bl j B hB
      refine ⟨?_, LB.sc_mono (by rw [hm.len]; omega) g2⟩
      rw [hownF j hjl hn]
      exact LB.sat_agree hage hjl g2 (LB.sat_keep g1 ext.size fun k hk hlt => ext.block k hlt (hframe j k hn hk))
  · rcases hj1 with ⟨i1, hi1, rfl, h1⟩ | ⟨hl1, hn1, h1⟩ <;> rcases hj2 with ⟨i2, hi2, rfl, h2⟩ | ⟨hl2, hn2, h2⟩
    · rw [sat2.dj _ _ _ h1 h2]
    · exact (hcross _ _ _ h1 hn2 h2).elim
    · exact (hcross _ _ _ h2 hn1 h1).elim
    · exact hs.dj _ _ _ h1 h2
  · rcases hj with ⟨i, hi, rfl, h⟩ | ⟨_, _, h⟩
    · exact sat2.lt _ _ h
    · exact Nat.lt_of_lt_of_le (hs.lt _ _ h) ext.size
  · rcases hk with ⟨i, hi, rfl, h⟩ | ⟨hl, _, h⟩
    · have := hlt' i hi; omega
    · rw [hm.len] at hj; omega
  · obtain ⟨g1, g2⟩ := sat2.ro a u hu
    refine ⟨g1, fun j hj => ?_⟩
    rcases hj with ⟨i, hi, rfl, h⟩ | ⟨hl, _, h⟩
    · exact g2 i h
    · exact (hs.ro a u hu).2 j h
  · simp only [e']; split
    · exact hs.one j
    · exact sat2.one _
  · exact ext.block k hk fun i ⟨_, _, _, h⟩ => hn _ h
  · rcases hj with ⟨i, hi, rfl, h⟩ | ⟨_, _, h⟩
    · obtain ⟨i', _, _, _, h'⟩ := ext.own i k h hk
      exact ⟨_, h'⟩
    · exact ⟨_, h⟩

/-- A call, by what was shown of the function over locations of its own. -/
theorem CallOk.embed {args args' : List LV} {Hc H : List LB} {Kc K : LV → List LB → Prop} (m : List Nat) (hc : CallOk P M f args Hc Kc) (ha : args' = renL m args)
    (hb : embB m H Hc args = true) (hv : viewH m H Hc 0) (hK : ∀ r Hc', Kc r Hc' → retMergeK m H Hc' r K) : CallOk P M f args' H K := by
  subst ha
  simp only [embB, Bool.and_eq_true] at hb
  obtain ⟨⟨⟨⟨⟨h1, h2⟩, h3⟩, h4⟩, h5⟩, h6⟩ := hb
  have hl := Nat.eq_of_beq_eq_true h1
  refine ⟨hc.enter, fun e own w hs hsc => ?_⟩
  rw [denL_ren]
  exact (hc.out _ _ w (hs.view hl h2 h3 h5 hv) (scbL_scL h6)).mono fun en w' hp => hp.embed hs hl h2 h3 h4 hK

theorem CallOk.mono {args : List LV} {H : List LB} {K K' : LV → List LB → Prop} (h : CallOk P M f args H K) (hk : ∀ r H', K r H' → K' r H') : CallOk P M f args H K' :=
  ⟨h.enter, fun e own w hs hsc => (h.out e own w hs hsc).mono fun en w' ⟨e', own', H', r, h1, h2, h3⟩ => ⟨e', own', H', r, h1, hk _ _ h2, h3⟩⟩

/-- What is left, seen under other names: what nobody asks for is let go. -/
structure RetV (n0 : Nat) (K : LV → List LB → Prop) (r : LV) (H : List LB) : Prop where
  out : ∃ (m : List Nat) (r2 : LV) (H2 : List LB), K r2 H2 ∧ viewB n0 m H [(0, r2)] H2 = true ∧ r = r2.ren m ∧ viewH m H H2 0

theorem CallOk.view {args : List LV} {H : List LB} {K : LV → List LB → Prop} (h : CallOk P M f args H (RetV H.length K)) : CallOk P M f args H K :=
  ⟨h.enter, fun e own w hs hsc => (h.out e own w hs hsc).mono fun en w' ⟨e', own', H', r, h1, h2, h3, h4, h5, h6, h7⟩ => by
    obtain ⟨m, r2, H2, k1, k2, rfl, k4⟩ := h2.out
    simp only [viewB, Bool.and_eq_true] at k2
    obtain ⟨⟨⟨⟨⟨⟨q1, q2⟩, q3⟩, q4⟩, q5⟩, q6⟩, q7⟩ := k2
    have q6 : r2.scb H2.length = true := List.all_eq_true.1 q6 (0, r2) (.head _)
    refine ⟨e'.via m, _, H2, r2, by rw [h1, LV.den_ren], k1, Nat.le_of_ble_eq_true q2, h4.trans ⟨fun i hi => ?_, fun i hi => ?_⟩ (Nat.le_refl _), h5.view (Nat.eq_of_beq_eq_true q1) q3 q4 q7 k4,
      h6.trans ⟨rfl, rfl, rfl, Nat.le_refl _, fun _ _ _ => rfl, fun i k ⟨_, _, _, hk⟩ _ => ⟨_, hk⟩⟩, LV.scb_sc q6⟩
    · simp only [Env.via, Nat.eq_of_beq_eq_true (List.all_eq_true.1 q5 i (List.mem_range.2 hi))]
    · simp only [Env.via, Nat.eq_of_beq_eq_true (List.all_eq_true.1 q5 i (List.mem_range.2 hi))]⟩
end
end Go.Lx
