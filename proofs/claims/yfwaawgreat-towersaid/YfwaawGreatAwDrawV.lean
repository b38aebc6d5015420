/-
  Regions whose order is drawn and one of whose operations (append) answers some value.
-/
import Derived.Test.YfwaawGreatAwMach2
namespace Go.Aw
set_option linter.unusedVariables false
open Go.RowKit
section
variable {P : Program} {B : Base} {Q : Exit → St → Prop} {s : St} {l : List Oper} {rules : List Rule}

theorem noClash' (hok : okAll 0 (l.zip rules) = true) (hlen : l.length = rules.length) {L : Nat → Bool} (hc : Closed l L) {j : Nat} (hj : L j = false) {x : Rule} (hx : rules[j]? = some x)
    (hpre : ∀ o, l[j]? = some o → ∀ m, bindsTo o m = true → L m = true) {m : Nat} {y : Rule} (hy : rules[m]? = some y) :
    (m < j → L m = false → clash y x = false) ∧ (j < m → L m = true → clash x y = false) := by
  have hz : ∀ i r, rules[i]? = some r → ∃ o, l[i]? = some o ∧ (l.zip rules)[i]? = some (o, r) := fun i r hr => by
    have : i < l.length := by rw [hlen]; exact (List.getElem?_eq_some_iff.1 hr).1
    refine ⟨l[i], List.getElem?_eq_getElem this, ?_⟩
    rw [List.getElem?_zip_eq_some]
    exact ⟨List.getElem?_eq_getElem this, hr⟩
  obtain ⟨oj, hoj, hzj⟩ := hz j x hx
  obtain ⟨om, hom, hzm⟩ := hz m y hy
  constructor
  · intro hlt hLm
    cases hcl : clash y x with
    | false => rfl
    | true =>
      have := okAll_get (i := 0) hok hzm hzj hlt hcl
      rw [Nat.zero_add] at this
      rw [hpre oj hoj m this] at hLm; cases hLm
  · intro hlt hLm
    cases hcl : clash x y with
    | false => rfl
    | true =>
      have := okAll_get (i := 0) hok hzj hzm hlt hcl
      rw [Nat.zero_add] at this
      rw [hc m om j hom hLm this] at hj; cases hj

theorem draw_sat (hkn : KN s.b) (hok : okAll 0 (l.zip rules) = true) (hlen : l.length = rules.length) (hs : SatAll s rules) {L : Nat → Bool} (hc : Closed l L) {j : Nat} (hj : L j = false) {o : Oper} {x : Rule} (ho : l[j]? = some o) (hx : rules[j]? = some x)
    (hpre : ∀ m, bindsTo o m = true → L m = true) : Sat (stF L 0 s (rules.map (·.2))) x.1 := by
  have hpre' : ∀ o', l[j]? = some o' → ∀ m, bindsTo o' m = true → L m = true := fun o' ho' => by rw [ho] at ho'; cases ho'; exact hpre
  have hW : ∀ m W, (rules.map (·.2))[m]? = some W → ∃ y : Rule, rules[m]? = some y ∧ y.2 = W := fun m W h => by
    rw [List.getElem?_map, Option.map_eq_some_iff] at h; exact h
  have hnc := fun {m : Nat} {y : Rule} (hy : rules[m]? = some y) => noClash' hok hlen hc hj hx hpre' hy
  have hsat0 : Sat (stF (fun m => decide (m < 0 + j)) 0 s (rules.map (·.2))) x.1 := hs.get hx
  rw [Nat.zero_add] at hsat0
  -- where the two states part, X does not look
  have hpart : ∀ m W, (rules.map (·.2))[m]? = some W → L (0 + m) ≠ decide (0 + m < j) → ∃ y : Rule, y.2 = W ∧ ((m < j ∧ clash y x = false) ∨ (j < m ∧ clash x y = false)) := fun m W hm hne => by
    obtain ⟨y, hy, rfl⟩ := hW m W hm
    rw [Nat.zero_add] at hne
    refine ⟨y, rfl, ?_⟩
    rcases Nat.lt_trichotomy m j with h | h | h
    · have : L m = false := by cases hLm : L m; rfl; rw [hLm] at hne; simp [h] at hne
      exact .inl ⟨h, (hnc hy).1 h this⟩
    · subst h; rw [hj] at hne; simp at hne
    · have : L m = true := by cases hLm : L m; rw [hLm] at hne; simp at hne; omega; rfl
      exact .inr ⟨h, (hnc hy).2 h this⟩
  refine ⟨SatT_congr (fun i hi => ?_) hsat0.1, SatB_congr (fun i hi => ?_) hsat0.2.1, SatF_mk fun k hk => ?_⟩
  · refine stF_t rfl fun m W hm hne => ?_
    obtain ⟨y, rfl, h⟩ := hpart m W hm hne
    rcases h with ⟨_, h⟩ | ⟨_, h⟩
    · simp only [clash, Bool.or_eq_false_iff] at h
      rcases anyKey_false (x := i) h.1.1.1.1.1.1 with h' | h'
      · exact h'
      · rw [h'] at hi; cases hi
    · simp only [clash, Bool.or_eq_false_iff] at h
      rcases anyKey_false (x := i) h.1.1.1.1.2 with h' | h'
      · exact h'
      · rw [h'] at hi; cases hi
  · refine stF_b rfl fun m W hm hne => ?_
    obtain ⟨y, rfl, h⟩ := hpart m W hm hne
    refine lk_none_keysNot ?_
    rcases h with ⟨_, h⟩ | ⟨_, h⟩
    · simp only [clash, Bool.or_eq_false_iff] at h
      rcases anyKey_false (x := i) h.1.1.1.2 with h' | h'
      · exact h'
      · rw [h'] at hi; cases hi
    · simp only [clash, Bool.or_eq_false_iff] at h
      rcases anyKey_false (x := i) h.1.2 with h' | h'
      · exact h'
      · rw [h'] at hi; cases hi
  · have h0 := fresh_stF.1 (SatF_mem hsat0.2.2 k hk)
    refine fresh_stF.2 ⟨h0.1, fun m W hm hLm => ?_⟩
    by_cases hmj : m < j
    · exact h0.2 m W hm (by simp [hmj])
    · rw [Nat.zero_add] at hLm
      obtain ⟨y, hy, rfl⟩ := hW m W hm
      have hjm : j < m := by rcases Nat.lt_or_ge j m with h | h; exact h; have : m = j := by omega
                             subst this; rw [hj] at hLm; cases hLm
      have h := (hnc hy).2 hjm hLm
      simp only [clash, Bool.or_eq_false_iff] at h
      exact anyMen_false h.2 k hk

theorem draw_fin (hkn : KN s.b) (hok : okAll 0 (l.zip rules) = true) (hlen : l.length = rules.length) {L : Nat → Bool} (hc : Closed l L) {j : Nat} (hj : L j = false) {o : Oper} {x : Rule} (ho : l[j]? = some o) (hx : rules[j]? = some x)
    (hpre : ∀ m, bindsTo o m = true → L m = true) : ∀ a' w', Rel B ((stF L 0 s (rules.map (·.2))).upd x.2) a' w' → Rel B (stF (fun m => L m || decide (m = j)) 0 s (rules.map (·.2))) a' w' := by
  have hpre' : ∀ o', l[j]? = some o' → ∀ m, bindsTo o' m = true → L m = true := fun o' ho' => by rw [ho] at ho'; cases ho'; exact hpre
  have hW : ∀ m W, (rules.map (·.2))[m]? = some W → ∃ y : Rule, rules[m]? = some y ∧ y.2 = W := fun m W h => by
    rw [List.getElem?_map, Option.map_eq_some_iff] at h; exact h
  have hnc := fun {m : Nat} {y : Rule} (hy : rules[m]? = some y) => noClash' hok hlen hc hj hx hpre' hy
  intro a' w' hr'
  refine hr'.congr (fun i => ?_) (fun k => ?_) (KN.stF hkn)
  · simp only [St.upd, lk_append]
    cases hi : lk i x.2.t with
    | none =>
      simp only [Option.none_or]
      refine stF_t rfl fun m W hm hne => ?_
      rw [Nat.zero_add] at hne
      have : m = j := by
        rcases Nat.decEq m j with h | h
        · simp [h] at hne
        · exact h
      subst this
      obtain ⟨y, hy, rfl⟩ := hW m W hm
      rw [hx] at hy; cases hy; exact hi
    | some c =>
      simp only [Option.some_or]
      refine stF_hit_t (i := j) (by simp [hx]) (by simp) hi fun m W' hm hlt hLm => ?_
      obtain ⟨y, hy, rfl⟩ := hW m W' hm
      have hLm' : L m = true := by rw [Nat.zero_add] at hLm; simpa [show m ≠ j from by omega] using hLm
      have h := (hnc hy).2 hlt hLm'
      simp only [clash, Bool.or_eq_false_iff] at h
      rcases anyKey_false (x := i) h.1.1.1.1.1.2 with h' | h'
      · rw [h'] at hi; cases hi
      · exact h'
  · simp only [St.upd, lk_setBs]
    cases hi : lastk k x.2.b with
    | none =>
      simp only [Option.none_or]
      refine stF_b rfl fun m W hm hne => ?_
      rw [Nat.zero_add] at hne
      have : m = j := by
        rcases Nat.decEq m j with h | h
        · simp [h] at hne
        · exact h
      subst this
      obtain ⟨y, hy, rfl⟩ := hW m W hm
      rw [hx] at hy; cases hy
      exact lastk_keysNot hi
    | some c =>
      simp only [Option.some_or]
      refine stF_hit_b (i := j) (by simp [hx]) (by simp) hi fun m W' hm hlt hLm => ?_
      obtain ⟨y, hy, rfl⟩ := hW m W' hm
      have hLm' : L m = true := by rw [Nat.zero_add] at hLm; simpa [show m ≠ j from by omega] using hLm
      have h := (hnc hy).2 hlt hLm'
      simp only [clash, Bool.or_eq_false_iff] at h
      refine lk_none_keysNot ?_
      rcases anyKey_false (x := k) h.1.1.2 with h' | h'
      · rw [lastk_none (lk_none_keysNot h')] at hi; cases hi
      · exact h'

theorem refsNot_app {r : Nat} : ∀ {l1 l2 : List (Nat × TV)}, refsNot r l1 = true → refsNot r l2 = true → refsNot r (l1 ++ l2) = true
  | [], _, _, h => h
  | x :: l1, l2, h, h' => by
    simp only [refsNot, List.cons_append, Bool.and_eq_true] at h ⊢
    exact ⟨h.1, refsNot_app h.2 h'⟩
theorem refsNot_stF {r : Nat} {L : Nat → Bool} : ∀ {Ws : List St} {j : Nat} {s : St}, refsNot r s.t = true → (∀ W, W ∈ Ws → refsNot r W.t = true) → refsNot r (stF L j s Ws).t = true
  | [], _, _, h, _ => h
  | W :: Ws, j, s, h, hw => by
    simp only [stF]
    split
    · exact refsNot_stF (refsNot_app (hw W (List.mem_cons_self ..)) h) fun W' hm => hw W' (List.mem_cons_of_mem _ hm)
    · exact refsNot_stF h fun W' hm => hw W' (List.mem_cons_of_mem _ hm)
theorem stF_congr {L : Nat → Bool} : ∀ {Ws Ws' : List St} {j : Nat} {s : St}, Ws.length = Ws'.length → (∀ m, L (j + m) = true → Ws[m]? = Ws'[m]?) → stF L j s Ws = stF L j s Ws'
  | [], [], _, _, _, _ => rfl
  | W :: Ws, W' :: Ws', j, s, hl, h => by
    simp only [stF]
    have ih : ∀ s, stF L (j + 1) s Ws = stF L (j + 1) s Ws' := fun s => stF_congr (by simpa using hl) fun m hm => by
      have := h (m + 1) (by rw [show j + (m + 1) = j + 1 + m from by omega]; exact hm)
      simpa using this
    cases hj : L j with
    | true =>
      have := h 0 (by simpa using hj)
      simp at this
      subst this
      exact ih _
    | false => exact ih _
  | [], _ :: _, _, _, hl, _ => by simp at hl
  | _ :: _, [], _, _, hl, _ => by simp at hl

theorem AW_drawV {id : Nat} (J r : Nat) (hm : P.follows .mixedOrders = true) {r1 : List Rule} {oJ : Oper} {RJ : Req} {WJ : Value → St} (r2 : Value → List Rule)
    (h1 : LRAll P B l.toArray (l.take J) r1) (hJo : l[J]? = some oJ)
    (hJ : ∀ s a w, Sat s RJ → refsNot r s.t = true → Rel B s a w → OpK P l.toArray oJ a w fun a' w' => ∃ v, isCell v = true ∧ Rel B (s.upd (WJ v)) a' w')
    (h2 : ∀ v, isCell v = true → LRAll P B l.toArray (l.drop (J + 1)) (r2 v))
    (hok : ∀ v, isCell v = true → okAll 0 (l.zip (r1 ++ (RJ, WJ v) :: r2 v)) = true) (hs : ∀ v, isCell v = true → SatAll s (r1 ++ (RJ, WJ v) :: r2 v))
    (hafter : (l.drop (J + 1)).all (fun o => bindsTo o J) = true)
    (hrf : refsNot r s.t = true) (hrf1 : ∀ v, isCell v = true → ((r1 ++ (RJ, WJ v) :: r2 v).all fun x => refsNot r x.2.t) = true)
    (hq : ∀ v, isCell v = true → Q .normal (updAll s (r1 ++ (RJ, WJ v) :: r2 v))) :
    AW P B (.region id l.toArray true) Q s := by
  intro a w hr
  refine wp_region_any hm ?_
  let rules : Value → List Rule := fun v => r1 ++ (RJ, WJ v) :: r2 v
  have hJl : J < l.length := (List.getElem?_eq_some_iff.1 hJo).1
  have hlen1 : r1.length = J := by have := h1.length; simp at this; omega
  have hlenv : ∀ v, isCell v = true → l.length = (rules v).length := fun v hv => by have := (h2 v hv).length; simp [rules, hlen1] at this ⊢; omega
  have hkn : KN s.b := by obtain ⟨bn, hb⟩ := hr; exact hb.kn
  have hrJ : ∀ v, (rules v)[J]? = some (RJ, WJ v) := fun v => by simp [rules, ← hlen1]
  have hlo : ∀ v v' i, i < J → (rules v)[i]? = (rules v')[i]? := fun v v' i hi => by simp only [rules]; rw [List.getElem?_append_left (by omega), List.getElem?_append_left (by omega)]
  have hLR : ∀ v, isCell v = true → ∀ i o x, i ≠ J → l[i]? = some o → (rules v)[i]? = some x → LRb P B l.toArray o x.1 x.2 := fun v hv i o x hne ho hx => by
    rcases Nat.lt_or_ge i J with h | h
    · refine h1.get (i := i) (by rw [List.getElem?_take, if_pos h]; exact ho) ?_
      simp only [rules] at hx
      rwa [List.getElem?_append_left (by omega)] at hx
    · obtain ⟨q, rfl⟩ : ∃ q, i = J + 1 + q := ⟨i - (J + 1), by omega⟩
      refine (h2 v hv).get (i := q) (by rw [List.getElem?_drop]; exact ho) ?_
      simp only [rules] at hx
      rw [List.getElem?_append_right (by omega), hlen1, show J + 1 + q - J = q + 1 from by omega] at hx
      simpa using hx
  have hst : ∀ v v', isCell v = true → isCell v' = true → ∀ (L : Nat → Bool), Closed l L → L J = false → stF L 0 s ((rules v).map (·.2)) = stF L 0 s ((rules v').map (·.2)) := fun v v' hv hv' L hc hLJ => by
    refine stF_congr (by simp; rw [← hlenv v hv, ← hlenv v' hv']) fun m hLm => ?_
    rw [Nat.zero_add] at hLm
    rcases Nat.lt_trichotomy m J with h | h | h
    · rw [List.getElem?_map, List.getElem?_map, hlo v v' m h]
    · subst h; rw [hLJ] at hLm; cases hLm
    · rcases Nat.lt_or_ge m l.length with hml | hml
      · exfalso
        have hb : bindsTo l[m] J = true := List.all_eq_true.1 hafter _ (List.mem_of_getElem? (i := m - (J + 1)) (by rw [List.getElem?_drop, show J + 1 + (m - (J + 1)) = m from by omega]; exact List.getElem?_eq_getElem hml))
        have := hc m _ J (List.getElem?_eq_getElem hml) hLm hb
        rw [hLJ] at this; cases this
      · rw [List.getElem?_eq_none (by simp; rw [← hlenv v hv]; exact hml), List.getElem?_eq_none (by simp; rw [← hlenv v' hv']; exact hml)]
  have key : ∀ (fuel : Nat) (listed : Array Bool) (a : Act) (w : World), listed.size = l.length → todo listed ≤ fuel → Closed l (fun m => listed.getD m false) → (∃ v, isCell v = true ∧ Rel B (stF (fun m => listed.getD m false) 0 s ((rules v).map (·.2))) a w) →
      wpAny P .any l.toArray (fun e a' w' => ∃ s', Q e s' ∧ Rel B s' a' w') fuel listed a w := by
    -- all is listed: the end
    have fin : ∀ (listed : Array Bool) (a : Act) (w : World), listed.size = l.length → (∀ m, m < l.length → listed.getD m false = true) → (∃ v, isCell v = true ∧ Rel B (stF (fun m => listed.getD m false) 0 s ((rules v).map (·.2))) a w) → ∃ s', Q .normal s' ∧ Rel B s' a w := by
      rintro listed a w _ hall ⟨v, hv, hr⟩
      refine ⟨_, hq v hv, ?_⟩
      rw [stF_all (fun m hm => by rw [Nat.zero_add]; exact hall m (by rw [hlenv v hv]; exact hm))] at hr
      exact hr
    -- nothing is ready: all is listed
    have none : ∀ (listed : Array Bool), listed.size = l.length → Region.ready .any l.toArray listed = [] → ∀ m, m < l.length → listed.getD m false = true := by
      intro listed hsz hre m
      induction m using Nat.strongRecOn with
      | _ m ih =>
        intro hml
        cases hb : listed.getD m false with
        | true => rfl
        | false =>
          exfalso
          have : m ∈ Region.ready .any l.toArray listed := by
            rw [mem_ready]
            refine ⟨?_, l[m], by simp [hml], fun e he hbi => ?_⟩
            · rw [Array.getD_eq_getD_getElem?, Array.getElem?_eq_getElem (by omega)] at hb ⊢; exact hb
            · have hml2 : m < (rules (.slice none 0 0)).length := by rw [← hlenv _ rfl]; exact hml
              have hzm : (l.zip (rules (.slice none 0 0)))[m]? = some (l[m], (rules (.slice none 0 0))[m]'hml2) := by
                rw [List.getElem?_zip_eq_some]; exact ⟨List.getElem?_eq_getElem hml, List.getElem?_eq_getElem hml2⟩
              have hlow := okAll_low (hok _ rfl) hzm
              rw [Nat.zero_add] at hlow
              have := List.all_eq_true.1 hlow e (by simpa using he)
              simp only [hbi, Bool.not_true, Bool.or_false, Nat.blt_eq] at this
              exact ih e.on this (by omega)
          rw [hre] at this
          cases this
    intro fuel
    induction fuel with
    | zero =>
      intro listed a w hsz htd hc hr
      have hre : Region.ready .any l.toArray listed = [] := by
        cases h : Region.ready .any l.toArray listed with
        | nil => rfl
        | cons j _ =>
          have hj : j ∈ Region.ready .any l.toArray listed := by rw [h]; exact List.mem_cons_self ..
          have := todo_set (mem_ready.1 hj).1
          omega
      exact ⟨hre, fin listed a w hsz (none listed hsz hre) hr⟩
    | succ fuel ih =>
      intro listed a w hsz htd hc hr
      refine ⟨fun hre => fin listed a w hsz (none listed hsz hre) hr, fun j hj => ?_⟩
      obtain ⟨hun, o, ho, hall⟩ := mem_ready.1 hj
      have hjl : j < l.length := by simpa using (Array.getElem?_eq_some_iff.1 ho).1
      have ho' : l[j]? = some o := by simpa using ho
      have hjf : listed.getD j false = false := by
        rw [Array.getD_eq_getD_getElem?, Array.getElem?_eq_getElem (by omega)] at hun ⊢; exact hun
      obtain ⟨v, hv, hr⟩ := hr
      have hjr : j < (rules v).length := by rw [← hlenv v hv]; exact hjl
      have hx : (rules v)[j]? = some ((rules v)[j]'hjr) := List.getElem?_eq_getElem hjr
      have hpre : ∀ m, bindsTo o m = true → listed.getD m false = true := fun m hb => by
        obtain ⟨e, he, h2⟩ := List.any_eq_true.1 hb
        simp only [Bool.and_eq_true] at h2
        rw [← beq_true h2.1]
        exact hall e (by simpa using he) h2.2
      have hset : ∀ m, (listed.setIfInBounds j true).getD m false = (listed.getD m false || decide (m = j)) := fun m => by
        by_cases e : m = j
        · subst e; simp [Array.getD_eq_getD_getElem?, show m < listed.size from by omega]
        · simp only [Array.getD_eq_getD_getElem?]
          rw [Array.getElem?_setIfInBounds_ne (fun h => e h.symm)]; simp [e]
      have hsat := draw_sat hkn (hok v hv) (hlenv v hv) (hs v hv) hc hjf ho' hx hpre
      have h1 : OpK P l.toArray o a w fun a' w' => ∃ v, isCell v = true ∧ Rel B (stF (fun m => listed.getD m false || decide (m = j)) 0 s ((rules v).map (·.2))) a' w' := by
        by_cases hjJ : j = J
        · subst hjJ
          rw [hJo] at ho'; cases ho'
          have e := hrJ v
          rw [hx] at e
          have e := Option.some.inj e
          rw [e] at hsat
          have h3 := hJ _ a w hsat (refsNot_stF hrf fun W hW => by
            obtain ⟨y, hy, rfl⟩ := List.mem_map.1 hW
            exact List.all_eq_true.1 (hrf1 v hv) y hy) hr
          have hf : ∀ a' w', (∃ v', isCell v' = true ∧ Rel B ((stF (fun m => listed.getD m false) 0 s ((rules v).map (·.2))).upd (WJ v')) a' w') → ∃ v', isCell v' = true ∧ Rel B (stF (fun m => listed.getD m false || decide (m = j)) 0 s ((rules v').map (·.2))) a' w' := by
            rintro a' w' ⟨v', hv', h'⟩
            rw [hst v v' hv hv' _ hc hjf] at h'
            exact ⟨v', hv', draw_fin (x := (RJ, WJ v')) hkn (hok v' hv') (hlenv v' hv') hc hjf hJo (hrJ v') hpre a' w' h'⟩
          unfold OpK at h3 ⊢
          split
          · rename_i hw; rw [if_pos hw] at h3; exact Oper.wp_mono hf h3
          · rename_i hw; rw [if_neg hw] at h3; exact hf _ _ h3
        · have h3 := hLR v hv j o _ hjJ ho' hx _ a w hsat hr
          have hf : ∀ a' w', Rel B ((stF (fun m => listed.getD m false) 0 s ((rules v).map (·.2))).upd ((rules v)[j]'hjr).2) a' w' → ∃ v', isCell v' = true ∧ Rel B (stF (fun m => listed.getD m false || decide (m = j)) 0 s ((rules v').map (·.2))) a' w' := fun a' w' h' => ⟨v, hv, draw_fin hkn (hok v hv) (hlenv v hv) hc hjf ho' hx hpre a' w' h'⟩
          unfold OpK at h3 ⊢
          split
          · rename_i hw; rw [if_pos hw] at h3; exact Oper.wp_mono hf h3
          · rename_i hw; rw [if_neg hw] at h3; exact hf _ _ h3
      unfold OpK at h1
      unfold wpOp
      simp only [ho]
      have hnext : ∀ a' w', (∃ v, isCell v = true ∧ Rel B (stF (fun m => listed.getD m false || decide (m = j)) 0 s ((rules v).map (·.2))) a' w') → wpAny P .any l.toArray (fun e a' w' => ∃ s', Q e s' ∧ Rel B s' a' w') fuel (listed.setIfInBounds j true) a' w' := by
        intro a' w' hr'
        refine ih (listed.setIfInBounds j true) a' w' (by simpa using hsz) (by have := todo_set hun; omega) ?_ ?_
        · intro i o' m hi hLi hb
          simp only [hset] at hLi ⊢
          by_cases e : i = j
          · subst e
            rw [ho'] at hi; cases hi
            simp [hpre m hb]
          · simp only [e, decide_false, Bool.or_false] at hLi
            simp [hc i o' m hi hLi hb]
        · have : (fun m => (listed.setIfInBounds j true).getD m false) = fun m => listed.getD m false || decide (m = j) := funext hset
          rw [this]; exact hr'
      split
      · rename_i hw; rw [if_pos hw] at h1; exact .inl (Oper.wp_false hnext h1)
      · rename_i hw; rw [if_neg hw] at h1; exact hnext _ _ h1
  refine key l.toArray.size (Array.replicate l.toArray.size false) a _ (by simp) (by simp [todo]) ?_ ?_
  · intro i o j _ h _
    simp only [Array.getD_eq_getD_getElem?, Array.getElem?_replicate] at h
    split at h <;> cases h
  · refine ⟨.slice none 0 0, rfl, ?_⟩
    rw [stF_none (by intro m _; simp [Array.getD_eq_getD_getElem?, Array.getElem?_replicate]; split <;> rfl)]
    obtain ⟨bn, hb⟩ := hr
    exact ⟨bn, hb.drew⟩
end
end Go.Aw
