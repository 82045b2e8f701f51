/- The interpreter's append is the model's (own work). -/
import Derived.Test.YtmffnlcmklapmaaMxK
import Derived.Lib.AppendZerosOnto
namespace Go.Proofs.Ytmffnlcmklapmaa.Mx
open Go
set_option autoImplicit false
set_option linter.unusedVariables false
set_option linter.unusedSimpArgs false
variable {P : Program}
section
variable {mt : Nat → Prop} {g : Gh} {H H' : HF} {w : World} {base : Nat} {fp fp' : FP} {v : SV}
theorem Rd.one {ro : Nat → Prop} {hp : HP} : ∀ (e : Ty) (x : e.T) (vs : List Value), Rd ro hp e x vs → ∀ u ∈ vs, u.oneCell' = true
  | .int _, _, _, h, u, hu => by rw [show _ = _ from h] at hu; simp at hu; subst hu; rfl
  | .bool, _, _, h, u, hu => by rw [show _ = _ from h] at hu; simp at hu; subst hu; rfl
  | .str, _, _, h, u, hu => by rw [show _ = _ from h] at hu; simp at hu; subst hu; rfl
  | .row e, l, _, ⟨A, c, h, _⟩, u, hu => by rw [h] at hu; simp at hu; subst hu; rfl
  | .prod a b, x, _, ⟨p, q, h, h1, h2⟩, u, hu => by
    rw [h] at hu
    rcases List.mem_append.1 hu with hu | hu
    · exact Rd.one a x.1 p h1 u hu
    · exact Rd.one b x.2 q h2 u hu
theorem RdL.one {ro : Nat → Prop} {hp : HP} {e : Ty} : ∀ (l : List e.T) (vs : List Value), RdL (Rd ro hp e) l vs → ∀ u ∈ vs, u.oneCell' = true
  | [], vs, h, u, hu => by rw [show vs = [] from h] at hu; cases hu
  | x :: l, _, ⟨p, q, h, h1, h2⟩, u, hu => by
    rw [h] at hu
    rcases List.mem_append.1 hu with hu | hu
    · exact Rd.one e x p h1 u hu
    · exact RdL.one l q h2 u hu
/-- A key's block goes on under a new key. -/
theorem Post.move {w' : World} {n s : Nat} {V : Value} {o o' : Obj} {Q Q' : Pl} (M : Mem mt g H w.heap) (hH : H n = some o) (hQ : g.φ n = some Q) (hi : o.iced = false) (hi' : o'.iced = false) (hb : ∀ b, Q'.blk = some b → Q.blk = some b)
    (hfr : g.φ (base + s) = none) (hs : s < keys) (hk : ∀ c, Q.blk ≠ some c → w'.heap[c]? = w.heap[c]?) (hsz : w'.heap.size = w.heap.size) (h2 : w'.os = w.os) (h3 : w'.tape = w.tape) (h4 : w'.output = w.output)
    (ho : Stab g w.heap (updφ g (base + s) Q') w'.heap → ObjR (updφ g (base + s) Q') w'.heap Q' o') (hv : SVR (updφ g (base + s) Q') w'.heap v V) : Post mt g w base (upd (upd H n none) (base + s) (some o')) v V w' := by
  have hown : ∀ b, Q.blk = some b → mt b ∧ ¬ g.ro b := fun b hb => M.own n o Q b hH hi hQ hb
  have st : Stab g w.heap (updφ g (base + s) Q') w'.heap := ⟨fun _ h => h, fun c hc => hk c fun e => (hown c e).2 hc, updφ_phi hfr⟩
  refine ⟨updφ g (base + s) Q', ⟨h2, h3, h4, by rw [hsz]; exact Nat.le_refl _, fun c hc hor => hk c fun e => hor.elim (fun h => h (hown c e).1) (hown c e).2, fun _ h => h, fun _ h => .inl h, updφ_phi hfr⟩, fun m hm => updφ_ne g Q' (by omega), ?_, hv⟩
  have M1 := M.del n
  -- first the memory's change at n's block, then the new key
  have M2 : Mem mt g (upd H n none) w'.heap := by
    have st0 : Stab g w.heap g w'.heap := ⟨fun _ h => h, st.hp, fun _ _ h => h⟩
    refine ⟨fun m o2 h => ?_, M1.own, M1.ice, M1.sep, fun b h => by rw [hsz]; exact M.ro b h⟩
    have hm : m ≠ n := fun e => by subst e; rw [upd_same] at h; cases h
    have hH2 : H m = some o2 := by rw [upd_ne _ _ hm] at h; exact h
    obtain ⟨R, hR, hO⟩ := M.obj m o2 hH2
    exact ⟨R, hR, hO.stab st0 fun b hRb => hk b fun e => M.sep m n o2 o R Q b hm hH2 hH hR hQ hRb e⟩
  refine M2.put (P := Q') (updφ_same g _ Q') (updφ_phi hfr) rfl hi' (fun b hb' => ?_) (fun _ _ _ => rfl) (Nat.le_refl _) (ho st)
  refine ⟨(hown b (hb b hb')).1, (hown b (hb b hb')).2, fun m o2 R hm h hR hRb => ?_⟩
  have hmn : m ≠ n := fun e => by subst e; rw [upd_same] at h; cases h
  rw [upd_ne _ _ hmn] at h
  exact M.sep m n o2 o R Q b hmn h hH hR hQ hRb (hb b hb')
theorem del_eval {α : Type} {n : Nat} {k : MA α} {a : α} (h : (MA.del n k).eval base H fp = some (a, H', fp')) : ∃ fp2, k.eval base (upd H n none) fp2 = some (a, H', fp') := by
  simp only [MA.eval] at h
  cases ho : H n with
  | none => rw [ho] at h; cases h
  | some o => rw [ho] at h; exact ⟨_, h⟩
theorem base_eval {α : Type} {k : Nat → MA α} {a : α} (h : (MA.base k).eval base H fp = some (a, H', fp')) : (k base).eval base H fp = some (a, H', fp') := h
theorem append_nothing {t ty : Nat} {e : Nat} {i : TypeInfo} (ht : P.underlying t = some (.slice e)) (hi : P.info? e = some i) (B : Option Addr) (n c : Nat) (hn : n ≤ c) (A : Option Addr) (k : Nat) :
    (Builtin.append_ #[t, t] ty #[.slice B n c, .slice A 0 k]).run P w = .ok (.slice B n c) w := by
  have hf : (Builtin.firstCells i.size 0 (.slice A 0 k)).run P w = .ok #[] w := by
    cases A with
    | none => simp [Builtin.firstCells]
    | some a => simp [Builtin.firstCells, loadCells, loadCellsFrom]
  cases B with
  | none => simp [Builtin.append_, run_underlying ht, sizeOf, typeInfo, hi, Builtin.lenOf, hn, hf]
  | some b => simp [Builtin.append_, run_underlying ht, sizeOf, typeInfo, hi, Builtin.lenOf, hn, hf, storeCells]
theorem append_room {t ty e tt : Nat} {i : TypeInfo} (ht : P.underlying t = some (.slice e)) (hi : P.info? e = some i) (b sLen sCap : Nat) (cur : Array Value) (hg : w.heap[b]? = some (.cells cur tt (0, 0)))
    (a : Addr) (m c : Nat) (news : List Value) (hl : news.length = m * i.size) (hnews : ∀ j u, news[j]? = some u → w.cell? (a.add j) = some u) (h1 : ∀ u ∈ news, u.oneCell' = true)
    (hroom : sLen + m ≤ sCap) (hfit : sLen * i.size + news.length ≤ cur.size) :
    (Builtin.append_ #[t, t] ty #[.slice (some ⟨b, 0, none⟩) sLen sCap, .slice (some a) m c]).run P w =
      .ok (.slice (some ⟨b, 0, none⟩) (sLen + m) sCap) (w.setRow b (cur.toList.take (sLen * i.size) ++ news ++ cur.toList.drop (sLen * i.size + news.length)).toArray) := by
  have hf := run_firstCells_some (P := P) w i.size m a m c news hl hnews
  have hst := run_storeCells_at P b (sLen * i.size) tt news 0 cur w hg (by simpa using hfit) h1
  simp only [Nat.add_zero] at hst
  simp [Builtin.append_, run_underlying ht, sizeOf, typeInfo, hi, Builtin.lenOf, hroom, hf, addr_add, hst]
theorem append_does {t e ty : Nat} {i j : TI} {et : Ty} {x y : SV} {X Y : Value} (ht : TIok P t i) (hu : i.und = .slice e) (he : TIok P e j) (hty : j.ty = some et) (M : Mem mt g H w.heap) (hm : ∀ b, w.heap.size ≤ b → mt b) (hf : ∀ n, base ≤ n → n < base + keys → g.φ n = none)
    (hx : SVR g w.heap x X) (hy : SVR g w.heap y Y) (h : (appendM et j.bytes x y).eval base H fp = some (v, H', fp')) : Makes P mt g H' w base v (Builtin.append_ #[t, t] ty #[X, Y]) := by
  obtain ⟨info, d, z, h1, h2, h3, h4, h5, h6, h7⟩ := he.get
  obtain ⟨zv, zs⟩ := ty_of he hty
  have hsz : info.size = et.size := by rw [h2, zs]
  have hzs : z.cells.size = info.size := by
    have := congrArg List.length h5
    rw [List.length_map, he.zlen] at this
    rw [h2]; simpa using this
  have hut := slice_und ht hu
  have hfr := hf (base + 0) (by omega) (by have := keys_pos; omega)
  have lim : ∀ k : Nat, k ≤ limit j.bytes → k * info.bytes ≤ 140737488355328 ∧ k ≤ 140737488355328 := fun k hk => by
    rw [h3]
    have h8 : 140737488355328 / j.bytes * j.bytes ≤ 140737488355328 := Nat.div_mul_le_self _ _
    exact ⟨Nat.le_trans (Nat.mul_le_mul_right _ hk) h8, Nat.le_trans hk (Nat.div_le_self _ _)⟩
  unfold appendM at h
  rw [MA.eval_bind] at h
  cases hmore : (moreM et y).eval base H fp with
  | none => rw [hmore] at h; cases h
  | some p =>
    obtain ⟨more, H1, fp1⟩ := p
    rw [hmore] at h
    simp only at h
    obtain ⟨rfl, A, c, rfl, hA⟩ := more_does M hy hmore
    split at h
    · -- onto a row of the call's own
      rename_i n
      obtain ⟨Q, hQ, rfl⟩ := (hx : VR g w.heap (.own n) X)
      obtain ⟨o, ho, h⟩ := get_eval h
      obtain ⟨Q', hQ', hO⟩ := M.obj n o ho
      rw [hQ] at hQ'
      cases hQ'
      split at h
      · rename_i e' l
        split at h
        · rename_i q
          subst q
          rcases cond_eval h with ⟨hr, h⟩ | ⟨_, h⟩
          · simp only [decide_eq_true_eq] at hr
            obtain ⟨_, h⟩ := del_eval h
            obtain ⟨fp2, hno, hs, h⟩ := new_eval (base_eval h)
            obtain ⟨rfl, rfl⟩ := ret_eval h
            have hO' : ArrR g w.heap Q e' l := hO
            obtain ⟨a1, a2, a3, a4⟩ := hO'
            obtain ⟨lb, l63⟩ := lim _ hr
            by_cases hm0 : more = []
            · -- nothing comes
              subst hm0
              refine ⟨_, w, append_nothing hut h1 Q.base Q.len Q.cap a3 A c, ?_⟩
              refine Post.move (Q' := Q) M ho hQ rfl rfl (fun _ h => h) hfr hs (fun _ _ => rfl) rfl rfl rfl rfl (fun st => ?_) ⟨Q, updφ_same g _ Q, rfl⟩
              have : ObjR (updφ g (base + 0) Q) w.heap Q (.arr e' l) := hO.stab st fun _ _ => rfl
              simpa using this
            · obtain ⟨ba, oa, us, rfl, hcell, hR⟩ := hA hm0
              have hmpos : 0 < more.length := List.length_pos_iff.2 hm0
              have hul := RdL.length more us hR
              have hul' : us.length = more.length * info.size := by rw [hsz]; exact hul
              have hcell' : ∀ q u, us[q]? = some u → w.cell? ((⟨ba, oa, none⟩ : Addr).add q) = some u := fun q u hu => by rw [addr_add]; exact hcell q u hu
              by_cases hroom : Q.len + more.length ≤ Q.cap
              · -- there is room
                cases hb : Q.blk with
                | none => rw [hb] at a4; omega
                | some b =>
                  rw [hb] at a4
                  obtain ⟨a5, vs, tt, olds, rest, a6, a7, a8, a9⟩ := a4
                  have hol := RdL.length l olds a8
                  have hvs : vs.size = vs.toList.length := by simp
                  have hfit : Q.len * info.size + us.length ≤ vs.size := by
                    rw [hul', ← Nat.add_mul]
                    refine Nat.le_trans (Nat.mul_le_mul_right _ hroom) ?_
                    rw [hsz, ← a2]; exact a9
                  have hrun := append_room (P := P) (ty := ty) hut h1 b Q.len Q.cap vs a6 ⟨ba, oa, none⟩ more.length c us hul' hcell' (RdL.one more us hR) hroom hfit
                  rw [a5]
                  let Q' : Pl := ⟨some b, some ⟨b, 0, none⟩, Q.len + more.length, Q.cap, Q.size⟩
                  refine ⟨_, _, hrun, ?_⟩
                  refine Post.move (Q' := Q') M ho hQ rfl rfl (fun c hc => by rw [hb]; exact hc) hfr hs (fun c hc => setRow_other fun e => hc (by rw [hb, e])) (by simp) rfl rfl rfl (fun st => ?_) ⟨Q', updφ_same g _ Q', rfl⟩
                  have hlo : Q.len * info.size = olds.length := by rw [hol, ← a1, hsz]
                  refine ⟨by simp [Q', a1], a2, hroom, rfl, _, tt, olds ++ us, vs.toList.drop (Q.len * info.size + us.length), setRow_heap a6, ?_, RdL.mono (fun x vs => Rd.stab st.ro st.hp e' x vs) _ _ (RdL.append l more olds us a8 hR), ?_⟩
                  · rw [List.toList_toArray, hlo, a7, List.take_left]
                  · show Q.cap * Q.size ≤ _
                    have : (vs.toList.take (Q.len * info.size) ++ us ++ vs.toList.drop (Q.len * info.size + us.length)).toArray.size = vs.size := by
                      simp only [List.size_toArray, List.length_append, List.length_take, List.length_drop]; omega
                    rw [this]; exact a9
              · -- it grows
                have M1 := M.del n
                have hneed : Q.cap < Q.len + more.length := by omega
                have hlb : (Q.len + more.length) * info.bytes ≤ 140737488355328 := by rw [a1]; exact lb
                cases hb : Q.blk with
                | none =>
                  rw [hb] at a4
                  obtain ⟨b1, b2, b3⟩ := a4
                  have hl0 : l = [] := List.length_eq_zero_iff.1 (by omega)
                  subst hl0
                  rw [b1, b2, b3]
                  simp only [List.length_nil, Nat.zero_add] at lb
                  have hrun := run_append_nil (P := P) w t ty e info z hut h1 h4 ⟨ba, oa, none⟩ more.length c us hul' hcell' hmpos (by omega) (by omega)
                  let Q' : Pl := ⟨some w.heap.size, some ⟨w.heap.size, 0, none⟩, more.length, grownCap w more.length 0 e, e'.size⟩
                  have hcap : more.length ≤ grownCap w more.length 0 e := Nat.le_add_right _ _
                  refine ⟨_, _, hrun, ?_⟩
                  have st : Stab g w.heap (updφ g (base + 0) Q') (w.heap.push (.cells (us.toArray ++ Builtin.zeroCells z.cells (grownCap w more.length 0 e - more.length)) e)) := ⟨fun _ h => h, fun b hb => push_old _ _ _ (M.ro b hb), updφ_phi hfr⟩
                  refine Post.new (Q := Q') M1 hm rfl rfl rfl rfl hfr hs rfl rfl ?_ ⟨Q', updφ_same g _ Q', rfl⟩
                  refine ⟨by simp [Q'], rfl, hcap, rfl, _, e, us, (Builtin.zeroCells z.cells (grownCap w more.length 0 e - more.length)).toList, push_new _ _, by simp, RdL.mono (fun x vs => Rd.stab st.ro st.hp e' x vs) _ _ hR, ?_⟩
                  show grownCap w more.length 0 e * e'.size ≤ _
                  rw [Array.size_append, size_zeroCells, hzs, hsz, List.size_toArray, hul, ← Nat.add_mul]
                  exact Nat.mul_le_mul_right _ (by omega)
                | some b =>
                  rw [hb] at a4
                  obtain ⟨a5, vs, tt, olds, rest, a6, a7, a8, a9⟩ := a4
                  have hol := RdL.length l olds a8
                  rw [a5]
                  have hrun := run_append_grow (P := P) w t ty e info z hut h1 h4 ⟨b, 0, none⟩ Q.len Q.cap olds (by rw [hol, ← a1, hsz]) (fun q u hq => by rw [addr_add, cell_blk a6, Nat.zero_add, a7, List.getElem?_append_left (List.getElem?_eq_some_iff.1 hq).1]; exact hq)
                    ⟨ba, oa, none⟩ more.length c us hul' hcell' hneed (by rw [a1]; omega) (growslice_fits hneed hlb)
                  let Q' : Pl := ⟨some w.heap.size, some ⟨w.heap.size, 0, none⟩, Q.len + more.length, grownCap w (Q.len + more.length) Q.cap e, e'.size⟩
                  have hcap : Q.len + more.length ≤ grownCap w (Q.len + more.length) Q.cap e := Nat.le_add_right _ _
                  refine ⟨_, _, hrun, ?_⟩
                  have st : Stab g w.heap (updφ g (base + 0) Q') (w.heap.push (.cells (olds.toArray ++ us.toArray ++ Builtin.zeroCells z.cells (grownCap w (Q.len + more.length) Q.cap e - (Q.len + more.length))) e)) := ⟨fun _ h => h, fun b hb => push_old _ _ _ (M.ro b hb), updφ_phi hfr⟩
                  refine Post.new (Q := Q') M1 hm rfl rfl rfl rfl hfr hs rfl rfl ?_ ⟨Q', updφ_same g _ Q', rfl⟩
                  refine ⟨by simp [Q', a1], rfl, hcap, rfl, _, e, olds ++ us, (Builtin.zeroCells z.cells (grownCap w (Q.len + more.length) Q.cap e - (Q.len + more.length))).toList, push_new _ _, by simp, RdL.mono (fun x vs => Rd.stab st.ro st.hp e' x vs) _ _ (RdL.append l more olds us a8 hR), ?_⟩
                  show grownCap w (Q.len + more.length) Q.cap e * e'.size ≤ _
                  have e1 : olds.length = Q.len * e'.size := by rw [hol, a1]
                  rw [Array.size_append, Array.size_append, size_zeroCells, hzs, hsz, List.size_toArray, List.size_toArray, hul, e1, ← Nat.add_mul, ← Nat.add_mul]
                  exact Nat.mul_le_mul_right _ (by omega)
          · exact (fail_eval h).elim
        · exact (fail_eval h).elim
      · exact (fail_eval h).elim
    · -- onto nothing
      obtain rfl : X = _ := hx
      rcases cond_eval h with ⟨hr, h⟩ | ⟨_, h⟩
      · simp only [decide_eq_true_eq] at hr
        obtain ⟨fp2, hno, hs, h⟩ := new_eval (base_eval h)
        obtain ⟨rfl, rfl⟩ := ret_eval h
        obtain ⟨lb, l63⟩ := lim _ hr
        by_cases hm0 : more = []
        · subst hm0
          let Q : Pl := ⟨none, none, 0, 0, et.size⟩
          refine ⟨_, w, append_nothing hut h1 none 0 0 (Nat.le_refl _) A c, ?_⟩
          exact Post.bare (Q := Q) M rfl rfl rfl rfl hfr hs rfl rfl ⟨rfl, rfl, Nat.le_refl _, rfl, rfl, rfl⟩ ⟨Q, updφ_same g _ Q, rfl⟩
        · obtain ⟨ba, oa, us, rfl, hcell, hR⟩ := hA hm0
          have hmpos : 0 < more.length := List.length_pos_iff.2 hm0
          have hul := RdL.length more us hR
          have hul' : us.length = more.length * info.size := by rw [hsz]; exact hul
          have hcell' : ∀ q u, us[q]? = some u → w.cell? ((⟨ba, oa, none⟩ : Addr).add q) = some u := fun q u hu => by rw [addr_add]; exact hcell q u hu
          have hrun := run_append_nil (P := P) w t ty e info z hut h1 h4 ⟨ba, oa, none⟩ more.length c us hul' hcell' hmpos (by omega) (by omega)
          let Q : Pl := ⟨some w.heap.size, some ⟨w.heap.size, 0, none⟩, more.length, grownCap w more.length 0 e, et.size⟩
          have hcap : more.length ≤ grownCap w more.length 0 e := Nat.le_add_right _ _
          refine ⟨_, _, hrun, ?_⟩
          have st : Stab g w.heap (updφ g (base + 0) Q) (w.heap.push (.cells (us.toArray ++ Builtin.zeroCells z.cells (grownCap w more.length 0 e - more.length)) e)) := ⟨fun _ h => h, fun b hb => push_old _ _ _ (M.ro b hb), updφ_phi hfr⟩
          refine Post.new (Q := Q) M hm rfl rfl rfl rfl hfr hs rfl rfl ?_ ⟨Q, updφ_same g _ Q, rfl⟩
          refine ⟨rfl, rfl, hcap, rfl, _, e, us, (Builtin.zeroCells z.cells (grownCap w more.length 0 e - more.length)).toList, push_new _ _, by simp, RdL.mono (fun x vs => Rd.stab st.ro st.hp et x vs) _ _ hR, ?_⟩
          show grownCap w more.length 0 e * et.size ≤ _
          rw [Array.size_append, size_zeroCells, hzs, hsz, List.size_toArray, hul, ← Nat.add_mul]
          exact Nat.mul_le_mul_right _ (by omega)
      · exact (fail_eval h).elim
    · exact (fail_eval h).elim
theorem cap_does {t ty : Nat} {i : TI} {e : Nat} {x : SV} {X : Value} (ht : TIok P t i) (hu : i.und = .slice e) (hx : SVR g w.heap x X) (h : (capM x).eval base H fp = some (v, H', fp')) : Gives P g H H' w v (Builtin.cap_ #[t] ty #[X]) := by
  unfold capM at h
  split at h
  · obtain rfl : X = _ := hx
    exact gives_ret h (by simp [Builtin.cap_, run_underlying (slice_und ht hu), goInt]) rfl
  · exact (fail_eval h).elim
theorem appendMake_does {t t' e ty : Nat} {i i' j : TI} {et : Ty} {x y : SV} {X Y : Value} (ht : TIok P t i) (hu : i.und = .slice e) (ht' : TIok P t' i') (hu' : i'.und = .int .i64) (he : TIok P e j) (hty : j.ty = some et) (M : Mem mt g H w.heap) (hm : ∀ b, w.heap.size ≤ b → mt b) (hf : ∀ n, base ≤ n → n < base + keys → g.φ n = none)
    (hx : SVR g w.heap x X) (hy : SVR g w.heap y Y) (h : (appendMakeM et j.bytes x y).eval base H fp = some (v, H', fp')) : Makes P mt g H' w base v (Builtin.append_ #[t, t'] ty #[X, Y]) := by
  obtain ⟨info, d, z, h1, h2, h3, h4, h5, h6, h7⟩ := he.get
  obtain ⟨zv, zs⟩ := ty_of he hty
  have hsz : info.size = et.size := by rw [h2, zs]
  have hzs : z.cells.size = info.size := by
    have := congrArg List.length h5
    rw [List.length_map, he.zlen] at this
    rw [h2]; simpa using this
  have hut := slice_und ht hu
  have hfr := hf (base + 0) (by omega) (by have := keys_pos; omega)
  have hint : P.underlying t' = some (.int .i64) := by
    obtain ⟨d, hd, hu2⟩ := und_run ht'
    rw [hu'] at hu2
    cases d <;> first | (cases hu2; done) | (injection hu2 with hu2; subst hu2)
    exact hd
  unfold appendMakeM at h
  split at h
  · rename_i n
    obtain rfl : X = _ := hx
    obtain rfl : Y = _ := hy
    rcases cond_eval h with ⟨hr, h⟩ | ⟨_, h⟩
    · simp only [decide_eq_true_eq] at hr
      obtain ⟨n0, nl⟩ := hr
      obtain ⟨fp2, ho, hs, h⟩ := new_eval (base_eval h)
      obtain ⟨rfl, rfl⟩ := ret_eval h
      have hk : n = (n.toNat : Int) := by omega
      have hlb : n.toNat * info.bytes ≤ 140737488355328 := by
        rw [h3]
        exact Nat.le_trans (Nat.mul_le_mul_right _ (show n.toNat ≤ 140737488355328 / j.bytes by unfold limit at nl; omega)) (Nat.div_mul_le_self _ _)
      have h63 : n.toNat ≤ 140737488355328 := Nat.le_trans (show n.toNat ≤ 140737488355328 / j.bytes by unfold limit at nl; omega) (Nat.div_le_self _ _)
      have hrun := Go.Lib.run_append_grow_zeros (P := P) w t t' ty e info z .i64 .i64 hut hint h1 h4 none 0 0 [] (run_firstCells_none w.drew info.size 0 0 0) n.toNat (by omega) (by rw [hsz]; exact Ty.size_pos et) (by omega) (by omega) (by omega) (growslice_fits (by omega) (by rw [Nat.zero_add]; exact hlb))
      rw [Nat.zero_add, ← hk] at hrun
      let Q : Pl := ⟨some w.heap.size, some ⟨w.heap.size, 0, none⟩, n.toNat, grownCap w n.toNat 0 e, et.size⟩
      have hcap : n.toNat ≤ grownCap w n.toNat 0 e := Nat.le_add_right _ _
      refine ⟨_, _, hrun, ?_⟩
      have st : Stab g w.heap (updφ g (base + 0) Q) (w.heap.push (.cells (([] : List Value).toArray ++ Builtin.zeroCells z.cells n.toNat ++ Builtin.zeroCells z.cells (grownCap w n.toNat 0 e - n.toNat)) e)) := ⟨fun _ h => h, fun b hb => push_old _ _ _ (M.ro b hb), updφ_phi hfr⟩
      have hR : Rd g.ro w.heap et et.dflt z.cells.toList := by rw [h5, ← zv]; exact Rd.dflt _ _ et
      refine Post.new (Q := Q) M hm rfl rfl rfl rfl hfr hs rfl rfl ?_ ⟨Q, updφ_same g _ Q, rfl⟩
      obtain ⟨us, rest, k3, k4⟩ := made_RdL (n := n.toNat) (c := n.toNat) hR (Nat.le_refl _)
      refine ⟨by simp [Q], rfl, hcap, rfl, _, e, us, rest ++ (Builtin.zeroCells z.cells (grownCap w n.toNat 0 e - n.toNat)).toList, push_new _ _, ?_, RdL.mono (fun x vs => Rd.stab st.ro st.hp et x vs) _ _ k4, ?_⟩
      · rw [Array.toList_append, Array.toList_append, ← List.append_assoc, ← k3]
        rfl
      · show grownCap w n.toNat 0 e * et.size ≤ _
        rw [Array.size_append, Array.size_append, size_zeroCells, size_zeroCells, hzs, hsz, List.size_toArray, List.length_nil, Nat.zero_add, ← Nat.add_mul]
        exact Nat.mul_le_mul_right _ (by omega)
    · exact (fail_eval h).elim
  · exact (fail_eval h).elim
theorem cut_does {t e : Nat} {i j : TI} {x : SV} {X : Value} {lo hi : Option SV} {X1 X2 : Option Value} (ht : TIok P t i) (hu : i.und = .slice e) (he : TIok P e j) (M : Mem mt g H w.heap) (hf : ∀ n, base ≤ n → n < base + keys → g.φ n = none) (hx : SVR g w.heap x X)
    (h1 : match lo, X1 with | none, none => True | some y, some Y => SVR g w.heap y Y | _, _ => False) (h2 : match hi, X2 with | none, none => True | some y, some Y => SVR g w.heap y Y | _, _ => False)
    (h : (cutM j.size x lo hi).eval base H fp = some (v, H', fp')) : Makes P mt g H' w base v (Instr.sliceAt t X X1 X2 none) := by
  have b2 : ∀ {a d : Int}, bnd d hi = some a → (X2 = none ∧ a = d) ∨ ∃ k, X2 = some (.int k a) := fun ha => (bnd_spec h2 ha).imp (fun q => ⟨q.2.1, q.2.2⟩) id
  have hfr := hf (base + 0) (by omega) (by have := keys_pos; omega)
  unfold cutM at h
  split at h
  · exact (fail_eval h).elim
  · have hX1 : X1 = none := by
      cases X1 with
      | none => rfl
      | some _ => exact h1.elim
    split at h
    · obtain rfl : X = _ := hx
      split at h
      · rename_i b hb
        rcases cond_eval h with ⟨hr, h'⟩ | ⟨_, h⟩
        · simp only [decide_eq_true_eq] at hr
          subst hr
          obtain ⟨rfl, rfl⟩ := ret_eval h'
          have hrun := slice_run (P := P) (w := w) (A := none) (len := 0) (cap := 0) (X1 := X1) (X2 := X2) (a := 0) (b := 0) ht hu he ⟨Int.le_refl _, Int.le_refl _, Int.le_refl _⟩ (Nat.le_refl _) (.inl ⟨hX1, rfl⟩) (b2 hb)
          exact ⟨_, w, hrun, Post.same M (by show sliced none 0 0 0 j.size = _; simp [sliced])⟩
        · exact (fail_eval h).elim
      · exact (fail_eval h).elim
    · rename_i n
      obtain ⟨Q, hQ, rfl⟩ := (hx : VR g w.heap (.own n) X)
      obtain ⟨o, ho, h⟩ := get_eval h
      obtain ⟨Q', hQ', hO⟩ := M.obj n o ho
      rw [hQ] at hQ'
      cases hQ'
      split at h
      · rename_i q l
        have hO' : ArrR g w.heap Q q l := hO
        obtain ⟨a1, a2, a3, a4⟩ := hO'
        split at h
        · rename_i b hb
          cases hq : Nat.beq q.size j.size with
          | false => rw [hq] at h; exact (fail_eval h).elim
          | true =>
            rw [hq] at h
            rcases cond_eval h with ⟨hr, h⟩ | ⟨_, h⟩
            · simp only [decide_eq_true_eq] at hr
              obtain ⟨_, h⟩ := del_eval h
              obtain ⟨fp2, hno, hs, h⟩ := new_eval (base_eval h)
              obtain ⟨rfl, rfl⟩ := ret_eval h
              have hrun := slice_run (P := P) (w := w) (A := Q.base) (len := Q.len) (cap := Q.cap) (X1 := X1) (X2 := X2) (a := 0) (b := b) ht hu he ⟨Int.le_refl _, hr.1, by omega⟩ a3 (.inl ⟨hX1, rfl⟩) ((b2 hb).imp (fun z => ⟨z.1, by rw [z.2, a1]⟩) id)
              have hbl : b.toNat ≤ Q.len := by omega
              let Q' : Pl := ⟨Q.blk, Q.base, b.toNat, Q.cap, Q.size⟩
              have hsl : sliced Q.base (0 : Int).toNat b.toNat Q.cap j.size = .slice Q.base b.toNat Q.cap := by
                show Value.slice (if Q.cap = 0 then Q.base else Q.base.map (·.add (0 * j.size))) (b.toNat - 0) (Q.cap - 0) = _
                have : Q.base.map (·.add (0 * j.size)) = Q.base := by
                  cases hB : Q.blk with
                  | none => rw [hB] at a4; rw [a4.2.2]; rfl
                  | some bk => rw [hB] at a4; rw [a4.1]; simp [addr_add]
                rw [this]
                simp
              rw [hsl] at hrun
              refine ⟨_, w, hrun, ?_⟩
              refine Post.move (Q' := Q') M ho hQ rfl rfl (fun _ h => h) hfr hs (fun _ _ => rfl) rfl rfl rfl rfl (fun st => ?_) ⟨Q', updφ_same g _ Q', rfl⟩
              refine ⟨by show b.toNat = _; rw [List.length_take]; omega, a2, Nat.le_trans hbl a3, ?_⟩
              show (match Q.blk with | none => _ | some bk => _)
              cases hB : Q.blk with
              | none => rw [hB] at a4; obtain ⟨c1, c2, c3⟩ := a4; exact ⟨by show b.toNat = 0; omega, c2, c3⟩
              | some bk =>
                rw [hB] at a4
                obtain ⟨a5, vs, tt, us, rest, a6, a7, a8, a9⟩ := a4
                have := RdL.take_drop l us 0 b.toNat a8 (by omega)
                simp only [List.drop_zero, Nat.zero_mul] at this
                refine ⟨a5, vs, tt, us.take (b.toNat * q.size), us.drop (b.toNat * q.size) ++ rest, a6, by rw [← List.append_assoc, List.take_append_drop, a7], RdL.mono (fun x vs => Rd.stab st.ro st.hp q x vs) _ _ this, a9⟩
            · exact (fail_eval h).elim
        · exact (fail_eval h).elim
      · exact (fail_eval h).elim
    · exact (fail_eval h).elim
end
end Go.Proofs.Ytmffnlcmklapmaa.Mx
