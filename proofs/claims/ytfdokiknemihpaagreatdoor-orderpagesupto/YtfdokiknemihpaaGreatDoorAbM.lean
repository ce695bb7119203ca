/- All operations that are no calls, together. -/
import Derived.Test.YtfdokiknemihpaaGreatDoorAbW
namespace Go.Ab
variable {P : Program} {R : CodeRel} {Old : Nat → Prop} {w0 w : World} {E : Emb} {h : Heap} {a : Act} {e : Env}

theorem map_some' {α β : Type} {o : Option α} {f : α → β} {b : β} (h : o.map f = some b) : ∃ x, o = some x ∧ b = f x := by
  cases o with
  | none => cases h
  | some x => exact ⟨x, rfl, by simpa using h.symm⟩

def OpK.isCall : OpK → Bool
  | .call _ _ => true
  | .callv _ _ => true
  | _ => false

theorem builtin_sim {b : Builtin} {ats : Array TypeId} {args : Array Operand} {k : OpK} {dst : Option Tmp} {ty : TypeId} {pos : String} {after : Array Edge} {g : Option (Nat × Bool)} {id : Nat} {h' : Heap} {v : AV}
    (hk : cBuiltin P b ats args.toList = some k) (H : HRel R Old w0 E h w) (hE : EnvRel E e a.tmps) (hid : ¬ E.here id) (hnx : id < h.next) (hv : aeval k e h id = some (v, h')) :
    Sim R Old w0 E h' id v ((execOp a.eval (mkO dst (.call ⟨.builtin b, args, ats⟩) ty pos after g)).run P w) := by
  obtain ⟨args⟩ := args
  simp only at hk
  unfold cBuiltin at hk
  split at hk
  · split at hk
    · rename_i ht; obtain ⟨s, hs, rfl⟩ := map_some' hk; exact sim_lenStr H hE hs ht hv
    · rename_i ht; obtain ⟨s, hs, rfl⟩ := map_some' hk; exact sim_lenSl H hE hs ht hv
    · rename_i ht; obtain ⟨s, hs, rfl⟩ := map_some' hk; exact sim_lenMap H hE hs ht hv
    · rename_i ht; cases hk; exact sim_lenK H (.inl ht) hv
    · rename_i ht
      split at hk
      · rename_i harr; cases hk; exact sim_lenK H (.inr ⟨_, ht, harr⟩) hv
      · cases hk
    · cases hk
  · split at hk
    · rename_i ht; obtain ⟨s, hs, rfl⟩ := map_some' hk; exact sim_cap H hE hs ht hv
    · cases hk
  · split at hk
    · rename_i ht
      split at hk
      · rename_i i d s' x' hi hd hs hx
        split at hk
        · rename_i hc
          simp only [Option.bind_eq_some_iff] at ht hd
          obtain ⟨t0, ht0, ht0'⟩ := ht
          obtain ⟨t1, ht1, ht1'⟩ := hd
          split at hk
          · split at hk
            · rename_i z hz
              split at hk
              · rename_i hzc
                cases hk
                exact sim_growZ H hE hid hnx hs hx ht0 ht1 ht0' ht1' hz hi rfl hc.1 hc.2 hzc.1 hzc.2 hv
              · cases hk
            · cases hk
          · rename_i hd'
            cases hk
            exact sim_append H hE hid hnx hs hx ht0 ht1 ht0' ht1' (fun k hk => hd' k hk) hi rfl hc.1 hc.2 hv
        · cases hk
      · cases hk
    · cases hk
  · split at hk
    · rename_i ht
      split at hk
      · rename_i i d' s' hi hd hs
        cases hk
        simp only [Option.bind_eq_some_iff] at ht
        obtain ⟨t0, ht0, ht0'⟩ := ht
        exact sim_copy H hE hd hs ht0 ht0' (by simp [sizeP, hi]) hv
      · cases hk
    · cases hk
  · split at hk
    · rename_i h1 h2; cases hk; exact sim_min H hE h1 h2 hv
    · cases hk
  · split at hk
    · rename_i h1 h2; cases hk; exact sim_max H hE h1 h2 hv
    · cases hk
  · cases hk

/-- The narrower append. -/
def OpK.wide : OpK → OpK
  | .appendX n s x => .append n s x
  | k => k

theorem wide_eval {k : OpK} {e : Env} {h : Heap} {id : Nat} {r : AV × Heap} (hv : aeval k e h id = some r) : aeval k.wide e h id = some r := by
  cases k <;> first | exact hv | skip
  simp only [OpK.wide, aeval, op_appendX, op_append] at hv ⊢
  split at hv
  · exact appendXA_append hv
  · cases hv

theorem op_sim {o : Oper} {k : OpK} {id : Nat} {h' : Heap} {v : AV} (hk : cOp P o = some k) (hnc : k.isCall = false) (H : HRel R Old w0 E h w) (hE : EnvRel E e a.tmps) (hid : ¬ E.here id) (hnx : id < h.next)
    (hv : aeval k e h id = some (v, h')) : Sim R Old w0 E h' id v ((execOp a.eval o).run P w) := by
  obtain ⟨dst, op, ty, pos, after, g⟩ := o
  unfold cOp at hk
  cases op <;> simp only at hk <;> first | (cases hk; done) | skip
  case move x => obtain ⟨s, hs, rfl⟩ := map_some' hk; exact (sim_move H hE hs hv).1
  case assign x => obtain ⟨s, hs, rfl⟩ := map_some' hk; exact (sim_move H hE hs hv).2
  case pick c x y =>
    split at hk
    · rename_i h1 h2 h3; cases hk; exact sim_pick H hE h1 h2 h3 hv
    · cases hk
  case alloc t => obtain ⟨z, hz, rfl⟩ := map_some' hk; exact sim_alloc H hid hnx hz hv
  case box t x => obtain ⟨s, hs, rfl⟩ := map_some' hk; exact sim_box H hE hid hnx hs hv
  case build t parts =>
    split at hk
    · rename_i hz hu
      split at hk
      · rename_i hs; obtain ⟨ps, hp, rfl⟩ := map_some' hk; exact sim_buildStruct H hE hz hu hs hp hv
      · cases hk
    · rename_i hz hu
      split at hk
      · rename_i hn; obtain ⟨ps, hp, rfl⟩ := map_some' hk; exact sim_buildArr H hE hz hu hn hp hv
      · cases hk
    · cases hk
  case buildSlice t len parts =>
    split at hk
    · rename_i hu
      split at hk
      · rename_i hz hn
        split at hk
        · rename_i hc; obtain ⟨ps, hp, rfl⟩ := map_some' hk; exact sim_buildSlice H hE hid hnx hz hu hn hc.1 hc.2 hp hv
        · cases hk
      · cases hk
    · cases hk
  case load t x =>
    split at hk
    · rename_i h1 h2 h3; cases hk; exact sim_loadN H hE h3 h1 h2 hv
    · rename_i h1 h2 h3; cases hk; exact sim_load1 H hE h3 h1 hv
    · cases hk
  case store t x y =>
    split at hk
    · rename_i h1 h2 h3; cases hk; exact sim_store H hE h2 h3 h1 hv
    · cases hk
  case nilCheck x => obtain ⟨s, hs, rfl⟩ := map_some' hk; exact sim_nilCheck H hE hs hv
  case binOp op t x y yt =>
    split at hk
    · rename_i h1 h2
      split at hk
      · obtain ⟨tg, ht, rfl⟩ := map_some' hk; exact sim_eq (neg := false) H hE h1 h2 ht hv
      · obtain ⟨tg, ht, rfl⟩ := map_some' hk; exact sim_eq (neg := true) H hE h1 h2 ht hv
      · cases hk; exact sim_bin H hE h1 h2 hv
    · cases hk
  case unOp op t x => obtain ⟨s, hs, rfl⟩ := map_some' hk; exact sim_un H hE hs hv
  case convert src dt x =>
    split at hk
    · cases hk
    · rename_i s hs
      split at hk
      · rename_i h1 h2; cases hk; exact sim_convInt H hE hs h1 h2 hv
      · rename_i h1 h2
        cases hk
        simp only [aeval] at hv
        unfold op_sliceStr at hv
        split at hv
        · rename_i l hu
          have r1 := src_rel hE hs hu
          generalize hxv : a.eval x = xv at r1
          simp only [bounds, optSrc, natOf] at hv
          cases hv
          have hl : List.take (l.length - 0) (List.drop 0 l) = l := by simp
          rw [hl]
          refine .val H (x := xv) ?_ r1
          cases r1
          simp [execOp, hxv, convert, run_underlying h1, run_underlying h2]
        · cases hv
      · rename_i h1 h2
        split at hk
        · rename_i h3; cases hk; exact sim_strBytes H hE hid hnx hs h1 h2 h3 hv
        · cases hk
      · rename_i h1 h2
        split at hk
        · rename_i h3; cases hk; exact sim_bytesStr H hE hs h1 h2 h3 hv
        · cases hk
      · cases hk
  case makeInterface t x =>
    split at hk
    · cases hk
    · rename_i d hd hu; obtain ⟨s, hs, rfl⟩ := map_some' hk; exact sim_iface H hE hs hu (fun ms hm => hd ms hm) hv
    · cases hk
  case makeFunc fn first cap =>
    cases fn <;> simp only at hk <;> first | (cases hk; done) | skip
    split at hk
    · rename_i h1 h2; cases hk; exact sim_makeFunc H hE h1 h2 hv
    · cases hk
  case makeMap t r =>
    cases r <;> simp only at hk <;> first | (cases hk; done) | skip
    split at hk
    · rename_i hu; cases hk; exact sim_makeMap H hid hnx hv hu
    · cases hk
  case makeSlice t l c =>
    split at hk
    · rename_i hu
      split at hk
      · rename_i hi hz h1 h2
        split at hk
        · rename_i hc; cases hk; exact sim_makeSlice H hE hid hnx hz hu hi rfl hc.1 hc.2 h1 h2 hv
        · cases hk
      · cases hk
    · cases hk
  case slice t x lo hi mx =>
    cases mx <;> simp only at hk <;> first | (cases hk; done) | skip
    split at hk
    · rename_i h1 h2 h3
      split at hk
      · rename_i hu; cases hk; exact sim_sliceStr H hE h1 h2 h3 hu hv
      · rename_i hu; obtain ⟨n, hn, rfl⟩ := map_some' hk; exact sim_sliceSl H hE h1 h2 h3 hu hn hv
      · rename_i hu; obtain ⟨n, hn, rfl⟩ := map_some' hk; exact sim_sliceArr H hE h1 h2 h3 (.inl hu) hn hv
      · rename_i hu
        split at hk
        · rename_i harr; obtain ⟨n, hn, rfl⟩ := map_some' hk; exact sim_sliceArr H hE h1 h2 h3 (.inr ⟨_, hu, harr⟩) hn hv
        · cases hk
      · cases hk
    · cases hk
  case fieldAddr t x f =>
    split at hk
    · rename_i hu
      split at hk
      · rename_i hf
        split at hk
        · rename_i hn hs; cases hk; exact sim_fieldAddr H hE hs hu hf hn hv
        · cases hk
      · cases hk
    · cases hk
  case field t x f =>
    split at hk
    · rename_i hu
      split at hk
      · rename_i hf
        split at hk
        · rename_i hb hn hs; cases hk; exact sim_field H hE hs hu hf hb hn hv
        · cases hk
      · cases hk
    · cases hk
  case indexAddr t x i =>
    split at hk
    · rename_i h1 h2 hu; obtain ⟨n, hn, rfl⟩ := map_some' hk; exact sim_idxSl H hE h1 h2 hu hn hv
    · rename_i h1 h2 hu; obtain ⟨n, hn, rfl⟩ := map_some' hk; exact sim_idxArr H hE h1 h2 hu hn hv
    · cases hk
  case index t x i =>
    split at hk
    · rename_i h1 h2 hu; cases hk; exact sim_indexStr H hE h1 h2 hu hv
    · rename_i h1 h2 hu
      split at hk
      · rename_i hb hn; cases hk; exact sim_index H hE h1 h2 hu hb hn hv
      · cases hk
    · cases hk
  case lookup t m kx ok =>
    split at hk
    · rename_i hu
      split at hk
      · rename_i ht hz h1 h2; cases hk; exact sim_lookup H hE h1 h2 hu ht hz hv
      · cases hk
    · cases hk
  case mapUpdate t m kx x =>
    split at hk
    · rename_i hu
      split at hk
      · rename_i ht h1 h2 h3; cases hk; exact (sim_mapUpdate H hE h1 h2 h3 hu ht hv).1
      · cases hk
    · cases hk
  case insert t m kx x =>
    split at hk
    · rename_i hu
      split at hk
      · rename_i ht h1 h2 h3; cases hk; exact (sim_mapUpdate H hE h1 h2 h3 hu ht hv).2
      · cases hk
    · cases hk
  case range t x =>
    split at hk
    · rename_i hu; obtain ⟨s, hs, rfl⟩ := map_some' hk; exact sim_range H hE hid hnx hs hu hv
    · rename_i hu; obtain ⟨s, hs, rfl⟩ := map_some' hk; exact sim_rangeM H hE hid hnx hs hu hv
    · cases hk
  case next it b =>
    cases b <;> simp only at hk
    · obtain ⟨s, hs, rfl⟩ := map_some' hk; simp [OpK.isCall] at hnc
    · obtain ⟨s, hs, rfl⟩ := map_some' hk; exact sim_next H hE hs hv
  case entry it => obtain ⟨s, hs, rfl⟩ := map_some' hk; exact sim_entry H hE hs hv
  case extract x i => obtain ⟨s, hs, rfl⟩ := map_some' hk; exact sim_extract H hE hs hv
  case call c =>
    obtain ⟨callee, args, ats⟩ := c
    unfold cCall at hk
    cases callee with
    | value f =>
      cases f <;> simp only at hk
      · split at hk
        · cases hk; simp [OpK.isCall] at hnc
        · cases hk
      · split at hk
        · cases hk; simp [OpK.isCall] at hnc
        · cases hk
      · split at hk
        · cases hk; simp [OpK.isCall] at hnc
        · cases hk
      · split at hk
        · rename_i x hx; obtain ⟨ss, hs, rfl⟩ := map_some' hk; exact sim_ext H hE hx hs hv
        · obtain ⟨ss, _, rfl⟩ := map_some' hk; simp [OpK.isCall] at hnc
    | invoke r m => cases hk
    | builtin b => exact builtin_sim hk H hE hid hnx hv

end Go.Ab
