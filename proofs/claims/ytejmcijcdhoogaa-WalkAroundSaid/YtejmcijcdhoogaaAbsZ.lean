import Derived.Test.YtejmcijcdhoogaaAbsL
import Derived.Test.YtejmcijcdhoogaaAbsR
/- The rules by which the code is run, as one set for simp. -/
namespace Go.Proofs.Ytejmcijcdhoogaa.Abs
open Go
/-- side goals of arithmetic -/
theorem ars :
    (∀ {L : List (Nat × LObj)} {sz n : Nat} {i : Int} {nl : Bool} {cs : List AV}, 0 ≤ i → i < n → iaq L sz i (.v (.vec nl cs n)) = some (.v (.box cs (i.toNat * sz)))) ∧
    (∀ {sz d n e sz' : Nat} {i : Int} {nl : Bool} {cs : List AV}, 0 ≤ i → i < n → iao sz i d (some (.arr nl cs n e sz')) = some (.loc d (i.toNat * sz))) ∧
    (∀ {L : List (Nat × LObj)} {sz n b o cap : Nat} {i : Int}, 0 ≤ i → i < n → iaq L sz i (.v (.raw (.slice (some ⟨b, o, none⟩) n cap))) = some (.v (.raw (.pointer (some ⟨b, o + i.toNat * sz, none⟩))))) ∧
    (∀ {β : Type} [Inhabited β] {l : List β} {f : β → AV} {n : Nat} {i : Int}, 0 ≤ i → i < l.length → rdV (l.map f) (i.toNat * 1) n false = some (f (gi l i))) ∧
    (∀ {x : Int}, -9223372036854775808 ≤ x → x ≤ 9223372036854775807 → IntKind.i64.wrap x = x) ∧
    (∀ {k : IntKind} {a b : Int}, b ≠ 0 → binq .quo (.v (.raw (.int k a))) (.v (.raw (.int k b))) = some (.v (.raw (.int k (k.wrap (a.tdiv b)))))) ∧
    (∀ {k : IntKind} {a b : Int}, b ≠ 0 → binq .rem (.v (.raw (.int k a))) (.v (.raw (.int k b))) = some (.v (.raw (.int k (a.tmod b))))) ∧
    (∀ {k : IntKind} {a b : Int} {k' : IntKind}, 0 ≤ b → binq .shl (.v (.raw (.int k a))) (.v (.raw (.int k' b))) = some (.v (.raw (.int k (ishl k a b))))) ∧
    (∀ {k : IntKind} {a b : Int} {k' : IntKind}, 0 ≤ b → binq .shr (.v (.raw (.int k a))) (.v (.raw (.int k' b))) = some (.v (.raw (.int k (ishr k a b))))) ∧
    (∀ {a b : Int}, 0 ≤ a → a.tdiv b = a / b) ∧ (∀ {a b : Int}, 0 ≤ a → a.tmod b = a % b) :=
  ⟨fun h1 h2 => iaq_vec h1 h2, fun h1 h2 => iao_arr h1 h2, fun h1 h2 => iaq_raw h1 h2, fun h1 h2 => rd_map h1 h2, fun h1 h2 => wrap_id h1 h2, fun h => binq_quo h, fun h => binq_rem h, fun h => binq_shl h, fun h => binq_shr h, fun h => tdiv_pos h, fun h => tmod_pos h⟩
attribute [go_sem] ex_nil ex_seq ex_skip ex_block ex_blk ex_reg ex_draw ex_ops ex_qops ex_exit ex_ret ex_label ex_goto ex_scope ex_scp gotoK SCode.hasL
  ex_cond ex_loop ex_lp exitK exIf_true exIf_false exV_some exS_some ex_gd ex_gq exGd_tt exGd_ff
  exGd_tf exGd_ft exGd_u exGq_u exGq_tt exGq_ff exGq_tf exGq_ft ex_mv ex_pick ex_nilc ex_load
  ex_bin ex_beq ex_eqs ex_isnil ex_un ex_cnv ex_b2s ex_fld ex_prt ex_ia ex_ixs ex_ixa ex_ext
  ex_len ex_mnx exF ex_build ex_mkfn ex_slcs ex_slc exBsl ex_bsl exAl ex_alloc exBox
  ex_box exSt ex_store ex_mksl exAp ex_app exCall ex_call exCal exCald ex_cald exq_mv
  exq_pick exq_nilc exq_load exq_bin exq_beq exq_eqs eqCells scalEq exq_isnil exq_un exq_cnv exq_b2s exq_fld
  exq_prt exq_ia exq_ixs exq_ixa exq_ext exq_len exq_mnx exq_build exq_mkfn exq_slc exq_bsl exq_app
  exq_call exCalq exq_cald exq_store qop oval cAV rdA rdV_t rdV_f binq_add binq_sub
  binq_mul binq_and binq_or binq_xor binq_eql binq_neq binq_lss binq_leq binq_gtr binq_geq binq_seql binq_sneq
  not_dec Decidable.not_not iv bv unq fldq lenq isnilq mnxq slsq slcq ointq
  allAV partsq fillA catA bslq acells aone frzAll frz1 frzE S.frz S.put
  S.drop S.keep S.enter S.thaws S.thaw S.newc S.arr keepE keepL clr SV.key Abs.put
  Abs.get Abs.del envOf storeq setA nilappq fnOf toAV Value.oneCell' Option.some.injEq if_true if_false
  ite_true ite_false Option.map_some Option.map_none Option.getD_some Option.getD_none List.map_cons List.map_nil List.all_cons List.all_nil List.take_succ_cons List.take_zero
  List.drop_zero List.drop_succ_cons Nat.zero_add List.append_nil List.nil_append List.cons_append List.set_cons_zero List.set_cons_succ List.length_cons List.length_nil Bool.and_true Bool.true_and
  Bool.and_self true_and and_true and_self List.flatMap_cons List.flatMap_nil SRes.opnds retq retK resAll resOne tupOf
  List.getElem?_cons_zero List.getElem?_cons_succ Bool.false_eq_true Bool.true_eq_false Bool.not_true Bool.not_false Bool.not_not eq_self decide_true decide_false not_true_eq_false not_false_eq_true
  Int.natCast_one Int.natCast_zero Int.cast_ofNat_Int beq_self_eq_true iaq_ownE List.length_map List.length_set ex_halloc exHal ex_hbox exHbox ex_hmksl
  ex_hbsl ex_obsl exObsl exObl exHbsl exHbl hblq ex_happ exHapp hpre_nil exq_hload exq_halloc exq_lload exq_hbsl lldq exq_hbox exq_happ hldq
  exq_rload exq_lstore hrdq isLocV ex_lk exq_lk lkq keyq intsq ex_hmkmap exHmkm ex_hmset exMset msetK exq_hmkmap ex_cap exq_cap capq ex_happz exq_hmksl exq_hmset
  exB_tt exB_ff exIf_B exGd_Bt exGd_Bf exGq_Bt exGq_Bf ex_fz S.fzs S.fz1 fzL S.newh S.newhd delH upd_self S.up S.upH ups
end Go.Proofs.Ytejmcijcdhoogaa.Abs
