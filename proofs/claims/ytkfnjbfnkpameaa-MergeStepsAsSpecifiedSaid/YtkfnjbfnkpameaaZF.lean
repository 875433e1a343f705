/- Part 6 of the proof of MergeStepsAsSpecified (several texts in one; no further condition). -/
import Derived.Test.YtkfnjbfnkpameaaZE
set_option linter.unusedSimpArgs false
set_option linter.unusedVariables false
set_option linter.unusedSectionVars false
namespace Go.Proofs.Ytkfnjbfnkpameaa
open _root_.List renaming append_assoc->gj,append_nil->gt,cons_append->gq,drop_succ_cons->kv,drop_zero->gp,length_append->fx,length_cons->gh,length_map->fq,length_nil->je,nil_append->gg
open _root_.Nat renaming eq_of_beq_eq_true->fl,reduceAdd->fw,reduceSub->iz,zero_add->i5
open Go Go.RowKit
theorem yi0:z3o Try.prog LL:=by
  intro gf i h;unfold z4w at h;obtain ⟨_,h⟩:=zee h;unfold itOf at h;rw [zcl] at h;split at h
  . rename_i h1;cases h;rw [fl h1];exact ylq
  . obtain ⟨h1,h⟩:=zee h;cases h;rw [fl h1];exact ygo
end Go.Proofs.Ytkfnjbfnkpameaa
