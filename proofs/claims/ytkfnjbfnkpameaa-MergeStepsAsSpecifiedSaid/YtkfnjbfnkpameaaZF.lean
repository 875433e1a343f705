/- Part 6 of the proof of MergeStepsAsSpecified (several texts in one; no further condition). -/
import Derived.Test.YtkfnjbfnkpameaaZE
set_option linter.unusedSimpArgs false
set_option linter.unusedVariables false
set_option linter.unusedSectionVars false
namespace Go.Proofs.Ytkfnjbfnkpameaa
open _root_.List renaming append_assoc->gq,append_nil->h9,cons_append->gw,drop_succ_cons->k9,drop_zero->gu,length_append->f5,length_cons->gm,length_map->ft,length_nil->ji,nil_append->gl
open _root_.Nat renaming eq_of_beq_eq_true->fl,reduceAdd->fx,reduceSub->i7,zero_add->i8
open Go Go.RowKit
theorem yks:z41 Try.prog LL:=by
  intro gf i h;unfold z6a at h;obtain ⟨_,h⟩:=zdw h;unfold itOf at h;rw [zb7] at h;split at h
  . rename_i h1;cases h;rw [fl h1];exact ynl
  . obtain ⟨h1,h⟩:=zdw h;cases h;rw [fl h1];exact yic
end Go.Proofs.Ytkfnjbfnkpameaa
