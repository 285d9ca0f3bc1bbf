/- Functions without a body: what bytealg's answer. -/
import Derived.Test.YtffgchcidkapjaaDoorAm16
set_option linter.unusedVariables false
set_option linter.unusedSimpArgs false
namespace Go.GAM

section
variable {P : Program}

/-- A body-less function that only answers. -/
theorem ext_run {f : FuncId} {fn : Func} {ex : Array Value → Sem Value} (hf : P.funcs[f]? = some fn) (hn : (fn.name == "runtime.NumGoroutine") = false) (hb : fn.body.isNone = true)
    (h1 : Extern.findNext fn = none) (h2 : Extern.find fn = some ex) {args : Array Value} {v : Value} {w : World} (he : (ex args).run P w = .ok v w) : (callFunc f args).run P w = .ok (.value v) w := by
  have hn' : fn.name ≠ "runtime.NumGoroutine" := by simpa using hn
  have hb' : fn.body = none := by simpa using hb
  have hm : ∀ (m : Mark) (k : Sem Unit) (w : World), Sem.run P (Sem.mark m k) w = Sem.run P k w := fun _ _ _ => rfl
  unfold callFunc
  simp [go_sem, hf, hn', hb', h1, h2, mark, hm, he]

end
end Go.GAM
