/- What the law ConvGather of layer 17 comes to, part 19. Conditions: none. -/
import Derived.Test.YthebfdakjfnpeaaGreatZfar
section

end
